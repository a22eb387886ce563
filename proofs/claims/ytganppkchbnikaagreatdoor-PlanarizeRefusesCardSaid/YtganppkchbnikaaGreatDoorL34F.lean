/-
 The lists of edges at the vertices; the blocks of a digraph without loops.
-/
import Derived.Test.YtganppkchbnikaaGreatDoorL34E
open Option.some renaming injEq->aw
open Option renaming bind_some->dg
open List renaming replicate->A5,mem_singleton->B4,length_cons->B6,getElem?_set_ne->Js,getElem?_set_self->Jx,length_nil->JB
open Nat renaming le_refl->B2
open Prod.mk renaming injEq->B3
open Int renaming toNat_natCast->J9
set_option linter.unusedVariables false
set_option linter.unusedSimpArgs false
namespace Go.Vm
set_option maxRecDepth 100000
attribute [local irreducible] aa
structure Dg (N:Nat)(E:List (Int×Int×Unit)):Prop where
 n:N<=64
 m:E.length<=256
 arc:∀ k,k<E.length->∃ a b:Nat,a<N/\b<N/\a≠b/\E[k]?=some ((a:Int),(b:Int),())
section
variable {N:Nat}{E:List (Int×Int×Unit)}
theorem Jn.arc{k a b u w:Nat}(he:E[k]?=some ((a:Int),(b:Int),()))(h:Jn E (k:Int) u w):(u=a/\w=b)\/(u=b/\w=a):=by
 rcases h.2 with h|h<;>rw[J9,he]at h<;>simp only[aw,B3,and_true]at h<;>omega
theorem Jn.mk{k a b:Nat}(he:E[k]?=some ((a:Int),(b:Int),())):Jn E (k:Int) a b:=⟨by omega,.inl (by rw[J9];exact he)⟩
structure AtI (N:Nat)(E:List (Int×Int×Unit))(i:Nat)(A:List (List Int)):Prop where
 len:A.length=N
 at':∀ v,v<N->∃ l,A[v]?=some l/\l.length<=i/\l.Nodup/\∀ e,e∈l↔e<i/\∃ w,Jn E e v w
def stB(E:List (Int×Int×Unit))(z:List Int)(A:List (List Int))(i:Nat):Int×List (Int×Int×Unit)×List Int×List Int×List (List Int)×List (List Int)×List (Int×Int×Unit)×Int×Int×Unit:=
 (0,E,z,z,[],A,E,((E.length:Nat):Int),((i:Nat):Int),())
theorem AtI.step(D:Dg N E){i:Nat}{A:List (List Int)}{z:List Int}(hi:i<E.length)(h:AtI N E i A):∃ A',ol (stB E z A i)=some (.inl (stB E z A' (i+1)))/\AtI N E (i+1) A':=by
 obtain⟨a,b,ha,hb,hab,he⟩:=D.arc i hi;have hm:=D.m;obtain⟨la,a1,a2,a3,a4⟩:=h.at' a ha;obtain⟨lb,b1,b2,b3,b4⟩:=h.at' b hb;refine⟨(A.set a (la++[(i:Int)])).set b (lb++[(i:Int)]),?_,?_⟩
 ·have hla:a<A.length:=by rw[h.len];exact ha
  have hlb:b<(A.set a (la++[(i:Int)])).length:=by rw[List.length_set,h.len];exact hb
  have sa:aJ A a=la:=by simp[aJ,a1]
  have sb:aJ (A.set a (la++[(i:Int)])) b=lb:=by simp[aJ,Js hab,b1]
  unfold ol stB;simp only[aC (show(i:Int)<(E.length:Nat) by omega),UA,UB,ax,he,dg,bN (show(a:Int)≠(b:Int) by omega),ae hla,sa,bx (show la.length+[(i:Int)].length<=68719476736 by simp only[B6,JB];omega),if_true,ae hlb,sb,
   bx (show lb.length+[(i:Int)].length<=68719476736 by simp only[B6,JB];omega),bv (show i<9223372036854775807 by omega)]
 have grow:∀ v l,l.length<=i->l.Nodup->(∀ e,e∈l↔e<(i:Int)/\∃ w,Jn E e v w)->(v=a\/v=b)->(l++[(i:Int)]).length<=i+1/\(l++[(i:Int)]).Nodup/\∀ e,e∈l++[(i:Int)]↔e<((i+1:Nat):Int)/\∃ w,Jn E e v w:=by
  intro v l h1 h2 h3 hv;have hj:∃ w,Jn E (i:Int) v w:=by
   rcases hv with rfl|rfl
   ·exact⟨b,Jn.mk he⟩
   exact⟨a,(Jn.mk he).symm⟩
  refine⟨by simp only[List.length_append,B6,JB];omega,?_,λe=>?_⟩
  ·rw[List.nodup_append];refine⟨h2,by simp,λx hx y hy hxy=>?_⟩;have:=((h3 x).1 hx).1;have:=B4.1 hy;omega
  rw[List.mem_append,B4,h3];constructor
  ·rintro(⟨q1,q2⟩|rfl)
   ·exact⟨by omega,q2⟩
   exact⟨by omega,hj⟩
  rintro⟨q1,q2⟩;by_cases hei:e=i
  ·exact .inr hei
  exact .inl ⟨by omega,q2⟩
 refine⟨by simp[h.len],λv hv=>?_⟩;by_cases hvb:v=b
 ·subst hvb;exact⟨_,Jx (by simp[h.len];exact hv),grow v lb b2 b3 b4 (.inr rfl)⟩
 rw[Js (Ne.symm hvb)];by_cases hva:v=a
 ·subst hva;exact⟨_,Jx (by rw[h.len];exact hv),grow v la a2 a3 a4 (.inl rfl)⟩
 rw[Js (Ne.symm hva)];obtain⟨l,q1,q2,q3,q4⟩:=h.at' v hv;refine⟨l,q1,by omega,q3,λe=>?_⟩;rw[q4];constructor
 ·rintro⟨p1,p2⟩;exact⟨by omega,p2⟩
 rintro⟨p1,w,p2⟩;refine⟨?_,w,p2⟩;by_cases hei:e=i
 ·subst hei;rcases Jn.arc he p2 with⟨r,_⟩|⟨r,_⟩
  ·exact absurd r hva
  exact absurd r hvb
 omega
theorem uz(D:Dg N E):∃ A,Zcj (((N:Int),E,()),())=some (((E,A,()),A5 N 0,A5 N 0,0,[],[],()),())/\Gph N E A:=by
 have hn:=D.n;have hm:=D.m;obtain⟨r,hr,A,rfl,hA⟩:=aI (f:=ol) (λs=>∃ i A,i<=E.length/\s=stB E (A5 N 0) A i/\AtI N E i A) (λs=>(s.2.2.2.2.2.2.2.1-s.2.2.2.2.2.2.2.2.1).toNat)
  (λr=>∃ A,r=.inl (0,E,A5 N 0,A5 N 0,[],A,())/\AtI N E E.length A)
  (by
   rintro s ⟨i,A,hi,rfl,h⟩;by_cases hil:i<E.length
   ·obtain⟨A',h1,h2⟩:=h.step (z:=A5 N 0) D hil;refine .inl ⟨_,h1,⟨i+1,A',by omega,rfl,h2⟩,?_⟩;show(((E.length:Nat):Int)-((i+1:Nat):Int)).toNat<(((E.length:Nat):Int)-((i:Nat):Int)).toNat;omega
   have:i=E.length:=by omega
   subst this;refine .inr ⟨_,?_,A,rfl,h⟩;unfold ol stB;simp only[bi (Int.le_refl _),UB]) _ ⟨0,A5 N [],Nat.zero_le _,rfl,by simp,λv hv=>⟨[],by simp[hv],by simp,by simp,λe=>⟨(λh=>by cases h),(λ⟨h1,w,h2⟩=>by have:=h2.1;omega)⟩⟩⟩
 refine⟨A,?_,⟨by omega,by omega,D.arc,hA.len,λv hv=>?_⟩⟩
 ·unfold Zcj wk;simp only[cy (e:=.slice I) (B2 N) (show N<=68719476736 by omega),cy (e:=I) (B2 N) (show N<=68719476736 by omega),dg];exact(congrArg (λo=>Option.bind o _) hr).trans rfl
 obtain⟨l,h1,_,h3,h4⟩:=hA.at' v hv;refine⟨l,h1,h3,λe=>?_⟩;rw[h4];exact⟨λh=>h.2,λ⟨w,hw⟩=>⟨hw.lt.2,w,hw⟩⟩
end
end Go.Vm

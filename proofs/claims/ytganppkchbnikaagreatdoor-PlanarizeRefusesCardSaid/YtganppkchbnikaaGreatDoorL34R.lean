/-
 A block is laid out; its faces are followed.
-/
import Derived.Test.YtganppkchbnikaaGreatDoorL34Q
open Option renaming bind_some->dg,bind->Jo,getD_some->Lb
open List renaming mem_append->A4,replicate->A5,mem_singleton->B4,getElem?_set_ne->Js,getElem?_set_self->Jx,length_set->Ka,getElem?_replicate->KQ
open Nat renaming le_refl->B2
open Int renaming le_refl->JO
set_option linter.unusedVariables false
set_option linter.unusedSimpArgs false
namespace Go.Vm
set_option maxRecDepth 100000
attribute [local irreducible] aa
section
variable {N:Nat}{E:List (Int×Int×Unit)}
theorem Blo.size(D:Dg N E){B:List Int}(hB:Blo E B):B.length<=256:=by
 have:=gx E.length hB.nod λe he=>by obtain⟨u,w,h⟩:=hB.edge e he;have:=h.lt;omega
 have:=D.m;omega
theorem Fg(A:List (List Int))(C:List Int)(inn:List Bool)(hN:N<=64):∃ dr,u7 ((N:Int),E,(N:Int),A,inn,A5 N [],C,(N:Int),0,())=some (.inl ((N:Int),E,(N:Int),A,inn,dr,C,()))/\Mat N dr/\∀ x y,¬Dr dr x y:=by
 obtain⟨r,hr,f,rfl,q1,q2⟩:=aI (f:=qw)
  (λs=>∃(n:Nat) (f:List (List Bool)),n<=N/\s=((N:Int),E,(N:Int),A,inn,f,C,(N:Int),(n:Int),())/\f.length=N/\∀ j,j<n->f[j]?=some (A5 N false)) (λs=>(s.2.2.2.2.2.2.2.1-s.2.2.2.2.2.2.2.2.1).toNat)
  (λr=>∃ f:List (List Bool),r=.inl ((N:Int),E,(N:Int),A,inn,f,C,())/\f.length=N/\∀ j,j<N->f[j]?=some (A5 N false))
  (by
   rintro s ⟨n,f,hn,rfl,h1,h2⟩;by_cases hlt:n<N
   ·refine .inl ⟨((N:Int),E,(N:Int),A,inn,f.set n (A5 N false),C,(N:Int),((n+1:Nat):Int),()),?_,⟨n+1,_,by omega,rfl,by simp[h1],λj hj=>?_⟩,?_⟩
    ·have hmk:bG .bool (N:Int) (N:Int)=some (A5 N false):=cy (e:=.bool) (B2 N) (by omega);unfold qw;simp only[aC (show(n:Int)<(N:Int) by omega),UA,hmk,dg,ae (show n<f.length by omega),bv (show n<9223372036854775807 by omega)]
    ·by_cases hjn:j=n
     ·subst hjn;rw[Jx (by omega)]
     rw[Js (Ne.symm hjn)];exact h2 j (by omega)
    show((N:Int)-((n+1:Nat):Int)).toNat<((N:Int)-((n:Nat):Int)).toNat;omega
   have:n=N:=by omega
   subst this;refine .inr ⟨_,?_,f,rfl,h1,h2⟩;unfold qw;simp only[bi (JO _),UB])
  ((N:Int),E,(N:Int),A,inn,A5 N [],C,(N:Int),((0:Nat):Int),())
  ⟨0,_,by omega,rfl,by simp,λj hj=>absurd hj (Nat.not_lt_zero _)⟩
 refine⟨f,hr,⟨q1,λx hx=>?_⟩,λx y hD=>?_⟩
 ·unfold aJ;rw[q2 x hx];simp
 unfold Dr aJ at hD;by_cases hx:x<N
 ·rw[q2 x hx]at hD;simp only[Lb]at hD;rw[KQ]at hD;split at hD<;>simp at hD
 have hn:f[x]?=none:=List.getElem?_eq_none (by omega);rw[hn]at hD;simp at hD
theorem uP (D:Dg N E){B:List Int}(hB:Blo E B) :
  ∃ near nb dr,Zbc (((N:Int),E,()),B,())=some (cG N near [] (A5 N false) dr,())/\Nr N near nb/\near.length=N/\(∀ x y,y∈nb x↔∃ e∈B,Jn E e x y)/\Mat N dr/\∀ x y,¬Dr dr x y:=by
 have hN:=D.n;have hBl:=hB.size D;obtain⟨dr,d1,d2,d3⟩:=Fg (N:=N) (E:=E) (A5 N []) B (A5 N false) hN;obtain⟨r,hr,near,g,rfl,q1,q2,q3,q4⟩:=aI (f:=qr)
  (λs=>∃(n:Nat) (near:List (List Int)) (g:Nat->List Nat),n<=B.length/\s=((N:Int),E,(N:Int),near,A5 N false,dr,B,((B.length:Nat):Int),(n:Int),())/\near.length=N/\(∀ x,x<N->near[x]?=some (nl (g x)))/\(∀ x,(g x).length<=n)/\∀ x y,y∈g x↔∃ e∈B.take n,Jn E e x y) (λs=>(s.2.2.2.2.2.2.2.1-s.2.2.2.2.2.2.2.2.1).toNat)
  (λr=>∃(near:List (List Int)) (g:Nat->List Nat),r=.inl ((N:Int),near,A5 N false,dr,())/\near.length=N/\(∀ x,x<N->near[x]?=some (nl (g x)))/\(∀ x,(g x).length<=B.length)/\∀ x y,y∈g x↔∃ e∈B,Jn E e x y)
  (by
   rintro s ⟨n,near,g,hn,rfl,h1,h2,h3,h4⟩;by_cases hlt:n<B.length
   ·have hy:B[n]?=some B[n]:=List.getElem?_eq_getElem hlt;have hym:B[n]∈B:=List.getElem_mem hlt;generalize B[n]=e at hy hym;obtain⟨u,w,hJ⟩:=hB.edge e hym;obtain⟨k,rfl⟩:∃ k:Nat,e=(k:Int):=⟨e.toNat,by have:=hJ.lt;omega⟩;obtain⟨a,b,ha,hb,hab,hE⟩:=D.arc k (by have:=hJ.lt;omega);have e1:app (aJ near a) [(b:Int)]=some (nl (g a++[b])):=by unfold aJ;rw[h2 a ha,Lb,bx (by rw[aQ];have:=h3 a;simp;omega),gj];rfl
    have e2:aJ (near.set a (nl (g a++[b]))) b=nl (g b):=by unfold aJ;rw[Js hab,h2 b hb,Lb]
    have e3:app (nl (g b)) [(a:Int)]=some (nl (g b++[a])):=by rw[bx (by rw[aQ];have:=h3 b;simp;omega),gj];rfl
    refine .inl ⟨((N:Int),E,(N:Int),(near.set a (nl (g a++[b]))).set b (nl (g b++[a])),A5 N false,dr,B,((B.length:Nat):Int),((n+1:Nat):Int),()),?_,⟨n+1,_,λx=>if x=a then g a++[b]else if x=b then g b++[a]else g x,by omega,rfl,by simp[h1],λx hx=>?_,λx=>?_,λx y=>?_⟩,?_⟩
    ·unfold qr;simp only[aC (show(n:Int)<(B.length:Nat) by omega),UA,ax,hy,dg,hE,ae (show a<near.length by omega),e1,if_true,ae (show b<(near.set a (nl (g a++[b]))).length by rw[Ka];omega),e2,e3,bv (show n<9223372036854775807 by omega)]
    ·dsimp only;by_cases hxb:x=b
     ·subst hxb;rw[Jx (by rw[Ka];omega),if_neg (Ne.symm hab),if_pos rfl]
     rw[Js (Ne.symm hxb)];by_cases hxa:x=a
     ·subst hxa;rw[Jx (by omega),if_pos rfl]
     rw[Js (Ne.symm hxa),if_neg hxa,if_neg hxb];exact h2 x hx
    ·dsimp only;have:=h3 x;have:=h3 a;have:=h3 b;split
     ·simp;omega
     split
     ·simp;omega
     omega
    ·have htk:(∃ e∈B.take (n+1),Jn E e x y)↔(∃ e∈B.take n,Jn E e x y)\/Jn E (k:Int) x y:=by
      rw[List.take_add_one,hy];constructor
      ·rintro⟨e,he,hj⟩;rcases A4.1 he with he|he
       ·exact .inl ⟨e,he,hj⟩
       simp only[Option.toList_some,B4]at he;subst he;exact .inr hj
      rintro(⟨e,he,hj⟩|hj)
      ·exact⟨e,List.mem_append_left _ he,hj⟩
      exact⟨_,List.mem_append_right _ (by simp),hj⟩
     have hjj:Jn E (k:Int) x y↔(x=a/\y=b)\/(x=b/\y=a):=by
      constructor
      ·intro h;exact Jn.arc hE h
      rintro(⟨rfl,rfl⟩|⟨rfl,rfl⟩)
      ·exact Jn.mk hE
      exact(Jn.mk hE).symm
     rw[htk,hjj,<- h4];dsimp only;by_cases hxa:x=a
     ·subst hxa;rw[if_pos rfl,A4,B4];simp[hab]
     rw[if_neg hxa];by_cases hxb:x=b
     ·subst hxb;rw[if_pos rfl,A4,B4];simp[hxa]
     rw[if_neg hxb];simp[hxa,hxb]
    show(((B.length:Nat):Int)-((n+1:Nat):Int)).toNat<(((B.length:Nat):Int)-((n:Nat):Int)).toNat;omega
   have:n=B.length:=by omega
   subst this;rw[List.take_length]at h4;refine .inr ⟨_,?_,near,g,rfl,h1,h2,h3,h4⟩;unfold qr;simp only[bi (JO _),UB])
  ((N:Int),E,(N:Int),A5 N [],A5 N false,dr,B,((B.length:Nat):Int),((0:Nat):Int),())
  ⟨0,A5 N [],λ_=>[],by omega,rfl,by simp,λx hx=>by rw[KQ,if_pos hx];rfl,λx=>by simp,λx y=>by simp⟩
 refine⟨near,g,dr,?_,⟨q2,λx=>by have:=q3 x;omega,λx _ y hy=>?_⟩,q1,q4,d2,d3⟩
 ·have hm1:bG (.slice I) (N:Int) (N:Int)=some (A5 N []):=cy (e:=.slice I) (B2 N) (by omega);have hm2:bG .bool (N:Int) (N:Int)=some (A5 N false):=cy (e:=.bool) (B2 N) (by omega);have hm3:bG (.slice .bool) (N:Int) (N:Int)=some (A5 N []):=cy (e:=.slice .bool) (B2 N) (by omega);unfold Zbc;simp only[hm1,hm2,hm3,dg,List.length_replicate];refine(congrArg (λo=>Jo o _) d1).trans ?_;simp only[dg,Sum.elim_inl];exact(congrArg (λo=>Jo o _) hr).trans rfl
 obtain⟨e,he,hj⟩:=(q4 x y).1 hy;obtain⟨k,rfl⟩:∃ k:Nat,e=(k:Int):=⟨e.toNat,by have:=hj.lt;omega⟩;obtain⟨a,b,ha,hb,hab,hE⟩:=D.arc k (by have:=hj.lt;omega);rcases Jn.arc hE hj with⟨_,rfl⟩|⟨_,rfl⟩
 ·exact hb
 exact ha
end
end Go.Vm

/-
 The program's components: there is one exactly if all vertices hang together.
-/
import Derived.Test.YtganppkchbnikaaGreatDoorL34U
open Option renaming bind_some->dg,bind->Jo
open List renaming getElem?_eq_getElem->A1,getElem?_eq_some_iff->A2,replicate->A5,mem_singleton->B4,length_cons->B6,append_assoc->Jm,getElem?_set_ne->Js,getElem?_set_self->Jx,length_nil->JB,length_append->JE,getElem?_append_left->JM,getElem_mem->Ko,mem_iff_getElem->KK,getElem?_replicate->KQ
open Int renaming le_refl->JO
open Bool renaming not_true->J4
open Sum renaming elim_inl->Ke
open Nat renaming not_lt_zero->Kr,eq_zero_or_pos->Ku
set_option linter.unusedVariables false
set_option linter.unusedSimpArgs false
namespace Go.Vm
set_option maxRecDepth 100000
attribute [local irreducible] aa
inductive Rch (E:List (Int×Int×Unit)) (u:Nat):Nat->Prop
 |nil:Rch E u u
 |snoc {x y:Nat} {e:Int}:Rch E u x->Jn E e x y->Rch E u y
theorem Rch.trans{E:List (Int×Int×Unit)}{u v w:Nat}(h:Rch E u v)(k:Rch E v w):Rch E u w:=by
 induction k with
 |nil=>exact h
 |snoc _ hj ih=>exact ih.snoc hj
theorem Rch.symm{E:List (Int×Int×Unit)}{u v:Nat}(h:Rch E u v):Rch E v u:=by
 induction h with
 |nil=>exact .nil
 |snoc _ hj ih=>exact(Rch.nil.snoc hj.symm).trans ih
section
variable {N:Nat}{E:List (Int×Int×Unit)}{A:List (List Int)}{num low:List Int}
def Clsd(E:List (Int×Int×Unit))(seen:List Bool):Prop:=∀ z e y,seen[z]?=some true->Jn E e z y->seen[y]?=some true
structure Cbf (N:Nat)(E:List (Int×Int×Unit))(seen0:List Bool)(s:Nat)(Q:List Nat)(seen:List Bool):Prop where
 len:seen.length=N
 nod:Q.Nodup
 lt:∀ x∈Q,x<N/\seen0[x]?≠some true/\Rch E s x
 sn:∀ x,seen[x]?=some true↔seen0[x]?=some true\/x∈Q
 sm:s∈Q
abbrev Cl(N:Nat)(E:List (Int×Int×Unit))(A:List (List Int))(num low:List Int)(C:List (List Int))(seen:List Bool)(Q:List Nat)(h k:Nat)(l:List Int)(p:Nat):((List (Int×Int×Unit))×(List (List Int))×Unit)×Int×(List (List Int))×List Bool×List Int×List Int×List Int×List Int×(List (List Int))×Int×Int×Int×List Int×Int×Int×Unit:=
 ((E,A,()),0,C,seen,nl Q,num,low,[],[],(h:Int),(N:Int),(k:Int),l,((l.length:Nat):Int),(p:Int),())
abbrev zm(N:Nat)(E:List (Int×Int×Unit))(A:List (List Int))(num low:List Int)(C:List (List Int))(seen:List Bool)(Q:List Nat)(h k:Nat):((List (Int×Int×Unit))×(List (List Int))×Unit)×Int×(List (List Int))×List Bool×List Int×List Int×List Int×List Int×(List (List Int))×Int×Int×Int×Unit:=
 ((E,A,()),0,C,seen,nl Q,num,low,[],[],(h:Int),(N:Int),(k:Int),())
abbrev st7(N:Nat)(E:List (Int×Int×Unit))(A:List (List Int))(num low:List Int)(C:List (List Int))(seen:List Bool)(k:Nat):((List (Int×Int×Unit))×(List (List Int))×Unit)×Int×(List (List Int))×List Bool×List Int×List Int×List Int×(List (List Int))×Int×Int×Unit:=
 ((E,A,()),0,C,seen,num,low,[],[],(N:Int),(k:Int),())
theorem vE (hN:N<=64)(G:Gph N E A){seen0:List Bool}(hcl:Clsd E seen0){C:List (List Int)}{s h x k:Nat}{Q:List Nat}{seen:List Bool}(hQ:Cbf N E seen0 s Q seen)(hx:Q[h]?=some x){l:List Int}(hl:∀ e,e∈l↔∃ w,Jn E e x w)(hll:l.length<=1000000) :
  ∃ Q' seen',aa jN (Cl N E A num low C seen Q h k l 0)=some (.inl (zm N E A num low C seen' (Q++Q') h k))/\Cbf N E seen0 s (Q++Q') seen'/\∀ e y,Jn E e x y->y∈Q++Q':=by
 obtain⟨r,hr,Q',seen',rfl,q1,q2⟩:=aI (f:=jN)
  (λt=>∃(p:Nat) (Q':List Nat) (seen:List Bool),p<=l.length/\t=Cl N E A num low C seen (Q++Q') h k l p/\Cbf N E seen0 s (Q++Q') seen/\∀ j e y,j<p->l[j]?=some e->Jn E e x y->y∈Q++Q') (λs=>(s.2.2.2.2.2.2.2.2.2.2.2.2.2.1-s.2.2.2.2.2.2.2.2.2.2.2.2.2.2.1).toNat)
  (λr=>∃(Q':List Nat) (seen':List Bool),r=.inl (zm N E A num low C seen' (Q++Q') h k)/\Cbf N E seen0 s (Q++Q') seen'/\∀ e y,Jn E e x y->y∈Q++Q')
  (by
   rintro t ⟨p,Q',seen,hp,rfl,h1,h2⟩;have hsz:=dZ h1.nod λz hz=>(h1.lt z hz).1;by_cases hlt:p<l.length
   ·left;have hy:l[p]?=some l[p]:=A1 hlt;have hym:l[p]∈l:=Ko hlt;generalize l[p]=e at hy hym;obtain⟨w,hj⟩:=(hl e).1 hym;obtain⟨hxN,hwN,_⟩:=G.ends hj;have hx':(Q++Q')[h]?=some x:=by rw[JM (A2.1 hx).1];exact hx
    have hhl:h<(nl (Q++Q')).length:=by rw[aQ];exact(A2.1 hx').1
    have hxm:x∈Q++Q':=List.mem_of_getElem? hx';have hxl:=h1.lt x hxm;have hoth:=tH (A:=A) hj (by omega) (by omega);have dec:(((l.length:Nat):Int)-((p+1:Nat):Int)).toNat<(((l.length:Nat):Int)-((p:Nat):Int)).toNat:=by omega
    have one:∀ y,Jn E e x y->y=w:=λy hy=>by
     have hne:=G.ends hy;rcases hj.one hy with⟨_,h⟩|⟨h1,h2⟩
     ·exact h
     exact absurd h2.symm hne.2.2
    have hw0:seen0[w]?≠some true:=λh=>hxl.2.1 (hcl w e x h hj.symm);obtain⟨c,hc⟩:∃ c,seen[w]?=some c:=⟨_,A1 (by rw[h1.len];exact hwN)⟩;cases c with
    |true=>
     have hwm:w∈Q++Q':=((h1.sn w).1 hc).resolve_left hw0;refine⟨Cl N E A num low C seen (Q++Q') h k l (p+1),?_,⟨p+1,Q',seen,by omega,rfl,h1,λj e' y hj' he' hJ'=>?_⟩,dec⟩
     ·unfold jN;simp only[aC (show(p:Int)<((l.length:Nat):Int) by omega),UA,ax,hy,dg,ae hhl,aX hx',hoth,ae (show w<seen.length by rw[h1.len];exact hwN),hc,J4,UB,bv (show p<9223372036854775807 by omega)]
     by_cases hjp:j=p
     ·subst hjp;rw[hy]at he';cases he';rw[one y hJ'];exact hwm
     exact h2 j e' y (by omega) he' hJ'
    |false=>
     have hwn:w∉Q++Q':=λh=>by have:=(h1.sn w).2 (.inr h);rw[hc]at this;cases this
     have hap:app (nl (Q++Q')) [(w:Int)]=some (nl (Q++(Q'++[w]))):=by rw[bx (by rw[aQ];simp only[B6,JB];omega),<- Jm,gj (Q++Q') [w]];rfl
     have hmem:∀ z,z∈Q++(Q'++[w])↔z∈Q++Q'\/z=w:=λz=>by rw[<- Jm,List.mem_append,B4]
     refine⟨Cl N E A num low C (seen.set w true) (Q++(Q'++[w])) h k l (p+1),?_,⟨p+1,Q'++[w],_,by omega,rfl,⟨by simp[h1.len],?_,λz hz=>?_,λz=>?_,(hmem s).2 (.inl h1.sm)⟩,λj e' y hj' he' hJ'=>?_⟩,dec⟩
     ·unfold jN;simp only[aC (show(p:Int)<((l.length:Nat):Int) by omega),UA,ax,hy,dg,ae hhl,aX hx',hoth,ae (show w<seen.length by rw[h1.len];exact hwN),hc,Bool.not_false,hap,bv (show p<9223372036854775807 by omega)]
     ·rw[<- Jm,List.nodup_append];exact⟨h1.nod,by simp,λa ha b hb e=>hwn (by rw[B4]at hb;rw[<- hb,<- e];exact ha)⟩
     ·rcases(hmem z).1 hz with h|rfl
      ·exact h1.lt z h
      exact⟨hwN,hw0,hxl.2.2.snoc hj⟩
     ·rw[hmem];by_cases e:z=w
      ·subst e;rw[Jx (by rw[h1.len];exact hwN)];simp
      rw[Js (Ne.symm e),h1.sn];simp[e]
     rw[hmem];by_cases hjp:j=p
     ·subst hjp;rw[hy]at he';cases he';exact .inr (one y hJ')
     exact .inl (h2 j e' y (by omega) he' hJ')
   have:p=l.length:=by omega
   subst this;refine .inr ⟨_,?_,Q',seen,rfl,h1,λe y hJ=>?_⟩
   ·unfold jN;simp only[bi (JO _),UB]
   obtain⟨j,g1,g2⟩:=KK.1 ((hl e).2 ⟨y,hJ⟩);exact h2 j e y g1 ((A1 g1).trans (congrArg some g2)) hJ)
  (Cl N E A num low C seen (Q++[]) h k l 0) ⟨0,[],seen,by omega,rfl,by simpa using hQ,λj e y hj=>absurd hj (Kr _)⟩
 rw[List.append_nil]at hr;exact⟨Q',seen',hr,q1,q2⟩
theorem zT (hN:N<=64)(hE:E.length<=256)(G:Gph N E A){seen0:List Bool}(hs0:seen0.length=N)(hcl:Clsd E seen0){C:List (List Int)}{s:Nat}(hs:s < N)(hss:seen0[s]?≠some true) :
  ∃ Q seen',aa lI (zm N E A num low C (seen0.set s true) [s] 0 s)=some (.inl ((E,A,()),0,C,seen',nl Q,num,low,[],[],(N:Int),(s:Int),()))/\Cbf N E seen0 s Q seen'/\Clsd E seen':=by
 obtain⟨r,hr,Q,seen',rfl,q1,q2⟩:=aI (f:=lI)
  (λt=>∃(h:Nat) (Q:List Nat) (seen:List Bool),h<=Q.length/\t=zm N E A num low C seen Q h s/\Cbf N E seen0 s Q seen/\∀ j x,j<h->Q[j]?=some x->∀ e y,Jn E e x y->y∈Q) (λt=>(N:Int).toNat+1-t.2.2.2.2.2.2.2.2.2.1.toNat)
  (λr=>∃(Q:List Nat) (seen':List Bool),r=.inl ((E,A,()),0,C,seen',nl Q,num,low,[],[],(N:Int),(s:Int),())/\Cbf N E seen0 s Q seen'/\∀ x∈Q,∀ e y,Jn E e x y->y∈Q)
  (by
   rintro t ⟨h,Q,seen,hh,rfl,h1,h2⟩;have hsz:=dZ h1.nod λz hz=>(h1.lt z hz).1;by_cases hlt:h<Q.length
   ·left;have hx:Q[h]?=some Q[h]:=A1 hlt;have hxm:Q[h]∈Q:=Ko hlt;generalize Q[h]=x at hx hxm;have hxN:=(h1.lt x hxm).1;obtain⟨l,l1,l2,l3⟩:=G.at' x hxN;have hll:l.length<=256:=by
     have:=gx E.length l2 λe he=>by obtain⟨w,hj⟩:=(l3 e).1 he;exact hj.lt
     omega
    have hed:Zr ((E,A,()),(x:Int),())=some (l,()):=by unfold Zr;simp only[ax,l1,dg]
    obtain⟨Q',seen',r1,r2,r3⟩:=vE (num:=num) (low:=low) (C:=C) (k:=s) hN G hcl h1 hx l3 (by omega);refine⟨zm N E A num low C seen' (Q++Q') (h+1) s,?_,⟨h+1,Q++Q',seen',by simp;omega,rfl,r2,λj z hj hz e y hJ=>?_⟩,?_⟩
    ·unfold lI;simp only[aQ,aC (show(h:Int)<((Q.length:Nat):Int) by omega),UA,ae hlt,aX hx,dg,hed];refine(congrArg (λo=>Jo o _) r1).trans ?_;simp only[dg,Ke,bv (show h<9223372036854775807 by omega)]
    ·by_cases hjh:j=h
     ·subst hjh;rw[JM hlt,hx]at hz;cases hz;exact r3 e y hJ
     rw[JM (by omega)]at hz;exact List.mem_append_left _ (h2 j z (by omega) hz e y hJ)
    show(N:Int).toNat+1-((h+1:Nat):Int).toNat<(N:Int).toNat+1-((h:Nat):Int).toNat;omega
   have:h=Q.length:=by omega
   subst this;refine .inr ⟨_,?_,Q,seen,rfl,h1,λx hx e y hJ=>?_⟩
   ·unfold lI;simp only[aQ,bi (JO _),UB]
   obtain⟨j,g1,g2⟩:=KK.1 hx;exact h2 j x g1 ((A1 g1).trans (congrArg some g2)) e y hJ)
  (zm N E A num low C (seen0.set s true) [s] 0 s) ⟨0,[s],_,by simp,rfl,⟨by simp[hs0],by simp,λx hx=>by
   rw[B4]at hx;subst hx;exact⟨hs,hss,.nil⟩,λx=>by
   by_cases e:x=s
   ·subst e;rw[Jx (by rw[hs0];exact hs)];simp
   rw[Js (Ne.symm e)];simp[e],by simp⟩,λj x hj=>absurd hj (Kr _)⟩
 refine⟨Q,seen',hr,q1,λz e y hz hJ=>?_⟩;rw[q1.sn]at hz ⊢;rcases hz with hz|hz
 ·exact .inl (hcl z e y hz hJ)
 exact .inr (q2 z hz e y hJ)
theorem Clsd.reach{seen:List Bool}(h:Clsd E seen){u v:Nat}(hr:Rch E u v)(hu:seen[u]?=some true):seen[v]?=some true:=by
 induction hr with
 |nil=>exact hu
 |snoc _ hj ih=>exact h _ _ _ ih hj
theorem Br(D:Dg N E):∃ C,Zax (((N:Int),E,()),())=some (C,())/\(C.length=1↔0<N/\∀ v,v<N->Rch E 0 v):=by
 have hN:=D.n;have hm:=D.m;obtain⟨A,hA,G⟩:=uz D;obtain⟨r,hr,C,rfl,hq⟩:=aI (f:=ow)
  (λt=>∃(k:Nat) (C:List (List Int)) (seen:List Bool),k<=N/\t=st7 N E A (A5 N 0) (A5 N 0) C seen k/\seen.length=N/\Clsd E seen/\(∀ j,j<k->seen[j]?=some true)/\(0<k->1<=C.length)/\C.length<=k/\(C.length<=1->∀ z,seen[z]?=some true->Rch E 0 z)/\(k=0->∀ z,seen[z]?≠some true)/\((∀ v,v<N->Rch E 0 v)->C.length<=1)) (λs=>(s.2.2.2.2.2.2.2.2.1-s.2.2.2.2.2.2.2.2.2.1).toNat)
  (λr=>∃ C:List (List Int),r=.inl (C,())/\(C.length=1↔0<N/\∀ v,v<N->Rch E 0 v))
  (by
   rintro t ⟨k,C,seen,hk,rfl,h1,h2,h3,h4,h5,h6,h7,h8⟩;by_cases hlt:k<N
   ·left;have dec:((N:Int)-((k+1:Nat):Int)).toNat<((N:Int)-((k:Nat):Int)).toNat:=by omega
    obtain⟨c,hc⟩:∃ c,seen[k]?=some c:=⟨_,A1 (by omega)⟩;cases c with
    |true=>
     have hk0:0<k:=by
      rcases Ku k with h|h
      ·exact absurd hc (h7 h k)
      exact h
     refine⟨st7 N E A (A5 N 0) (A5 N 0) C seen (k+1),?_,⟨k+1,C,seen,by omega,rfl,h1,h2,λj hj=>?_,λ_=>h4 hk0,by omega,h6,λh=>absurd h (by omega),h8⟩,dec⟩
     ·unfold ow;simp only[aC (show(k:Int)<(N:Int) by omega),UA,ae (show k<seen.length by omega),dg,hc,bv (show k<9223372036854775807 by omega)]
     by_cases hjk:j=k
     ·subst hjk;exact hc
     exact h3 j (by omega)
    |false=>
     obtain⟨Q,seen',r1,r2,r3⟩:=zT (num:=A5 N 0) (low:=A5 N 0) (C:=C) hN hm G h1 h2 hlt (by rw[hc];simp);have hsz:=dZ r2.nod λz hz=>(r2.lt z hz).1;have hso:Zbb (nl Q,())=some (cR (nl Q),()):=by unfold Zbb;exact if_pos (by rw[aQ,ng];omega)
     have hap:app C [cR (nl Q)]=some (C++[cR (nl Q)]):=bx (by simp;omega);refine⟨st7 N E A (A5 N 0) (A5 N 0) (C++[cR (nl Q)]) seen' (k+1),?_,⟨k+1,_,seen',by omega,rfl,r2.len,r3,λj hj=>?_,λ_=>by simp,by simp;omega,λhC z hz=>?_,λh=>absurd h (by omega),λhall=>?_⟩,dec⟩
     ·unfold ow;simp only[aC (show(k:Int)<(N:Int) by omega),UA,ae (show k<seen.length by omega),dg,hc,UB];refine(congrArg (λo=>Jo o _) r1).trans ?_;simp only[dg,Ke,hso,hap,bv (show k<9223372036854775807 by omega)]
     ·rw[r2.sn];by_cases hjk:j=k
      ·subst hjk;exact .inr r2.sm
      exact .inl (h3 j (by omega))
     ·simp only[JE,B6,JB]at hC;have hk0:k=0:=by
       rcases Ku k with h|h
       ·exact h
       have:=h4 h;omega
      rcases(r2.sn z).1 hz with h|h
      ·exact absurd h (h7 hk0 z)
      have:=(r2.lt z h).2.2;rwa[hk0]at this
     rcases Ku k with h|h
     ·rw[JE,List.length_singleton];omega
     have:=h2.reach (hall k hlt) (h3 0 h);rw[hc]at this;cases this
   have:k=N:=by omega
   subst this;refine .inr ⟨_,?_,C,rfl,⟨λh=>⟨by omega,λv hv=>h6 (by omega) v (h3 v hv)⟩,λh=>?_⟩⟩
   ·unfold ow;simp only[bi (JO _),UB]
   have:=h4 h.1;have:=h8 h.2;omega)
  (st7 N E A (A5 N 0) (A5 N 0) [] (A5 N false) 0) ⟨0,[],_,by omega,rfl,by simp,λz e y hz=>by
   rw[KQ]at hz;split at hz<;>simp at hz,λj hj=>absurd hj (Kr _),λh=>absurd h (by omega),by simp,λ_ z hz=>by
   rw[KQ]at hz;split at hz<;>simp at hz,λ_ z hz=>by
   rw[KQ]at hz;split at hz<;>simp at hz,λ_=>by simp⟩
 refine⟨C,?_,hq⟩;have hmk:bG .bool (N:Int) (N:Int)=some (A5 N false):=cy (e:=.bool) (Nat.le_refl N) (by omega);unfold Zax;simp only[pK D,dg,J4,UB,hA,hmk];exact(congrArg (λo=>Jo o _) hr).trans rfl
theorem Ca(D:Dg N E):∃ c,Zbe (((N:Int),E,()),())=some (c,())/\(c=true↔0<N/\∀ v,v<N->Rch E 0 v):=by
 obtain⟨C,h1,h2⟩:=Br D;refine⟨eqI ((C.length:Nat):Int) 1,?_,?_⟩
 ·unfold Zbe;simp only[h1,dg]
 rw[<- h2];simp only[eqI,decide_eq_true_eq,beq_iff_eq];omega
end
end Go.Vm

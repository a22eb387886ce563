/-
 The faces are followed; darts.
-/
import Derived.Test.YtganppkchbnikaaGreatDoorL34R
open Option renaming bind_some->dg,bind->Jo
open List renaming getElem?_eq_getElem->A1,replicate->A5,getElem?_set_ne->Js,getElem?_set_self->Jx,length_replicate->J8,length_set->Ka,getElem_mem->Ko
open Nat renaming le_refl->B2,not_lt_zero->Kr,mod_lt->Mw
open Int renaming le_refl->JO
open Sum renaming elim_inl->Ke
set_option linter.unusedVariables false
set_option linter.unusedSimpArgs false
namespace Go.Vm
set_option maxRecDepth 100000
attribute [local irreducible] aa
theorem Bn(a b:Nat):n8 (a:Int) (b:Int)=((a%b:Nat):Int):=by unfold n8;rw[Int.tmod_eq_emod_of_nonneg (by omega)];omega
structure Sq (N:Nat)(M:List (List Int)):Prop where
 len:M.length=N
 row:∀ x,x<N->(aJ M x).length=N
theorem pR{α:Type}{M:List (List α)}{x:Nat}{l:List α}(hx:x<M.length)(u:Nat):aJ (M.set x l) u=if u=x then l else aJ M u:=by
 unfold aJ;by_cases h:u=x
 ·subst h;rw[Jx hx,if_pos rfl];rfl
 rw[Js (Ne.symm h),if_neg h]
theorem Sq.set{N:Nat}{M:List (List Int)}(h:Sq N M){x:Nat}(hx:x<N)(y:Nat)(c:Int):Sq N (M.set x ((aJ M x).set y c)):=by
 refine⟨by simp[h.len],λu hu=>?_⟩;rw[pR (by rw[h.len];exact hx)];split
 ·rw[Ka];exact h.row x hx
 exact h.row u hu
def Low(N:Nat)(M:List (List Int)):Prop:=∀(x y:Nat) (c:Int),x<N->(aJ M x)[y]?=some c->∃ z:Nat,z<N/\c=(z:Int)
theorem Low.set{N:Nat}{M:List (List Int)}(h:Sq N M)(hM:Low N M){x:Nat}(hx:x<N)(y:Nat){z:Nat}(hz:z<N):Low N (M.set x ((aJ M x).set y (z:Int))):=by
 intro u w c hu hc;rw[pR (by rw[h.len];exact hx)]at hc;by_cases e:u=x
 ·rw[if_pos e]at hc;by_cases e2:w=y
  ·subst e2;have hwl:w<(aJ M x).length:=by have:=(List.getElem?_eq_some_iff.1 hc).1;rwa[Ka]at this
   rw[Jx hwl]at hc;cases hc;exact⟨z,hz,rfl⟩
  rw[Js (Ne.symm e2)]at hc;exact hM x w c hx hc
 rw[if_neg e]at hc;exact hM u w c hu hc
section
variable {N:Nat}{near fc:List (List Int)}{inn:List Bool}{dr:List (List Bool)}
theorem yy{M:List (List Int)}(h1:M.length=N)(h2:∀ j,j<N->M[j]?=some (A5 N 0)):Sq N M/\Low N M:=by
 have hs:∀ x,x<N->aJ M x=A5 N 0:=λx hx=>by unfold aJ;rw[h2 x hx];rfl
 refine⟨⟨h1,λx hx=>by rw[hs x hx];simp⟩,λx y c hx hc=>?_⟩;rw[hs x hx,List.getElem?_replicate]at hc;split at hc
 ·cases hc;exact⟨0,by omega,rfl⟩
 cases hc
theorem uk{M:List (List Int)}(hM:Sq N M)(hL:Low N M){f:List Int}(hf:∀ x∈f,∃ y:Nat,y<N/\x=(y:Int))(hl:f.length<=500000)(c d:Int):∃ M',aa nF (M,f,fc,c,d,f,((f.length:Nat):Int),0,())=some (.inl (M',fc,c,d,()))/\Sq N M'/\Low N M':=by
 obtain⟨r,hr,M',rfl,q1,q2⟩:=aI (f:=nF)
  (λs=>∃(n:Nat) (M:List (List Int)),n<=f.length/\s=(M,f,fc,c,d,f,((f.length:Nat):Int),(n:Int),())/\Sq N M/\Low N M) (λs=>(s.2.2.2.2.2.2.1-s.2.2.2.2.2.2.2.1).toNat)
  (λr=>∃ M',r=.inl (M',fc,c,d,())/\Sq N M'/\Low N M')
  (by
   rintro s ⟨n,M,hn,rfl,h1,h2⟩;by_cases hlt:n<f.length
   ·have get:∀ k,k<f.length->∃ y:Nat,y<N/\f[k]?=some (y:Int):=λk hk=>by obtain⟨y,hy,e⟩:=hf _ (Ko hk);exact⟨y,hy,(A1 hk).trans (congrArg some e)⟩
    obtain⟨u,hu,g1⟩:=get n hlt;obtain⟨w,hw,g2⟩:=get ((n+f.length-1)%f.length) (Mw _ (by omega));obtain⟨z,hz,g3⟩:=get ((n+1)%f.length) (Mw _ (by omega));have e1:n8 (dK .i64 (ap .i64 (n:Int) ((f.length:Nat):Int)) 1) ((f.length:Nat):Int)=(((n+f.length-1)%f.length:Nat):Int):=by rw[s6 (by omega) (by omega),show(n:Int)+((f.length:Nat):Int)=((n+f.length:Nat):Int) by omega,qT (by omega),show((n+f.length:Nat):Int)-1=((n+f.length-1:Nat):Int) by omega,Bn]
    refine .inl ⟨(M.set u ((aJ M u).set w (z:Int)),f,fc,c,d,f,((f.length:Nat):Int),((n+1:Nat):Int),()),?_,⟨n+1,_,by omega,rfl,h1.set hu _ _,h2.set h1 hu _ hz⟩,?_⟩
    ·unfold nF;simp only[aC (show(n:Int)<(f.length:Nat) by omega),UA,ax,g1,dg,ae (show u<M.length by rw[h1.len];exact hu),bN (show((f.length:Nat):Int)≠0 by omega),UB,e1,g2,bv (show n<9223372036854775807 by omega),Bn,g3,ae (show w<(aJ M u).length by rw[h1.row u hu];exact hw)]
    show(((f.length:Nat):Int)-((n+1:Nat):Int)).toNat<(((f.length:Nat):Int)-((n:Nat):Int)).toNat;omega
   have:n=f.length:=by omega
   subst this;refine .inr ⟨_,?_,M,rfl,h1,h2⟩;unfold nF;simp only[bi (JO _),UB])
  (M,f,fc,c,d,f,((f.length:Nat):Int),((0:Nat):Int),()) ⟨0,M,by omega,rfl,hM,hL⟩
 exact⟨M',hr,q1,q2⟩
theorem zH(hN:N<=64)(hF:Fcs N 500000 fc):∃ M,Zx (cG N near fc inn dr,())=some (M,())/\Sq N M/\Low N M:=by
 obtain⟨r,hr,M0,rfl,q1,q2⟩:=aI (f:=t6)
  (λs=>∃(n:Nat) (M:List (List Int)),n<=N/\s=(M,cG N near fc inn dr,(N:Int),(n:Int),())/\M.length=N/\∀ j,j<n->M[j]?=some (A5 N 0)) (λs=>(s.2.2.1-s.2.2.2.1).toNat)
  (λr=>∃ M:List (List Int),r=.inl (M,cG N near fc inn dr,())/\M.length=N/\∀ j,j<N->M[j]?=some (A5 N 0))
  (by
   rintro s ⟨n,f,hn,rfl,h1,h2⟩;by_cases hlt:n<N
   ·refine .inl ⟨(f.set n (A5 N 0),cG N near fc inn dr,(N:Int),((n+1:Nat):Int),()),?_,⟨n+1,_,by omega,rfl,by simp[h1],λj hj=>?_⟩,?_⟩
    ·have hmk:bG I (N:Int) (N:Int)=some (A5 N 0):=cy (e:=I) (B2 N) (by omega);unfold t6;simp only[aC (show(n:Int)<(N:Int) by omega),UA,hmk,dg,ae (show n<f.length by omega),bv (show n<9223372036854775807 by omega)]
    ·by_cases hjn:j=n
     ·subst hjn;rw[Jx (by omega)]
     rw[Js (Ne.symm hjn)];exact h2 j (by omega)
    show((N:Int)-((n+1:Nat):Int)).toNat<((N:Int)-((n:Nat):Int)).toNat;omega
   have:n=N:=by omega
   subst this;refine .inr ⟨_,?_,f,rfl,h1,h2⟩;unfold t6;simp only[bi (JO _),UB])
  (A5 N [],cG N near fc inn dr,(N:Int),((0:Nat):Int),())
  ⟨0,_,by omega,rfl,by simp,λj hj=>absurd hj (Kr _)⟩
 obtain⟨z1,z2⟩:=yy q1 q2;have hfl:=hF.len;obtain⟨r2,hr2,M,rfl,w1,w2⟩:=aI (f:=uh)
  (λs=>∃(n:Nat) (M:List (List Int)),n<=fc.length/\s=(M,fc,((fc.length:Nat):Int),(n:Int),())/\Sq N M/\Low N M) (λs=>(s.2.2.1-s.2.2.2.1).toNat)
  (λr=>∃ M:List (List Int),r=.inl (M,())/\Sq N M/\Low N M)
  (by
   rintro s ⟨n,M,hn,rfl,h1,h2⟩;by_cases hlt:n<fc.length
   ·have hy:fc[n]?=some fc[n]:=A1 hlt;have hym:fc[n]∈fc:=Ko hlt;generalize fc[n]=f at hy hym;obtain⟨M',e1,e2,e3⟩:=uk (fc:=fc) h1 h2 (hF.lt f hym) (hF.lens f hym) ((fc.length:Nat):Int) (n:Int);refine .inl ⟨(M',fc,((fc.length:Nat):Int),((n+1:Nat):Int),()),?_,⟨n+1,_,by omega,rfl,e2,e3⟩,?_⟩
    ·unfold uh;simp only[aC (show(n:Int)<(fc.length:Nat) by omega),UA,ax,hy,dg];refine(congrArg (λo=>Jo o _) e1).trans ?_;simp only[dg,Ke,bv (show n<9223372036854775807 by omega)]
    show(((fc.length:Nat):Int)-((n+1:Nat):Int)).toNat<(((fc.length:Nat):Int)-((n:Nat):Int)).toNat;omega
   have:n=fc.length:=by omega
   subst this;refine .inr ⟨_,?_,M,rfl,h1,h2⟩;unfold uh;simp only[bi (JO _),UB])
  (M0,fc,((fc.length:Nat):Int),((0:Nat):Int),()) ⟨0,M0,by omega,rfl,z1,z2⟩
 refine⟨M,?_,w1,w2⟩;have hm1:bG (.slice I) (N:Int) (N:Int)=some (A5 N []):=cy (e:=.slice I) (B2 N) (by omega);unfold Zx;simp only[hm1,dg,J8];refine(congrArg (λo=>Jo o _) hr).trans ?_;simp only[dg,Ke];exact(congrArg (λo=>Jo o _) hr2).trans rfl
theorem Di{E:List (Int×Int×Unit)}(D:Dg N E):∃ M,Zbx (((N:Int),E,()),())=some (M,())/\Sq N M:=by
 have hN:=D.n;have hm:=D.m;obtain⟨r,hr,M0,rfl,q1,q2⟩:=aI (f:=qF)
  (λs=>∃(n:Nat) (M:List (List Int)),n<=N/\s=((N:Int),E,M,(N:Int),(n:Int),())/\M.length=N/\∀ j,j<n->M[j]?=some (A5 N 0)) (λs=>(s.2.2.2.1-s.2.2.2.2.1).toNat)
  (λr=>∃ M:List (List Int),r=.inl ((N:Int),E,M,())/\M.length=N/\∀ j,j<N->M[j]?=some (A5 N 0))
  (by
   rintro s ⟨n,f,hn,rfl,h1,h2⟩;by_cases hlt:n<N
   ·refine .inl ⟨((N:Int),E,f.set n (A5 N 0),(N:Int),((n+1:Nat):Int),()),?_,⟨n+1,_,by omega,rfl,by simp[h1],λj hj=>?_⟩,?_⟩
    ·have hmk:bG I (N:Int) (N:Int)=some (A5 N 0):=cy (e:=I) (B2 N) (by omega);unfold qF;simp only[aC (show(n:Int)<(N:Int) by omega),UA,hmk,dg,ae (show n<f.length by omega),bv (show n<9223372036854775807 by omega)]
    ·by_cases hjn:j=n
     ·subst hjn;rw[Jx (by omega)]
     rw[Js (Ne.symm hjn)];exact h2 j (by omega)
    show((N:Int)-((n+1:Nat):Int)).toNat<((N:Int)-((n:Nat):Int)).toNat;omega
   have:n=N:=by omega
   subst this;refine .inr ⟨_,?_,f,rfl,h1,h2⟩;unfold qF;simp only[bi (JO _),UB])
  ((N:Int),E,A5 N [],(N:Int),((0:Nat):Int),())
  ⟨0,_,by omega,rfl,by simp,λj hj=>absurd hj (Kr _)⟩
 obtain⟨z1,z2⟩:=yy q1 q2;obtain⟨r2,hr2,M,rfl,w1⟩:=aI (f:=qm)
  (λs=>∃(n:Nat) (M:List (List Int)),n<=E.length/\s=(M,E,((E.length:Nat):Int),(n:Int),())/\Sq N M) (λs=>(s.2.2.1-s.2.2.2.1).toNat)
  (λr=>∃ M:List (List Int),r=.inl (M,())/\Sq N M)
  (by
   rintro s ⟨n,M,hn,rfl,h1⟩;by_cases hlt:n<E.length
   ·obtain⟨a,b,ha,hb,hab,hE⟩:=D.arc n hlt;refine .inl ⟨(((M.set a ((aJ M a).set b (dl .i64 2 (n:Int)))).set b ((aJ (M.set a ((aJ M a).set b (dl .i64 2 (n:Int)))) b).set a (ap .i64 (dl .i64 2 (n:Int)) 1))),E,((E.length:Nat):Int),((n+1:Nat):Int),()),?_,⟨n+1,_,by omega,rfl,(h1.set ha _ _).set hb _ _⟩,?_⟩
    ·unfold qm;simp only[aC (show(n:Int)<(E.length:Nat) by omega),UA,ax,hE,dg,ae (show a<M.length by rw[h1.len];exact ha),ae (show b<M.length by rw[h1.len];exact hb),ae (show b<(aJ M a).length by rw[h1.row a ha];exact hb),ae (show a<(aJ (M.set a ((aJ M a).set b (dl .i64 2 (n:Int)))) b).length by rw[(h1.set ha _ _).row b hb];exact ha),bv (show n<9223372036854775807 by omega)]
    show(((E.length:Nat):Int)-((n+1:Nat):Int)).toNat<(((E.length:Nat):Int)-((n:Nat):Int)).toNat;omega
   have:n=E.length:=by omega
   subst this;refine .inr ⟨_,?_,M,rfl,h1⟩;unfold qm;simp only[bi (JO _),UB])
  (M0,E,((E.length:Nat):Int),((0:Nat):Int),()) ⟨0,M0,by omega,rfl,z1⟩
 refine⟨M,?_,w1⟩;have hm1:bG (.slice I) (N:Int) (N:Int)=some (A5 N []):=cy (e:=.slice I) (B2 N) (by omega);unfold Zbx;simp only[hm1,dg,J8];refine(congrArg (λo=>Jo o _) hr).trans ?_;simp only[dg,Ke];exact(congrArg (λo=>Jo o _) hr2).trans rfl
end
end Go.Vm

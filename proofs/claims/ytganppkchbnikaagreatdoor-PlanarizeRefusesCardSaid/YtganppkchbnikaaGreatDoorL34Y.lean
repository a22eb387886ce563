/-
 The specification's classes; Refused; Run gives the first error.
-/
import Derived.Test.YtganppkchbnikaaGreatDoorL34X
open Option.some renaming injEq->aw
open Option renaming bind_some->dg,bind->Jo
open Prod.mk renaming injEq->B3
open Int renaming le_refl->JO
open Sum renaming elim_inl->Ke
set_option linter.unusedVariables false
set_option linter.unusedSimpArgs false
namespace Go.Vm
set_option maxRecDepth 100000
attribute [local irreducible] aa
section
variable {N:Nat}{l:List Int}{f:Nat->Nat}
theorem yS(hN:N<=64)(h:Lab N l f)(C:List (List Int)){i:Nat}(hi:i<N):∃ b,aa mo (C,l,(i:Int),true,0,())=some (.inl (C,l,(i:Int),b,()))/\(b=true↔∀ j,j<i->f j≠f i):=by
 obtain⟨r,hr,b,rfl,hq⟩:=aI (f:=mo)
  (λs=>∃(n:Nat) (b:Bool),n<=i/\s=(C,l,(i:Int),b,(n:Int),())/\(b=true↔∀ j,j<n->f j≠f i)) (λs=>(s.2.2.1-s.2.2.2.2.1).toNat)
  (λr=>∃ b:Bool,r=.inl (C,l,(i:Int),b,())/\(b=true↔∀ j,j<i->f j≠f i))
  (by
   rintro s ⟨n,b,hn,rfl,h1⟩;by_cases hlt:n<i
   ·left;have dec:((i:Int)-((n+1:Nat):Int)).toNat<((i:Int)-((n:Nat):Int)).toNat:=by omega
    cases b with
    |false=>
     refine⟨(C,l,(i:Int),false,((n+1:Nat):Int),()),?_,⟨n+1,false,by omega,rfl,?_⟩,dec⟩
     ·unfold mo;simp only[aC (show(n:Int)<(i:Int) by omega),UA,UB,bv (show n<9223372036854775807 by omega)]
     constructor
     ·intro h;cases h
     intro h;exact h1.2 λj hj=>h j (by omega)
    |true=>
     refine⟨(C,l,(i:Int),neI ((f n:Nat):Int) ((f i:Nat):Int),((n+1:Nat):Int),()),?_,⟨n+1,_,by omega,rfl,?_⟩,dec⟩
     ·unfold mo;simp only[aC (show(n:Int)<(i:Int) by omega),UA,ax,h.at' n (by omega),h.at' i hi,dg,bv (show n<9223372036854775807 by omega)]
     have hne:neI ((f n:Nat):Int) ((f i:Nat):Int)=true↔f n≠f i:=by simp[neI];omega
     rw[hne];constructor
     ·intro h2 j hj;by_cases e:j=n
      ·subst e;exact h2
      exact h1.1 rfl j (by omega)
     intro h2;exact h2 n (by omega)
   have:n=i:=by omega
   subst this;refine .inr ⟨_,?_,b,rfl,h1⟩;unfold mo;simp only[bi (JO _),UB])
  (C,l,(i:Int),true,((0:Nat):Int),()) ⟨0,true,by omega,rfl,by simp⟩
 exact⟨b,hr,hq⟩
theorem C3(hN:N<=64)(h:Lab N l f)(C:List (List Int)){i:Nat}(hi:i<N):∃ c,aa jD (C,[],l,(i:Int),(i:Int),())=some (.inl (C,c,l,(i:Int),())):=by
 have hl:=h.len;obtain⟨r,hr,c,rfl⟩:=aI (f:=jD)
  (λs=>∃(n:Nat) (c:List Int),n<=N/\s=(C,c,l,(i:Int),(n:Int),())/\c.length<=n) (λs=>N-s.2.2.2.2.1.toNat)
  (λr=>∃ c:List Int,r=.inl (C,c,l,(i:Int),()))
  (by
   rintro s ⟨n,c,hn,rfl,h1⟩;by_cases hlt:n<N
   ·left;have dec:N-((n+1:Nat):Int).toNat<N-((n:Nat):Int).toNat:=by omega
    by_cases he:f n=f i
    ·have hap:app c [(n:Int)]=some (c++[(n:Int)]):=bx (by simp;omega);refine⟨(C,c++[(n:Int)],l,(i:Int),((n+1:Nat):Int),()),?_,⟨n+1,_,by omega,rfl,by simp;omega⟩,dec⟩;unfold jD;simp only[hl,aC (show(n:Int)<(N:Int) by omega),UA,ax,h.at' n hlt,h.at' i hi,dg,cW (show((f n:Nat):Int)=((f i:Nat):Int) by omega),hap,bv (show n<9223372036854775807 by omega)]
    refine⟨(C,c,l,(i:Int),((n+1:Nat):Int),()),?_,⟨n+1,c,by omega,rfl,by omega⟩,dec⟩;unfold jD;simp only[hl,aC (show(n:Int)<(N:Int) by omega),UA,ax,h.at' n hlt,h.at' i hi,dg,bN (show((f n:Nat):Int)≠((f i:Nat):Int) by omega),UB,bv (show n<9223372036854775807 by omega)]
   have:n=N:=by omega
   subst this;refine .inr ⟨_,?_,c,rfl⟩;unfold jD;simp only[hl,bi (JO _),UB])
  (C,[],l,(i:Int),(i:Int),()) ⟨i,[],by omega,rfl,by simp⟩
 exact⟨c,hr⟩
theorem wq(hN:N<=64)(h:Lab N l f):∃ C,Zaj (l,())=some (C,())/\(C.length=1↔0<N/\∀ v,v<N->f v=f 0):=by
 have hl:=h.len;obtain⟨r,hr,C,rfl,hq⟩:=aI (f:=nX)
  (λs=>∃(n:Nat) (C:List (List Int)),n<=N/\s=(C,l,(n:Int),())/\C.length<=n/\(0<n->1<=C.length)/\(C.length<=1↔∀ v,v<n->f v=f 0)) (λs=>N-s.2.2.1.toNat)
  (λr=>∃ C:List (List Int),r=.inl (C,())/\(C.length=1↔0<N/\∀ v,v<N->f v=f 0))
  (by
   rintro s ⟨n,C,hn,rfl,h1,h2,h3⟩;by_cases hlt:n<N
   ·left;have dec:N-((n+1:Nat):Int).toNat<N-((n:Nat):Int).toNat:=by omega
    obtain⟨b,b1,b2⟩:=yS hN h C hlt;cases b with
    |false=>
     have hex:∃ j,j<n/\f j=f n:=by apply Classical.byContradiction;intro hx;have:=b2.2 λj hj e=>hx ⟨j,hj,e⟩;cases this
     obtain⟨j,hj,hje⟩:=hex;refine⟨(C,l,((n+1:Nat):Int),()),?_,⟨n+1,C,by omega,rfl,by omega,λ_=>h2 (by omega),h3.trans ⟨λg v hv=>?_,λg v hv=>g v (by omega)⟩⟩,dec⟩
     ·unfold nX;simp only[hl,aC (show(n:Int)<(N:Int) by omega),UA];refine(congrArg (λo=>Jo o _) b1).trans ?_;simp only[dg,Ke,UB,bv (show n<9223372036854775807 by omega)]
     by_cases e:v=n
     ·subst e;rw[<- hje];exact g j hj
     exact g v (by omega)
    |true=>
     obtain⟨c,c1⟩:=C3 hN h C hlt;have hap:app C [c]=some (C++[c]):=bx (by simp;omega);refine⟨(C++[c],l,((n+1:Nat):Int),()),?_,⟨n+1,_,by omega,rfl,by simp;omega,λ_=>by simp,?_⟩,dec⟩
     ·unfold nX;simp only[hl,aC (show(n:Int)<(N:Int) by omega),UA];refine(congrArg (λo=>Jo o _) b1).trans ?_;simp only[dg,Ke,UA];refine(congrArg (λo=>Jo o _) c1).trans ?_;simp only[dg,Ke,hap,bv (show n<9223372036854775807 by omega)]
     rw[List.length_append,List.length_singleton];rcases Nat.eq_zero_or_pos n with hn0|hn0
     ·subst hn0;constructor
      ·intro _ v hv;have:v=0:=by omega
       rw[this]
      intro _;omega
     constructor
     ·intro hC;have:=h2 hn0;omega
     intro g;exact absurd (g n (by omega)).symm (b2.1 rfl 0 hn0)
   have:n=N:=by omega
   subst this;refine .inr ⟨_,?_,C,rfl,⟨λe=>⟨by omega,h3.1 (by omega)⟩,λe=>?_⟩⟩
   ·unfold nX;simp only[hl,bi (JO _),UB]
   have:=h2 e.1;have:=h3.2 e.2;omega)
  ([],l,((0:Nat):Int),()) ⟨0,[],by omega,rfl,by simp,λe=>absurd e (by omega),by simp⟩
 refine⟨C,?_,hq⟩;unfold Zaj;exact(congrArg (λo=>Jo o _) hr).trans rfl
end
section
variable {N:Nat}{E:List Arw}
theorem G7(D:Dg N E):dvB (N:Int) E=true:=by have h:=pK D;rw[Au]at h;simp only[aw,B3,and_true]at h;exact h
theorem E7(D:Dg N E):∃ C,Zs (((N:Int),E,()),())=some (C,())/\(C.length=1↔0<N/\∀ v,v<N->Rch E 0 v):=by
 obtain⟨l,f,h1,h2,h3,h4⟩:=zk D;obtain⟨C,c1,c2⟩:=wq D.n h2;refine⟨C,?_,c2.trans ⟨λ⟨hN,h⟩=>⟨hN,λv hv=>?_⟩,λ⟨hN,h⟩=>⟨hN,λv hv=>?_⟩⟩⟩
 ·unfold Zs;simp only[Gl,G7 D,dg,Bool.not_true,UB,h1,c1]
 ·have h0:f 0=0:=Nat.le_zero.1 (h3.le 0 hN);have:=h3.rch v hv;rw[h v hv,h0]at this;exact this
 have key:∀ z,Rch E 0 z->f z=f 0:=λz hz=>by
  induction hz with
  |nil=>rfl
  |snoc _ hj ih=>rw[<- ih];exact(h4 _ _ _ hj).symm
 exact key v (h v hv)
end
theorem vq(N:Int)(E:List Arw):∃ c,Zad ((N,E,()),())=some (c,())/\(c≠0->Zbv ((N,E,()),())=some (((0,[],[],()),0,[],()),0,c,())):=by
 obtain⟨l,hM⟩:=vZ N E;unfold Zad Zbv;simp only[DW,dg,hM];by_cases h0:l7 N E=0
 ·obtain⟨n,rfl,D⟩:=Dg.of_plain h0;obtain⟨C,c1,c2⟩:=E7 D;obtain⟨b,b1,b2⟩:=Ca D;rw[h0];simp only[show neI (0:Int) 0=false from rfl,UB,c1,dg,cW (show(0:Int)=0 from rfl),UA,b1];cases b with
  |true=>have:C.length=1:=c2.2 (b2.1 rfl);refine⟨0,?_,λh=>absurd rfl h⟩;rw[this];rfl
  |false=>
   have hC:C.length≠1:=λh=>by have:=b2.2 (c2.1 h);cases this
   refine⟨12,?_,λ_=>rfl⟩;rw[show neI ((C.length:Nat):Int) 1=true by simp[neI];omega,UA]
 refine⟨l7 N E,?_,λ_=>?_⟩
 ·rw[show neI (l7 N E) 0=true by simp[neI,h0],UA]
 rw[show neI (l7 N E) 0=true by simp[neI,h0],bN h0];rfl
end Go.Vm

/-
 Depth-first search: every visit ends.
-/
import Derived.Test.YtganppkchbnikaaGreatDoorL34D
open Option renaming bind_some->dg
open List renaming getElem?_eq_getElem->A1,append_nil->Jz
set_option linter.unusedVariables false
set_option linter.unusedSimpArgs false
namespace Go.Vm
set_option maxRecDepth 100000
attribute [local irreducible] aa
section
variable {N:Nat}{E:List (Int×Int×Unit)}{A:List (List Int)}{anc:Nat->Prop}{via:Int}{f:Nat->Nat}{cnt:Nat}{low st:List Int}{bl:List (List Int)}{v n:Nat}{num l:List Int}{gg:SrD×Int×Int×Unit->Option (SrD×Unit)}
theorem Lp.first (H:Hyp N E A anc via v f cnt st bl l n)(hnum:NumT N num f)(hlow:low.length=N) :
  Lp N E anc v f cnt low st bl l 0 (upd f v (cnt+1)) (num.set v ((cnt+1:Nat):Int)) (low.set v ((cnt+1:Nat):Int)) (cnt+1) [] []:=by
 have self:upd f v (cnt+1) v=cnt+1:=by simp[upd]
 have oth:∀ u,u≠v->upd f v (cnt+1) u=f u:=λu h=>by simp[upd,h]
 have ne:∀ u,f u≠0->u≠v:=λu hu e=>hu (e▸H.f0);have pos:∀ u,f u≠0->upd f v (cnt+1) u≠0:=λu hu=>by rw[oth u (ne u hu)];exact hu
 refine⟨hnum.set H.hv,by simp[hlow],λu hu=>oth u (ne u hu),λu hu=>List.getElem?_set_ne (Ne.symm (ne u hu)),λu hu=>?_,self,⟨λu=>?_,λu u' h1 h2=>?_,?_,λu hu ha e w hj=>?_,λu hu=>?_,λe he=>?_,by simpa using H.vis.nod,by simpa using H.vis.blk⟩,⟨cnt+1,List.getElem?_set_self (by rw[hlow];exact H.hv),?_⟩,λj hj=>absurd hj (Nat.not_lt_zero _),λe he=>by simp at he⟩
 ·by_cases e:u=v
  ·subst e;rw[self];exact .inr (by omega)
  rw[oth u e];exact .inl hu
 ·by_cases e:u=v
  ·subst e;rw[self];exact Nat.le_refl _
  rw[oth u e];have:=H.vis.range u;omega
 ·by_cases e:u=v
  ·by_cases e':u'=v
   ·rw[e,e']
   rw[e,self,oth u' e']at h1;have:=H.vis.range u';omega
  by_cases e':u'=v
  ·rw[e',self,oth u e]at h1;have:=H.vis.range u;omega
  rw[oth u e,oth u' e']at h1;rw[oth u e]at h2;exact H.vis.inj u u' h1 h2
 ·have:=sK (k:=cnt+1) H.hv H.f0 (by omega);have:=H.vis.bound;omega
 ·by_cases e':u=v
  ·exact absurd (.inl e') ha
  rw[oth u e']at hu;exact pos w (H.vis.fin u hu (λh=>ha (.inr h)) e w hj)
 ·rcases hu with e|hu
  ·rw[e,self];omega
  exact pos u (H.vis.ancv u hu)
 ·have he:e∈st++bl.flatten:=by simpa using he
  obtain⟨p1,p2⟩:=H.vis.psh e he;refine⟨p1,λ_ u w hj=>?_⟩;by_cases hvia:e=via
  ·subst hvia;rcases H.hvia u w hj with h|h
   ·rw[h,self];omega
   exact pos u h
  exact pos u (p2 hvia u w hj)
 have:=Rst.start (J:=Jn E) (num:=upd f v (cnt+1)) (v:=v) (c:=cnt+1) (anc:=anc) self (λz hz=>by
  have h1:=H.vis.ancv z hz;rw[self,oth z (ne z h1)];have:=H.vis.range z;omega)
 rw[self]at this;exact this
theorem Lp.last{fi:Nat->Nat}{numi lowi Ti:List Int}{ci:Nat}{Bi:List (List Int)}(H:Hyp N E A anc via v f cnt st bl l n)(L:Lp N E anc v f cnt low st bl l l.length fi numi lowi ci Ti Bi):Out N E anc v f cnt low st bl fi lowi ci Ti Bi:=by
 have hfv:fi v≠0:=by rw[L.k4];omega
 refine⟨L.k1,L.k2,L.k3,⟨L.vis.range,L.vis.inj,L.vis.bound,λu hu ha e w hj=>?_,λu hu=>L.vis.ancv u (.inr hu),L.vis.psh,L.vis.nod,L.vis.blk⟩,L.res,λe he=>?_,L.k4⟩
 ·by_cases e':u=v
  ·subst e';obtain⟨j,hj1,hj2⟩:=List.mem_iff_getElem.1 ((H.mem e).2 ⟨w,hj⟩);exact L.done j hj1 e ((A1 hj1).trans (congrArg some hj2)) w hj
  exact L.vis.fin u hu (by rintro(h|h);exact e' h;exact ha h) e w hj
 rcases L.src e he with⟨j,_,h2⟩|⟨u,y,h1,h2⟩
 ·obtain⟨w,hw⟩:=(H.mem e).1 (List.mem_of_getElem? h2);exact⟨v,w,hw,H.f0,hfv⟩
 refine⟨u,y,h1,?_,by omega⟩;by_cases hu:f u=0
 ·exact hu
 rw[L.k1 u hu,L.k4]at h2;have:=H.vis.range u;omega
theorem wg(G:Gph N E A)(IH:oX N E A gg n):oX N E A (yB gg) (n+1):=by
 intro f num low cnt st bl v via anc hnum hlow hV hv h0 hvia hu;obtain⟨l,hl,hnod,hmem⟩:=G.at' v hv;have H:Hyp N E A anc via v f cnt st bl l n:=⟨G,hV,hv,h0,hvia,hu,hnod,hmem⟩;have hN:=G.n;have hcb:=hV.bound;have hloop:=aI (f:=fk gg)
  (λs=>∃ i fi numi lowi ci Ti Bi,i<=l.length/\s=stV E A v via l ((ci:Nat):Int) numi lowi (st++Ti) (bl++Bi) i/\Lp N E anc v f cnt low st bl l i fi numi lowi ci Ti Bi)
  (λs=>(s.2.2.2.2.2.2.2.2.2.1-s.2.2.2.2.2.2.2.2.2.2.1).toNat)
  (λr=>∃ fi numi lowi ci Ti Bi,r=.inl ((E,A,()),((ci:Nat):Int),numi,lowi,st++Ti,bl++Bi,())/\Lp N E anc v f cnt low st bl l l.length fi numi lowi ci Ti Bi)
  (by
   rintro s ⟨i,fi,numi,lowi,ci,Ti,Bi,hi,rfl,L⟩;by_cases hil:i<l.length
   ·obtain⟨fi',numi',lowi',ci',Ti',Bi',h1,h2⟩:=Lp.step H IH hil L;refine .inl ⟨_,h1,⟨i+1,fi',numi',lowi',ci',Ti',Bi',by omega,rfl,h2⟩,?_⟩;show(((l.length:Nat):Int)-((i+1:Nat):Int)).toNat<(((l.length:Nat):Int)-((i:Nat):Int)).toNat;omega
   have:i=l.length:=by omega
   subst this;exact .inr ⟨_,Ho,fi,numi,lowi,ci,Ti,Bi,rfl,L⟩)
  _ ⟨0,_,_,_,_,_,_,Nat.zero_le _,rfl,Lp.first H hnum hlow⟩
 obtain⟨r,hr,fi,numi,lowi,ci,Ti,Bi,rfl,L⟩:=hloop;refine⟨fi,numi,lowi,ci,Ti,Bi,?_,L.num,L.lowl,L.last H⟩;have hlv:∃ y,low[v]?=some y:=⟨_,A1 (by rw[hlow];exact hv)⟩;obtain⟨y,hy⟩:=hlv;have he:Zr ((E,A,()),(v:Int),())=some (l,()):=by unfold Zr;simp only[ax,hl,dg]
 unfold yB ws;simp only[ae (show v<num.length by rw[hnum.len];exact hv),ae (show v<low.length by rw[hlow];exact hv),dg,hnum.at' v hv,hy,he,bv (show cnt<9223372036854775807 by omega)];unfold stV at hr;rw[Jz,Jz]at hr;exact(congrArg (λo=>Option.bind o _) hr).trans rfl
theorem tE(G:Gph N E A):∀ n,oX N E A (rt n) n
 |0=>by intro f num low cnt st bl v via anc _ _ _ hv h0 _ hu;have:=sK (k:=1) hv h0 (by omega);omega
 |n+1=>wg G (tE G n)
end
end Go.Vm

/-
 A piece of a block has two ends; its path; the faces into which it fits.
-/
import Derived.Test.YtganppkchbnikaaGreatDoorL34N
open Option renaming bind_some->dg,bind->Jo
open List renaming getElem?_eq_getElem->A1,mem_singleton->B4,length_nil->JB,exists_mem_of_ne_nil->K9
open Sum renaming elim->A9,elim_inl->Ke
open Int renaming le_refl->JO
open Bool renaming not_true->J4,not_false->J6
set_option linter.unusedVariables false
set_option linter.unusedSimpArgs false
namespace Go.Vm
set_option maxRecDepth 100000
attribute [local irreducible] aa
section
variable {ε:Type}{J:ε->Nat->Nat->Prop}{B:List ε}{N v:Nat}{nb:Nat->List Nat}{inn:List Bool}{en ins:List Nat}
theorem Cmp.leave(hC:Cmp N nb inn v en ins)(hB:∀ x y,y∈nb x↔∃ e∈B,J e x y){P:Nat->Prop}{x t:Nat}(h:Way J B P x t)(hx:x∈ins)(ht:inn[t]?=some true):∃ y∈en,P y:=by
 induction h with
 |nil _=>exact absurd ht (hC.lt _ hx).2
 | @cons x y w e he hj hp rest ih=>
  have hy:y∈nb x:=(hB x y).2 ⟨e,he,hj⟩;obtain⟨a1,a2⟩:=hC.acc x hx y hy;by_cases hi:inn[y]?=some true
  ·exact⟨y,a1 hi,rest.fst⟩
  exact ih (a2 hi) ht
theorem Cmp.two(hJ:∀ e u v,J e u v->J e v u)(hF:Firm J B)(hC:Cmp N nb inn v en ins)(hB:∀ x y,y∈nb x↔∃ e∈B,J e x y)(hv:nb v≠[]){p q:Nat}(hp:inn[p]?=some true)(hq:inn[q]?=some true)(hpq:p≠q)(tp:nb p≠[])(tq:nb q≠[]):∃ e0 R,en=e0::R/\∃ w∈en,w≠e0:=by
 obtain⟨y1,hy1⟩:=K9 _ hv;obtain⟨y2,hy2⟩:=K9 _ tp;obtain⟨y3,hy3⟩:=K9 _ tq;obtain⟨f1,hf1,g1⟩:=(hB _ _).1 hy1;obtain⟨f2,hf2,g2⟩:=(hB _ _).1 hy2;obtain⟨f3,hf3,g3⟩:=(hB _ _).1 hy3;obtain⟨y,hy,_⟩:=hC.leave hB (hF (v+p+1) f1 v y1 f2 p y2 hf1 g1 hf2 g2 (by omega) (by omega)) hC.vm hp;cases en with
 |nil=>cases hy
 |cons e0 R=>
  refine⟨e0,R,rfl,?_⟩;have he0:=hC.enp e0 (by simp);have hve:v≠e0:=λh=>(hC.lt v hC.vm).2 (h▸he0.2.1);by_cases h0:p=e0
  ·exact hC.leave hB (hF e0 f1 v y1 f3 q y3 hf1 g1 hf3 g3 hve (λh=>hpq (h0.trans h.symm))) hC.vm hq
  exact hC.leave hB (hF e0 f1 v y1 f2 p y2 hf1 g1 hf2 g2 hve h0) hC.vm hp
end
section
variable {N v:Nat}{near fc:List (List Int)}{inn:List Bool}{dr:List (List Bool)}{nb:Nat->List Nat}{en ins:List Nat}
structure Pth (N:Nat)(dr:List (List Bool))(en P:List Nat):Prop where
 fst:∃ a s,P[0]?=some a/\P[1]?=some s/\a∈en/\a<N/\s<N/\¬Dr dr a s
 lst:∃ y,P.getLast?=some y/\y∈en
 len:2<=P.length/\P.length<=N+2
 lt:∀ z∈P,z<N
theorem A0 (hN:N<=64)(R:Nr N near nb)(hi:inn.length=N)(hsym:∀ x y,x < N->y∈nb x->x∈nb y)(hdi:∀ x y,Dr dr x y->inn[y]?=some true)(hC:Cmp N nb inn v en ins){e0:Nat}{R0:List Nat}(he:en=e0 :: R0){w:Nat}(hw:w∈en)(hwe:w≠e0) :
  ∃ P,Zal (cG N near fc inn dr,(nl en,nl ins,()),())=some (nl P,cG N near fc inn dr,())/\Pth N dr en P:=by
 have he0:=hC.enp e0 (by rw[he];simp);have l1:=dZ hC.nod λx hx=>(hC.lt x hx).1;have l2:=dZ hC.enod λx hx=>(hC.enp x hx).1;have hins:0<ins.length:=List.length_pos_of_mem hC.vm;have h0:(nl en)[0]?=some ((e0:Nat):Int):=aX (by rw[he];rfl);have red:∀ P,Zb (((N:Int),near,inn,dr,fc,()),(e0:Int),((nl en,nl ins,()),()),(((N:Int),near,inn,dr,fc,()),(nl en,nl ins,()),()),((nl en,nl ins,()),()),())=some (nl P,())->Zal (cG N near fc inn dr,(nl en,nl ins,()),())=some (nl P,cG N near fc inn dr,()):=λP h=>by unfold Zal;simp only[aQ,bN (show((ins.length:Nat):Int)≠0 by omega),UB];rw[show(0:Int)=((0:Nat):Int)from rfl,ax,h0,dg,h,dg]
 rcases G5 (fc:=fc) (dr:=dr) (en:=en) (ins:=ins) hN R he0.1 hi (by omega) (by omega)with⟨P,h1,h2⟩|⟨_,Q,⟨F,hQ⟩,hL⟩
 ·refine⟨P,red P h1,?_,?_,h2.len,h2.lt⟩
  ·obtain⟨s,hs,hse⟩:=h2.snd;have hsi:s∈ins:=of_decide_eq_true hse;exact⟨e0,s,h2.fst,hs,by rw[he];simp,he0.1,(hC.lt s hsi).1,λhD=>(hC.lt s hsi).2 (hdi _ _ hD)⟩
  obtain⟨y,hy,hg,_⟩:=h2.lst;rw[Bool.and_eq_true]at hg;exact⟨y,hy,of_decide_eq_true hg.2⟩
 exfalso;have hins:∀ x∈Q,x=e0\/x∈ins:=λx hx=>by
  obtain⟨k,hk⟩:=List.mem_iff_getElem?.1 hx;cases k with
  |zero=>rw[hQ.u0]at hk;cases hk;exact .inl rfl
  |succ k=>obtain⟨_,_,_,_,_,hp,_⟩:=hQ.par (k+1) x (by omega) hk;exact .inr (of_decide_eq_true hp)
 have hne:∀ x∈ins,x≠e0:=λx hx h=>(hC.lt x hx).2 (h▸he0.2.1);have hstep:∀ x∈Q,∀ y∈nb x,y∈ins->y∈Q:=λx hx y hy hyi=>by
  rcases hL x hx y hy with h|h|⟨_,h⟩|⟨_,h⟩
  ·exact absurd h (hne y hyi)
  ·exact h
  ·exact absurd hyi (of_decide_eq_false h)
  exact absurd hyi (of_decide_eq_false h)
 have hall:∀ z,Cn nb ins v z->(v∈Q↔z∈Q):=λz hz=>by
  induction hz with
  |nil _=>exact Iff.rfl
  | @snoc x y hc hxy hyi ih=>
   have hxi:x∈ins:=by cases hc<;>assumption
   refine ih.trans ⟨λh=>hstep x h y hxy hyi,λh=>hstep y h x (hsym x y (hC.lt x hxi).1 hxy) hxi⟩
 obtain⟨x,hx,hxe⟩:=he0.2.2;have hxQ:x∈Q:=hstep e0 (List.mem_of_getElem? hQ.u0) x (hsym x e0 (hC.lt x hx).1 hxe) hx;have hvQ:v∈Q:=(hall x (hC.cn x hx)).2 hxQ;obtain⟨hwN,hwi,x',hx',hxw⟩:=hC.enp w hw;have hxQ':x'∈Q:=(hall x' (hC.cn x' hx')).1 hvQ;rcases hL x' hxQ' w hxw with h|h|⟨h,_⟩|⟨h,_⟩
 ·exact hwe h
 ·rcases hins w h with h|h
  ·exact hwe h
  exact(hC.lt w h).2 hwi
 ·exact hne x' hx' h
 simp[hwi,hw]at h
theorem zR {a b:Nat}(ha:a < N)(hb:b < N)(hd:¬ Dr dr a b) :
  ∃ P,Zal (cG N near fc inn dr,(nl [a,b],nl [],()),())=some (nl P,cG N near fc inn dr,())/\Pth N dr [a,b] P:=by
 refine⟨[a,b],?_,⟨a,b,rfl,rfl,by simp,ha,hb,hd⟩,⟨b,rfl,by simp⟩,⟨by simp,by simp⟩,λz hz=>?_⟩
 ·unfold Zal;simp only[aQ,JB,cW (show((0:Nat):Int)=0 by omega),UA]
 rcases List.mem_cons.1 hz with rfl|hz
 ·exact ha
 rw[B4]at hz;subst hz;exact hb
def Onf(fc:List (List Int))(en:List Nat)(i:Nat):Prop:=∃ f,fc[i]?=some f/\∀ y∈en,(y:Int)∈f
theorem Gv(en:List Nat)(f:List Int)(hl:en.length<=1000)(hf:f.length<=68719476736):Zc (nl en,(f,()),())=some (true,())\/(Zc (nl en,(f,()),())=some (false,())/\∀ y∈en,(y:Int)∈f):=by
 obtain⟨r,hr,hq⟩:=aI (f:=rE)
  (λs=>∃ n:Nat,n<=en.length/\s=(nl en,(f,()),((en.length:Nat):Int),(n:Int),())/\∀ j y,j<n->en[j]?=some y->(y:Int)∈f) (λs=>(s.2.2.1-s.2.2.2.1).toNat)
  (λr=>(∃ n:Nat,r=.inl ((n:Int),()))\/(r=.inr (.inl ())/\∀ y∈en,(y:Int)∈f))
  (by
   rintro s ⟨n,hn,rfl,h1⟩;by_cases hlt:n<en.length
   ·have hy:en[n]?=some en[n]:=A1 hlt;generalize en[n]=y at hy;by_cases hm:(y:Int)∈f
    ·refine .inl ⟨(nl en,(f,()),((en.length:Nat):Int),((n+1:Nat):Int),()),?_,⟨n+1,by omega,rfl,λj z hj hz=>?_⟩,?_⟩
     ·unfold rE Zp;simp only[aC (show(n:Int)<(en.length:Nat) by omega),UA,ax,aX hy,dg,eP f (y:Int) hf,hm,decide_true,J4,UB,bv (show n<9223372036854775807 by omega)]
     ·by_cases hjn:j=n
      ·subst hjn;rw[hy]at hz;cases hz;exact hm
      exact h1 j z (by omega) hz
     show(((en.length:Nat):Int)-((n+1:Nat):Int)).toNat<(((en.length:Nat):Int)-((n:Nat):Int)).toNat;omega
    refine .inr ⟨_,?_,.inl ⟨n,rfl⟩⟩;unfold rE Zp;simp only[aC (show(n:Int)<(en.length:Nat) by omega),UA,ax,aX hy,dg,eP f (y:Int) hf,hm,decide_false,J6]
   have:n=en.length:=by omega
   subst this;refine .inr ⟨_,?_,.inr ⟨rfl,λy hy=>?_⟩⟩
   ·unfold rE;simp only[bi (JO _),UB]
   obtain⟨j,h2,h3⟩:=List.mem_iff_getElem.1 hy;exact h1 j y h2 ((A1 h2).trans (congrArg some h3)))
  (nl en,(f,()),((en.length:Nat):Int),((0:Nat):Int),())
  ⟨0,by omega,rfl,λj y hj=>absurd hj (Nat.not_lt_zero _)⟩
 have key:Zf (nl en,(f,()),())=(some r:Option _).bind (A9 (λz2=>some (z2.1,())) (A9 (λz3=>some ((-1),())) (λ_=>none))):=by unfold Zf Dn;simp only[aQ];exact congrArg (λo=>Jo o _) hr
 unfold Zc;simp only[key];rcases hq with⟨n,rfl⟩|⟨rfl,h⟩
 ·left;simp only[dg,Ke,oE (show(0:Int)<=(n:Int) by omega)]
 right;refine⟨?_,h⟩;simp only[dg,Sum.elim_inr,Ke,gm (show(-1:Int)<0 by omega)]
theorem uZ(en ins:List Nat)(hl:en.length<=1000)(hf:∀ f∈fc,f.length<=68719476736)(hfc:fc.length<=68719476736):∃ l:List Nat,Zv (cG N near fc inn dr,(nl en,nl ins,()),())=some (nl l,())/\∀ i∈l,Onf fc en i:=by
 obtain⟨r,hr,l,rfl,hq⟩:=aI (f:=rJ)
  (λs=>∃(n:Nat) (l:List Nat),n<=fc.length/\s=(nl en,nl ins,nl l,fc,((fc.length:Nat):Int),(n:Int),())/\l.length<=n/\∀ i∈l,Onf fc en i) (λs=>(s.2.2.2.2.1-s.2.2.2.2.2.1).toNat)
  (λr=>∃ l:List Nat,r=.inl (nl l,())/\∀ i∈l,Onf fc en i)
  (by
   rintro s ⟨n,l,hn,rfl,h1,h2⟩;by_cases hlt:n<fc.length
   ·left;have hy:fc[n]?=some fc[n]:=A1 hlt;have hym:fc[n]∈fc:=List.getElem_mem hlt;generalize fc[n]=f at hy hym;have dec:(((fc.length:Nat):Int)-((n+1:Nat):Int)).toNat<(((fc.length:Nat):Int)-((n:Nat):Int)).toNat:=by omega
    rcases Gv en f hl (hf f hym)with h|⟨h,ha⟩
    ·refine⟨(nl en,nl ins,nl l,fc,((fc.length:Nat):Int),((n+1:Nat):Int),()),?_,⟨n+1,l,by omega,rfl,by omega,h2⟩,dec⟩;unfold rJ;simp only[aC (show(n:Int)<(fc.length:Nat) by omega),UA,ax,hy,dg,h,J4,UB,bv (show n<9223372036854775807 by omega)]
    refine⟨(nl en,nl ins,nl (l++[n]),fc,((fc.length:Nat):Int),((n+1:Nat):Int),()),?_,⟨n+1,l++[n],by omega,rfl,by simp;omega,λi hi=>?_⟩,dec⟩
    ·unfold rJ;simp only[aC (show(n:Int)<(fc.length:Nat) by omega),UA,ax,hy,dg,h,J6,bv (show n<9223372036854775807 by omega),bx (show(nl l).length+[(n:Int)].length<=68719476736 by rw[aQ];simp only[List.length_cons,JB];omega),gj];rfl
    rcases List.mem_append.1 hi with hi|hi
    ·exact h2 i hi
    rw[B4]at hi;subst hi;exact⟨f,hy,ha⟩
   have:n=fc.length:=by omega
   subst this;refine .inr ⟨_,?_,l,rfl,h2⟩;unfold rJ;simp only[bi (JO _),UB])
  (nl en,nl ins,nl [],fc,((fc.length:Nat):Int),((0:Nat):Int),())
  ⟨0,[],by omega,rfl,by simp,λi hi=>absurd hi (by simp)⟩
 refine⟨l,?_,hq⟩;unfold Zv CY;exact(congrArg (λo=>Jo o _) hr).trans rfl
end
end Go.Vm

/-
 The two searches of the planarity test are searches by breadth.
-/
import Derived.Test.YtganppkchbnikaaGreatDoorL34I
open Option renaming bind_some->dg,bind->Jo
open List renaming getElem?_eq_getElem->A1,getElem?_eq_some_iff->A2,replicate->A5,length_cons->B6,getElem?_set_ne->Js,getElem?_set_self->Jx,length_nil->JB,length_replicate->J8
open Sum renaming elim->A9,elim_inl->Ke,elim_inr->Ma
open Nat renaming le_refl->B2,not_lt_zero->Kr,zero_le->K0
open Int renaming le_refl->JO
open Bool renaming not_true->J4,not_false->J6
set_option linter.unusedVariables false
set_option linter.unusedSimpArgs false
namespace Go.Vm
set_option maxRecDepth 100000
attribute [local irreducible] aa
abbrev BlkD:=Int×List (List Int)×List Bool×List (List Bool)×List (List Int)×Unit
section
variable {N u:Nat}{near fc:List (List Int)}{inn:List Bool}{dr:List (List Bool)}{nb:Nat->List Nat}
structure Nr (N:Nat)(near:List (List Int))(nb:Nat->List Nat):Prop where
 at':∀ x,x<N->near[x]?=some (nl (nb x))
 len:∀ x,(nb x).length<=1000
 lt:∀ x,x<N->∀ y∈nb x,y<N
theorem Bfs.first{enter pass:Nat->Bool}{F:List Int}(hl:F.length=N)(hF:∀ y,y<N->F[y]?=some (-1))(hu:u<N):Bfs N u enter pass F [u]:=by
 refine⟨hl,rfl,by simp,by simp[hu],λy hy _=>hF y hy,λk y hk hy=>?_⟩;cases k with
 |zero=>omega
 |succ k=>cases hy
section
variable {v:Nat}
abbrev Db(N u:Nat)(near fc:List (List Int))(inn:List Bool)(dr:List (List Bool))(nb:Nat->List Nat)(v:Nat)(F:List Int)(Q:List Nat)(h x m:Nat):List Int×List Int×BlkD×Int×(Int×Unit)×(Int×Unit)×(Int×Unit)×Int×Int×List Int×Int×Int×Unit:=
 (F,nl Q,((N:Int),near,inn,dr,fc,()),(u:Int),((v:Int),()),((v:Int),()),((v:Int),()),(h:Int),(x:Int),nl (nb x),(((nb x).length:Nat):Int),(m:Int),())
abbrev AV(N u:Nat)(near fc:List (List Int))(inn:List Bool)(dr:List (List Bool))(v:Nat)(F:List Int)(Q:List Nat)(h:Nat):List Int×List Int×BlkD×Int×(Int×Unit)×(Int×Unit)×(Int×Unit)×Int×Unit:=
 (F,nl Q,((N:Int),near,inn,dr,fc,()),(u:Int),((v:Int),()),((v:Int),()),((v:Int),()),(h:Int),())
theorem He(hN:N<=64)(R:Nr N near nb)  : Sm N u nb (λy=>neI (y:Int) (v:Int)) (λy=>eqI (y:Int) (v:Int)) (λy=>neI (y:Int) (v:Int)) iN (Db N u near fc inn dr nb v) pV (AV N u near fc inn dr v):=by
 have hc1:∀ y,y<N->Zt ((y:Int),(v:Int),())=some (neI (y:Int) (v:Int),()):=λ_ _=>rfl;have hc2:∀ y,y<N->Zu ((y:Int),(v:Int),())=some (eqI (y:Int) (v:Int),()):=λ_ _=>rfl;have hc3:∀ y,y<N->Zw ((y:Int),(v:Int),())=some (neI (y:Int) (v:Int),()):=λ_ _=>rfl;have lt:∀{x m y:Nat},(nb x)[m]?=some y->(m:Int)<((nb x).length:Nat):=λh=>by have:=(A2.1 h).1;omega
 have inc:∀{x m y:Nat},(nb x)[m]?=some y->ap .i64 (m:Int) 1=((m+1:Nat):Int):=fun {x m y} h=>bv (by
  have:=(A2.1 h).1;have:=R.len x;omega)
 have fl:∀{F:List Int} {y:Nat} {c:Int},F[y]?=some c->y<F.length:=λh=>(A2.1 h).1;refine⟨R.lt,λF Q h x=>?_,λF Q h x m hm=>?_,λF Q h x m y c hm hy hF=>?_,λF Q h m y hm hyN hy hF he=>?_,λF Q h x m y p hm hy hF he hg hyN hp hpl=>?_,λF Q h x m y hm hy hF he hg hps hyN hQ=>?_,λF Q h x m y hm hy hF he hg hps hyN=>?_,λF Q h x z hx hxN hz=>?_,λF Q h x F' Q' hx hxN hh hz=>?_,λF Q=>?_⟩
 ·unfold iN;simp only[bi (JO _),UB]
 ·unfold iN;simp only[aC (lt hm),UA,ax,aX hm,dg,cW (rfl:(u:Int)=u),inc hm]
 ·unfold iN;simp only[aC (lt hm),UA,UB,ax,aX hm,dg,bN (show(y:Int)≠(u:Int) by omega),ae (fl hF),hF,oE (show(0:Int)<=(c:Int) by omega),inc hm]
 ·skip
  unfold iN;simp only[aC (lt hm),UA,UB,ax,aX hm,dg,bN (show(y:Int)≠(u:Int) by omega),ae (fl hF),hF,gm (show(-1:Int)<0 by omega),cW (rfl:(u:Int)=u),hc3 y hyN,he,J6,inc hm]
 ·have goalStep:∀ t:Option ((List Int×List Int×BlkD×Int×(Int×Unit)×(Int×Unit)×(Int×Unit)×Int×Int×List Int×Int×Int×Unit)⊕((List Int×Unit)⊕((List Int×List Int×BlkD×Int×(Int×Unit)×(Int×Unit)×(Int×Unit)×Int×Unit)⊕Empty))),(sr (F,[(y:Int),(x:Int)],(u:Int),(x:Int),())).bind (A9 (λz7=>(Zam (z7.1,())).bind λr8=>some (.inr (.inl (r8.1,())))) (λ_=>none))=t->t=some (.inr (.inl (nl p.reverse,()))):=by rintro t rfl;have h1:sr (F,[(y:Int),(x:Int)],(u:Int),(x:Int),())=some (.inl (nl p,())):=hp;rw[h1];simp only[dg,Ke,sI (nl p) (by rw[aQ];omega),DV]
  unfold iN;simp only[aC (lt hm),UA,UB,ax,aX hm,dg,bN (show(y:Int)≠(u:Int) by omega),ae (fl hF),hF,gm (show(-1:Int)<0 by omega),hc2 y hyN,hg];by_cases hxu:x=u
  ·simp only[cW (show(x:Int)=(u:Int) by omega),UA,hc3 y hyN,he hxu,dg,J4,J6,UB];exact goalStep _ rfl
  simp only[bN (show(x:Int)≠(u:Int) by omega),UB];exact goalStep _ rfl
 ·have e1:app (nl Q) [(y:Int)]=some (nl (Q++[y])):=by rw[bx (by rw[aQ];simp only[B6,JB];omega),gj];rfl
  unfold iN;simp only[aC (lt hm),UA,UB,ax,aX hm,dg,bN (show(y:Int)≠(u:Int) by omega),ae (fl hF),hF,gm (show(-1:Int)<0 by omega),hc2 y hyN,hg,hc1 y hyN,hps,e1,inc hm];by_cases hxu:x=u
  ·simp only[cW (show(x:Int)=(u:Int) by omega),UA,hc3 y hyN,he hxu,dg,J4,J6,UB]
  simp only[bN (show(x:Int)≠(u:Int) by omega),UB]
 ·unfold iN;simp only[aC (lt hm),UA,UB,ax,aX hm,dg,bN (show(y:Int)≠(u:Int) by omega),ae (fl hF),hF,gm (show(-1:Int)<0 by omega),hc2 y hyN,hg,hc1 y hyN,hps,inc hm];by_cases hxu:x=u
  ·simp only[cW (show(x:Int)=(u:Int) by omega),UA,hc3 y hyN,he hxu,dg,J4,J6,UB]
  simp only[bN (show(x:Int)≠(u:Int) by omega),UB]
 ·have hl:=(A2.1 hx).1;have hz':sP (Db N u near fc inn dr nb v F Q h x 0)=some (.inl (z,())):=hz;unfold pV;simp only[aC (show(h:Int)<(Q.length:Nat) by omega),UA,ae hl,dg,aX hx,ax,R.at' x hxN,aQ];exact(congrArg (λo=>Jo o _) hz').trans rfl
 ·have hl:=(A2.1 hx).1;have hz':sP (Db N u near fc inn dr nb v F Q h x 0)=some (.inr (.inl (AV N u near fc inn dr v F' Q' h))):=hz;unfold pV;simp only[aC (show(h:Int)<(Q.length:Nat) by omega),UA,ae hl,dg,aX hx,ax,R.at' x hxN,aQ];refine(congrArg (λo=>Jo o _) hz').trans ?_;simp only[dg,Ke,Ma,bv (show h<9223372036854775807 by omega)]
 unfold pV;simp only[aQ,bi (JO _),UB]
theorem GL (hN:N<=64)(R:Nr N near nb)(hu:u < N)  : (∃ P,Za (((N:Int),near,inn,dr,fc,()),(u:Int),((v:Int),()),((v:Int),()),((v:Int),()),())=some (nl P,())/\Fnd N u (fun y=>neI (y:Int) (v:Int)) (fun y=>eqI (y:Int) (v:Int)) P) \/
  Za (((N:Int),near,inn,dr,fc,()),(u:Int),((v:Int),()),((v:Int),()),((v:Int),()),())=some ([],())/\∃ Q,(∃ F,Bfs N u (λy=>neI (y:Int) (v:Int)) (λy=>neI (y:Int) (v:Int)) F Q)/\∀ x∈Q,∀ y∈nb x,Lkd u (λy=>neI (y:Int) (v:Int)) (λy=>eqI (y:Int) (v:Int)) (λy=>neI (y:Int) (v:Int)) Q x y:=by
 obtain⟨r,hr,F,rfl,hF1,hF2⟩:=aI (f:=ur)
  (λs=>∃(i:Nat) (F:List Int),i<=N/\s=(F,((N:Int),near,inn,dr,fc,()),(u:Int),((v:Int),()),((v:Int),()),((v:Int),()),(N:Int),(i:Int),())/\F.length=N/\∀ y,y<i->F[y]?=some (-1)) (λs=>(s.2.2.2.2.2.2.1-s.2.2.2.2.2.2.2.1).toNat)
  (λr=>∃ F:List Int,r=.inl (F,((N:Int),near,inn,dr,fc,()),(u:Int),((v:Int),()),((v:Int),()),((v:Int),()),())/\F.length=N/\∀ y,y<N->F[y]?=some (-1))
  (by
   rintro s ⟨i,F,hi,rfl,h1,h2⟩;by_cases hlt:i<N
   ·refine .inl ⟨(F.set i (-1),((N:Int),near,inn,dr,fc,()),(u:Int),((v:Int),()),((v:Int),()),((v:Int),()),(N:Int),((i+1:Nat):Int),()),?_,⟨i+1,F.set i (-1),by omega,rfl,by simp[h1],λy hy=>?_⟩,?_⟩
    ·obtain⟨c,hc⟩:∃ c,F[i]?=some c:=⟨_,A1 (by omega)⟩;unfold ur;simp only[aC (show(i:Int)<(N:Int) by omega),UA,ae (show i<F.length by omega),dg,hc,bv (show i<9223372036854775807 by omega)]
    ·by_cases e:y=i
     ·subst e;exact Jx (by omega)
     rw[Js (Ne.symm e)];exact h2 y (by omega)
    show((N:Int)-((i+1:Nat):Int)).toNat<((N:Int)-((i:Nat):Int)).toNat;omega
   have:i=N:=by omega
   subst this;refine .inr ⟨_,?_,F,rfl,h1,h2⟩;unfold ur;simp only[bi (JO _),UB])
  _ ⟨0,A5 N 0,K0 _,rfl,by simp,λy hy=>absurd hy (Kr _)⟩
 have hmk:bG I (N:Int) (N:Int)=some (A5 N 0):=cy (e:=I) (B2 N) (by omega);have start:Za (((N:Int),near,inn,dr,fc,()),(u:Int),((v:Int),()),((v:Int),()),((v:Int),()),())=(aa pV (AV N u near fc inn dr v F [u] 0)).bind (A9 (λz5=>some (z5.1,())) (A9 (λz6=>some ([],())) (λ_=>none))):=by unfold Za;simp only[hmk,dg,J8];refine(congrArg (λo=>Jo o _) hr).trans ?_;rfl
 rcases(He (u:=u) hN R ).all (by omega) _ 0 F [u] (B2 _) (K0 _) (Bfs.first hF1 hF2 hu) (λj x hj=>absurd hj (Kr _))with⟨P,p1,p2⟩|⟨Q,q1,q2,q3⟩
 ·exact .inl ⟨P,by rw[start,p1];rfl,p2⟩
 exact .inr ⟨by rw[start,q1];rfl,Q,q2,q3⟩
end
section
variable {en ins:List Nat}
abbrev Dy(N u:Nat)(near fc:List (List Int))(inn:List Bool)(dr:List (List Bool))(nb:Nat->List Nat)(en ins:List Nat)(F:List Int)(Q:List Nat)(h x m:Nat):List Int×List Int×BlkD×Int×((List Int×List Int×Unit)×Unit)×(BlkD×(List Int×List Int×Unit)×Unit)×((List Int×List Int×Unit)×Unit)×Int×Int×List Int×Int×Int×Unit:=
 (F,nl Q,((N:Int),near,inn,dr,fc,()),(u:Int),((nl en,nl ins,()),()),(((N:Int),near,inn,dr,fc,()),(nl en,nl ins,()),()),((nl en,nl ins,()),()),(h:Int),(x:Int),nl (nb x),(((nb x).length:Nat):Int),(m:Int),())
abbrev Al(N u:Nat)(near fc:List (List Int))(inn:List Bool)(dr:List (List Bool))(en ins:List Nat)(F:List Int)(Q:List Nat)(h:Nat):List Int×List Int×BlkD×Int×((List Int×List Int×Unit)×Unit)×(BlkD×(List Int×List Int×Unit)×Unit)×((List Int×List Int×Unit)×Unit)×Int×Unit:=
 (F,nl Q,((N:Int),near,inn,dr,fc,()),(u:Int),((nl en,nl ins,()),()),(((N:Int),near,inn,dr,fc,()),(nl en,nl ins,()),()),((nl en,nl ins,()),()),(h:Int),())
theorem GF(hN:N<=64)(R:Nr N near nb)(hi:inn.length=N)(he1:en.length<=1000)(he2:ins.length<=1000):Sm N u nb (λy=>decide (y∈ins)) (λy=>(inn[y]?==some true)&&decide (y∈en)) (λy=>decide (y∈ins)) iW (Dy N u near fc inn dr nb en ins) qn (Al N u near fc inn dr en ins):=by
 have hc1:∀ y,y<N->Zaa ((y:Int),(nl en,nl ins,()),())=some (decide (y∈ins),()):=λy _=>by unfold Zaa;simp only[eP (nl ins) (y:Int) (by rw[aQ];omega),dg,sU]
 have hc2:∀ y,y<N->Zab ((y:Int),((N:Int),near,inn,dr,fc,()),(nl en,nl ins,()),())=some ((inn[y]?==some true)&&decide (y∈en),()):=λy hy=>by have hg:inn[y]?=some inn[y]:=A1 (by omega);generalize inn[y]=c at hg;unfold Zab;simp only[ax,hg,dg,eP (nl en) (y:Int) (by rw[aQ];omega),sU];cases c<;>simp
 have hc3:∀ y,y<N->Zaa ((y:Int),(nl en,nl ins,()),())=some (decide (y∈ins),()):=hc1;have lt:∀{x m y:Nat},(nb x)[m]?=some y->(m:Int)<((nb x).length:Nat):=λh=>by have:=(A2.1 h).1;omega
 have inc:∀{x m y:Nat},(nb x)[m]?=some y->ap .i64 (m:Int) 1=((m+1:Nat):Int):=fun {x m y} h=>bv (by
  have:=(A2.1 h).1;have:=R.len x;omega)
 have fl:∀{F:List Int} {y:Nat} {c:Int},F[y]?=some c->y<F.length:=λh=>(A2.1 h).1;refine⟨R.lt,λF Q h x=>?_,λF Q h x m hm=>?_,λF Q h x m y c hm hy hF=>?_,λF Q h m y hm hyN hy hF he=>?_,λF Q h x m y p hm hy hF he hg hyN hp hpl=>?_,λF Q h x m y hm hy hF he hg hps hyN hQ=>?_,λF Q h x m y hm hy hF he hg hps hyN=>?_,λF Q h x z hx hxN hz=>?_,λF Q h x F' Q' hx hxN hh hz=>?_,λF Q=>?_⟩
 ·unfold iW;simp only[bi (JO _),UB]
 ·unfold iW;simp only[aC (lt hm),UA,ax,aX hm,dg,cW (rfl:(u:Int)=u),inc hm]
 ·unfold iW;simp only[aC (lt hm),UA,UB,ax,aX hm,dg,bN (show(y:Int)≠(u:Int) by omega),ae (fl hF),hF,oE (show(0:Int)<=(c:Int) by omega),inc hm]
 ·skip
  unfold iW;simp only[aC (lt hm),UA,UB,ax,aX hm,dg,bN (show(y:Int)≠(u:Int) by omega),ae (fl hF),hF,gm (show(-1:Int)<0 by omega),cW (rfl:(u:Int)=u),hc3 y hyN,he,J6,inc hm]
 ·have goalStep:∀ t:Option ((List Int×List Int×BlkD×Int×((List Int×List Int×Unit)×Unit)×(BlkD×(List Int×List Int×Unit)×Unit)×((List Int×List Int×Unit)×Unit)×Int×Int×List Int×Int×Int×Unit)⊕((List Int×Unit)⊕((List Int×List Int×BlkD×Int×((List Int×List Int×Unit)×Unit)×(BlkD×(List Int×List Int×Unit)×Unit)×((List Int×List Int×Unit)×Unit)×Int×Unit)⊕Empty))),(rX (F,[(y:Int),(x:Int)],(u:Int),(x:Int),())).bind (A9 (λz7=>(Zam (z7.1,())).bind λr8=>some (.inr (.inl (r8.1,())))) (λ_=>none))=t->t=some (.inr (.inl (nl p.reverse,()))):=by rintro t rfl;have h1:rX (F,[(y:Int),(x:Int)],(u:Int),(x:Int),())=some (.inl (nl p,())):=hp;rw[h1];simp only[dg,Ke,sI (nl p) (by rw[aQ];omega),DV]
  unfold iW;simp only[aC (lt hm),UA,UB,ax,aX hm,dg,bN (show(y:Int)≠(u:Int) by omega),ae (fl hF),hF,gm (show(-1:Int)<0 by omega),hc2 y hyN,hg];by_cases hxu:x=u
  ·simp only[cW (show(x:Int)=(u:Int) by omega),UA,hc3 y hyN,he hxu,dg,J4,J6,UB];exact goalStep _ rfl
  simp only[bN (show(x:Int)≠(u:Int) by omega),UB];exact goalStep _ rfl
 ·have e1:app (nl Q) [(y:Int)]=some (nl (Q++[y])):=by rw[bx (by rw[aQ];simp only[B6,JB];omega),gj];rfl
  unfold iW;simp only[aC (lt hm),UA,UB,ax,aX hm,dg,bN (show(y:Int)≠(u:Int) by omega),ae (fl hF),hF,gm (show(-1:Int)<0 by omega),hc2 y hyN,hg,hc1 y hyN,hps,e1,inc hm];by_cases hxu:x=u
  ·simp only[cW (show(x:Int)=(u:Int) by omega),UA,hc3 y hyN,he hxu,dg,J4,J6,UB]
  simp only[bN (show(x:Int)≠(u:Int) by omega),UB]
 ·unfold iW;simp only[aC (lt hm),UA,UB,ax,aX hm,dg,bN (show(y:Int)≠(u:Int) by omega),ae (fl hF),hF,gm (show(-1:Int)<0 by omega),hc2 y hyN,hg,hc1 y hyN,hps,inc hm];by_cases hxu:x=u
  ·simp only[cW (show(x:Int)=(u:Int) by omega),UA,hc3 y hyN,he hxu,dg,J4,J6,UB]
  simp only[bN (show(x:Int)≠(u:Int) by omega),UB]
 ·have hl:=(A2.1 hx).1;have hz':sH (Dy N u near fc inn dr nb en ins F Q h x 0)=some (.inl (z,())):=hz;unfold qn;simp only[aC (show(h:Int)<(Q.length:Nat) by omega),UA,ae hl,dg,aX hx,ax,R.at' x hxN,aQ];exact(congrArg (λo=>Jo o _) hz').trans rfl
 ·have hl:=(A2.1 hx).1;have hz':sH (Dy N u near fc inn dr nb en ins F Q h x 0)=some (.inr (.inl (Al N u near fc inn dr en ins F' Q' h))):=hz;unfold qn;simp only[aC (show(h:Int)<(Q.length:Nat) by omega),UA,ae hl,dg,aX hx,ax,R.at' x hxN,aQ];refine(congrArg (λo=>Jo o _) hz').trans ?_;simp only[dg,Ke,Ma,bv (show h<9223372036854775807 by omega)]
 unfold qn;simp only[aQ,bi (JO _),UB]
theorem G5 (hN:N<=64)(R:Nr N near nb)(hu:u < N)(hi:inn.length=N)(he1:en.length<=1000)(he2:ins.length<=1000):(∃ P,Zb (((N:Int),near,inn,dr,fc,()),(u:Int),((nl en,nl ins,()),()),(((N:Int),near,inn,dr,fc,()),(nl en,nl ins,()),()),((nl en,nl ins,()),()),())=some (nl P,())/\Fnd N u (fun y=>decide (y∈ins)) (fun y=>(inn[y]? == some true) && decide (y∈en)) P) \/
  Zb (((N:Int),near,inn,dr,fc,()),(u:Int),((nl en,nl ins,()),()),(((N:Int),near,inn,dr,fc,()),(nl en,nl ins,()),()),((nl en,nl ins,()),()),())=some ([],())/\∃ Q,(∃ F,Bfs N u (λy=>decide (y∈ins)) (λy=>decide (y∈ins)) F Q)/\∀ x∈Q,∀ y∈nb x,Lkd u (λy=>decide (y∈ins)) (λy=>(inn[y]?==some true)&&decide (y∈en)) (λy=>decide (y∈ins)) Q x y:=by
 obtain⟨r,hr,F,rfl,hF1,hF2⟩:=aI (f:=tL)
  (λs=>∃(i:Nat) (F:List Int),i<=N/\s=(F,((N:Int),near,inn,dr,fc,()),(u:Int),((nl en,nl ins,()),()),(((N:Int),near,inn,dr,fc,()),(nl en,nl ins,()),()),((nl en,nl ins,()),()),(N:Int),(i:Int),())/\F.length=N/\∀ y,y<i->F[y]?=some (-1)) (λs=>(s.2.2.2.2.2.2.1-s.2.2.2.2.2.2.2.1).toNat)
  (λr=>∃ F:List Int,r=.inl (F,((N:Int),near,inn,dr,fc,()),(u:Int),((nl en,nl ins,()),()),(((N:Int),near,inn,dr,fc,()),(nl en,nl ins,()),()),((nl en,nl ins,()),()),())/\F.length=N/\∀ y,y<N->F[y]?=some (-1))
  (by
   rintro s ⟨i,F,hi,rfl,h1,h2⟩;by_cases hlt:i<N
   ·refine .inl ⟨(F.set i (-1),((N:Int),near,inn,dr,fc,()),(u:Int),((nl en,nl ins,()),()),(((N:Int),near,inn,dr,fc,()),(nl en,nl ins,()),()),((nl en,nl ins,()),()),(N:Int),((i+1:Nat):Int),()),?_,⟨i+1,F.set i (-1),by omega,rfl,by simp[h1],λy hy=>?_⟩,?_⟩
    ·obtain⟨c,hc⟩:∃ c,F[i]?=some c:=⟨_,A1 (by omega)⟩;unfold tL;simp only[aC (show(i:Int)<(N:Int) by omega),UA,ae (show i<F.length by omega),dg,hc,bv (show i<9223372036854775807 by omega)]
    ·by_cases e:y=i
     ·subst e;exact Jx (by omega)
     rw[Js (Ne.symm e)];exact h2 y (by omega)
    show((N:Int)-((i+1:Nat):Int)).toNat<((N:Int)-((i:Nat):Int)).toNat;omega
   have:i=N:=by omega
   subst this;refine .inr ⟨_,?_,F,rfl,h1,h2⟩;unfold tL;simp only[bi (JO _),UB])
  _ ⟨0,A5 N 0,K0 _,rfl,by simp,λy hy=>absurd hy (Kr _)⟩
 have hmk:bG I (N:Int) (N:Int)=some (A5 N 0):=cy (e:=I) (B2 N) (by omega);have start:Zb (((N:Int),near,inn,dr,fc,()),(u:Int),((nl en,nl ins,()),()),(((N:Int),near,inn,dr,fc,()),(nl en,nl ins,()),()),((nl en,nl ins,()),()),())=(aa qn (Al N u near fc inn dr en ins F [u] 0)).bind (A9 (λz5=>some (z5.1,())) (A9 (λz6=>some ([],())) (λ_=>none))):=by unfold Zb;simp only[hmk,dg,J8];refine(congrArg (λo=>Jo o _) hr).trans ?_;rfl
 rcases(GF (u:=u) hN R hi he1 he2).all (by omega) _ 0 F [u] (B2 _) (K0 _) (Bfs.first hF1 hF2 hu) (λj x hj=>absurd hj (Kr _))with⟨P,p1,p2⟩|⟨Q,q1,q2,q3⟩
 ·exact .inl ⟨P,by rw[start,p1];rfl,p2⟩
 exact .inr ⟨by rw[start,q1];rfl,Q,q2,q3⟩
end
end
end Go.Vm

/-
 OrthoChecks: two segments, in the program and in the reference.
-/
import Derived.Test.YtnkjongpfleloaaGreatDoorV43D
open Option.some renaming injEq->bd
open List renaming getElem?_eq_getElem->dg
open Option renaming bind_some->pw
open Bool renaming not_true->RU,or_eq_true->RV
open Int renaming min_comm->S7,max_comm->S8
set_option linter.unusedVariables false
set_option linter.unusedSimpArgs false
namespace Go.Vm
set_option maxRecDepth 100000
attribute [local irreducible] ac
def inP(P:List PtD)(v:Int):Prop:=0<=v/\v<P.length
def wc(b:PtD)(P:List PtD)(p:PtD)(v:Int):Bool:=(eqI v b.1||eqI v b.2.1)&&(match P[v.toNat]? with|some q=>aZ q p|none=>false)
theorem vR{b:PtD}{P:List PtD}{p:PtD}{v:Int}:wc b P p v=true↔(v=b.1\/v=b.2.1)/\P[v.toNat]?=some p:=by
 unfold wc;rw[Bool.and_eq_true,RV,gI,gI];cases P[v.toNat]? with
 |none=>simp
 |some q=>simp only[bD,bd]
theorem CT(a b:PtD)(P:List PtD)(p:PtD)(h1:inP P a.1)(h2:inP P a.2.1):Zdj (a,b,P,p,())=some (wc b P p a.1||wc b P p a.2.1,()):=by
 have h:=df (B:=sY) [a.1,a.2.1] (λi=>(b.1,b.2.1,p.1,p.2.1,[a.1,a.2.1],P,2,(i:Int),())) (wc b P p) (.inl (true,())) (.inr (.inl ())) (by
  intro i hi;have hin:inP P ([a.1,a.2.1][i]'hi):=by
   match i,hi with
   |0,_=>exact h1
   |1,_=>exact h2
  have hlen:([a.1,a.2.1]:List Int).length=2:=rfl;have hl:([a.1,a.2.1][i]'hi).toNat<P.length:=by have h1:=hin.1;have h2:=hin.2;omega
  simp only[sY];rw[cr (by omega),UA,jf hi,pw,dg hi,pw,d9 (by omega),qN hin.1];have hv:P[([a.1,a.2.1][i]'hi).toNat]?=some (P[([a.1,a.2.1][i]'hi).toNat]'hl):=dg _;unfold wc;rw[hv];simp only[pw];rw[show((eqI (P[([a.1,a.2.1][i]'hi).toNat]'hl).1 p.1)&&((eqI (P[([a.1,a.2.1][i]'hi).toNat]'hl).2.1 p.2.1)&&true))=aZ (P[([a.1,a.2.1][i]'hi).toNat]'hl) p from rfl];cases eqI ([a.1,a.2.1][i]'hi) b.1<;>cases eqI ([a.1,a.2.1][i]'hi) b.2.1<;>cases aZ (P[([a.1,a.2.1][i]'hi).toNat]'hl) p<;>rfl) rfl
 unfold Zdj;simp only;rw[show xz (b.1,b.2.1,p.1,p.2.1,[a.1,a.2.1],P,([a.1,a.2.1].length:Nat),0,())=_ from h];simp only[List.any_cons,List.any_nil,Bool.or_false];cases wc b P p a.1||wc b P p a.2.1<;>rfl
theorem Kz:∀{x1 x2 x3 x4 r:Bool},(r=true↔(x1=true\/x2=true)/\(x3=true\/x4=true)) ->
  (cond x1 (cond x3 (some (true,())) (some (x4,()))) (cond x2 (cond x3 (some (true,())) (some (x4,()))) (some (false,()))):Option (Bool×Unit))=some (r,()):=by decide
theorem qM (N:Int)(E P:List PtD)(e e' i j:Int)(s t:SegD)(a b:PtD)(hs:okS s)(ht:okS t)(aas:axS s)(at':axS t)(hne:e≠e')(ha:ao E e=some a)(hb:ao E e'=some b)
  (a1:inP P a.1) (a2:inP P a.2.1) (b1:inP P b.1) (b2:inP P b.2.1) (hd:∀ u v:Int,inP P u->inP P v->P[u.toNat]?=P[v.toNat]?->u=v) :
  ∃ r,Zds ((N,E,()),P,(e,i,s,()),(e',j,t,()),())=some (r,())/\Zau (P,a,b,s,t,())=some (r,()):=by
 obtain⟨n,p,k1,k2,k3,k4⟩:=sF s t;obtain⟨c,ok,t1,t2,t3⟩:=qx s t hs ht aas at';have hm:=FT hs ht aas at';unfold Zds Zau;simp only;rw[show Zdf (((s.1.1,s.1.2.1,()),(s.2.1.1,s.2.1.2.1,()),()),((t.1.1,t.1.2.1,()),(t.2.1.1,t.2.1.2.1,()),()),())=_ from k1,
  show Zei (((s.1.1,s.1.2.1,()),(s.2.1.1,s.2.1.2.1,()),()),((t.1.1,t.1.2.1,()),(t.2.1.1,t.2.1.2.1,()),()),())=_ from FU s t hs ht,
  show Zbm (((s.1.1,s.1.2.1,()),(s.2.1.1,s.2.1.2.1,()),()),((t.1.1,t.1.2.1,()),(t.2.1.1,t.2.1.2.1,()),()),())=_ from zz s t hs ht,
  show Zas (((s.1.1,s.1.2.1,()),(s.2.1.1,s.2.1.2.1,()),()),((t.1.1,t.1.2.1,()),(t.2.1.1,t.2.1.2.1,()),()),())=_ from pT s t hs ht,
  show Zao (((s.1.1,s.1.2.1,()),(s.2.1.1,s.2.1.2.1,()),()),((t.1.1,t.1.2.1,()),(t.2.1.1,t.2.1.2.1,()),()),())=_ from t1]
 simp only[pw,dM hne,UB];rw[show Zer ((p.1,p.2.1,()),((s.1.1,s.1.2.1,()),(s.2.1.1,s.2.1.2.1,()),()),())=_ from Ce p s,show Zer ((p.1,p.2.1,()),((t.1.1,t.1.2.1,()),(t.2.1.1,t.2.1.2.1,()),()),())=_ from Ce p t,ha,hb];simp only[pw];rw[show Zdj (a,b,P,(p.1,p.2.1,()),())=_ from CT a b P p a1 a2];simp only[pw]
 -- the points of the vertices
 have pt {v:Int} (h:inP P v):∃ q,ao P v=some q/\P[v.toNat]?=some q:=by
  have hl:v.toNat<P.length:=by have:=h.1;have:=h.2;omega
  exact⟨_,(qN h.1).trans (dg hl),dg hl⟩
 obtain⟨qa1,ga1,la1⟩:=pt a1;obtain⟨qa2,ga2,la2⟩:=pt a2;obtain⟨qb1,gb1,lb1⟩:=pt b1;obtain⟨qb2,gb2,lb2⟩:=pt b2;rw[ga1,ga2,gb1,gb2];simp only[pw];have sm:∀ x y:PtD,((eqI x.1 y.1)&&((eqI x.2.1 y.2.1)&&true))=aZ x y:=λ_ _=>rfl;simp only[sm];by_cases hz:n=0
 ·have:mtB s t=false:=by
   cases h:mtB s t with
   |false=>rfl
   |true=>exact absurd (k2.1 hz) (hm.1 h)
  rw[dY hz,this];exact⟨true,rfl,rfl⟩
 have:mtB s t=true:=hm.2 λh=>hz (k2.2 h);rw[dM hz,this];simp only[UB,RU];cases crB s t with
 |true=>exact⟨true,rfl,rfl⟩
 |false=>
  simp only[UB];by_cases h1:n=1
  ·have hone:=k3.1 h1;have hp:=k4 h1;rw[dY h1,UA];cases hok:ok with
   |false=>
    have hns:¬mn s t:=λh=>by rw[t2.2 ⟨hone,h⟩]at hok;cases hok
    rw[rS hone,<- hp]at hns;refine⟨false,?_,rfl⟩;cases e1:(aZ p s.1||aZ p s.2.1)with
    |false=>rfl
    |true=>
     cases e2:(aZ p t.1||aZ p t.2.1)with
     |false=>rfl
     |true=>rw[RV,bD,bD]at e1 e2;exact absurd ⟨e1,e2⟩ hns
   |true=>
    have hsh:=(t2.1 hok).2;rw[rS hone,<- hp]at hsh;have hc:c=p:=(t3 hok).trans hp.symm;subst hc;rw[show(aZ c s.1||aZ c s.2.1)=true from by rw[RV,bD,bD];exact hsh.1,show(aZ c t.1||aZ c t.2.1)=true from by rw[RV,bD,bD];exact hsh.2];simp only[UA,RU,UB];refine⟨_,rfl,?_⟩;refine Kz ?_;rw[bD,bD,bD,bD];rw[RV,vR,vR,la1,la2];simp only[bd];constructor
    ·rintro(⟨h|h,q⟩|⟨h|h,q⟩)
     ·rw[<- h,la1]at lb1;cases lb1;exact⟨.inl q.symm,.inl q.symm⟩
     ·rw[<- h,la1]at lb2;cases lb2;exact⟨.inl q.symm,.inr q.symm⟩
     ·rw[<- h,la2]at lb1;cases lb1;exact⟨.inr q.symm,.inl q.symm⟩
     rw[<- h,la2]at lb2;cases lb2;exact⟨.inr q.symm,.inr q.symm⟩
    rintro⟨h|h,k|k⟩
    ·exact .inl ⟨.inl (hd _ _ a1 b1 (by rw[la1,lb1,<- h,<- k])),h.symm⟩
    ·exact .inl ⟨.inr (hd _ _ a1 b2 (by rw[la1,lb2,<- h,<- k])),h.symm⟩
    ·exact .inr ⟨.inl (hd _ _ a2 b1 (by rw[la2,lb1,<- h,<- k])),h.symm⟩
    exact .inr ⟨.inr (hd _ _ a2 b2 (by rw[la2,lb2,<- h,<- k])),h.symm⟩
  have hone:¬fe s t:=λh=>h1 (k3.2 h);rw[dM h1];cases hok:ok with
  |true=>exact absurd (t2.1 hok).1 hone
  |false=>exact⟨false,rfl,rfl⟩
theorem qh (N:Int)(E P:List PtD)(e:Int)(i j:Nat)(s t:SegD)(hi:i<=1000)(hj:j<=1000) :
  ∃ r,Zds ((N,E,()),P,(e,(i:Int),s,()),(e,(j:Int),t,()),())=some (r,())/\(r=true↔if i=j+1\/j=i+1 then fe s t else lg s t):=by
 obtain⟨n,p,k1,k2,k3,k4⟩:=sF s t;unfold Zds;simp only;rw[show Zdf (((s.1.1,s.1.2.1,()),(s.2.1.1,s.2.1.2.1,()),()),((t.1.1,t.1.2.1,()),(t.2.1.1,t.2.1.2.1,()),()),())=_ from k1];rw[show eqI e e=true from dY rfl];simp only[pw,UA];rw[fw (a:=(i:Int)) (b:=(j:Int)) (by omega) (by omega),fw (a:=(j:Int)) (b:=(i:Int)) (by omega) (by omega)];by_cases h1:i=j+1
 ·rw[dY (show(i:Int)-j=1 by omega),UA,if_pos (.inl h1)];exact⟨_,rfl,by rw[gI];exact k3⟩
 rw[dM (show(i:Int)-j≠1 by omega),UB];by_cases h2:j=i+1
 ·rw[dY (show(j:Int)-i=1 by omega),UA,if_pos (.inr h2)];exact⟨_,rfl,by rw[gI];exact k3⟩
 rw[dM (show(j:Int)-i≠1 by omega),UB,if_neg (by omega)];exact⟨_,rfl,by rw[gI];exact k2⟩
theorem Bk(s t:SegD):x0 s t=x0 t s/\x1 s t=x1 t s/\y0 s t=y0 t s/\y1 s t=y1 t s:=⟨S8 _ _,S7 _ _,S8 _ _,S7 _ _⟩
theorem Gs{s t:SegD}:fe s t↔fe t s:=by obtain⟨h1,h2,h3,h4⟩:=Bk s t;unfold fe;rw[h1,h2,h3,h4]
theorem Cj{s t:SegD}:lg s t↔lg t s:=by obtain⟨h1,h2,h3,h4⟩:=Bk s t;unfold lg;rw[h1,h2,h3,h4]
end Go.Vm

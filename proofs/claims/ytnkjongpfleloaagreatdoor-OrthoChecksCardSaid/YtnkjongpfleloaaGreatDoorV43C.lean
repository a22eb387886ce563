/-
 OrthoChecks: segments that are horizontal or vertical: what they have in common.
-/
import Derived.Test.YtnkjongpfleloaaGreatDoorV43B
open Bool renaming and_eq_true->np,not_true->RU
open Option renaming bind_some->pw
open Int renaming min_comm->S7,max_comm->S8,lt_or_le->UH,le_of_lt->UI,sub_self->UJ,mul_zero->UK
set_option linter.unusedVariables false
set_option linter.unusedSimpArgs false
namespace Go.Vm
set_option maxRecDepth 100000
attribute [local irreducible] ac
def sg(n:Int):Int:=if 0<n then 1 else if n<0 then -1 else 0
def sd(ax ay bx b_y px py:Int):Int:=(bx-ax)*(py-ay)-(b_y-ay)*(px-ax)
theorem kT{u v:Int}(hu:0<u):(0<u*v↔0<v)/\(u*v<0↔v<0):=by
 constructor
 ·constructor
  ·intro h;rcases UH 0 v with k|k
   ·exact k
   have:=Int.mul_nonpos_of_nonneg_of_nonpos (UI hu) k;omega
  exactλh=>Int.mul_pos hu h
 constructor
 ·intro h;rcases UH v 0 with k|k
  ·exact k
  have:=Int.mul_nonneg (UI hu) k;omega
 exactλh=>Int.mul_neg_of_pos_of_neg hu h
theorem oW{u v:Int}(hu:u<0):(0<u*v↔v<0)/\(u*v<0↔0<v):=by
 have h:=kT (u:=-u) (v:=v) (by omega);rw[Int.neg_mul]at h;constructor
 ·rw[<- h.2];omega
 rw[<- h.1];omega
theorem vA(u v w:Int)(hu:u≠0):(sg (u*v)*sg (u*w)<0↔(v<0/\0<w)\/(0<v/\w<0)):=by
 rcases Int.lt_or_lt_of_ne hu with k|k
 ·have a:=oW (v:=v) k;have b:=oW (v:=w) k;unfold sg;simp only[a.1,a.2,b.1,b.2];split<;>split<;>(try split)<;>(try split)<;>simp<;>omega
 have a:=kT (v:=v) k;have b:=kT (v:=w) k;unfold sg;simp only[a.1,a.2,b.1,b.2];split<;>split<;>(try split)<;>(try split)<;>simp<;>omega
theorem Nf(ax ay bx px py:Int):sd ax ay bx ay px py=(bx-ax)*(py-ay):=by unfold sd;grind
theorem MG(ax ay b_y px py:Int):sd ax ay ax b_y px py=(ay-b_y)*(px-ax):=by unfold sd;grind
def spn(ax ay bx b_y px py:Int):Prop:=min ax bx<=px/\px<=max ax bx/\min ay b_y<=py/\py<=max ay b_y
def onS(ax ay bx b_y px py:Int):Prop:=spn ax ay bx b_y px py/\sg (sd ax ay bx b_y px py)=0
def prt(ax ay bx b_y cx cy dx dy:Int):Prop:=sg (sd ax ay bx b_y cx cy)*sg (sd ax ay bx b_y dx dy)<0
def crs(ax ay bx b_y cx cy dx dy:Int):Prop:=prt ax ay bx b_y cx cy dx dy/\prt cx cy dx dy ax ay bx b_y
def rG(ax ay bx b_y:Int):Prop:=(ay=b_y/\ax≠bx)\/(ax=bx/\ay≠b_y)
theorem ri{ax ay bx b_y px py:Int}(h:rG ax ay bx b_y):onS ax ay bx b_y px py↔spn ax ay bx b_y px py:=by
 refine⟨And.left,λk=>⟨k,?_⟩⟩;rcases h with⟨rfl,h⟩|⟨rfl,h⟩
 ·have:py=ay:=by have:=k.2.2.1;have:=k.2.2.2;omega
  subst this;rw[Nf,UJ,UK];rfl
 have:px=ax:=by have:=k.1;have:=k.2.1;omega
 subst this;rw[MG,UJ,UK];rfl
theorem Ag{ax ay bx cx cy dx dy:Int}(h:ax≠bx):prt ax ay bx ay cx cy dx dy↔(cy<ay/\ay<dy)\/(ay<cy/\dy<ay):=by unfold prt;rw[Nf,Nf,vA _ _ _ (by omega)];omega
theorem BW{ax ay b_y cx cy dx dy:Int}(h:ay≠b_y):prt ax ay ax b_y cx cy dx dy↔(cx<ax/\ax<dx)\/(ax<cx/\dx<ax):=by unfold prt;rw[MG,MG,vA _ _ _ (by omega)];omega
theorem C7 {ax ay bx b_y cx cy dx dy:Int}(hs:rG ax ay bx b_y)(ht:rG cx cy dx dy) :
  (crs ax ay bx b_y cx cy dx dy\/onS cx cy dx dy ax ay\/onS cx cy dx dy bx b_y\/onS ax ay bx b_y cx cy\/onS ax ay bx b_y dx dy) ↔
   max (min ax bx) (min cx dx)<=min (max ax bx) (max cx dx)/\max (min ay b_y) (min cy dy)<=min (max ay b_y) (max cy dy):=by
 simp only[ri hs,ri ht];unfold crs spn;rcases hs with⟨rfl,hs⟩|⟨rfl,hs⟩<;>rcases ht with⟨rfl,ht⟩|⟨rfl,ht⟩
 ·rw[Ag hs,Ag ht];omega
 ·rw[Ag hs,BW ht];omega
 ·rw[BW hs,Ag ht];omega
 rw[BW hs,BW ht];omega
def rz(ax ay bx b_y cx cy dx dy:Int):Prop:=max (min ax bx) (min cx dx)=min (max ax bx) (max cx dx)/\max (min ay b_y) (min cy dy)=min (max ay b_y) (max cy dy)
theorem FJ {ax ay bx b_y dx dy:Int}(hs:rG ax ay bx b_y)(ht:rG ax ay dx dy) :
  (¬spn ax ay dx dy bx b_y/\¬spn ax ay bx b_y dx dy)↔rz ax ay bx b_y ax ay dx dy:=by
 unfold spn rz;rcases hs with⟨rfl,hs⟩|⟨rfl,hs⟩<;>rcases ht with⟨rfl,ht⟩|⟨rfl,ht⟩<;>omega
theorem Mr{ax ay bx b_y dx dy:Int}(h:rz ax ay bx b_y ax ay dx dy):max (min ax bx) (min ax dx)=ax/\max (min ay b_y) (min ay dy)=ay:=by unfold rz at h;omega
theorem Cu{ax ay bx b_y:Int}:rG ax ay bx b_y↔rG bx b_y ax ay:=by unfold rG;omega
theorem spn_swap{ax ay bx b_y px py:Int}:spn ax ay bx b_y px py↔spn bx b_y ax ay px py:=by unfold spn;rw[S7,S8,S7 ay,S8 ay]
theorem one_swap{ax ay bx b_y cx cy dx dy:Int}:rz ax ay bx b_y cx cy dx dy↔rz bx b_y ax ay cx cy dx dy:=by unfold rz;rw[S7 ax,S8 ax,S7 ay,S8 ay]
theorem one_swap'{ax ay bx b_y cx cy dx dy:Int}:rz ax ay bx b_y cx cy dx dy↔rz ax ay bx b_y dx dy cx cy:=by unfold rz;rw[S7 cx,S8 cx,S7 cy,S8 cy]
theorem nl{a b c:PtD}(ha:ptB a=true)(hb:ptB b=true)(hc:ptB c=true):otI a b c=sd a.1 a.2.1 b.1 b.2.1 c.1 c.2.1:=by have b1:=oy ha;have b2:=oy hb;have b3:=oy hc;unfold otI sd;have m1:=ov (x:=b.1-a.1) (y:=c.2.1-a.2.1) (by omega) (by omega);have m2:=ov (x:=b.2.1-a.2.1) (y:=c.1-a.1) (by omega) (by omega);rw[fw (a:=b.1) (b:=a.1) (by omega) (by omega),fw (a:=c.2.1) (b:=a.2.1) (by omega) (by omega),fw (a:=b.2.1) (b:=a.2.1) (by omega) (by omega),fw (a:=c.1) (b:=a.1) (by omega) (by omega)];rw[oB (by omega) (by omega),oB (by omega) (by omega),fw (by omega) (by omega)]
theorem tz(n:Int):gG n=sg n:=by
 unfold gG sg gtI ltI;by_cases h:0<n
 ·simp[h]
 by_cases h2:n<0
 ·simp[h,h2]
 simp[h,h2]
theorem v7(n:Int):sg n=1\/sg n=0\/sg n=-1:=by
 unfold sg;split
 ·exact .inl rfl
 split
 ·exact .inr (.inr rfl)
 exact .inr (.inl rfl)
theorem G9(u v:Int):aT .i64 (gG u) (gG v)=sg u*sg v:=by
 rw[tz,tz];rcases v7 u with h|h|h<;>rcases v7 v with k|k|k<;>rw[h,k]<;>decide
theorem AP{a b:Int}:ltI a b=true↔a<b:=by simp[ltI]
theorem Kb{a b:Int}:geI a b=true↔b<=a:=by simp[geI]
theorem JY{a b:Int}:leI a b=true↔a<=b:=by simp[leI]
theorem gI{a b:Int}:eqI a b=true↔a=b:=by simp[eqI]
theorem m5(a b:Int):bU a b=min a b:=by unfold bU;split<;>omega
theorem nw(a b:Int):cE a b=max a b:=by unfold cE;split<;>omega
def spB(s:SegD)(p:PtD):Bool:=geI p.1 (bU s.1.1 s.2.1.1)&&(leI p.1 (cE s.1.1 s.2.1.1)&&(geI p.2.1 (bU s.1.2.1 s.2.1.2.1)&&leI p.2.1 (cE s.1.2.1 s.2.1.2.1)))
def onB(s:SegD)(p:PtD):Bool:=spB s p&&eqI (gG (otI s.1 s.2.1 p)) 0
def axS(s:SegD):Prop:=rG s.1.1 s.1.2.1 s.2.1.1 s.2.1.2.1
def spP(s:SegD)(p:PtD):Prop:=spn s.1.1 s.1.2.1 s.2.1.1 s.2.1.2.1 p.1 p.2.1
theorem JH(s:SegD)(p:PtD):spB s p=true↔spP s p:=by unfold spB spP spn;simp only[np,Kb,JY,m5,nw]
theorem lL{s:SegD}{p:PtD}(hs:okS s)(hp:ptB p=true)(ha:axS s):onB s p=true↔spP s p:=by unfold onB;rw[np,JH,gI,nl hs.1 hs.2 hp,tz];exact ri ha
theorem Nv(p:PtD)(s:SegD)(hs:okS s)(hp:ptB p=true):Zfb (p,s,())=some (onB s p,()):=by unfold Zfb;simp only;rw[show Zfc (((s.1.1,s.1.2.1,()),(s.2.1.1,s.2.1.2.1,()),()),())=_ from Ij s hs.1 hs.2,show Zeh ((p.1,p.2.1,()),())=some (true,())from(kQ p).trans (by rw[hp])];simp only[pw,UA];unfold Zcz Zay onB spB;simp only;rw[show Zbt (((s.1.1,s.1.2.1,()),(s.2.1.1,s.2.1.2.1,()),()),(p.1,p.2.1,()),())=some (gG (otI s.1 s.2.1 p),())from pr s p];cases geI p.1 (bU s.1.1 s.2.1.1)<;>cases leI p.1 (cE s.1.1 s.2.1.1)<;>cases geI p.2.1 (bU s.1.2.1 s.2.1.2.1)<;>cases leI p.2.1 (cE s.1.2.1 s.2.1.2.1)<;>rfl
theorem km(p:PtD):Zaq (p,())=some (ptB p,()):=kQ p
theorem kY(s:SegD)(hs:okS s):Zam (s,())=some (true,()):=by unfold Zam;simp only;rw[show Zaq ((s.1.1,s.1.2.1,()),())=some (true,())from(km s.1).trans (by rw[hs.1]),show Zaq ((s.2.1.1,s.2.1.2.1,()),())=some (true,())from(km s.2.1).trans (by rw[hs.2])];rfl
theorem CP(n:Int):Zbf (n,())=some (gG n,()):=by
 unfold Zbf gG;by_cases h:n<0
 ·rw[cr h,oN (by omega)];rfl
 rw[cf (by omega)];cases gtI n 0<;>rfl
theorem jC{a b c:PtD}(ha:ptB a=true)(hb:ptB b=true)(hc:ptB c=true):Zak (a,b,c,())=some (gG (otI a b c),()):=by unfold Zak;simp only;rw[show Zaq ((a.1,a.2.1,()),())=some (true,())from(km a).trans (by rw[ha]),show Zaq ((b.1,b.2.1,()),())=some (true,())from(km b).trans (by rw[hb]),show Zaq ((c.1,c.2.1,()),())=some (true,())from(km c).trans (by rw[hc])];simp only[pw,RU,UB];rw[show Zbf (aK .i64 (aT .i64 (aK .i64 b.1 a.1) (aK .i64 c.2.1 a.2.1)) (aT .i64 (aK .i64 b.2.1 a.2.1) (aK .i64 c.1 a.1)),())=_ from CP (otI a b c)];rfl
theorem mQ(p:PtD)(s:SegD)(hs:okS s)(hp:ptB p=true):Zce (p,s,())=some (onB s p,()):=by
 unfold Zce;simp only;rw[show Zaq ((p.1,p.2.1,()),())=some (true,())from(km p).trans (by rw[hp]),show Zam (((s.1.1,s.1.2.1,()),(s.2.1.1,s.2.1.2.1,()),()),())=_ from kY s hs,
  show Zak ((s.1.1,s.1.2.1,()),(s.2.1.1,s.2.1.2.1,()),(p.1,p.2.1,()),())=_ from jC hs.1 hs.2 hp]
 simp only[pw,RU,UB];unfold onB spB;rw[Cd];cases eqI (gG (otI s.1 s.2.1 p)) 0<;>cases geI p.1 (bU s.1.1 s.2.1.1)<;>cases leI p.1 (cE s.1.1 s.2.1.1)<;>cases geI p.2.1 (bU s.1.2.1 s.2.1.2.1)<;>cases leI p.2.1 (cE s.1.2.1 s.2.1.2.1)<;>rfl
theorem pT(s t:SegD)(hs:okS s)(ht:okS t):Zas (s,t,())=some (crB s t,()):=by
 unfold Zas;simp only;rw[show Zam (((s.1.1,s.1.2.1,()),(s.2.1.1,s.2.1.2.1,()),()),())=_ from kY s hs,show Zam (((t.1.1,t.1.2.1,()),(t.2.1.1,t.2.1.2.1,()),()),())=_ from kY t ht,
  show Zak ((s.1.1,s.1.2.1,()),(s.2.1.1,s.2.1.2.1,()),(t.1.1,t.1.2.1,()),())=_ from jC hs.1 hs.2 ht.1,show Zak ((s.1.1,s.1.2.1,()),(s.2.1.1,s.2.1.2.1,()),(t.2.1.1,t.2.1.2.1,()),())=_ from jC hs.1 hs.2 ht.2,
  show Zak ((t.1.1,t.1.2.1,()),(t.2.1.1,t.2.1.2.1,()),(s.1.1,s.1.2.1,()),())=_ from jC ht.1 ht.2 hs.1,show Zak ((t.1.1,t.1.2.1,()),(t.2.1.1,t.2.1.2.1,()),(s.2.1.1,s.2.1.2.1,()),())=_ from jC ht.1 ht.2 hs.2]
 unfold crB;simp only[pw,RU,UB];cases ltI (aT .i64 (gG (otI s.1 s.2.1 t.1)) (gG (otI s.1 s.2.1 t.2.1))) 0<;>rfl
def mtB(s t:SegD):Bool:=crB s t||(onB t s.1||(onB t s.2.1||(onB s t.1||onB s t.2.1)))
theorem zz(s t:SegD)(hs:okS s)(ht:okS t):Zbm (s,t,())=some (mtB s t,()):=by
 unfold Zbm;simp only;rw[show Zam (((s.1.1,s.1.2.1,()),(s.2.1.1,s.2.1.2.1,()),()),())=_ from kY s hs,show Zam (((t.1.1,t.1.2.1,()),(t.2.1.1,t.2.1.2.1,()),()),())=_ from kY t ht,
  show Zas (((s.1.1,s.1.2.1,()),(s.2.1.1,s.2.1.2.1,()),()),((t.1.1,t.1.2.1,()),(t.2.1.1,t.2.1.2.1,()),()),())=_ from pT s t hs ht,
  show Zce ((s.1.1,s.1.2.1,()),((t.1.1,t.1.2.1,()),(t.2.1.1,t.2.1.2.1,()),()),())=_ from mQ s.1 t ht hs.1,show Zce ((s.2.1.1,s.2.1.2.1,()),((t.1.1,t.1.2.1,()),(t.2.1.1,t.2.1.2.1,()),()),())=_ from mQ s.2.1 t ht hs.2,
  show Zce ((t.1.1,t.1.2.1,()),((s.1.1,s.1.2.1,()),(s.2.1.1,s.2.1.2.1,()),()),())=_ from mQ t.1 s hs ht.1,show Zce ((t.2.1.1,t.2.1.2.1,()),((s.1.1,s.1.2.1,()),(s.2.1.1,s.2.1.2.1,()),()),())=_ from mQ t.2.1 s hs ht.2]
 unfold mtB;simp only[pw];cases crB s t<;>cases onB t s.1<;>cases onB t s.2.1<;>cases onB s t.1<;>cases onB s t.2.1<;>rfl
theorem J3{s t:SegD}(hs:okS s)(ht:okS t):crB s t=true↔crs s.1.1 s.1.2.1 s.2.1.1 s.2.1.2.1 t.1.1 t.1.2.1 t.2.1.1 t.2.1.2.1:=by unfold crB crs prt;rw[np,AP,AP,G9,G9,nl hs.1 hs.2 ht.1,nl hs.1 hs.2 ht.2,nl ht.1 ht.2 hs.1,nl ht.1 ht.2 hs.2]
def x0(s t:SegD):Int:=max (min s.1.1 s.2.1.1) (min t.1.1 t.2.1.1)
def x1(s t:SegD):Int:=min (max s.1.1 s.2.1.1) (max t.1.1 t.2.1.1)
def y0(s t:SegD):Int:=max (min s.1.2.1 s.2.1.2.1) (min t.1.2.1 t.2.1.2.1)
def y1(s t:SegD):Int:=min (max s.1.2.1 s.2.1.2.1) (max t.1.2.1 t.2.1.2.1)
def lg(s t:SegD):Prop:=x1 s t<x0 s t\/y1 s t<y0 s t
def fe(s t:SegD):Prop:=x0 s t=x1 s t/\y0 s t=y1 s t
theorem sF(s t:SegD):∃ n p,Zdf (s,t,())=some (n,p,())/\(n=0↔lg s t)/\(n=1↔fe s t)/\(n=1->p=(x0 s t,y0 s t,())):=by
 have hx:cE (bU s.1.1 s.2.1.1) (bU t.1.1 t.2.1.1)=x0 s t:=by simp only[m5,nw];rfl
 have hx1:bU (cE s.1.1 s.2.1.1) (cE t.1.1 t.2.1.1)=x1 s t:=by simp only[m5,nw];rfl
 have hy:cE (bU s.1.2.1 s.2.1.2.1) (bU t.1.2.1 t.2.1.2.1)=y0 s t:=by simp only[m5,nw];rfl
 have hy1:bU (cE s.1.2.1 s.2.1.2.1) (cE t.1.2.1 t.2.1.2.1)=y1 s t:=by simp only[m5,nw];rfl
 unfold Zdf;simp only[hx,hx1,hy,hy1];unfold lg fe;by_cases h1:x1 s t<x0 s t
 ·rw[qQ h1];exact⟨_,_,rfl,⟨λ_=>.inl h1,λ_=>rfl⟩,⟨λh=>(by cases h),λh=>(by omega)⟩,λh=>(by cases h)⟩
 rw[oN (by omega),UB];by_cases h2:y1 s t<y0 s t
 ·rw[qQ h2];exact⟨_,_,rfl,⟨λ_=>.inr h2,λ_=>rfl⟩,⟨λh=>(by cases h),λh=>(by omega)⟩,λh=>(by cases h)⟩
 rw[oN (by omega),UB];by_cases h3:x0 s t=x1 s t
 ·rw[dY h3,UA];by_cases h4:y0 s t=y1 s t
  ·rw[dY h4];exact⟨_,_,rfl,⟨λh=>(by cases h),λh=>(by omega)⟩,⟨λ_=>⟨h3,h4⟩,λ_=>rfl⟩,λ_=>rfl⟩
  rw[dM h4];exact⟨_,_,rfl,⟨λh=>(by cases h),λh=>(by omega)⟩,⟨λh=>(by cases h),λh=>(by omega)⟩,λh=>(by cases h)⟩
 rw[dM h3];exact⟨_,_,rfl,⟨λh=>(by cases h),λh=>(by omega)⟩,⟨λh=>(by cases h),λh=>(by omega)⟩,λh=>(by cases h)⟩
theorem FT{s t:SegD}(hs:okS s)(ht:okS t)(aas:axS s)(at':axS t):mtB s t=true↔¬lg s t:=by have h:=C7 aas at';unfold mtB;simp only[Bool.or_eq_true,J3 hs ht,lL ht hs.1 at',lL ht hs.2 at',lL hs ht.1 aas,lL hs ht.2 aas];simp only[ri aas,ri at']at h;unfold lg x0 x1 y0 y1 spP;rw[h];omega
end Go.Vm

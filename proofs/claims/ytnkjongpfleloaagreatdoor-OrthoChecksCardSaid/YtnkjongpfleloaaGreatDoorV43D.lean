/-
 OrthoChecks: two segments of one path, or of two.
-/
import Derived.Test.YtnkjongpfleloaaGreatDoorV43C
open Option renaming bind_some->pw
open Prod.mk renaming injEq->A8
open List renaming getElem?_cons_zero->B5,getElem?_cons_succ->L4
open Bool renaming not_eq_true'->L7,not_true->RU,not_false->TP
set_option linter.unusedVariables false
set_option linter.unusedSimpArgs false
namespace Go.Vm
set_option maxRecDepth 100000
attribute [local irreducible] ac
theorem bD{a b:PtD}:aZ a b=true↔a=b:=by obtain⟨a1,a2,_⟩:=a;obtain⟨b1,b2,_⟩:=b;unfold aZ;simp only[Bool.and_true,Bool.and_eq_true,gI,A8,and_true]
theorem Ce(p:PtD)(s:SegD):Zer (p,s,())=some (aZ p s.1||aZ p s.2.1,()):=by unfold Zer;simp only;rw[show((eqI p.1 s.1.1)&&((eqI p.2.1 s.1.2.1)&&true))=aZ p s.1 from rfl,show((eqI p.1 s.2.1.1)&&((eqI p.2.1 s.2.1.2.1)&&true))=aZ p s.2.1 from rfl];cases aZ p s.1<;>rfl
def mn(s t:SegD):Prop:=s.1=t.1\/s.1=t.2.1\/s.2.1=t.1\/s.2.1=t.2.1
def swS(s:SegD):SegD:=(s.2.1,s.1,())
theorem Ak{s:SegD}(h:axS s):axS (swS s):=Cu.1 h
theorem BJ{s:SegD}{p:PtD}:spP (swS s) p↔spP s p:=spn_swap.symm
theorem DO{s t:SegD}:fe (swS s) t↔fe s t:=one_swap.symm
theorem BF{s t:SegD}:fe s (swS t)↔fe s t:=one_swap'.symm
theorem Ao{s t:SegD}:x0 (swS s) t=x0 s t/\y0 (swS s) t=y0 s t:=by unfold x0 y0 swS;simp only;omega
theorem ul{s t:SegD}:x0 s (swS t)=x0 s t/\y0 s (swS t)=y0 s t:=by unfold x0 y0 swS;simp only;omega
theorem ja{s t:SegD}(aas:axS s)(at':axS t)(h:s.1=t.1):((¬spP t s.2.1/\¬spP s t.2.1)↔fe s t)/\(fe s t->s.1=(x0 s t,y0 s t,())):=by obtain⟨⟨a1,a2,_⟩,⟨b1,b2,_⟩,_⟩:=s;obtain⟨⟨c1,c2,_⟩,⟨d1,d2,_⟩,_⟩:=t;cases h;refine⟨FJ aas at',λh=>?_⟩;have:=Mr h;unfold x0 y0;simp only;rw[this.1,this.2]
theorem Ew{s t:SegD}(aas:axS s)(at':axS t)(h:s.1=t.1):((¬spP t s.2.1/\¬spP s t.2.1)↔fe s t)/\(fe s t->s.1=(x0 s t,y0 s t,())):=ja aas at' h
theorem Gf{s t:SegD}(aas:axS s)(at':axS t)(h:s.1=t.2.1):((¬spP t s.2.1/\¬spP s t.1)↔fe s t)/\(fe s t->s.1=(x0 s t,y0 s t,())):=by have:=ja (t:=swS t) aas (Ak at') h;rw[BF,ul.1,ul.2,BJ]at this;exact this
theorem Ga{s t:SegD}(aas:axS s)(at':axS t)(h:s.2.1=t.1):((¬spP t s.1/\¬spP s t.2.1)↔fe s t)/\(fe s t->s.2.1=(x0 s t,y0 s t,())):=by have:=ja (s:=swS s) (Ak aas) at' h;rw[DO,Ao.1,Ao.2,BJ]at this;exact this
theorem Ik{s t:SegD}(aas:axS s)(at':axS t)(h:s.2.1=t.2.1):((¬spP t s.1/\¬spP s t.1)↔fe s t)/\(fe s t->s.2.1=(x0 s t,y0 s t,())):=by have:=ja (s:=swS s) (t:=swS t) (Ak aas) (Ak at') h;rw[DO,BF,Ao.1,Ao.2,ul.1,ul.2,BJ,BJ]at this;exact this
theorem qx(s t:SegD)(hs:okS s)(ht:okS t)(aas:axS s)(at':axS t):∃ c ok,Zao (s,t,())=some (c,ok,())/\(ok=true↔fe s t/\mn s t)/\(ok=true->c=(x0 s t,y0 s t,())):=by
 -- what is PA at an end
 have key (c e far:PtD) (hc:c=s.1\/c=s.2.1) (he:ptB e=true) (hf:ptB far=true) (hsh:mn s t)
   (h:((¬spP t e/\¬spP s far)↔fe s t)/\(fe s t->c=(x0 s t,y0 s t,()))) :
   ∃ ok,(cond (!onB t e) (some (c.1,c.2.1,(!onB s far),())) (some (c.1,c.2.1,false,())):Option (Int×Int×Bool×Unit))=some (c.1,c.2.1,ok,())/\(ok=true↔fe s t/\mn s t)/\(ok=true->c=(x0 s t,y0 s t,())):=by
  have h1:=lL ht he at';have h2:=lL hs hf aas;cases o1:onB t e with
  |true=>refine⟨false,rfl,⟨λh=>(by cases h),λhh=>?_⟩,λh=>(by cases h)⟩;exact absurd (h1.1 o1) (h.1.2 hh.1).1
  |false=>
   refine⟨!onB s far,rfl,?_,?_⟩
   ·have n1:¬spP t e:=λh=>by rw[h1.2 h]at o1;cases o1
    rw[L7,<- h.1];constructor
    ·intro o2;exact⟨⟨n1,λh=>(by rw[h2.2 h]at o2;cases o2)⟩,hsh⟩
    rintro⟨⟨_,n2⟩,_⟩;cases o2:onB s far with
    |false=>rfl
    |true=>exact absurd (h2.1 o2) n2
   intro ok;rw[L7]at ok;exact h.2 (h.1.1 ⟨λh=>(by rw[h1.2 h]at o1;cases o1),λh=>(by rw[h2.2 h]at ok;cases ok)⟩)
 have on1:∀ p:PtD,ptB p=true->Zce ((p.1,p.2.1,()),((t.1.1,t.1.2.1,()),(t.2.1.1,t.2.1.2.1,()),()),())=some (onB t p,()):=fun p hp=>mQ p t ht hp;have on2:∀ p:PtD,ptB p=true->Zce ((p.1,p.2.1,()),((s.1.1,s.1.2.1,()),(s.2.1.1,s.2.1.2.1,()),()),())=some (onB s p,()):=fun p hp=>mQ p s hs hp;have fin (c:PtD) (ok:Bool) (h:tv (s.1.1,s.1.2.1,s.2.1.1,s.2.1.2.1,t.1.1,t.1.2.1,t.2.1.1,t.2.1.2.1,0,0,[(s.1.1,s.1.2.1,()),(s.2.1.1,s.2.1.2.1,())],0,())=some (.inl (c.1,c.2.1,ok,())))
   (h2:ok=true↔fe s t/\mn s t) (h3:ok=true->c=(x0 s t,y0 s t,())) :
   ∃ c ok,Zao (s,t,())=some (c,ok,())/\(ok=true↔fe s t/\mn s t)/\(ok=true->c=(x0 s t,y0 s t,())):=by
  refine⟨c,ok,?_,h2,h3⟩;unfold Zao;simp only[h,pw];rfl
 have sm:∀ a b:PtD,((eqI a.1 b.1)&&((eqI a.2.1 b.2.1)&&true))=aZ a b:=λ_ _=>rfl;have e0:az [(s.1.1,s.1.2.1,()),(s.2.1.1,s.2.1.2.1,())].length 0=some 0:=rfl;have e1:az [(s.1.1,s.1.2.1,()),(s.2.1.1,s.2.1.2.1,())].length 1=some 1:=rfl;have s0:aK .i64 1 0=1:=by decide
 have s1:aK .i64 1 1=0:=by decide
 by_cases h11:s.1=t.1
 ·obtain⟨ok,k1,k2,k3⟩:=key s.1 s.2.1 t.2.1 (.inl rfl) hs.2 ht.2 (.inl h11) (Ew aas at' h11);refine fin s.1 ok (c9 ?_) k2 k3;simp only[jh,e0,e1,s0,pw,B5,L4,show ltI (0:Int) 2=true from rfl,UA];rw[sm s.1 t.1,bD.2 h11];simp only[RU,UB,UA,on1 s.2.1 hs.2,on2 t.2.1 ht.2,pw];revert k1;cases onB t s.2.1<;>intro k1<;>cases k1<;>rfl
 have n11:aZ s.1 t.1=false:=by cases h:aZ s.1 t.1 with|false=>rfl|true=>exact absurd (bD.1 h) h11
 by_cases h12:s.1=t.2.1
 ·obtain⟨ok,k1,k2,k3⟩:=key s.1 s.2.1 t.1 (.inl rfl) hs.2 ht.1 (.inr (.inl h12)) (Gf aas at' h12);refine fin s.1 ok (c9 ?_) k2 k3;simp only[jh,e0,e1,s0,pw,B5,L4,show ltI (0:Int) 2=true from rfl,UA];rw[sm s.1 t.1,n11,sm s.1 t.2.1,bD.2 h12];simp only[RU,TP,UB,UA,on1 s.2.1 hs.2,on2 t.1 ht.1,pw];revert k1;cases onB t s.2.1<;>intro k1<;>cases k1<;>rfl
 have n12:aZ s.1 t.2.1=false:=by cases h:aZ s.1 t.2.1 with|false=>rfl|true=>exact absurd (bD.1 h) h12
 have step:jh (s.1.1,s.1.2.1,s.2.1.1,s.2.1.2.1,t.1.1,t.1.2.1,t.2.1.1,t.2.1.2.1,0,0,[(s.1.1,s.1.2.1,()),(s.2.1.1,s.2.1.2.1,())],0,())=some (.inl (s.1.1,s.1.2.1,s.2.1.1,s.2.1.2.1,t.1.1,t.1.2.1,t.2.1.1,t.2.1.2.1,0,0,[(s.1.1,s.1.2.1,()),(s.2.1.1,s.2.1.2.1,())],1,())):=by simp only[jh,e0,pw,B5,show ltI (0:Int) 2=true from rfl,UA];rw[sm s.1 t.1,n11,sm s.1 t.2.1,n12];rfl
 by_cases h21:s.2.1=t.1
 ·obtain⟨ok,k1,k2,k3⟩:=key s.2.1 s.1 t.2.1 (.inr rfl) hs.1 ht.2 (.inr (.inr (.inl h21))) (Ga aas at' h21);refine fin s.2.1 ok ((fE step).trans (c9 ?_)) k2 k3;simp only[jh,e0,e1,s1,pw,B5,L4,show ltI (1:Int) 2=true from rfl,UA];rw[sm s.2.1 t.1,bD.2 h21];simp only[RU,UB,UA,on1 s.1 hs.1,on2 t.2.1 ht.2,pw];revert k1;cases onB t s.1<;>intro k1<;>cases k1<;>rfl
 have n21:aZ s.2.1 t.1=false:=by cases h:aZ s.2.1 t.1 with|false=>rfl|true=>exact absurd (bD.1 h) h21
 by_cases h22:s.2.1=t.2.1
 ·obtain⟨ok,k1,k2,k3⟩:=key s.2.1 s.1 t.1 (.inr rfl) hs.1 ht.1 (.inr (.inr (.inr h22))) (Ik aas at' h22);refine fin s.2.1 ok ((fE step).trans (c9 ?_)) k2 k3;simp only[jh,e0,e1,s1,pw,B5,L4,show ltI (1:Int) 2=true from rfl,UA];rw[sm s.2.1 t.1,n21,sm s.2.1 t.2.1,bD.2 h22];simp only[RU,TP,UB,UA,on1 s.1 hs.1,on2 t.1 ht.1,pw];revert k1;cases onB t s.1<;>intro k1<;>cases k1<;>rfl
 have n22:aZ s.2.1 t.2.1=false:=by cases h:aZ s.2.1 t.2.1 with|false=>rfl|true=>exact absurd (bD.1 h) h22
 have step2:jh (s.1.1,s.1.2.1,s.2.1.1,s.2.1.2.1,t.1.1,t.1.2.1,t.2.1.1,t.2.1.2.1,0,0,[(s.1.1,s.1.2.1,()),(s.2.1.1,s.2.1.2.1,())],1,())=some (.inl (s.1.1,s.1.2.1,s.2.1.1,s.2.1.2.1,t.1.1,t.1.2.1,t.2.1.1,t.2.1.2.1,0,0,[(s.1.1,s.1.2.1,()),(s.2.1.1,s.2.1.2.1,())],2,())):=by simp only[jh,e1,pw,B5,L4,show ltI (1:Int) 2=true from rfl,UA];rw[sm s.2.1 t.1,n21,sm s.2.1 t.2.1,n22];rfl
 refine⟨(0,0,()),false,?_,⟨λh=>(by cases h),λh=>?_⟩,λh=>(by cases h)⟩
 ·unfold Zao;simp only;rw[show tv (s.1.1,s.1.2.1,s.2.1.1,s.2.1.2.1,t.1.1,t.1.2.1,t.2.1.1,t.2.1.2.1,0,0,[(s.1.1,s.1.2.1,()),(s.2.1.1,s.2.1.2.1,())],0,())=some (.inr (.inl (0,0,())))from(fE step).trans ((fE step2).trans (c9 rfl))];rfl
 rcases h.2 with h|h|h|h
 ·exact absurd h h11
 ·exact absurd h h12
 ·exact absurd h h21
 exact absurd h h22
theorem mV{s t:SegD}(h:fe s t)(p:PtD)(h1:p=s.1\/p=s.2.1)(h2:p=t.1\/p=t.2.1):p=(x0 s t,y0 s t,()):=by
 obtain⟨p1,p2,_⟩:=p;unfold fe x0 x1 y0 y1 at h;unfold x0 y0;have e1:(p1=s.1.1/\p2=s.1.2.1)\/(p1=s.2.1.1/\p2=s.2.1.2.1):=h1.imp (λh=>by rw[<- h];exact⟨rfl,rfl⟩) (λh=>by rw[<- h];exact⟨rfl,rfl⟩);have e2:(p1=t.1.1/\p2=t.1.2.1)\/(p1=t.2.1.1/\p2=t.2.1.2.1):=h2.imp (λh=>by rw[<- h];exact⟨rfl,rfl⟩) (λh=>by rw[<- h];exact⟨rfl,rfl⟩);have a1:p1=max (min s.1.1 s.2.1.1) (min t.1.1 t.2.1.1):=by omega
 have a2:p2=max (min s.1.2.1 s.2.1.2.1) (min t.1.2.1 t.2.1.2.1):=by omega
 rw[<- a1,<- a2]
theorem rS{s t:SegD}(h:fe s t):mn s t↔(((x0 s t,y0 s t,()):PtD)=s.1\/((x0 s t,y0 s t,()):PtD)=s.2.1)/\(((x0 s t,y0 s t,()):PtD)=t.1\/((x0 s t,y0 s t,()):PtD)=t.2.1):=by
 constructor
 ·rintro(e|e|e|e)
  ·have:=mV h s.1 (.inl rfl) (.inl e);exact⟨.inl this.symm,.inl (this.symm.trans e)⟩
  ·have:=mV h s.1 (.inl rfl) (.inr e);exact⟨.inl this.symm,.inr (this.symm.trans e)⟩
  ·have:=mV h s.2.1 (.inr rfl) (.inl e);exact⟨.inr this.symm,.inl (this.symm.trans e)⟩
  have:=mV h s.2.1 (.inr rfl) (.inr e);exact⟨.inr this.symm,.inr (this.symm.trans e)⟩
 rintro⟨h1|h1,h2|h2⟩
 ·exact .inl (h1.symm.trans h2)
 ·exact .inr (.inl (h1.symm.trans h2))
 ·exact .inr (.inr (.inl (h1.symm.trans h2)))
 exact .inr (.inr (.inr (h1.symm.trans h2)))
end Go.Vm

/-
 OrthoChecks: what a path must be by itself.
-/
import Derived.Test.YtnkjongpfleloaaGreatDoorV43A
open List renaming getElem?_eq_getElem->dg,getElem_mem->RA,length_pos_iff->R4
open Option renaming bind_some->pw
open Sum renaming elim->sw
open Bool renaming not_true->RU
open Nat renaming zero_le->SY,eq_zero_or_pos->S3
set_option linter.unusedVariables false
set_option linter.unusedSimpArgs false
namespace Go.Vm
set_option maxRecDepth 100000
attribute [local irreducible] ac
theorem uP(x y:Int):eqI x y=eqI y x:=by
 by_cases h:x=y
 ·rw[dY h,dY h.symm]
 rw[dM h,dM (Ne.symm h)]
theorem CC(l:List PtD)(hl:l.length<=1000){r:Bool}(hv:Zar (l,())=some (r,()))(hne:r=true->l≠[]):Zo (l,())=some (r&&(sgD l).all jd,()):=by
 unfold Zo;simp only[hv,pw];cases r with
 |false=>rfl
 |true=>
  have hn:=iv l;have hp:0<l.length:=R4.2 (hne rfl);have h:=df (B:=u6) (sgD l) (λi=>(l,((i+1:Nat):Int),())) (λs=>!jd s) (.inl (false,())) (.inr (.inl ())) (by
   intro i hi;have e1:i+1<l.length:=by omega
   simp only[u6];rw[cr (by omega),UA,rQ (by omega),show((i+1:Nat):Int)-1=(i:Nat) by omega,aR,aR,dg e1,dg (show i<l.length by omega),d9 (by omega)];simp only[pw,t6 l i hi (by omega) e1,jd,Cd,uP l[i+1].1,uP l[i+1].2.1];cases eqI l[i].1 l[i+1].1<;>cases eqI l[i].2.1 l[i+1].2.1<;>rfl) (by
   simp only[u6];rw[cf (by omega)];rfl)
  rw[show DK (l,1,())=_ from h,List.all_eq_not_any_not];cases(sgD l).any (λs=>!jd s)<;>rfl
theorem HX(l:List PtD)(hl:l.length<=1000){r:Bool}(hv:Zep (l,())=some (r,())):Zbo (l,())=some (r&&(sgD l).all jd,()):=by show nJ Zep (l,())=_;unfold nJ;rw[show Nat.ble l.length 1000000=true from Nat.ble_eq_true_of_le (by omega)];simp only[hv,UA,pw]
theorem CJ{l:List PtD}(O:OkR l):Zdr (l,())=some (true,()):=by
 have h3:=rf l (by have:=O.2.1;omega);have hp:0<l.length:=R4.2 O.1;unfold Zdr;simp only;rw[pQ (by omega),BO (by have:=O.2.1;omega)];simp only[UA,h3,pw];have:l.any (λb=>!ptB b)=false:=by rw[List.any_eq_false];intro x hx;rw[O.2.2.1 x hx];simp
 rw[this];rfl
theorem IW{l:List PtD}(O:OkR l):Zah (l,())=some (l,()):=by unfold Zah;have hl:=O.2.1;rw[show List.isEmpty l=false by cases l with|nil=>exact absurd rfl O.1|cons _ _=>rfl];simp only[UB];rw[ui (by simp;omega)];rfl
theorem qj(a b:PtD):((eqI a.1 b.1)&&((eqI a.2.1 b.2.1)&&true))=aZ a b:=rfl
theorem nW{l:List PtD}(O:OkR l)(i:Nat)(h:i+1<l.length):aZ l[i] l[i+1]=false:=by
 cases hs:aZ l[i] l[i+1]with
 |false=>rfl
 |true=>exact absurd ⟨_,_,by omega,dg (show i+1-1<l.length by omega),dg h,hs⟩ (O.2.2.2 (i+1))
theorem wh{l:List PtD}(O:OkR l):Zw (l,())=some (l,()):=by
 have hl:=O.2.1;unfold Zw;simp only;by_cases h2:l.length<2
 ·rw[cr (by omega)];rfl
 rw[cf (by omega),UB];obtain⟨r,h,rfl⟩:=dQ (f:=An) (λx=>∃ i:Nat,x=(l,((i+1:Nat):Int),())/\i<l.length) (λx=>l.length+1-x.2.1.toNat) (λr=>r=.inr (.inl (l,()))) (by
  rintro x ⟨i,rfl,hi⟩;simp only[An];by_cases h:i+1<l.length
  ·rw[cr (by omega),UA,jf h,pw,dg h,pw,rQ (by omega),show((i+1:Nat):Int)-1=(i:Nat) by omega,jf (show i<l.length by omega),pw,dg (show i<l.length by omega),pw];rw[qj,iz,nW O i h,UB,d9 (by omega)];exact .inl ⟨_,rfl,⟨i+1,rfl,h⟩,by show l.length+1-((i+1+1:Nat):Int).toNat<l.length+1-((i+1:Nat):Int).toNat;omega⟩
  rw[cf (by omega)];exact .inr ⟨_,rfl,rfl⟩) (l,1,()) ⟨0,rfl,by omega⟩
 rw[show Fx (l,1,())=_ from h];rfl
theorem Dc{l:List PtD}(O:OkR l):D2 ([],l,0,())=some (.inr (.inl (l,()))):=by
 have hl:=O.2.1;obtain⟨r,h,rfl⟩:=dQ (f:=Bf) (λx=>∃ i:Nat,x=(l.take i,l,(i:Int),())/\i<=l.length) (λx=>l.length-x.2.2.1.toNat) (λr=>r=.inr (.inl (l,()))) (by
  rintro x ⟨i,rfl,hi⟩;simp only[Bf];by_cases h:i<l.length
  ·have ap:app (l.take i) [l[i]]=some (l.take (i+1)):=by rw[ui (by simp;omega),List.take_succ_eq_append_getElem h]
   rw[cr (by omega),UA,aR,dg h,pw,ET,pw,O.2.2.1 _ (RA h)];simp only[RU,UB,pw,ap,d9 (show i<9223372036854775807 by omega)];have next:(∃ t,(some (.inl (l.take (i+1),l,((i+1:Nat):Int),())):Option ((List PtD×List PtD×Int×Unit)⊕(Unit⊕((List PtD×Unit)⊕Empty))))=some (.inl t)/\(∃ i:Nat,t=(l.take i,l,(i:Int),())/\i<=l.length)/\l.length-t.2.2.1.toNat<l.length-(i:Int).toNat):=
    ⟨_,rfl,⟨i+1,rfl,h⟩,by show l.length-((i+1:Nat):Int).toNat<_;omega⟩
   rcases S3 i with h0|h0
   ·subst h0;rw[show eqI ((0:Nat):Int) 0=true from rfl];exact .inl next
   obtain⟨k,rfl⟩:∃ k,i=k+1:=⟨i-1,by omega⟩;rw[dM (by omega),UB,rQ (by omega),show((k+1:Nat):Int)-1=(k:Nat) by omega,aR,dg (show k<l.length by omega),pw,qj,iz,nW O k h];exact .inl next
  rw[cf (by omega),List.take_of_length_le (by omega)];exact .inr ⟨_,rfl,rfl⟩) ([],l,0,()) ⟨0,rfl,SY _⟩
 exact h
theorem rK{l:List PtD}(O:OkR l):∃ z,z.length<=512/\Zcy (l,())=some (z,())/\Zv (l,())=some (z,()):=by
 have hl:=O.2.1;have hp:0<l.length:=R4.2 O.1;obtain⟨r,u,h1,h2,z,hz,rfl,rfl⟩:=Qa (B:=tH) (C:=uk) (λx y=>∃(z:List PtD) (i:Nat),x=(l,z,(l.length:Int),(i:Int),())/\y=(l,z,(i:Int),())/\i<=l.length/\z.length<=i) (λx=>l.length-x.2.2.2.1.toNat)
  (λr u=>∃ z:List PtD,z.length<=512/\r=.inl (z,())/\u=.inl (z,())) (by
  rintro x y ⟨z,i,rfl,rfl,hi,hz⟩;simp only[tH,uk];by_cases h:i<l.length
  ·have ap:∀ p:PtD,app z [p]=some (z++[p]):=fun p=>ui (by simp; omega);have pe:(l[i].1,l[i].2.1,())=l[i]:=rfl;rw[cr (show (i:Int) < (l.length:Nat) by omega)];simp only[UA,jf h,pw,dg h,pe,ap,d9 (show i < 9223372036854775807 by omega),rQ (show l.length<=9223372036854775800 by omega)];have more:∀(x':List PtD),x'.length<=i+1->∃ s' t',(some (.inl (l,x',(l.length:Int),((i+1:Nat):Int),())):Option ((List PtD×List PtD×Int×Int×Unit)⊕((List PtD×Unit)⊕Empty)))=some (.inl s')/\(some (.inl (l,x',((i+1:Nat):Int),())):Option ((List PtD×List PtD×Int×Unit)⊕((List PtD×Unit)⊕Empty)))=some (.inl t') /\
     (∃(z:List PtD) (i:Nat),s'=(l,z,(l.length:Int),(i:Int),())/\t'=(l,z,(i:Int),())/\i<=l.length/\z.length<=i)/\l.length-s'.2.2.2.1.toNat<l.length-(i:Int).toNat:=λx' hx'=>
    ⟨_,_,rfl,rfl,⟨x',i+1,rfl,rfl,h,hx'⟩,by show l.length-((i+1:Nat):Int).toNat<_;omega⟩
   rcases S3 i with h0|h0
   ·subst h0;rw[show eqI ((0:Nat):Int) 0=true from rfl];exact .inl (more _ (by simp only[List.length_append,List.length_cons,List.length_nil];omega))
   obtain⟨k,rfl⟩:∃ k,i=k+1:=⟨i-1,by omega⟩;rw[dM (show((k+1:Nat):Int)≠0 by omega)];by_cases hlast:k+1+1=l.length
   ·rw[dY (show((k+1:Nat):Int)=(l.length:Nat)-1 by omega),dY (show((k+1+1:Nat):Int)=(l.length:Nat) by omega)];exact .inl (more _ (by simp;omega))
   have hk2:k+1+1<l.length:=by omega
   rw[dM (show((k+1:Nat):Int)≠(l.length:Nat)-1 by omega),dM (show((k+1+1:Nat):Int)≠(l.length:Nat) by omega)];simp only[UB];rw[rQ (show k+1<=9223372036854775800 by omega),show((k+1:Nat):Int)-1=(k:Nat) by omega,jf (show k<l.length by omega),jf hk2];simp only[pw,dg (show k<l.length by omega),dg hk2];obtain⟨b,b1,b2⟩:=CM l[k] l[k+1] l[k+2] (O.2.2.1 _ (RA _)) (O.2.2.1 _ (RA _)) (O.2.2.1 _ (RA _));rw[b1,b2];simp only[pw];cases b with
   |true=>exact .inl (more _ (by simp;omega))
   |false=>exact .inl (more _ (by omega))
  rw[cf (show(l.length:Nat)<=(i:Int) by omega)];exact .inr ⟨_,_,rfl,rfl,z,by omega,rfl,rfl⟩) (l,[],(l.length:Int),0,()) (l,[],0,()) ⟨[],0,rfl,rfl,SY _,SY _⟩
 refine⟨z,hz,?_,?_⟩
 ·unfold Zcy;simp only[CJ O,IW O,wh O,pw,RU,UB];rw[show wm (l,[],(l.length:Int),0,())=_ from h1];rfl
 unfold Zv;simp only;rw[cf (by omega),oN (by omega)];simp only[UB,Dc O,pw,Sum.elim_inr,Sum.elim_inl];rw[show xZ (l,[],0,())=_ from h2];rfl
theorem CX(z l:List PtD)(hz:z.length<=1000)(hl:l.length<=1000):∃ b,Zey (z,l,())=some (b,())/\Zbn (z,l,())=some (b,()):=by
 unfold Zey Zaj Zbn;simp only;by_cases hne:z.length=l.length
 ·rw[At (by omega)];simp only[UB];obtain⟨r,u,h1,h2,h3⟩:=Qa (B:=ue) (C:=tg) (λx y=>∃ i:Nat,x=(z,l,(z.length:Int),(i:Int),())/\y=(z,l,(i:Int),())/\i<=z.length) (λx=>z.length-x.2.2.2.1.toNat)
   (λr u=>(r=.inl (false,())/\u=.inl (false,()))\/(r=.inr (.inl ())/\u=.inr (.inl ()))) (by
   rintro x y ⟨i,rfl,rfl,hi⟩;simp only[ue,tg];by_cases h:i<z.length
   ·rw[cr (by omega),UA,UA,aR,aR,dg h,dg (show i<l.length by omega),d9 (by omega)];simp only[pw,qj];cases aZ z[i] l[i]with
    |true=>exact .inl ⟨_,_,rfl,rfl,⟨i+1,rfl,rfl,h⟩,by show z.length-((i+1:Nat):Int).toNat<z.length-(i:Int).toNat;omega⟩
    |false=>exact .inr ⟨_,_,rfl,rfl,.inl ⟨rfl,rfl⟩⟩
   rw[cf (by omega)];exact .inr ⟨_,_,rfl,rfl,.inr ⟨rfl,rfl⟩⟩) (z,l,(z.length:Int),0,()) (z,l,0,()) ⟨0,rfl,rfl,SY _⟩
  rw[show yb (z,l,(z.length:Int),0,())=_ from h1,show xk (z,l,0,())=_ from h2];rcases h3 with⟨rfl,rfl⟩|⟨rfl,rfl⟩
  ·exact⟨false,rfl,rfl⟩
  exact⟨true,rfl,rfl⟩
 rw[BZ (by omega)];exact⟨false,rfl,rfl⟩
theorem CL (l:List PtD)(hl:l.length<=1000)(p q:PtD):∃ b,Zej (l,p,q,())=some (b,())/\(b=false->Zbh (l,p,q,())=some (false,())) /\
  (b=true->OkR l/\(∀ s∈sgD l,jd s=true)/\Zbh (l,p,q,())=(re (l,0,())).bind (sw (λz8=>some (z8.1,())) (sw (λ_=>some (true,())) (λ_=>none)))):=by
 obtain⟨r,v1,v2,v3⟩:=ya l hl;have o1:=HX l hl v1;have o2:=CC l hl v2 (λh=>(v3.1 h).1);unfold Zej Zbh;simp only[v1,v2,o1,o2,pw];cases r with
 |false=>exact⟨false,rfl,λ_=>rfl,λh=>by cases h⟩
 |true=>
  have O:=v3.1 rfl;have hp:0<l.length:=R4.2 O.1;cases hf:(sgD l).all jd with
  |false=>exact⟨false,rfl,λ_=>rfl,λh=>by cases h⟩
  |true=>
   obtain⟨z,hz,z1,z2⟩:=rK O;obtain⟨b,b1,b2⟩:=CX z l (by omega) hl;simp only[Bool.and_self,UA,RU,UB,z1,z2,b1,b2,pw];cases b with
   |false=>exact⟨false,rfl,λ_=>rfl,λh=>by cases h⟩
   |true=>
    simp only[UA,RU,UB];rw[show(0:Int)=((0:Nat):Int)from rfl,aR,dg hp,rQ (by omega),show(l.length:Int)-1=((l.length-1:Nat):Int) by omega,aR,dg (show l.length-1<l.length by omega)];simp only[pw];cases(eqI l[0].1 p.1)&&((eqI l[0].2.1 p.2.1)&&true)with
    |false=>exact⟨false,rfl,λ_=>rfl,λh=>by cases h⟩
    |true=>
     simp only[UA,RU,UB];cases(eqI (l[l.length-1]'(by omega)).1 q.1)&&((eqI (l[l.length-1]'(by omega)).2.1 q.2.1)&&true)with
     |false=>exact⟨false,rfl,λ_=>rfl,λh=>by cases h⟩
     |true=>exact⟨true,rfl,λh=>(by cases h),λ_=>⟨O,λs hs=>List.all_eq_true.1 hf s hs,rfl⟩⟩
end Go.Vm

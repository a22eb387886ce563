/-
 Closed calls, run in the machine.
-/
import Derived.Test.YtdijhiodknmjaaaGreatDoorVmE
import Derived.Test.YtdijhiodknmjaaaGreatDoorXG
import Derived.Test.YtdijhiodknmjaaaGreatDoorD80A
open Bool renaming and_eq_true->sg
open Nat renaming beq->A3
set_option linter.unusedVariables false
set_option linter.unusedSimpArgs false
/-
 engine.Draw at one graph, run in the machine.
-/
namespace Go.Vm
open Go.Proofs
noncomputable section
set_option maxRecDepth 1000000
def PN{α:Type}(f:α->α->Bool):List α->List α->Bool
 |[],[]=>true
 |a::l,b::r=>f a b&&PN f l r
 |_,_=>false
noncomputable def we:(τ:Ty)->τ.den->τ.den->Bool
 |.int _,a,b=>eqI a b
 |.bool,a,b=>eqB a b
 |.str,a,b=>eqS a b
 |.slice e,x,y=>PN (we e) x y
 |.prod a b,x,y=>we a x.1 y.1&&we b x.2 y.2
 |.unit,_,_=>true
 |.arr _ e,x,y=>PN (we e) x y
 |.ptr e,x,y=>we e x y
 |.clo _ e,x,y=>we e x y
theorem IP{α:Type}{f:α->α->Bool}(hf:∀ a b,f a b=true->a=b):∀{l r:List α},PN f l r=true->l=r
 |[],[],_=>rfl
 |[],_::_,h=>by cases h
 |_::_,[],h=>by cases h
 |a::l,b::r,h=>by simp only[PN,sg]at h;rw[hf a b h.1,IP hf h.2]
theorem rx:∀{τ:Ty} {x y:τ.den},we τ x y=true->x=y
 |.int _,_,_,h=>eq_of_beq h
 |.bool,_,_,h=>eq_of_beq h
 |.str,_,_,h=>Ss.1 h
 |.slice e,_,_,h=>IP (λ_ _=>rx (τ:=e)) h
 |.prod a b,x,y,h=>by simp only[we,sg]at h;exact Prod.ext (rx h.1) (rx h.2)
 |.unit,_,_,_=>rfl
 |.arr _ e,_,_,h=>IP (λ_ _=>rx (τ:=e)) h
 |.ptr e,_,_,h=>rx (τ:=e) h
 |.clo _ e,_,_,h=>rx (τ:=e) h
noncomputable def QK{τ:Ty}(o:Option τ.den)(r:τ.den):Bool:=match o with
 |some x=>we τ x r
 |none=>false
theorem Sc{τ:Ty}{o:Option τ.den}{r:τ.den}(h:QK o r=true):o=some r:=by
 cases o with
 |none=>cases h
 |some x=>exact congrArg some (rx h)
noncomputable def ptC(ins:List (Mode×Ty))(outs:List (Bool×Ty))(x0:(aG (ins.map (·.2))).den)(r0:(aG (outs.map (·.2)++bm ins)).den):Con:=⟨ins,outs,λx=>cond (we _ x x0) (some r0) none,false⟩
theorem QP {P:Program}{G:Hp}{f:Nat}{ins:List (Mode×Ty)}{outs:List (Bool×Ty)}{M:(aG (ins.map (·.2))).den->Option (aG (outs.map (·.2)++bm ins)).den}(h:Con.Holds P G f ⟨ins,outs,M,false⟩)
  {x0:(aG (ins.map (·.2))).den} {r0:(aG (outs.map (·.2)++bm ins)).den} (e:M x0=some r0):Con.Holds P G f (ptC ins outs x0 r0):=by
 intro w F us x r hp hr;cases hx:we _ x x0 with
 |false=>have hr:cond (we _ x x0) (some r0) none=some r:=hr;rw[hx]at hr;cases hr
 |true=>have hr:cond (we _ x x0) (some r0) none=some r:=hr;rw[hx]at hr;exact h w F us x r hp ((congrArg M (rx hx)).trans (e.trans hr))
noncomputable def Ts:Tab:=(99,.clo 0 .unit)::tab
noncomputable def QR(g:Nat):Option (Heap->List SV->Option (SV×Heap)):=cond (A3 g 570) (some app570) none
noncomputable def SI(l:List Fn):Ctx:={ tab:=Ts,con:=KL l,glob:=glob,eqs:=[28,32,113,123],maps:=[(312,(I,I))],inl:=QR }
noncomputable def P3(l:List Fn)(H:List (Nat×Hint)):Ctx:={ SI l with inl:=λg=>match zn H g with
 |some _=>some (GH Tryz.prog (SI l) (zn H) 60 g)
 |none=>QR g }
theorem Ez:eL Tryz.prog Ts=true:=by kernel_rfl
theorem MY:M0 Tryz.prog Ts [28,32,113,123]=true:=by kernel_rfl
theorem Ky:BB Tryz.prog [(312,(I,I))]=true:=by kernel_rfl
theorem Nd{g:Nat}{r:Heap->List SV->Option (SV×Heap)}(h:QR g=some r):CD Tryz.prog glob g r:=by
 unfold QR at h;cases hg:A3 g 570 with
 |false=>rw[hg]at h;cases h
 |true=>rw[hg]at h;cases h;rw[Nat.eq_of_beq_eq_true hg];exact Ox
theorem SJ(l:List Fn):CtxOK Tryz.prog (SI l):=⟨Ez,K9 Ez MY,IA Ky,uo,λ_ _ h=>Nd h⟩
theorem R6(l:List Fn){H:List (Nat×Hint)}(hH:Hs Tryz.prog H=true):CtxOK Tryz.prog (P3 l H):=⟨Ez,K9 Ez MY,IA Ky,uo,λg r h=>by
 have h:(match zn H g with
  |some _=>some (GH Tryz.prog (SI l) (zn H) 60 g)
  |none=>QR g)=some r:=h
 split at h
 ·cases h;exact HX (SJ l) (IL seat_ok.order) hH 60 g
 exact Nd h⟩
theorem DG (l:List Fn)(H:List (Nat×Hint))(hH:Hs Tryz.prog H=true){f:Nat}{fn:Func}{ins:List (Mode×Ty)}{outs:BC}(hf:Tryz.prog.funcs[f]?=some fn)(hb:fn.body=some (gk fn))
  (hk : (!(fn.name == "runtime.NumGoroutine") && kI fn.ntmps (gk fn) && DB [] ins && D0 Tryz.prog outs) = true) (hres : fn.results = (outs.map (·.1)).toArray)
  {x0:(aG (ins.map (·.2))).den} {r0:(aG ((outs.map (·.2)).map (·.2)++bm ins)).den} (h:QK (vq (P3 l H) [] (gk fn) ins outs x0) r0=true):Con.Holds Tryz.prog glob f (ptC ins (outs.map (·.2)) x0 r0):=by
 simp only[sg,Bool.not_eq_true']at hk;obtain⟨⟨⟨k1,k2⟩,k3⟩,k4⟩:=hk;exact QP (Hq (A:=[]) (R6 l hH) (IL seat_ok.order) hf hb k1 (λc _ ann h=>by cases h) k2 k3 hres k4 λ_=>rfl) (Sc h)
noncomputable def gA:yQ45.den:=(ByteArray.mk #[97],ByteArray.mk #[97],20000,10000,-1,[],())
noncomputable def gB:yQ45.den:=(ByteArray.mk #[98],ByteArray.mk #[97],20000,10000,-1,[],())
noncomputable def gIn:yQ49.den:=(ByteArray.mk #[103],false,[gA,gB],[],[],())
noncomputable def oIn:yQ5.den:=(0,10000,20000,5000,8,())
abbrev LayT:Ty:=.prod I (.prod Fg CW)
noncomputable def Kr:LayT.den:=(2,[[0,1]],[],[],())
noncomputable def PF:List (Nat×Hint):=[(94,{}),(95,{}),(171,{}),(173,{}),(175,{}),(176,{}),(177,{}),(207,{ deep:=[78,174],light:=[22,32] }),(208,{}),(228,{}),(234,{}),(253,{}),(256,{}),(261,{}),(262,{}),(264,{}),(265,{}),(266,{}),(267,{}),(280,{}),(281,{}),(282,{}),(284,{}),(285,{}),(286,{}),(287,{}),(300,{}),(324,{}),(349,{}),(361,{}),(362,{}),(363,{}),(370,{}),(371,{}),(372,{}),(373,{}),(374,{}),(375,{}),(376,{}),(377,{}),(378,{}),(380,{}),(418,{}),(419,{}),(444,{ deep:=[11],light:=[5,7] }),(445,{}),(451,{}),(452,{}),(453,{}),(454,{}),(455,{}),(456,{}),(458,{}),(459,{ deep:=[19] }),(460,{}),(462,{}),(463,{ deep:=[44] }),(509,{}),(515,{}),(530,{}),(536,{}),(537,{}),(538,{}),(566,{}),(574,{})]
theorem QM:Hs Tryz.prog PF=true:=by kernel_rfl
theorem Rx:QK (τ:=aG [LayT,I,I]) (vq (P3 [dQ,bu] PF) [] (gk Tryz.f126) [(.rd,yQ49),(.rd,yQ5)] [(.cell 4 144,false,LayT),(.tmp 5,false,I),(.tmp 6,false,I)] (gIn,oIn,())) (Kr,0,0,())=true:=by kernel_rfl
noncomputable def Nk:Fn:=⟨126,ptC [(.rd,yQ49),(.rd,yQ5)] [(false,LayT),(false,I),(false,I)] (gIn,oIn,()) (Kr,0,0,()),DG [dQ,bu] PF QM (outs:=[(.cell 4 144,false,LayT),(.tmp 5,false,I),(.tmp 6,false,I)]) Tryz.func126 (by kernel_rfl) (by kernel_rfl) (by kernel_rfl) Rx⟩
end
end Go.Vm

/-
 engine.Draw at one graph, run in the machine.
-/
namespace Go.Vm
open Go.Proofs
noncomputable section
set_option maxRecDepth 1000000
noncomputable def drawn:yQ38.den:=([(0,0,20000,10000,()),(30000,0,50000,10000,())],[],[],[],(0,0,50000,10000,()),0,0,[0,0],())
noncomputable def QV:List (Nat×Hint):=[(27,{}),(28,{}),(29,{}),(30,{ frz:=[13] }),(40,{}),(66,{}),(73,{}),(74,{}),(75,{}),(76,{}),(77,{}),(80,{}),(94,{}),(95,{}),(96,{}),(125,{}),(127,{}),(135,{}),(147,{}),(148,{}),(149,{}),(154,{}),(171,{}),(173,{}),(175,{}),(176,{}),(177,{}),(205,{ min:=true }),(206,{}),(207,{ deep:=[78,174],light:=[22,32] }),(209,{}),(210,{}),(211,{ deep:=[44,90,103] }),(228,{}),(234,{}),(253,{}),(256,{}),(261,{}),(262,{}),(264,{}),(265,{}),(266,{}),(267,{}),(277,{}),(278,{}),(279,{}),(280,{}),(281,{}),(282,{}),(284,{}),(288,{}),(289,{}),(324,{}),(349,{}),(361,{}),(362,{}),(363,{}),(367,{}),(369,{}),(370,{}),(371,{}),(372,{}),(373,{}),(374,{}),(418,{}),(419,{}),(444,{ deep:=[11],light:=[5,7] }),(445,{}),(449,{}),(450,{}),(451,{}),(452,{}),(453,{}),(454,{}),(455,{}),(456,{}),(509,{}),(515,{}),(530,{}),(566,{})]
theorem Qb:Hs Tryz.prog QV=true:=by kernel_rfl
theorem RB:QK (τ:=aG [yQ38,I]) (vq (P3 [Nk,dQ,bu] QV) [] (gk Tryz.f10) [(.rd,yQ49),(.rd,yQ5)] [(.cell 4 35,false,yQ38),(.tmp 5,false,I)] (gIn,oIn,())) (drawn,0,())=true:=by kernel_rfl
noncomputable def Qa:Fn:=⟨10,ptC [(.rd,yQ49),(.rd,yQ5)] [(false,yQ38),(false,I)] (gIn,oIn,()) (drawn,0,()),DG [Nk,dQ,bu] QV Qb (outs:=[(.cell 4 35,false,yQ38),(.tmp 5,false,I)]) Tryz.func10 (by kernel_rfl) (by kernel_rfl) (by kernel_rfl) RB⟩
end
end Go.Vm

/-
 layoutlaw58.lives, run in the machine.
-/
namespace Go.Vm
open Go.Proofs
noncomputable section
set_option maxRecDepth 1000000
noncomputable def QH:List (Nat×Hint):=[(8,{}),(11,{}),(12,{}),(13,{}),(17,{}),(18,{}),(37,{}),(40,{}),(41,{}),(43,{}),(74,{}),(94,{}),(95,{}),(96,{}),(97,{}),(98,{}),(147,{}),(173,{}),(175,{}),(176,{}),(177,{}),(178,{}),(228,{}),(256,{}),(262,{}),(264,{}),(265,{}),(266,{}),(267,{}),(349,{}),(361,{}),(362,{}),(363,{}),(444,{ deep:=[11],light:=[5,7] }),(445,{})]
theorem Ro:Hs Tryz.prog QH=true:=by kernel_rfl
theorem QW:QK (τ:=aG [.bool]) (vq (P3 [Qa,vv,qC,pz,oQ,dQ,bu] QH) [] (gk Tryz.f6) [] [(.tmp 0,false,.bool)] ()) (true,())=true:=by kernel_rfl
noncomputable def trueCon:Con:=ptC [] [(false,.bool)] () (true,())
theorem SK:Con.Holds Tryz.prog glob 6 trueCon:=DG [Qa,vv,qC,pz,oQ,dQ,bu] QH Ro (outs:=[(.tmp 0,false,.bool)]) Tryz.func6 (by kernel_rfl) (by kernel_rfl) (by kernel_rfl) QW
end
end Go.Vm


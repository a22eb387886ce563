/-
 layoutlaw43.lives, run in the machine: points.
-/
import Derived.Test.YtnkjongpfleloaaGreatDoorLv43A
set_option linter.unusedVariables false
set_option linter.unusedSimpArgs false
namespace Go.Vm
open Go.Proofs
noncomputable section
set_option maxRecDepth 1000000
noncomputable def DR:(aa [DgT]).den:=((4,([(0,(1,()))],())),())
noncomputable def Jo:(aa [(.slice (.slice I))]).den:=([[0]],())
theorem MK:bE (τ:=aa [(.slice (.slice I))]) (br (cg cs hs {}) (aI Tryz.f141) Tryz.f141.ntmps [(.rd,DgT)] [(.tmp 2,false,(.slice (.slice I)))] DR) Jo=true:=by kernel_rfl
noncomputable def b33_h:Fn:=⟨141,ptC [(.rd,DgT)] [(false,(.slice (.slice I)))] DR Jo,am cs hs bt {} (outs:=[(.tmp 2,false,(.slice (.slice I)))]) Tryz.func141 (by kernel_rfl) (by kernel_rfl) (by kernel_rfl) rfl MK⟩
noncomputable def yE:(aa [DgT]).den:=((4,([(0,(1,()))],())),())
noncomputable def Bu:(aa [ba,I]).den:=((4,([(0,(1,()))],([[0],[1],[],[]],()))),0,())
noncomputable def vS:Fn:=⟨141,cZ [(.rd,DgT)] [(false,(.slice (.slice I)))] [(DR,Jo)],ag b33_h.ok (aX)⟩
theorem Nx:bE (τ:=aa [ba,I]) (br (cg (vS::cs) (but hs [141]) {}) (aI Tryz.f60) Tryz.f60.ntmps [(.rd,DgT)] [(.cell 2 59,false,ba),(.tmp 3,false,I)] yE) Bu=true:=by kernel_rfl
noncomputable def e35_h:Fn:=⟨60,ptC [(.rd,DgT)] [(false,ba),(false,I)] yE Bu,am (vS::cs) (but hs [141]) (bZ bt) {} (outs:=[(.cell 2 59,false,ba),(.tmp 3,false,I)]) Tryz.func60 (by kernel_rfl) (by kernel_rfl) (by kernel_rfl) rfl Nx⟩
noncomputable def HC:(aa [DgT]).den:=((4,([(0,(1,())),(1,(2,()))],())),())
noncomputable def Fz:(aa [(.slice (.slice I))]).den:=([[0],[1]],())
theorem NM:bE (τ:=aa [(.slice (.slice I))]) (br (cg cs hs {}) (aI Tryz.f141) Tryz.f141.ntmps [(.rd,DgT)] [(.tmp 2,false,(.slice (.slice I)))] HC) Fz=true:=by kernel_rfl
noncomputable def b37_h:Fn:=⟨141,ptC [(.rd,DgT)] [(false,(.slice (.slice I)))] HC Fz,am cs hs bt {} (outs:=[(.tmp 2,false,(.slice (.slice I)))]) Tryz.func141 (by kernel_rfl) (by kernel_rfl) (by kernel_rfl) rfl NM⟩
noncomputable def yu:(aa [DgT]).den:=((4,([(0,(1,())),(1,(2,()))],())),())
noncomputable def yA:(aa [ba,I]).den:=((4,([(0,(1,())),(1,(2,()))],([[0],[1,2],[3],[]],()))),0,())
noncomputable def uZ:Fn:=⟨141,cZ [(.rd,DgT)] [(false,(.slice (.slice I)))] [(HC,Fz)],ag b37_h.ok (aX)⟩
theorem NJ:bE (τ:=aa [ba,I]) (br (cg (uZ::cs) (but hs [141]) {}) (aI Tryz.f60) Tryz.f60.ntmps [(.rd,DgT)] [(.cell 2 59,false,ba),(.tmp 3,false,I)] yu) yA=true:=by kernel_rfl
noncomputable def e39_h:Fn:=⟨60,ptC [(.rd,DgT)] [(false,ba),(false,I)] yu yA,am (uZ::cs) (but hs [141]) (bZ bt) {} (outs:=[(.cell 2 59,false,ba),(.tmp 3,false,I)]) Tryz.func60 (by kernel_rfl) (by kernel_rfl) (by kernel_rfl) rfl NJ⟩
noncomputable def Gk:(aa [DgT]).den:=((4,([(0,(1,())),(1,(2,())),(2,(3,()))],())),())
noncomputable def D4:(aa [(.slice (.slice I))]).den:=([[0],[1],[2]],())
theorem MX:bE (τ:=aa [(.slice (.slice I))]) (br (cg cs hs {}) (aI Tryz.f141) Tryz.f141.ntmps [(.rd,DgT)] [(.tmp 2,false,(.slice (.slice I)))] Gk) D4=true:=by kernel_rfl
noncomputable def b41_h:Fn:=⟨141,ptC [(.rd,DgT)] [(false,(.slice (.slice I)))] Gk D4,am cs hs bt {} (outs:=[(.tmp 2,false,(.slice (.slice I)))]) Tryz.func141 (by kernel_rfl) (by kernel_rfl) (by kernel_rfl) rfl MX⟩
noncomputable def yS:(aa [DgT]).den:=((4,([(0,(1,())),(1,(2,())),(2,(3,()))],())),())
noncomputable def AA:(aa [ba,I]).den:=((4,([(0,(1,())),(1,(2,())),(2,(3,()))],([[0],[1,2],[3,4],[5]],()))),0,())
noncomputable def vZ:Fn:=⟨141,cZ [(.rd,DgT)] [(false,(.slice (.slice I)))] [(Gk,D4)],ag b41_h.ok (aX)⟩
theorem MM:bE (τ:=aa [ba,I]) (br (cg (vZ::cs) (but hs [141]) {}) (aI Tryz.f60) Tryz.f60.ntmps [(.rd,DgT)] [(.cell 2 59,false,ba),(.tmp 3,false,I)] yS) AA=true:=by kernel_rfl
noncomputable def e43_h:Fn:=⟨60,ptC [(.rd,DgT)] [(false,ba),(false,I)] yS AA,am (vZ::cs) (but hs [141]) (bZ bt) {} (outs:=[(.cell 2 59,false,ba),(.tmp 3,false,I)]) Tryz.func60 (by kernel_rfl) (by kernel_rfl) (by kernel_rfl) rfl MM⟩
noncomputable def F7:(aa [DgT]).den:=((4,([(0,(1,())),(1,(2,())),(2,(3,())),(3,(0,()))],())),())
noncomputable def HK:(aa [(.slice (.slice I))]).den:=([[0,1,2,3]],())
theorem N5:bE (τ:=aa [(.slice (.slice I))]) (br (cg cs hs {}) (aI Tryz.f141) Tryz.f141.ntmps [(.rd,DgT)] [(.tmp 2,false,(.slice (.slice I)))] F7) HK=true:=by kernel_rfl
noncomputable def b45_h:Fn:=⟨141,ptC [(.rd,DgT)] [(false,(.slice (.slice I)))] F7 HK,am cs hs bt {} (outs:=[(.tmp 2,false,(.slice (.slice I)))]) Tryz.func141 (by kernel_rfl) (by kernel_rfl) (by kernel_rfl) rfl N5⟩
noncomputable def AO:(aa [DgT]).den:=((4,([(0,(1,())),(1,(2,())),(2,(3,())),(3,(0,()))],())),())
noncomputable def yX:(aa [ba,I]).den:=((4,([(0,(1,())),(1,(2,())),(2,(3,())),(3,(0,()))],([[0,7],[1,2],[3,4],[5,6]],()))),0,())
noncomputable def uF:Fn:=⟨141,cZ [(.rd,DgT)] [(false,(.slice (.slice I)))] [(F7,HK)],ag b45_h.ok (aX)⟩
theorem Nn:bE (τ:=aa [ba,I]) (br (cg (uF::cs) (but hs [141]) {}) (aI Tryz.f60) Tryz.f60.ntmps [(.rd,DgT)] [(.cell 2 59,false,ba),(.tmp 3,false,I)] AO) yX=true:=by kernel_rfl
noncomputable def e47_h:Fn:=⟨60,ptC [(.rd,DgT)] [(false,ba),(false,I)] AO yX,am (uF::cs) (but hs [141]) (bZ bt) {} (outs:=[(.cell 2 59,false,ba),(.tmp 3,false,I)]) Tryz.func60 (by kernel_rfl) (by kernel_rfl) (by kernel_rfl) rfl Nn⟩
noncomputable def DQ:(aa [DgT]).den:=((4,([(0,(1,())),(1,(2,())),(2,(3,())),(3,(0,()))],())),())
noncomputable def Iw:(aa [(.slice I),I]).den:=([0,1,2,3],0,())
noncomputable def zB:Fn:=⟨60,cZ [(.rd,DgT)] [(false,ba),(false,I)] [(yE,Bu),(yu,yA),(yS,AA),(AO,yX)],ag e35_h.ok (ag e39_h.ok (ag e43_h.ok (ag e47_h.ok (aX))))⟩
theorem MF:bE (τ:=aa [(.slice I),I]) (br (cg (zB::cs) (but hs [60]) {}) (aI Tryz.f59) Tryz.f59.ntmps [(.rd,DgT)] [(.tmp 2,false,(.slice I)),(.tmp 3,false,I)] DQ) Iw=true:=by kernel_rfl
noncomputable def m49_h:Fn:=⟨59,ptC [(.rd,DgT)] [(false,(.slice I)),(false,I)] DQ Iw,am (zB::cs) (but hs [60]) (bZ bt) {} (outs:=[(.tmp 2,false,(.slice I)),(.tmp 3,false,I)]) Tryz.func59 (by kernel_rfl) (by kernel_rfl) (by kernel_rfl) rfl MF⟩
noncomputable def Fa:(aa [DgT]).den:=((4,([(0,(1,())),(1,(2,())),(2,(3,())),(3,(0,()))],())),())
noncomputable def EZ:(aa [fC,I,I]).den:=(((4,([(0,(1,())),(1,(2,())),(2,(3,())),(3,(0,()))],([[0,7],[1,2],[3,4],[5,6]],()))),(4,([[0],[2],[4],[6]],()))),0,0,())
noncomputable def yT:Fn:=⟨59,cZ [(.rd,DgT)] [(false,(.slice I)),(false,I)] [(DQ,Iw)],ag m49_h.ok (aX)⟩
noncomputable def yw:Fn:=⟨60,cZ [(.rd,DgT)] [(false,ba),(false,I)] [(yE,Bu),(yu,yA),(yS,AA),(AO,yX)],ag e35_h.ok (ag e39_h.ok (ag e43_h.ok (ag e47_h.ok (aX))))⟩
theorem Mp:bE (τ:=aa [fC,I,I]) (br (cg (yT::yw::cs) (but hs [59,60]) { deep:=[45],light:=[45],vars:=[2] }) (aI Tryz.f26) Tryz.f26.ntmps [(.rd,DgT)] [(.cell 2 61,false,fC),(.tmp 3,false,I),(.tmp 4,false,I)] Fa) EZ=true:=by kernel_rfl
noncomputable def p55_h:Fn:=⟨26,ptC [(.rd,DgT)] [(false,fC),(false,I),(false,I)] Fa EZ,am (yT::yw::cs) (but hs [59,60]) (bZ bt) { deep:=[45],light:=[45],vars:=[2] } (outs:=[(.cell 2 61,false,fC),(.tmp 3,false,I),(.tmp 4,false,I)]) Tryz.func26 (by kernel_rfl) (by kernel_rfl) (by kernel_rfl) rfl Mp⟩
noncomputable def HF:(aa [eC]).den:=(([2,2,2,2,(-8),0],([(0,(5,(3,(0,())))),(4,(5,(64,(1,())))),(1,(4,(3,(0,())))),(5,(4,(64,(1,())))),(1,(5,(3,(0,())))),(4,(5,(64,(1,())))),(2,(4,(3,(0,())))),(5,(4,(64,(1,())))),(2,(5,(3,(0,())))),(4,(5,(64,(1,())))),(3,(4,(3,(0,())))),(5,(4,(64,(1,())))),(3,(5,(3,(0,())))),(4,(5,(64,(1,())))),(0,(4,(3,(0,())))),(5,(4,(64,(1,()))))],())),())
noncomputable def Dg:(aa [(.slice I),I]).den:=([0,0,2,0,0,0,2,0,0,0,2,0,0,0,2,0],0,())
theorem Ny:bE (τ:=aa [(.slice I),I]) (br (cg cs hs {}) (aI Tryz.f107) Tryz.f107.ntmps [(.rd,eC)] [(.tmp 2,false,(.slice I)),(.tmp 3,false,I)] HF) Dg=true:=by kernel_rfl
noncomputable def n60_h:Fn:=⟨107,ptC [(.rd,eC)] [(false,(.slice I)),(false,I)] HF Dg,am cs hs bt {} (outs:=[(.tmp 2,false,(.slice I)),(.tmp 3,false,I)]) Tryz.func107 (by kernel_rfl) (by kernel_rfl) (by kernel_rfl) rfl Ny⟩
noncomputable def Gq:(aa [ba,I]).den:=((4,([(0,(1,())),(1,(2,())),(2,(3,())),(3,(0,()))],([[0,7],[1,2],[3,4],[5,6]],()))),0,())
noncomputable def Gz:(aa [cm,I]).den:=(((4,([(0,(1,())),(1,(2,())),(2,(3,())),(3,(0,()))],([[0,7],[1,2],[3,4],[5,6]],()))),([1,3,1,3,1,3,1,3],([(ByteArray.mk #[]),(ByteArray.mk #[]),(ByteArray.mk #[]),(ByteArray.mk #[]),(ByteArray.mk #[]),(ByteArray.mk #[]),(ByteArray.mk #[]),(ByteArray.mk #[])],(0,())))),0,())
noncomputable def vH:Fn:=⟨107,cZ [(.rd,eC)] [(false,(.slice I)),(false,I)] [(HF,Dg)],ag n60_h.ok (aX)⟩
theorem MU:bE (τ:=aa [cm,I]) (br (cg (vH::cs) (but hs [107]) {}) (aI Tryz.f27) Tryz.f27.ntmps [(.rd,ba),(.rd,I)] [(.cell 4 67,false,cm),(.tmp 5,false,I)] Gq) Gz=true:=by kernel_rfl
noncomputable def s63_h:Fn:=⟨27,ptC [(.rd,ba),(.rd,I)] [(false,cm),(false,I)] Gq Gz,am (vH::cs) (but hs [107]) (bZ bt) {} (outs:=[(.cell 4 67,false,cm),(.tmp 5,false,I)]) Tryz.func27 (by kernel_rfl) (by kernel_rfl) (by kernel_rfl) rfl MU⟩
end
end Go.Vm

/-
 layoutlaw43.lives, run in the machine: points.
-/
import Derived.Test.YtnkjongpfleloaaGreatDoorLv43A
set_option linter.unusedVariables false
set_option linter.unusedSimpArgs false
namespace Go.Vm
open Go.Proofs
noncomputable section
set_option maxRecDepth 1000000
noncomputable def NF:(aa [DgT]).den:=((3,([(0,(1,()))],())),())
noncomputable def NT:(aa [(.slice (.slice I))]).den:=([[0]],())
theorem Pz:bE (τ:=aa [(.slice (.slice I))]) (br (cg cs hs {}) (aI Tryz.f141) Tryz.f141.ntmps [(.rd,DgT)] [(.tmp 2,false,(.slice (.slice I)))] NF) NT=true:=by kernel_rfl
noncomputable def b2_h:Fn:=⟨141,ptC [(.rd,DgT)] [(false,(.slice (.slice I)))] NF NT,am cs hs bt {} (outs:=[(.tmp 2,false,(.slice (.slice I)))]) Tryz.func141 (by kernel_rfl) (by kernel_rfl) (by kernel_rfl) rfl Pz⟩
noncomputable def JT:(aa [DgT]).den:=((3,([(0,(1,()))],())),())
noncomputable def JG:(aa [ba,I]).den:=((3,([(0,(1,()))],([[0],[1],[]],()))),0,())
noncomputable def zh:Fn:=⟨141,cZ [(.rd,DgT)] [(false,(.slice (.slice I)))] [(NF,NT)],ag b2_h.ok (aX)⟩
theorem PB:bE (τ:=aa [ba,I]) (br (cg (zh::cs) (but hs [141]) {}) (aI Tryz.f60) Tryz.f60.ntmps [(.rd,DgT)] [(.cell 2 59,false,ba),(.tmp 3,false,I)] JT) JG=true:=by kernel_rfl
noncomputable def e4_h:Fn:=⟨60,ptC [(.rd,DgT)] [(false,ba),(false,I)] JT JG,am (zh::cs) (but hs [141]) (bZ bt) {} (outs:=[(.cell 2 59,false,ba),(.tmp 3,false,I)]) Tryz.func60 (by kernel_rfl) (by kernel_rfl) (by kernel_rfl) rfl PB⟩
noncomputable def NK:(aa [DgT]).den:=((3,([(0,(1,())),(0,(2,()))],())),())
noncomputable def Mv:(aa [(.slice (.slice I))]).den:=([[0],[1]],())
theorem PQ:bE (τ:=aa [(.slice (.slice I))]) (br (cg cs hs {}) (aI Tryz.f141) Tryz.f141.ntmps [(.rd,DgT)] [(.tmp 2,false,(.slice (.slice I)))] NK) Mv=true:=by kernel_rfl
noncomputable def b6_h:Fn:=⟨141,ptC [(.rd,DgT)] [(false,(.slice (.slice I)))] NK Mv,am cs hs bt {} (outs:=[(.tmp 2,false,(.slice (.slice I)))]) Tryz.func141 (by kernel_rfl) (by kernel_rfl) (by kernel_rfl) rfl PQ⟩
noncomputable def JP:(aa [DgT]).den:=((3,([(0,(1,())),(0,(2,()))],())),())
noncomputable def Kk:(aa [ba,I]).den:=((3,([(0,(1,())),(0,(2,()))],([[0,2],[1],[3]],()))),0,())
noncomputable def BQ:Fn:=⟨141,cZ [(.rd,DgT)] [(false,(.slice (.slice I)))] [(NK,Mv)],ag b6_h.ok (aX)⟩
theorem Pa:bE (τ:=aa [ba,I]) (br (cg (BQ::cs) (but hs [141]) {}) (aI Tryz.f60) Tryz.f60.ntmps [(.rd,DgT)] [(.cell 2 59,false,ba),(.tmp 3,false,I)] JP) Kk=true:=by kernel_rfl
noncomputable def e8_h:Fn:=⟨60,ptC [(.rd,DgT)] [(false,ba),(false,I)] JP Kk,am (BQ::cs) (but hs [141]) (bZ bt) {} (outs:=[(.cell 2 59,false,ba),(.tmp 3,false,I)]) Tryz.func60 (by kernel_rfl) (by kernel_rfl) (by kernel_rfl) rfl Pa⟩
noncomputable def De:(aa [DgT]).den:=((3,([(0,(1,())),(0,(2,())),(1,(2,()))],())),())
noncomputable def Ev:(aa [(.slice (.slice I))]).den:=([[0,1,2]],())
theorem Mi:bE (τ:=aa [(.slice (.slice I))]) (br (cg cs hs {}) (aI Tryz.f141) Tryz.f141.ntmps [(.rd,DgT)] [(.tmp 2,false,(.slice (.slice I)))] De) Ev=true:=by kernel_rfl
noncomputable def b10_h:Fn:=⟨141,ptC [(.rd,DgT)] [(false,(.slice (.slice I)))] De Ev,am cs hs bt {} (outs:=[(.tmp 2,false,(.slice (.slice I)))]) Tryz.func141 (by kernel_rfl) (by kernel_rfl) (by kernel_rfl) rfl Mi⟩
noncomputable def BD:(aa [DgT]).den:=((3,([(0,(1,())),(0,(2,())),(1,(2,()))],())),())
noncomputable def AR:(aa [ba,I]).den:=((3,([(0,(1,())),(0,(2,())),(1,(2,()))],([[0,2],[1,4],[3,5]],()))),0,())
noncomputable def vN:Fn:=⟨141,cZ [(.rd,DgT)] [(false,(.slice (.slice I)))] [(De,Ev)],ag b10_h.ok (aX)⟩
theorem MC:bE (τ:=aa [ba,I]) (br (cg (vN::cs) (but hs [141]) {}) (aI Tryz.f60) Tryz.f60.ntmps [(.rd,DgT)] [(.cell 2 59,false,ba),(.tmp 3,false,I)] BD) AR=true:=by kernel_rfl
noncomputable def e12_h:Fn:=⟨60,ptC [(.rd,DgT)] [(false,ba),(false,I)] BD AR,am (vN::cs) (but hs [141]) (bZ bt) {} (outs:=[(.cell 2 59,false,ba),(.tmp 3,false,I)]) Tryz.func60 (by kernel_rfl) (by kernel_rfl) (by kernel_rfl) rfl MC⟩
noncomputable def Dr:(aa [DgT]).den:=((3,([(0,(1,())),(0,(2,())),(1,(2,()))],())),())
noncomputable def DA:(aa [(.slice I),I]).den:=([0,1,2],0,())
noncomputable def zy:Fn:=⟨60,cZ [(.rd,DgT)] [(false,ba),(false,I)] [(JT,JG),(JP,Kk),(BD,AR)],ag e4_h.ok (ag e8_h.ok (ag e12_h.ok (aX)))⟩
theorem NY:bE (τ:=aa [(.slice I),I]) (br (cg (zy::cs) (but hs [60]) {}) (aI Tryz.f59) Tryz.f59.ntmps [(.rd,DgT)] [(.tmp 2,false,(.slice I)),(.tmp 3,false,I)] Dr) DA=true:=by kernel_rfl
noncomputable def m14_h:Fn:=⟨59,ptC [(.rd,DgT)] [(false,(.slice I)),(false,I)] Dr DA,am (zy::cs) (but hs [60]) (bZ bt) {} (outs:=[(.tmp 2,false,(.slice I)),(.tmp 3,false,I)]) Tryz.func59 (by kernel_rfl) (by kernel_rfl) (by kernel_rfl) rfl NY⟩
noncomputable def If:(aa [DgT]).den:=((3,([(0,(1,())),(0,(2,())),(1,(2,()))],())),())
noncomputable def Jh:(aa [fC,I,I]).den:=(((3,([(0,(1,())),(0,(2,())),(1,(2,()))],([[0,2],[1,4],[3,5]],()))),(3,([[0],[2],[4]],()))),0,0,())
noncomputable def Bh:Fn:=⟨59,cZ [(.rd,DgT)] [(false,(.slice I)),(false,I)] [(Dr,DA)],ag m14_h.ok (aX)⟩
noncomputable def yZ:Fn:=⟨60,cZ [(.rd,DgT)] [(false,ba),(false,I)] [(JT,JG),(JP,Kk),(BD,AR)],ag e4_h.ok (ag e8_h.ok (ag e12_h.ok (aX)))⟩
theorem Ns:bE (τ:=aa [fC,I,I]) (br (cg (Bh::yZ::cs) (but hs [59,60]) { deep:=[45],light:=[45],vars:=[2] }) (aI Tryz.f26) Tryz.f26.ntmps [(.rd,DgT)] [(.cell 2 61,false,fC),(.tmp 3,false,I),(.tmp 4,false,I)] If) Jh=true:=by kernel_rfl
noncomputable def p20_h:Fn:=⟨26,ptC [(.rd,DgT)] [(false,fC),(false,I),(false,I)] If Jh,am (Bh::yZ::cs) (but hs [59,60]) (bZ bt) { deep:=[45],light:=[45],vars:=[2] } (outs:=[(.cell 2 61,false,fC),(.tmp 3,false,I),(.tmp 4,false,I)]) Tryz.func26 (by kernel_rfl) (by kernel_rfl) (by kernel_rfl) rfl Ns⟩
noncomputable def EG:(aa [eC]).den:=(([2,2,2,(-7),1],([(0,(4,(3,(0,())))),(3,(4,(64,(1,())))),(1,(3,(3,(0,())))),(4,(3,(64,(1,())))),(0,(3,(3,(0,())))),(4,(3,(64,(1,())))),(2,(4,(3,(0,())))),(3,(4,(64,(1,())))),(1,(4,(3,(0,())))),(3,(4,(64,(1,())))),(2,(3,(3,(0,())))),(4,(3,(64,(1,()))))],())),())
noncomputable def Gm:(aa [(.slice I),I]).den:=([0,0,2,1,2,0,0,0,0,0,2,0],0,())
theorem Mt:bE (τ:=aa [(.slice I),I]) (br (cg cs hs {}) (aI Tryz.f107) Tryz.f107.ntmps [(.rd,eC)] [(.tmp 2,false,(.slice I)),(.tmp 3,false,I)] EG) Gm=true:=by kernel_rfl
noncomputable def n25_h:Fn:=⟨107,ptC [(.rd,eC)] [(false,(.slice I)),(false,I)] EG Gm,am cs hs bt {} (outs:=[(.tmp 2,false,(.slice I)),(.tmp 3,false,I)]) Tryz.func107 (by kernel_rfl) (by kernel_rfl) (by kernel_rfl) rfl Mt⟩
noncomputable def Hi:(aa [ba,I]).den:=((3,([(0,(1,())),(0,(2,())),(1,(2,()))],([[0,2],[1,4],[3,5]],()))),0,())
noncomputable def Jd:(aa [cm,I]).den:=(((3,([(0,(1,())),(0,(2,())),(1,(2,()))],([[0,2],[1,4],[3,5]],()))),([1,3,3,1,1,3],([(ByteArray.mk #[82]),(ByteArray.mk #[76]),(ByteArray.mk #[]),(ByteArray.mk #[]),(ByteArray.mk #[]),(ByteArray.mk #[])],(0,())))),0,())
noncomputable def vo:Fn:=⟨107,cZ [(.rd,eC)] [(false,(.slice I)),(false,I)] [(EG,Gm)],ag n25_h.ok (aX)⟩
theorem M4:bE (τ:=aa [cm,I]) (br (cg (vo::cs) (but hs [107]) {}) (aI Tryz.f27) Tryz.f27.ntmps [(.rd,ba),(.rd,I)] [(.cell 4 67,false,cm),(.tmp 5,false,I)] Hi) Jd=true:=by kernel_rfl
noncomputable def s28_h:Fn:=⟨27,ptC [(.rd,ba),(.rd,I)] [(false,cm),(false,I)] Hi Jd,am (vo::cs) (but hs [107]) (bZ bt) {} (outs:=[(.cell 4 67,false,cm),(.tmp 5,false,I)]) Tryz.func27 (by kernel_rfl) (by kernel_rfl) (by kernel_rfl) rfl M4⟩
end
end Go.Vm

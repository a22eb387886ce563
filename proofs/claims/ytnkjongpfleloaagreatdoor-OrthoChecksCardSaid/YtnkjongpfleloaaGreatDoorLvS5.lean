/-
 layoutlaw43.lives, run in the machine: points.
-/
import Derived.Test.YtnkjongpfleloaaGreatDoorLvF5
set_option linter.unusedVariables false
set_option linter.unusedSimpArgs false
namespace Go.Vm
open Go.Proofs
noncomputable section
set_option maxRecDepth 1000000
noncomputable def xX:(aa [ba,I]).den:=((6,([(0,(5,())),(0,(2,())),(1,(2,())),(0,(3,())),(1,(3,())),(2,(3,())),(0,(4,())),(1,(4,())),(2,(4,())),(5,(1,())),(3,(5,())),(5,(4,()))],([[0,6,2,12],[19,14,4,8],[3,10,5,16],[7,20,9,11],[23,13,17,15],[21,1,22,18]],()))),0,())
noncomputable def wL:(aa [cm,I]).den:=(((6,([(0,(5,())),(0,(2,())),(1,(2,())),(0,(3,())),(1,(3,())),(2,(3,())),(0,(4,())),(1,(4,())),(2,(4,())),(5,(1,())),(3,(5,())),(5,(4,()))],([[0,6,2,12],[19,14,4,8],[3,10,5,16],[7,20,9,11],[23,13,17,15],[21,1,22,18]],()))),([1,1,1,1,1,1,1,1,1,1,1,1,1,1,1,1,1,1,1,1,1,1,1,1],([(ByteArray.mk #[82]),(ByteArray.mk #[76]),(ByteArray.mk #[76]),(ByteArray.mk #[82]),(ByteArray.mk #[82]),(ByteArray.mk #[76]),(ByteArray.mk #[]),(ByteArray.mk #[]),(ByteArray.mk #[]),(ByteArray.mk #[]),(ByteArray.mk #[]),(ByteArray.mk #[]),(ByteArray.mk #[76,76]),(ByteArray.mk #[82,82]),(ByteArray.mk #[82,82]),(ByteArray.mk #[76,76]),(ByteArray.mk #[]),(ByteArray.mk #[]),(ByteArray.mk #[82]),(ByteArray.mk #[76]),(ByteArray.mk #[]),(ByteArray.mk #[]),(ByteArray.mk #[82,82,82,82]),(ByteArray.mk #[76,76,76,76])],(0,())))),0,())
noncomputable def rX:Fn:=⟨107,cZ [(.rd,eC)] [(false,(.slice I)),(false,I)] [(wK,wJ)],ag n121_h.ok (aX)⟩
theorem KL:bE (τ:=aa [cm,I]) (br (cg (rX::cs) (but hs [107]) {}) (aI Tryz.f27) Tryz.f27.ntmps [(.rd,ba),(.rd,I)] [(.cell 4 67,false,cm),(.tmp 5,false,I)] xX) wL=true:=by kernel_rfl
noncomputable def s124_h:Fn:=⟨27,ptC [(.rd,ba),(.rd,I)] [(false,cm),(false,I)] xX wL,am (rX::cs) (but hs [107]) (bZ bt) {} (outs:=[(.cell 4 67,false,cm),(.tmp 5,false,I)]) Tryz.func27 (by kernel_rfl) (by kernel_rfl) (by kernel_rfl) rfl KL⟩
end
end Go.Vm

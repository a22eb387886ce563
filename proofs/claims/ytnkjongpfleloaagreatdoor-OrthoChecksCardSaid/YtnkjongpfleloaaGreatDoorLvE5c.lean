/-
 layoutlaw43.lives, run in the machine: points.
-/
import Derived.Test.YtnkjongpfleloaaGreatDoorLv43A
set_option linter.unusedVariables false
set_option linter.unusedSimpArgs false
namespace Go.Vm
open Go.Proofs
noncomputable section
set_option maxRecDepth 1000000
noncomputable def wZ:(aa [DgT]).den:=((5,([(0,(1,())),(0,(2,())),(1,(2,())),(0,(3,())),(1,(3,())),(2,(3,())),(0,(4,())),(1,(4,())),(2,(4,()))],())),())
noncomputable def wv:(aa [(.slice (.slice I))]).den:=([[0,1,2,3,4,5,6,7,8]],())
theorem Kr:bE (τ:=aa [(.slice (.slice I))]) (br (cg cs hs {}) (aI Tryz.f141) Tryz.f141.ntmps [(.rd,DgT)] [(.tmp 2,false,(.slice (.slice I)))] wZ) wv=true:=by kernel_rfl
noncomputable def b100_h:Fn:=⟨141,ptC [(.rd,DgT)] [(false,(.slice (.slice I)))] wZ wv,am cs hs bt {} (outs:=[(.tmp 2,false,(.slice (.slice I)))]) Tryz.func141 (by kernel_rfl) (by kernel_rfl) (by kernel_rfl) rfl Kr⟩
noncomputable def s6:(aa [DgT]).den:=((5,([(0,(1,())),(0,(2,())),(1,(2,())),(0,(3,())),(1,(3,())),(2,(3,())),(0,(4,())),(1,(4,())),(2,(4,()))],())),())
noncomputable def tt:(aa [ba,I]).den:=((5,([(0,(1,())),(0,(2,())),(1,(2,())),(0,(3,())),(1,(3,())),(2,(3,())),(0,(4,())),(1,(4,())),(2,(4,()))],([[0,6,2,12],[1,14,4,8],[3,10,5,16],[7,9,11],[13,17,15]],()))),0,())
noncomputable def sT:Fn:=⟨141,cZ [(.rd,DgT)] [(false,(.slice (.slice I)))] [(wZ,wv)],ag b100_h.ok (aX)⟩
theorem KE:bE (τ:=aa [ba,I]) (br (cg (sT::cs) (but hs [141]) {}) (aI Tryz.f60) Tryz.f60.ntmps [(.rd,DgT)] [(.cell 2 59,false,ba),(.tmp 3,false,I)] s6) tt=true:=by kernel_rfl
noncomputable def e102_h:Fn:=⟨60,ptC [(.rd,DgT)] [(false,ba),(false,I)] s6 tt,am (sT::cs) (but hs [141]) (bZ bt) {} (outs:=[(.cell 2 59,false,ba),(.tmp 3,false,I)]) Tryz.func60 (by kernel_rfl) (by kernel_rfl) (by kernel_rfl) rfl KE⟩
noncomputable def ta:(aa [DgT]).den:=((5,([(0,(1,())),(0,(2,())),(1,(2,())),(0,(3,())),(1,(3,())),(2,(3,())),(0,(4,())),(1,(4,())),(2,(4,())),(3,(4,()))],())),())
noncomputable def tE:(aa [ba,I]).den:=((0,([],([],()))),10,())
theorem KD:bE (τ:=aa [ba,I]) (br (cg cs hs {}) (aI Tryz.f60) Tryz.f60.ntmps [(.rd,DgT)] [(.cell 2 59,false,ba),(.tmp 3,false,I)] ta) tE=true:=by kernel_rfl
noncomputable def e104_h:Fn:=⟨60,ptC [(.rd,DgT)] [(false,ba),(false,I)] ta tE,am cs hs bt {} (outs:=[(.cell 2 59,false,ba),(.tmp 3,false,I)]) Tryz.func60 (by kernel_rfl) (by kernel_rfl) (by kernel_rfl) rfl KD⟩
end
end Go.Vm

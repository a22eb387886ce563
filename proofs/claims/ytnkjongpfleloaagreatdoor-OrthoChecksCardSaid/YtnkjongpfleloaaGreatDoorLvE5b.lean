/-
 layoutlaw43.lives, run in the machine: points.
-/
import Derived.Test.YtnkjongpfleloaaGreatDoorLv43A
set_option linter.unusedVariables false
set_option linter.unusedSimpArgs false
namespace Go.Vm
open Go.Proofs
noncomputable section
set_option maxRecDepth 1000000
noncomputable def EF:(aa [DgT]).den:=((5,([(0,(1,())),(0,(2,())),(1,(2,())),(0,(3,())),(1,(3,())),(2,(3,())),(0,(4,())),(1,(4,()))],())),())
noncomputable def Ej:(aa [(.slice (.slice I))]).den:=([[0,1,2,3,4,5,6,7]],())
theorem Nd:bE (τ:=aa [(.slice (.slice I))]) (br (cg cs hs {}) (aI Tryz.f141) Tryz.f141.ntmps [(.rd,DgT)] [(.tmp 2,false,(.slice (.slice I)))] EF) Ej=true:=by kernel_rfl
noncomputable def b96_h:Fn:=⟨141,ptC [(.rd,DgT)] [(false,(.slice (.slice I)))] EF Ej,am cs hs bt {} (outs:=[(.tmp 2,false,(.slice (.slice I)))]) Tryz.func141 (by kernel_rfl) (by kernel_rfl) (by kernel_rfl) rfl Nd⟩
noncomputable def zS:(aa [DgT]).den:=((5,([(0,(1,())),(0,(2,())),(1,(2,())),(0,(3,())),(1,(3,())),(2,(3,())),(0,(4,())),(1,(4,()))],())),())
noncomputable def yC:(aa [ba,I]).den:=((5,([(0,(1,())),(0,(2,())),(1,(2,())),(0,(3,())),(1,(3,())),(2,(3,())),(0,(4,())),(1,(4,()))],([[0,6,2,12],[1,14,4,8],[3,10,5],[7,9,11],[13,15]],()))),0,())
noncomputable def uC:Fn:=⟨141,cZ [(.rd,DgT)] [(false,(.slice (.slice I)))] [(EF,Ej)],ag b96_h.ok (aX)⟩
theorem Mn:bE (τ:=aa [ba,I]) (br (cg (uC::cs) (but hs [141]) {}) (aI Tryz.f60) Tryz.f60.ntmps [(.rd,DgT)] [(.cell 2 59,false,ba),(.tmp 3,false,I)] zS) yC=true:=by kernel_rfl
noncomputable def e98_h:Fn:=⟨60,ptC [(.rd,DgT)] [(false,ba),(false,I)] zS yC,am (uC::cs) (but hs [141]) (bZ bt) {} (outs:=[(.cell 2 59,false,ba),(.tmp 3,false,I)]) Tryz.func60 (by kernel_rfl) (by kernel_rfl) (by kernel_rfl) rfl Mn⟩
end
end Go.Vm

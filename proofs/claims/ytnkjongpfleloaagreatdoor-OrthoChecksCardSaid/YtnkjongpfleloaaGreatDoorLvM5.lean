/-
 layoutlaw43.lives, run in the machine: points.
-/
import Derived.Test.YtnkjongpfleloaaGreatDoorLvE5a
import Derived.Test.YtnkjongpfleloaaGreatDoorLvE5b
import Derived.Test.YtnkjongpfleloaaGreatDoorLvE5c
set_option linter.unusedVariables false
set_option linter.unusedSimpArgs false
namespace Go.Vm
open Go.Proofs
noncomputable section
set_option maxRecDepth 1000000
noncomputable def xS:(aa [DgT]).den:=((5,([(0,(1,())),(0,(2,())),(1,(2,())),(0,(3,())),(1,(3,())),(2,(3,())),(0,(4,())),(1,(4,())),(2,(4,())),(3,(4,()))],())),())
noncomputable def xD:(aa [(.slice I),I]).den:=([0,1,2,3,4,5,6,7,8],0,())
noncomputable def vP:Fn:=⟨60,cZ [(.rd,DgT)] [(false,ba),(false,I)] [(zr,Bd),(BA,zL),(Ap,BY),(BC,yM),(zK,Bb),(AK,Ba),(yD,zF),(zS,yC),(s6,tt),(ta,tE)],ag e70_h.ok (ag e74_h.ok (ag e78_h.ok (ag e82_h.ok (ag e86_h.ok (ag e90_h.ok (ag e94_h.ok (ag e98_h.ok (ag e102_h.ok (ag e104_h.ok (aX))))))))))⟩
theorem Kx:bE (τ:=aa [(.slice I),I]) (br (cg (vP::cs) (but hs [60]) {}) (aI Tryz.f59) Tryz.f59.ntmps [(.rd,DgT)] [(.tmp 2,false,(.slice I)),(.tmp 3,false,I)] xS) xD=true:=by kernel_rfl
noncomputable def m106_h:Fn:=⟨59,ptC [(.rd,DgT)] [(false,(.slice I)),(false,I)] xS xD,am (vP::cs) (but hs [60]) (bZ bt) {} (outs:=[(.tmp 2,false,(.slice I)),(.tmp 3,false,I)]) Tryz.func59 (by kernel_rfl) (by kernel_rfl) (by kernel_rfl) rfl Kx⟩
noncomputable def wA:(aa [DgT]).den:=((5,([(0,(1,())),(0,(2,())),(1,(2,())),(0,(3,())),(1,(3,())),(2,(3,())),(0,(4,())),(1,(4,())),(2,(4,())),(3,(4,()))],())),())
noncomputable def xL:(aa [fC,I,I]).den:=(((6,([(0,(5,())),(0,(2,())),(1,(2,())),(0,(3,())),(1,(3,())),(2,(3,())),(0,(4,())),(1,(4,())),(2,(4,())),(5,(1,())),(3,(5,())),(5,(4,()))],([[0,6,2,12],[19,14,4,8],[3,10,5,16],[7,20,9,11],[23,13,17,15],[21,1,22,18]],()))),(5,([[0,18],[2],[4],[6],[8],[10],[12],[14],[16],[20,22]],()))),1,0,())
noncomputable def uI:Fn:=⟨59,cZ [(.rd,DgT)] [(false,(.slice I)),(false,I)] [(xS,xD)],ag m106_h.ok (aX)⟩
noncomputable def vm:Fn:=⟨60,cZ [(.rd,DgT)] [(false,ba),(false,I)] [(zr,Bd),(BA,zL),(Ap,BY),(BC,yM),(zK,Bb),(AK,Ba),(yD,zF),(zS,yC),(s6,tt),(ta,tE)],ag e70_h.ok (ag e74_h.ok (ag e78_h.ok (ag e82_h.ok (ag e86_h.ok (ag e90_h.ok (ag e94_h.ok (ag e98_h.ok (ag e102_h.ok (ag e104_h.ok (aX))))))))))⟩
theorem Kt:bE (τ:=aa [fC,I,I]) (br (cg (uI::vm::cs) (but hs [59,60]) { deep:=[45],light:=[45],vars:=[2] }) (aI Tryz.f26) Tryz.f26.ntmps [(.rd,DgT)] [(.cell 2 61,false,fC),(.tmp 3,false,I),(.tmp 4,false,I)] wA) xL=true:=by kernel_rfl
noncomputable def p113_h:Fn:=⟨26,ptC [(.rd,DgT)] [(false,fC),(false,I),(false,I)] wA xL,am (uI::vm::cs) (but hs [59,60]) (bZ bt) { deep:=[45],light:=[45],vars:=[2] } (outs:=[(.cell 2 61,false,fC),(.tmp 3,false,I),(.tmp 4,false,I)]) Tryz.func26 (by kernel_rfl) (by kernel_rfl) (by kernel_rfl) rfl Kt⟩
end
end Go.Vm

/-
 layoutlaw43.lives, run in the machine: points.
-/
import Derived.Test.YtnkjongpfleloaaGreatDoorLv43A
set_option linter.unusedVariables false
set_option linter.unusedSimpArgs false
namespace Go.Vm
open Go.Proofs
noncomputable section
set_option maxRecDepth 1000000
noncomputable def Eo:(aa [DgT]).den:=((5,([(0,(1,()))],())),())
noncomputable def IT:(aa [(.slice (.slice I))]).den:=([[0]],())
theorem Mm:bE (τ:=aa [(.slice (.slice I))]) (br (cg cs hs {}) (aI Tryz.f141) Tryz.f141.ntmps [(.rd,DgT)] [(.tmp 2,false,(.slice (.slice I)))] Eo) IT=true:=by kernel_rfl
noncomputable def b68_h:Fn:=⟨141,ptC [(.rd,DgT)] [(false,(.slice (.slice I)))] Eo IT,am cs hs bt {} (outs:=[(.tmp 2,false,(.slice (.slice I)))]) Tryz.func141 (by kernel_rfl) (by kernel_rfl) (by kernel_rfl) rfl Mm⟩
noncomputable def zr:(aa [DgT]).den:=((5,([(0,(1,()))],())),())
noncomputable def Bd:(aa [ba,I]).den:=((5,([(0,(1,()))],([[0],[1],[],[],[]],()))),0,())
noncomputable def vv:Fn:=⟨141,cZ [(.rd,DgT)] [(false,(.slice (.slice I)))] [(Eo,IT)],ag b68_h.ok (aX)⟩
theorem M3:bE (τ:=aa [ba,I]) (br (cg (vv::cs) (but hs [141]) {}) (aI Tryz.f60) Tryz.f60.ntmps [(.rd,DgT)] [(.cell 2 59,false,ba),(.tmp 3,false,I)] zr) Bd=true:=by kernel_rfl
noncomputable def e70_h:Fn:=⟨60,ptC [(.rd,DgT)] [(false,ba),(false,I)] zr Bd,am (vv::cs) (but hs [141]) (bZ bt) {} (outs:=[(.cell 2 59,false,ba),(.tmp 3,false,I)]) Tryz.func60 (by kernel_rfl) (by kernel_rfl) (by kernel_rfl) rfl M3⟩
noncomputable def DW:(aa [DgT]).den:=((5,([(0,(1,())),(0,(2,()))],())),())
noncomputable def E9:(aa [(.slice (.slice I))]).den:=([[0],[1]],())
theorem Mq:bE (τ:=aa [(.slice (.slice I))]) (br (cg cs hs {}) (aI Tryz.f141) Tryz.f141.ntmps [(.rd,DgT)] [(.tmp 2,false,(.slice (.slice I)))] DW) E9=true:=by kernel_rfl
noncomputable def b72_h:Fn:=⟨141,ptC [(.rd,DgT)] [(false,(.slice (.slice I)))] DW E9,am cs hs bt {} (outs:=[(.tmp 2,false,(.slice (.slice I)))]) Tryz.func141 (by kernel_rfl) (by kernel_rfl) (by kernel_rfl) rfl Mq⟩
noncomputable def BA:(aa [DgT]).den:=((5,([(0,(1,())),(0,(2,()))],())),())
noncomputable def zL:(aa [ba,I]).den:=((5,([(0,(1,())),(0,(2,()))],([[0,2],[1],[3],[],[]],()))),0,())
noncomputable def uY:Fn:=⟨141,cZ [(.rd,DgT)] [(false,(.slice (.slice I)))] [(DW,E9)],ag b72_h.ok (aX)⟩
theorem Nl:bE (τ:=aa [ba,I]) (br (cg (uY::cs) (but hs [141]) {}) (aI Tryz.f60) Tryz.f60.ntmps [(.rd,DgT)] [(.cell 2 59,false,ba),(.tmp 3,false,I)] BA) zL=true:=by kernel_rfl
noncomputable def e74_h:Fn:=⟨60,ptC [(.rd,DgT)] [(false,ba),(false,I)] BA zL,am (uY::cs) (but hs [141]) (bZ bt) {} (outs:=[(.cell 2 59,false,ba),(.tmp 3,false,I)]) Tryz.func60 (by kernel_rfl) (by kernel_rfl) (by kernel_rfl) rfl Nl⟩
noncomputable def Fv:(aa [DgT]).den:=((5,([(0,(1,())),(0,(2,())),(1,(2,()))],())),())
noncomputable def Fc:(aa [(.slice (.slice I))]).den:=([[0,1,2]],())
theorem MT:bE (τ:=aa [(.slice (.slice I))]) (br (cg cs hs {}) (aI Tryz.f141) Tryz.f141.ntmps [(.rd,DgT)] [(.tmp 2,false,(.slice (.slice I)))] Fv) Fc=true:=by kernel_rfl
noncomputable def b76_h:Fn:=⟨141,ptC [(.rd,DgT)] [(false,(.slice (.slice I)))] Fv Fc,am cs hs bt {} (outs:=[(.tmp 2,false,(.slice (.slice I)))]) Tryz.func141 (by kernel_rfl) (by kernel_rfl) (by kernel_rfl) rfl MT⟩
noncomputable def Ap:(aa [DgT]).den:=((5,([(0,(1,())),(0,(2,())),(1,(2,()))],())),())
noncomputable def BY:(aa [ba,I]).den:=((5,([(0,(1,())),(0,(2,())),(1,(2,()))],([[0,2],[1,4],[3,5],[],[]],()))),0,())
noncomputable def u5:Fn:=⟨141,cZ [(.rd,DgT)] [(false,(.slice (.slice I)))] [(Fv,Fc)],ag b76_h.ok (aX)⟩
theorem Mu:bE (τ:=aa [ba,I]) (br (cg (u5::cs) (but hs [141]) {}) (aI Tryz.f60) Tryz.f60.ntmps [(.rd,DgT)] [(.cell 2 59,false,ba),(.tmp 3,false,I)] Ap) BY=true:=by kernel_rfl
noncomputable def e78_h:Fn:=⟨60,ptC [(.rd,DgT)] [(false,ba),(false,I)] Ap BY,am (u5::cs) (but hs [141]) (bZ bt) {} (outs:=[(.cell 2 59,false,ba),(.tmp 3,false,I)]) Tryz.func60 (by kernel_rfl) (by kernel_rfl) (by kernel_rfl) rfl Mu⟩
noncomputable def GM:(aa [DgT]).den:=((5,([(0,(1,())),(0,(2,())),(1,(2,())),(0,(3,()))],())),())
noncomputable def IX:(aa [(.slice (.slice I))]).den:=([[0,1,2],[3]],())
theorem MP:bE (τ:=aa [(.slice (.slice I))]) (br (cg cs hs {}) (aI Tryz.f141) Tryz.f141.ntmps [(.rd,DgT)] [(.tmp 2,false,(.slice (.slice I)))] GM) IX=true:=by kernel_rfl
noncomputable def b80_h:Fn:=⟨141,ptC [(.rd,DgT)] [(false,(.slice (.slice I)))] GM IX,am cs hs bt {} (outs:=[(.tmp 2,false,(.slice (.slice I)))]) Tryz.func141 (by kernel_rfl) (by kernel_rfl) (by kernel_rfl) rfl MP⟩
noncomputable def BC:(aa [DgT]).den:=((5,([(0,(1,())),(0,(2,())),(1,(2,())),(0,(3,()))],())),())
noncomputable def yM:(aa [ba,I]).den:=((5,([(0,(1,())),(0,(2,())),(1,(2,())),(0,(3,()))],([[0,2,6],[1,4],[3,5],[7],[]],()))),0,())
noncomputable def vD:Fn:=⟨141,cZ [(.rd,DgT)] [(false,(.slice (.slice I)))] [(GM,IX)],ag b80_h.ok (aX)⟩
theorem Nw:bE (τ:=aa [ba,I]) (br (cg (vD::cs) (but hs [141]) {}) (aI Tryz.f60) Tryz.f60.ntmps [(.rd,DgT)] [(.cell 2 59,false,ba),(.tmp 3,false,I)] BC) yM=true:=by kernel_rfl
noncomputable def e82_h:Fn:=⟨60,ptC [(.rd,DgT)] [(false,ba),(false,I)] BC yM,am (vD::cs) (but hs [141]) (bZ bt) {} (outs:=[(.cell 2 59,false,ba),(.tmp 3,false,I)]) Tryz.func60 (by kernel_rfl) (by kernel_rfl) (by kernel_rfl) rfl Nw⟩
noncomputable def Jv:(aa [DgT]).den:=((5,([(0,(1,())),(0,(2,())),(1,(2,())),(0,(3,())),(1,(3,()))],())),())
noncomputable def Gv:(aa [(.slice (.slice I))]).den:=([[0,1,2,3,4]],())
theorem Na:bE (τ:=aa [(.slice (.slice I))]) (br (cg cs hs {}) (aI Tryz.f141) Tryz.f141.ntmps [(.rd,DgT)] [(.tmp 2,false,(.slice (.slice I)))] Jv) Gv=true:=by kernel_rfl
noncomputable def b84_h:Fn:=⟨141,ptC [(.rd,DgT)] [(false,(.slice (.slice I)))] Jv Gv,am cs hs bt {} (outs:=[(.tmp 2,false,(.slice (.slice I)))]) Tryz.func141 (by kernel_rfl) (by kernel_rfl) (by kernel_rfl) rfl Na⟩
noncomputable def zK:(aa [DgT]).den:=((5,([(0,(1,())),(0,(2,())),(1,(2,())),(0,(3,())),(1,(3,()))],())),())
noncomputable def Bb:(aa [ba,I]).den:=((5,([(0,(1,())),(0,(2,())),(1,(2,())),(0,(3,())),(1,(3,()))],([[0,6,2],[1,4,8],[3,5],[7,9],[]],()))),0,())
noncomputable def uS:Fn:=⟨141,cZ [(.rd,DgT)] [(false,(.slice (.slice I)))] [(Jv,Gv)],ag b84_h.ok (aX)⟩
theorem N3:bE (τ:=aa [ba,I]) (br (cg (uS::cs) (but hs [141]) {}) (aI Tryz.f60) Tryz.f60.ntmps [(.rd,DgT)] [(.cell 2 59,false,ba),(.tmp 3,false,I)] zK) Bb=true:=by kernel_rfl
noncomputable def e86_h:Fn:=⟨60,ptC [(.rd,DgT)] [(false,ba),(false,I)] zK Bb,am (uS::cs) (but hs [141]) (bZ bt) {} (outs:=[(.cell 2 59,false,ba),(.tmp 3,false,I)]) Tryz.func60 (by kernel_rfl) (by kernel_rfl) (by kernel_rfl) rfl N3⟩
noncomputable def Fw:(aa [DgT]).den:=((5,([(0,(1,())),(0,(2,())),(1,(2,())),(0,(3,())),(1,(3,())),(2,(3,()))],())),())
noncomputable def I7:(aa [(.slice (.slice I))]).den:=([[0,1,2,3,4,5]],())
theorem NL:bE (τ:=aa [(.slice (.slice I))]) (br (cg cs hs {}) (aI Tryz.f141) Tryz.f141.ntmps [(.rd,DgT)] [(.tmp 2,false,(.slice (.slice I)))] Fw) I7=true:=by kernel_rfl
noncomputable def b88_h:Fn:=⟨141,ptC [(.rd,DgT)] [(false,(.slice (.slice I)))] Fw I7,am cs hs bt {} (outs:=[(.tmp 2,false,(.slice (.slice I)))]) Tryz.func141 (by kernel_rfl) (by kernel_rfl) (by kernel_rfl) rfl NL⟩
noncomputable def AK:(aa [DgT]).den:=((5,([(0,(1,())),(0,(2,())),(1,(2,())),(0,(3,())),(1,(3,())),(2,(3,()))],())),())
noncomputable def Ba:(aa [ba,I]).den:=((5,([(0,(1,())),(0,(2,())),(1,(2,())),(0,(3,())),(1,(3,())),(2,(3,()))],([[0,6,2],[1,4,8],[3,10,5],[7,9,11],[]],()))),0,())
noncomputable def va:Fn:=⟨141,cZ [(.rd,DgT)] [(false,(.slice (.slice I)))] [(Fw,I7)],ag b88_h.ok (aX)⟩
theorem NC:bE (τ:=aa [ba,I]) (br (cg (va::cs) (but hs [141]) {}) (aI Tryz.f60) Tryz.f60.ntmps [(.rd,DgT)] [(.cell 2 59,false,ba),(.tmp 3,false,I)] AK) Ba=true:=by kernel_rfl
noncomputable def e90_h:Fn:=⟨60,ptC [(.rd,DgT)] [(false,ba),(false,I)] AK Ba,am (va::cs) (but hs [141]) (bZ bt) {} (outs:=[(.cell 2 59,false,ba),(.tmp 3,false,I)]) Tryz.func60 (by kernel_rfl) (by kernel_rfl) (by kernel_rfl) rfl NC⟩
noncomputable def Er:(aa [DgT]).den:=((5,([(0,(1,())),(0,(2,())),(1,(2,())),(0,(3,())),(1,(3,())),(2,(3,())),(0,(4,()))],())),())
noncomputable def Hy:(aa [(.slice (.slice I))]).den:=([[0,1,2,3,4,5],[6]],())
theorem NH:bE (τ:=aa [(.slice (.slice I))]) (br (cg cs hs {}) (aI Tryz.f141) Tryz.f141.ntmps [(.rd,DgT)] [(.tmp 2,false,(.slice (.slice I)))] Er) Hy=true:=by kernel_rfl
noncomputable def b92_h:Fn:=⟨141,ptC [(.rd,DgT)] [(false,(.slice (.slice I)))] Er Hy,am cs hs bt {} (outs:=[(.tmp 2,false,(.slice (.slice I)))]) Tryz.func141 (by kernel_rfl) (by kernel_rfl) (by kernel_rfl) rfl NH⟩
noncomputable def yD:(aa [DgT]).den:=((5,([(0,(1,())),(0,(2,())),(1,(2,())),(0,(3,())),(1,(3,())),(2,(3,())),(0,(4,()))],())),())
noncomputable def zF:(aa [ba,I]).den:=((5,([(0,(1,())),(0,(2,())),(1,(2,())),(0,(3,())),(1,(3,())),(2,(3,())),(0,(4,()))],([[0,6,2,12],[1,4,8],[3,10,5],[7,9,11],[13]],()))),0,())
noncomputable def uJ:Fn:=⟨141,cZ [(.rd,DgT)] [(false,(.slice (.slice I)))] [(Er,Hy)],ag b92_h.ok (aX)⟩
theorem My:bE (τ:=aa [ba,I]) (br (cg (uJ::cs) (but hs [141]) {}) (aI Tryz.f60) Tryz.f60.ntmps [(.rd,DgT)] [(.cell 2 59,false,ba),(.tmp 3,false,I)] yD) zF=true:=by kernel_rfl
noncomputable def e94_h:Fn:=⟨60,ptC [(.rd,DgT)] [(false,ba),(false,I)] yD zF,am (uJ::cs) (but hs [141]) (bZ bt) {} (outs:=[(.cell 2 59,false,ba),(.tmp 3,false,I)]) Tryz.func60 (by kernel_rfl) (by kernel_rfl) (by kernel_rfl) rfl My⟩
end
end Go.Vm

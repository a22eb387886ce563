/-
 layoutlaw34.awake, run in the machine: points.
-/
import Derived.Test.YtganppkchbnikaaGreatDoorLv90A
set_option linter.unusedVariables false
set_option linter.unusedSimpArgs false
namespace Go.Vm
open Go.Proofs
noncomputable section
set_option maxRecDepth 1000000
noncomputable def vL:(ac [DgT]).den:=((5,([(0,1,()),(0,2,()),(0,3,()),(0,4,()),(1,2,()),(1,3,()),(1,4,()),(2,3,()),(2,4,())],())),())
noncomputable def vw:(ac [(.slice (.slice I))]).den:=([[0,1,2,3,4,5,6,7,8]],())
theorem Ey:gv (τ:=ac [(.slice (.slice I))]) (dP (gn cs hs {}) (aW Tryz.f47) Tryz.f47.ntmps [(.rd,DgT)] [(.tmp 2,false,(.slice (.slice I)))] vL) vw=true:=by kernel_rfl
noncomputable def b100_h:Fn:=⟨47,ptC [(.rd,DgT)] [(false,(.slice (.slice I)))] vL vw,bh cs hs ed {} (outs:=[(.tmp 2,false,(.slice (.slice I)))]) Tryz.func47 (by kernel_rfl) (by kernel_rfl) (by kernel_rfl) rfl Ey⟩
noncomputable def tc:(ac [DgT]).den:=((5,([(0,1,()),(0,2,()),(0,3,()),(0,4,()),(1,2,()),(1,3,()),(1,4,()),(2,3,()),(2,4,())],())),())
noncomputable def si:(ac [cj,I]).den:=((5,([(0,1,()),(0,2,()),(0,3,()),(0,4,()),(1,2,()),(1,3,()),(1,4,()),(2,3,()),(2,4,())],([[0,4,2,6],[1,12,8,10],[3,14,9,16],[5,11,15],[7,17,13]],()))),0,())
noncomputable def rc:Fn:=⟨47,lM [(.rd,DgT)] [(false,(.slice (.slice I)))] [(vL,vw)],bc b100_h.ok (dX)⟩
theorem EJ:gv (τ:=ac [cj,I]) (dP (gn (rc::cs) (but hs [47]) {}) (aW Tryz.f14) Tryz.f14.ntmps [(.rd,DgT)] [(.cell 2 30,false,cj),(.tmp 3,false,I)] tc) si=true:=by kernel_rfl
noncomputable def e102_h:Fn:=⟨14,ptC [(.rd,DgT)] [(false,cj),(false,I)] tc si,bh (rc::cs) (but hs [47]) (gk ed) {} (outs:=[(.cell 2 30,false,cj),(.tmp 3,false,I)]) Tryz.func14 (by kernel_rfl) (by kernel_rfl) (by kernel_rfl) rfl EJ⟩
noncomputable def sR:(ac [DgT]).den:=((5,([(0,1,()),(0,2,()),(0,3,()),(0,4,()),(1,2,()),(1,3,()),(1,4,()),(2,3,()),(2,4,()),(3,4,())],())),())
noncomputable def td:(ac [cj,I]).den:=((0,([],([],()))),10,())
theorem EH:gv (τ:=ac [cj,I]) (dP (gn cs hs {}) (aW Tryz.f14) Tryz.f14.ntmps [(.rd,DgT)] [(.cell 2 30,false,cj),(.tmp 3,false,I)] sR) td=true:=by kernel_rfl
noncomputable def e104_h:Fn:=⟨14,ptC [(.rd,DgT)] [(false,cj),(false,I)] sR td,bh cs hs ed {} (outs:=[(.cell 2 30,false,cj),(.tmp 3,false,I)]) Tryz.func14 (by kernel_rfl) (by kernel_rfl) (by kernel_rfl) rfl EH⟩
end
end Go.Vm

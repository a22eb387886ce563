/-
 layoutlaw34.awake, run in the machine: points.
-/
import Derived.Test.YtganppkchbnikaaGreatDoorLv90A
set_option linter.unusedVariables false
set_option linter.unusedSimpArgs false
namespace Go.Vm
open Go.Proofs
noncomputable section
set_option maxRecDepth 1000000
noncomputable def DI:(ac [DgT]).den:=((5,([(0,1,()),(0,2,()),(0,3,()),(0,4,()),(1,2,()),(1,3,()),(1,4,()),(2,3,())],())),())
noncomputable def AD:(ac [(.slice (.slice I))]).den:=([[0,1,2,3,4,5,6,7]],())
theorem Hd:gv (τ:=ac [(.slice (.slice I))]) (dP (gn cs hs {}) (aW Tryz.f47) Tryz.f47.ntmps [(.rd,DgT)] [(.tmp 2,false,(.slice (.slice I)))] DI) AD=true:=by kernel_rfl
noncomputable def b96_h:Fn:=⟨47,ptC [(.rd,DgT)] [(false,(.slice (.slice I)))] DI AD,bh cs hs ed {} (outs:=[(.tmp 2,false,(.slice (.slice I)))]) Tryz.func47 (by kernel_rfl) (by kernel_rfl) (by kernel_rfl) rfl Hd⟩
noncomputable def wH:(ac [DgT]).den:=((5,([(0,1,()),(0,2,()),(0,3,()),(0,4,()),(1,2,()),(1,3,()),(1,4,()),(2,3,())],())),())
noncomputable def xE:(ac [cj,I]).den:=((5,([(0,1,()),(0,2,()),(0,3,()),(0,4,()),(1,2,()),(1,3,()),(1,4,()),(2,3,())],([[0,4,2,6],[1,12,8,10],[3,14,9],[5,11,15],[7,13]],()))),0,())
noncomputable def ub:Fn:=⟨47,lM [(.rd,DgT)] [(false,(.slice (.slice I)))] [(DI,AD)],bc b96_h.ok (dX)⟩
theorem GO:gv (τ:=ac [cj,I]) (dP (gn (ub::cs) (but hs [47]) {}) (aW Tryz.f14) Tryz.f14.ntmps [(.rd,DgT)] [(.cell 2 30,false,cj),(.tmp 3,false,I)] wH) xE=true:=by kernel_rfl
noncomputable def e98_h:Fn:=⟨14,ptC [(.rd,DgT)] [(false,cj),(false,I)] wH xE,bh (ub::cs) (but hs [47]) (gk ed) {} (outs:=[(.cell 2 30,false,cj),(.tmp 3,false,I)]) Tryz.func14 (by kernel_rfl) (by kernel_rfl) (by kernel_rfl) rfl GO⟩
end
end Go.Vm

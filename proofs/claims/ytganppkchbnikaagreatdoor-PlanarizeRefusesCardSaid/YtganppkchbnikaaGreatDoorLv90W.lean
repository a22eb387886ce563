/-
 layoutlaw34.awake, run in the machine.
-/
import Derived.Test.YtganppkchbnikaaGreatDoorLv90M
set_option linter.unusedVariables false
set_option linter.unusedSimpArgs false
namespace Go.Vm
open Go.Proofs
noncomputable section
set_option maxRecDepth 1000000
noncomputable def Iw:Fn:=⟨6,lM [(.rd,DgT)] [(false,rR),(false,I),(false,I)] [(uY,wl)],bc p113_h.ok dX⟩
noncomputable def Gz:(ac []).den:=()
noncomputable def GC:(ac [.bool]).den:=(true,())
theorem HY:gv (τ:=ac [.bool]) (dP (gn (Iw::cs) (but hs [6]) {}) (aW Tryz.f5) Tryz.f5.ntmps [] [(.tmp 0,false,.bool)] Gz) GC=true:=by kernel_rfl
noncomputable def trueCon:Con:=ptC [] [(false,.bool)] Gz GC
theorem EM:Con.Holds Tryz.prog glob 5 trueCon:=bh (Iw::cs) (but hs [6]) (gk ed) {} (outs:=[(.tmp 0,false,.bool)]) Tryz.func5 (by kernel_rfl) (by kernel_rfl) (by kernel_rfl) rfl HY
end
end Go.Vm

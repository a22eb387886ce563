/-
 slices.Insert at numbers, as a contract of the machine at this program's number. Conditions: none beyond the machine's own bound on lengths.
-/
import Derived.Test.YtnnbdielbgljaaaDoorVmExt4
import Derived.Test.YtnnbdielbgljaaaDoorShelf41
set_option linter.unusedVariables false
set_option linter.unusedSimpArgs false
namespace Go.Vm
open Go.Proofs Go.RowKit
theorem AN (glob : List (Nat×(Σ t : Ty,t.den))) : Con.Holds Tryd.prog glob 82 insertC :=
 uq Tryd.laysNm221 (enters_of Tryd.laysNm221.f21 (by kernel_rfl) rfl) glob
end Go.Vm

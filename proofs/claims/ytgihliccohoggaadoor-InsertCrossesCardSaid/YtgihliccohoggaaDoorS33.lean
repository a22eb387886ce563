/-
  slices.Sort, slices.Compact and slices.Insert at numbers, as contracts of the machine at this program's numbers. Conditions: none beyond the machine's own bound on lengths.
-/
import Derived.Test.YtgihliccohoggaaDoorVmExt2
import Derived.Test.YtgihliccohoggaaDoorVmExt3
import Derived.Test.YtgihliccohoggaaDoorVmExt4
import Derived.Test.YtgihliccohoggaaDoorD33
import Derived.Test.YtgihliccohoggaaDoorShelf33
set_option linter.unusedVariables false
set_option linter.unusedSimpArgs false
namespace Go.Vm
open Go.Proofs Go.RowKit
theorem sort_at : Con.Holds Tryd.prog glob 97 sortC :=
  sort_holds (f := 97) (enters_of Tryd.lays189.f189 (by kernel_rfl) rfl) (fun blk off cap zs w hH hb hs => Any.slices_Sort_int Tryd.lays189 blk off cap zs w hH hb hs) (fun p cap w => Any.slices_Sort_int_none Tryd.lays189 p cap w) glob
theorem compact_at : Con.Holds Tryd.prog glob 98 compactC :=
  compact_holds Tryd.laysNm220 (enters_of Tryd.laysNm220.f20 (by kernel_rfl) rfl) glob
theorem insert_at : Con.Holds Tryd.prog glob 65 insertC :=
  insert_holds Tryd.laysNm221 (enters_of Tryd.laysNm221.f21 (by kernel_rfl) rfl) glob
end Go.Vm

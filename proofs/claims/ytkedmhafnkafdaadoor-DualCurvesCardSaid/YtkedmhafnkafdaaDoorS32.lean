/-
  slices.Sort and slices.Compact at numbers, as contracts of the machine at this program's numbers. Conditions: none beyond the machine's own bound on lengths.
-/
import Derived.Test.YtkedmhafnkafdaaDoorVmExt2
import Derived.Test.YtkedmhafnkafdaaDoorVmExt3
import Derived.Test.YtkedmhafnkafdaaDoorD32
import Derived.Test.YtkedmhafnkafdaaDoorShelf32
set_option linter.unusedVariables false
set_option linter.unusedSimpArgs false
namespace Go.Vm
open Go.Proofs Go.RowKit
theorem sort_at : Con.Holds Tryd.prog glob 81 sortC :=
  sort_holds (f := 81) (enters_of Tryd.lays189.f189 (by kernel_rfl) rfl) (fun blk off cap zs w hH hb hs => Any.slices_Sort_int Tryd.lays189 blk off cap zs w hH hb hs) (fun p cap w => Any.slices_Sort_int_none Tryd.lays189 p cap w) glob
theorem compact_at : Con.Holds Tryd.prog glob 82 compactC :=
  compact_holds Tryd.laysNm220 (enters_of Tryd.laysNm220.f20 (by kernel_rfl) rfl) glob
end Go.Vm

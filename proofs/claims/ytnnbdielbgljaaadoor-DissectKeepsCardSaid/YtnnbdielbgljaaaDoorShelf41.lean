/-
 Where slices.Insert, at numbers, and what it reaches stand in this program: each body is the known one. No condition.
-/
import Derived.Shelf.Spec.SlicesInsert
import Derived.Shelf.Spec.SlicesInsertGrow
import Derived.Test.YtnnbdielbgljaaaDoorProg
set_option linter.unusedVariables false
set_option linter.unusedSimpArgs false
namespace Go.Proofs
open Go.Shelf
def Tryd.laysNm221_ren : Go.Shelf.Ren:=⟨fun | 21=>82 | 27=>90 | 28=>91 | 35=>92 | 39=>93 | n=>n,fun | 22=>26 | 3=>3 | 4=>4 | 0=>0 | n=>n,fun | n=>n⟩
theorem Tryd.laysNm221 : Go.Proofs.Lays2.n21 Tryd.prog Tryd.laysNm221_ren:={
 mixed:=by kernel_rfl
 f21:=Tryd.func82.trans (congrArg some (by kernel_rfl))
 f27:=Tryd.func90.trans (congrArg some (by kernel_rfl))
 f28:=Tryd.func91.trans (congrArg some (by kernel_rfl))
 f35:=Tryd.func92.trans (congrArg some (by kernel_rfl))
 f39:=Tryd.func93.trans (congrArg some (by kernel_rfl))
 t0:=Tryd.underlying0
 a0:=Tryd.isAgg0
 z0:=Tryd.sizeOf0
 v0:=Tryd.zeroValue0
 t3:=Tryd.underlying3
 a3:=Tryd.isAgg3
 z3:=Tryd.sizeOf3
 v3:=Tryd.zeroValue3
 t4:=Tryd.underlying4
 a4:=Tryd.isAgg4
 z4:=Tryd.sizeOf4
 v4:=Tryd.zeroValue4
 t22:=Tryd.underlying26
 a22:=Tryd.isAgg26
 z22:=Tryd.sizeOf26
 v22:=Tryd.zeroValue26
 i3:=by kernel_rfl }
end Go.Proofs

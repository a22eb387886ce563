/-
 Where slices.Insert and slices.AppendSeq, at numbers, and what they reach stand in this program: each body is the known one. No condition.
-/
import Derived.Shelf.Spec.SlicesInsert
import Derived.Shelf.Spec.SlicesInsertGrow
import Derived.Shelf.SlIterI.Collect
import Derived.Ground.GgzProg
import Derived.Test.YtlbmgijhnimbbaaGreatDoorProg
set_option linter.unusedVariables false
set_option linter.unusedSimpArgs false
namespace Go.Proofs
open Go.Shelf
def Tryz.laysNm221_ren : Go.Shelf.Ren:=⟨fun | 21=>104 | 27=>105 | 28=>106 | 35=>161 | 39=>174 | n=>n,fun | 22=>39 | 3=>3 | 4=>4 | 0=>0 | n=>n,fun | n=>n⟩
theorem Tryz.laysNm221 : Go.Proofs.Lays2.n21 Tryz.prog Tryz.laysNm221_ren:={
 mixed:=by kernel_rfl
 f21:=Tryz.func104.trans (congrArg some (by kernel_rfl))
 f27:=Tryz.func105.trans (congrArg some (by kernel_rfl))
 f28:=Tryz.func106.trans (congrArg some (by kernel_rfl))
 f35:=Tryz.func161.trans (congrArg some (by kernel_rfl))
 f39:=Tryz.func174.trans (congrArg some (by kernel_rfl))
 t0:=Tryz.underlying0
 a0:=Tryz.isAgg0
 z0:=Tryz.sizeOf0
 v0:=Tryz.zeroValue0
 t3:=Tryz.underlying3
 a3:=Tryz.isAgg3
 z3:=Tryz.sizeOf3
 v3:=Tryz.zeroValue3
 t4:=Tryz.underlying4
 a4:=Tryz.isAgg4
 z4:=Tryz.sizeOf4
 v4:=Tryz.zeroValue4
 t22:=Tryz.underlying39
 a22:=Tryz.isAgg39
 z22:=Tryz.sizeOf39
 v22:=Tryz.zeroValue39
 i3:=by kernel_rfl }
def Tryz.laysAp_ren : Go.Shelf.Ren:=⟨fun | 11=>249 | n=>n,fun | 24=>39 | 26=>3 | 28=>207 | 0=>0 | 33=>74 | 4=>4 | n=>n,fun | n=>n⟩
theorem Tryz.laysAp : Go.Proofs.SlLaysZI.n11 Tryz.prog Tryz.laysAp_ren:={
 mixed:=by kernel_rfl
 f11:=⟨Tryz.f249.name,by decide,Tryz.func249.trans (congrArg some (by kernel_rfl))⟩
 t0:=Tryz.underlying0
 a0:=Tryz.isAgg0
 z0:=Tryz.sizeOf0
 v0:=Tryz.zeroValue0
 t24:=Tryz.underlying39
 a24:=Tryz.isAgg39
 z24:=Tryz.sizeOf39
 v24:=Tryz.zeroValue39
 t26:=Tryz.underlying3
 a26:=Tryz.isAgg3
 z26:=Tryz.sizeOf3
 v26:=Tryz.zeroValue3
 t28:=Tryz.underlying207
 a28:=Tryz.isAgg207
 z28:=Tryz.sizeOf207
 v28:=Tryz.zeroValue207
 i26:=by kernel_rfl }
end Go.Proofs

/-
 AuditFinds: the row's listed variables are tied to the program's text (the given Tie's facts, each a theorem of its own). No condition of its own.
-/
import Derived.Test.YtdijhiodknmjaaaGreatDoorRows
import Derived.LaidByTextLater
import Derived.SevenTiedAt
set_option linter.unusedVariables false
set_option linter.unusedSimpArgs false
namespace Go.Proofs.YtdijhiodknmjaaaGreatDoor
open Go
theorem Uk:Tryz.prog.worded (varsWordLater true)=true:=by kernel_rfl
theorem Tf:Tryz.prog.worded (varsWordLater !true)=false:=by kernel_rfl
theorem QE:Tryz.prog.worded rootWordLater=true:=by kernel_rfl
theorem Ul : ([("math/bits.deBruijn32tab", Rows.laid_math_bits_deBruijn32tab), ("math/bits.deBruijn64tab", Rows.laid_math_bits_deBruijn64tab), ("layout/rotation.limits", Rows.laid_layout_rotation_limits), ("internal/strconv.uint64pow10", Rows.laid_internal_strconv_uint64pow10), ("unicode/utf8.acceptRanges", Rows.laid_unicode_utf8_acceptRanges)] : List (String × DataW Unit)).map (fun x => Tryz.prog.kindOfLater x.1) = ([LaidKind.data, .data, .data, .data, .data]).map some := by kernel_rfl
theorem Ue : (Tryz.prog.funcNamed "gosem.cut.vars").isSome = true := by kernel_rfl
theorem TZ : varsNamedLaterB Tryz.prog (varsId Tryz.prog) [("math/bits.deBruijn32tab", Rows.laid_math_bits_deBruijn32tab), ("math/bits.deBruijn64tab", Rows.laid_math_bits_deBruijn64tab), ("layout/rotation.limits", Rows.laid_layout_rotation_limits), ("internal/strconv.uint64pow10", Rows.laid_internal_strconv_uint64pow10), ("unicode/utf8.acceptRanges", Rows.laid_unicode_utf8_acceptRanges)] = true := by kernel_rfl
theorem TS:∀ os tape,varsDone Tryz.prog 400 (varsId Tryz.prog) os tape=true:=λ_ _=>by kernel_rfl
theorem TX : ∀ os tape, (DataW.laidRun Tryz.prog (varsWorld Tryz.prog 400 (varsId Tryz.prog) os tape).memory 8 (([("math/bits.deBruijn32tab", Rows.laid_math_bits_deBruijn32tab), ("math/bits.deBruijn64tab", Rows.laid_math_bits_deBruijn64tab), ("layout/rotation.limits", Rows.laid_layout_rotation_limits), ("internal/strconv.uint64pow10", Rows.laid_internal_strconv_uint64pow10), ("unicode/utf8.acceptRanges", Rows.laid_unicode_utf8_acceptRanges)] : List (String × DataW Unit)).map (·.1))).map (·.1) = some [("math/bits.deBruijn32tab", Rows.laid_math_bits_deBruijn32tab), ("math/bits.deBruijn64tab", Rows.laid_math_bits_deBruijn64tab), ("layout/rotation.limits", Rows.laid_layout_rotation_limits), ("internal/strconv.uint64pow10", Rows.laid_internal_strconv_uint64pow10), ("unicode/utf8.acceptRanges", Rows.laid_unicode_utf8_acceptRanges)] := fun _ _ => by kernel_rfl
theorem T9 : ∀ os tape, (DataW.laidRun Tryz.prog (varsWorld Tryz.prog 400 (varsId Tryz.prog) os tape).memory 8 (([("math/bits.deBruijn32tab", Rows.laid_math_bits_deBruijn32tab), ("math/bits.deBruijn64tab", Rows.laid_math_bits_deBruijn64tab), ("layout/rotation.limits", Rows.laid_layout_rotation_limits), ("internal/strconv.uint64pow10", Rows.laid_internal_strconv_uint64pow10), ("unicode/utf8.acceptRanges", Rows.laid_unicode_utf8_acceptRanges)] : List (String × DataW Unit)).map (·.1))).map (fun x => decide x.2.Nodup && laidRowsB Tryz.prog (varsWorld Tryz.prog 400 (varsId Tryz.prog) os tape).memory x.2) = some true := fun _ _ => by kernel_rfl
theorem TJ : Tryz.prog.laidByTextLater [("math/bits.deBruijn32tab", Rows.laid_math_bits_deBruijn32tab), ("math/bits.deBruijn64tab", Rows.laid_math_bits_deBruijn64tab), ("layout/rotation.limits", Rows.laid_layout_rotation_limits), ("internal/strconv.uint64pow10", Rows.laid_internal_strconv_uint64pow10), ("unicode/utf8.acceptRanges", Rows.laid_unicode_utf8_acceptRanges)] [LaidKind.data, .data, .data, .data, .data] true :=
 Program.laidByTextLater_by_run 400 8 Uk Tf QE Ul Ue TZ TS TX T9
theorem Tn : Tryz.pinned.checked.prog.pinnedFits "unicode/utf8.first" = true := by kernel_rfl
theorem Ti : Tryz.pinned.checked.prog.headLifts.contains "ownunsafe" = false := by kernel_rfl
theorem RS : Tryz.pinned.checked.prog.listedFits [("math/bits.deBruijn32tab", Rows.laid_math_bits_deBruijn32tab), ("math/bits.deBruijn64tab", Rows.laid_math_bits_deBruijn64tab), ("layout/rotation.limits", Rows.laid_layout_rotation_limits), ("internal/strconv.uint64pow10", Rows.laid_internal_strconv_uint64pow10), ("unicode/utf8.first", Rows.laid_unicode_utf8_first), ("unicode/utf8.acceptRanges", Rows.laid_unicode_utf8_acceptRanges)] = true := by
 unfold Program.listedFits;rw[Ti];kernel_rfl
theorem BQ:Rows.auditFindsRow.laidByTextAt .later Tryz.pinned [.data,.data,.data,.data,.pinned,.data] true:=
 OpenClaim.laidByTextAt_pinned rfl rfl TJ rfl rfl rfl rfl (λy hy _e=>by
  simp only[Rows.auditFindsRow,List.zip_cons_cons,List.zip_nil_right,List.mem_cons,List.mem_nil_iff,or_false]at hy;rcases hy with rfl|rfl|rfl|rfl|rfl|rfl
  ·cases _e
  ·cases _e
  ·cases _e
  ·cases _e
  ·exact⟨Tn,by kernel_rfl⟩
  cases _e) RS
end Go.Proofs.YtdijhiodknmjaaaGreatDoor

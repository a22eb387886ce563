/-
  NARROWER THAN 'FOR EVERY INPUT', by the rows' own cells (each row's printed sentence says how): TextMeasures: laid · TextBreaks: laid · TextWraps: laid · TextNarrows: laid · TextSizes: laid.
  DERIVED. THE GIVEN ROWS OF THIS SEAT. 5 by the template 'for every input the law returns true; each argument reads behind the call as it read before'; 0 by the template 'total and deterministic' (their statements: YtjhmefkkaenoaaaDoorTotals.lean).
  GIVEN WITH THE SEED: the statements are not yours to turn. If you find one false, say at which input.
  Laid BY PROGRAM, IN A SANDBOX (cutbox-rows.mjs): the forced cells as the released guide's own fill.sh prints them over the translation 6c99b3baf2467f1b… (all of the seat's roots in one cut). By AI agents, Wed Nov 11 2026. No macro, syntax, notation, axiom, sorry.
-/
import Derived.Test.YtjhmefkkaenoaaaDoorChecked
import GoSem.PinnedTables
import GoSem.Claim
import GoSem.ClaimJoined
import GoSem.ClaimMapViews
import Derived.JoinedTies
import Derived.KernelRfl
namespace Go.Proofs.YtjhmefkkaenoaaaDoor
/- THE CELL 'sum', in the pinned program and in every row, IS THE sha256 OF THE DUMP (.gsa) THAT YtjhmefkkaenoaaaDoorProg.lean LOADS. Nothing in Lean hashes anything: it is a label: what it is worth is what the hold of that sum in a sandbox is worth. -/
noncomputable def Tryd.pinned : Pinned := { name := "ytjhmefkkaenoaaadoor", sum := "6c99b3baf2467f1bf69d371fc5eb9c85070842e3b91739866e3f556ded57cf08", checked := Tryd.checked }
namespace Rows
def none {H : Type} : Left H := { results := [], args := [] }

/- WHAT THE LISTED PACKAGE-LEVEL VARIABLES READ AS WHEN THE CALL BEGINS. Each datum BY PROGRAM (the guide's laid-datum.mjs) off the statement by which the dump's own 'gosem.cut.vars' lays the variable. In a bare row this is a premise. The card (YtjhmefkkaenoaaaDoorCards.lean) ties it to the program's text. -/
def laid_unicode_utf8_acceptRanges {H : Type} : DataW H := .agg [.agg [.lit (.int .u8 128), .lit (.int .u8 191)], .agg [.lit (.int .u8 160), .lit (.int .u8 191)], .agg [.lit (.int .u8 128), .lit (.int .u8 159)], .agg [.lit (.int .u8 144), .lit (.int .u8 191)], .agg [.lit (.int .u8 128), .lit (.int .u8 143)], .agg [.lit (.int .u8 0), .lit (.int .u8 0)], .agg [.lit (.int .u8 0), .lit (.int .u8 0)], .agg [.lit (.int .u8 0), .lit (.int .u8 0)], .agg [.lit (.int .u8 0), .lit (.int .u8 0)], .agg [.lit (.int .u8 0), .lit (.int .u8 0)], .agg [.lit (.int .u8 0), .lit (.int .u8 0)], .agg [.lit (.int .u8 0), .lit (.int .u8 0)], .agg [.lit (.int .u8 0), .lit (.int .u8 0)], .agg [.lit (.int .u8 0), .lit (.int .u8 0)], .agg [.lit (.int .u8 0), .lit (.int .u8 0)], .agg [.lit (.int .u8 0), .lit (.int .u8 0)]]
/-- One of Go's own tables, pinned by name: the form's constant. -/
def laid_unicode_utf8_first : DataW Unit := Go.Pinned.utf8First

/-- 'layoutlaw48.TextMeasures': WHATEVER THE INPUT: true; the input reads as it did. -/
def textMeasuresSpec : ChangeSpec := { name := "textMeasures", fn := fun _ => fun
  | [d] => { results := [.lit (.bool true)], args := [d] }
  | _ => none }
def textMeasuresRow : OpenClaim := { program := "ytjhmefkkaenoaaadoor", sum := "6c99b3baf2467f1bf69d371fc5eb9c85070842e3b91739866e3f556ded57cf08", func := "layout/layoutlaw48.TextMeasures", spec := "textMeasures", inPlace := ["internal/bytealg.CountString", "internal/bytealg.IndexByteString", "internal/bytealg.IndexString"], unfollowed := true, recurses := true, named := ["unicode/utf8.first", "unicode/utf8.acceptRanges", "internal/bytealg.MaxLen"], apart := false, laid := [("unicode/utf8.acceptRanges", laid_unicode_utf8_acceptRanges), ("unicode/utf8.first", laid_unicode_utf8_first)] }
def TextMeasuresSaid : Prop := textMeasuresRow.holds Tryd.pinned (OpenSpec.ofChange textMeasuresSpec)

/-- ITS FALSE NEIGHBOUR: 'it returns false'. Refute it at one input. -/
def textMeasuresWrong : ChangeSpec := { name := "textMeasures", fn := fun _ => fun
  | [d] => { results := [.lit (.bool false)], args := [d] }
  | _ => none }
def TextMeasuresWrongFalsely : Prop := textMeasuresRow.holds Tryd.pinned (OpenSpec.ofChange textMeasuresWrong)

/-- 'layoutlaw48.TextBreaks': WHATEVER THE INPUT: true; the input reads as it did. -/
def textBreaksSpec : ChangeSpec := { name := "textBreaks", fn := fun _ => fun
  | [d1, d2] => { results := [.lit (.bool true)], args := [d1, d2] }
  | _ => none }
def textBreaksRow : OpenClaim := { program := "ytjhmefkkaenoaaadoor", sum := "6c99b3baf2467f1bf69d371fc5eb9c85070842e3b91739866e3f556ded57cf08", func := "layout/layoutlaw48.TextBreaks", spec := "textBreaks", inPlace := ["internal/bytealg.CountString", "internal/bytealg.IndexByteString", "internal/bytealg.IndexString"], unfollowed := true, recurses := true, named := ["unicode/utf8.first", "unicode/utf8.acceptRanges", "internal/bytealg.MaxLen"], apart := false, laid := [("unicode/utf8.acceptRanges", laid_unicode_utf8_acceptRanges), ("unicode/utf8.first", laid_unicode_utf8_first)] }
def TextBreaksSaid : Prop := textBreaksRow.holds Tryd.pinned (OpenSpec.ofChange textBreaksSpec)

/-- ITS FALSE NEIGHBOUR: 'it returns false'. Refute it at one input. -/
def textBreaksWrong : ChangeSpec := { name := "textBreaks", fn := fun _ => fun
  | [d1, d2] => { results := [.lit (.bool false)], args := [d1, d2] }
  | _ => none }
def TextBreaksWrongFalsely : Prop := textBreaksRow.holds Tryd.pinned (OpenSpec.ofChange textBreaksWrong)

/-- 'layoutlaw48.TextWraps': WHATEVER THE INPUT: true; the input reads as it did. -/
def textWrapsSpec : ChangeSpec := { name := "textWraps", fn := fun _ => fun
  | [d1, d2] => { results := [.lit (.bool true)], args := [d1, d2] }
  | _ => none }
def textWrapsRow : OpenClaim := { program := "ytjhmefkkaenoaaadoor", sum := "6c99b3baf2467f1bf69d371fc5eb9c85070842e3b91739866e3f556ded57cf08", func := "layout/layoutlaw48.TextWraps", spec := "textWraps", inPlace := ["internal/bytealg.CountString", "internal/bytealg.IndexByteString", "internal/bytealg.IndexString"], unfollowed := true, recurses := true, named := ["unicode/utf8.first", "unicode/utf8.acceptRanges", "internal/bytealg.MaxLen"], apart := false, laid := [("unicode/utf8.acceptRanges", laid_unicode_utf8_acceptRanges), ("unicode/utf8.first", laid_unicode_utf8_first)] }
def TextWrapsSaid : Prop := textWrapsRow.holds Tryd.pinned (OpenSpec.ofChange textWrapsSpec)

/-- ITS FALSE NEIGHBOUR: 'it returns false'. Refute it at one input. -/
def textWrapsWrong : ChangeSpec := { name := "textWraps", fn := fun _ => fun
  | [d1, d2] => { results := [.lit (.bool false)], args := [d1, d2] }
  | _ => none }
def TextWrapsWrongFalsely : Prop := textWrapsRow.holds Tryd.pinned (OpenSpec.ofChange textWrapsWrong)

/-- 'layoutlaw48.TextNarrows': WHATEVER THE INPUT: true; the input reads as it did. -/
def textNarrowsSpec : ChangeSpec := { name := "textNarrows", fn := fun _ => fun
  | [d1, d2] => { results := [.lit (.bool true)], args := [d1, d2] }
  | _ => none }
def textNarrowsRow : OpenClaim := { program := "ytjhmefkkaenoaaadoor", sum := "6c99b3baf2467f1bf69d371fc5eb9c85070842e3b91739866e3f556ded57cf08", func := "layout/layoutlaw48.TextNarrows", spec := "textNarrows", inPlace := ["internal/bytealg.CountString", "internal/bytealg.IndexByteString", "internal/bytealg.IndexString"], unfollowed := true, recurses := true, named := ["unicode/utf8.first", "unicode/utf8.acceptRanges", "internal/bytealg.MaxLen"], apart := false, laid := [("unicode/utf8.acceptRanges", laid_unicode_utf8_acceptRanges), ("unicode/utf8.first", laid_unicode_utf8_first)] }
def TextNarrowsSaid : Prop := textNarrowsRow.holds Tryd.pinned (OpenSpec.ofChange textNarrowsSpec)

/-- ITS FALSE NEIGHBOUR: 'it returns false'. Refute it at one input. -/
def textNarrowsWrong : ChangeSpec := { name := "textNarrows", fn := fun _ => fun
  | [d1, d2] => { results := [.lit (.bool false)], args := [d1, d2] }
  | _ => none }
def TextNarrowsWrongFalsely : Prop := textNarrowsRow.holds Tryd.pinned (OpenSpec.ofChange textNarrowsWrong)

/-- 'layoutlaw48.TextSizes': WHATEVER THE INPUT: true; the input reads as it did. -/
def textSizesSpec : ChangeSpec := { name := "textSizes", fn := fun _ => fun
  | [d] => { results := [.lit (.bool true)], args := [d] }
  | _ => none }
def textSizesRow : OpenClaim := { program := "ytjhmefkkaenoaaadoor", sum := "6c99b3baf2467f1bf69d371fc5eb9c85070842e3b91739866e3f556ded57cf08", func := "layout/layoutlaw48.TextSizes", spec := "textSizes", inPlace := ["internal/bytealg.CountString", "internal/bytealg.IndexByteString", "internal/bytealg.IndexString"], unfollowed := true, recurses := true, named := ["unicode/utf8.first", "unicode/utf8.acceptRanges", "internal/bytealg.MaxLen"], apart := false, laid := [("unicode/utf8.acceptRanges", laid_unicode_utf8_acceptRanges), ("unicode/utf8.first", laid_unicode_utf8_first)] }
def TextSizesSaid : Prop := textSizesRow.holds Tryd.pinned (OpenSpec.ofChange textSizesSpec)

/-- ITS FALSE NEIGHBOUR: 'it returns false'. Refute it at one input. -/
def textSizesWrong : ChangeSpec := { name := "textSizes", fn := fun _ => fun
  | [d] => { results := [.lit (.bool false)], args := [d] }
  | _ => none }
def TextSizesWrongFalsely : Prop := textSizesRow.holds Tryd.pinned (OpenSpec.ofChange textSizesWrong)

/- THE SECOND FORM. 'bulk': how many values and letters a reading holds, each counted each time it is reached (what is shared counts as often as it is met; a slice's spare places count too). A statement '..UptoSaid' is the law's where the arguments, and the package variables that the reading takes, are together of bulk at most 1048576: NARROWER than '..Said'. Prove '..Said' where nothing that the law and all that it calls make is longer than what came in: it says more and counts as full. Else prove '..UptoSaid'. A law counts once. -/
mutual
def uptoBulk {H : Type} : DataW H → Nat
  | .lit (.string bytes) => bytes.length + 1
  | .lit _ => 1
  | .nil => 1
  | .ptr d => uptoBulk d + 1
  | .slice elems spare => uptoBulkAll elems + uptoBulkAll spare + 1
  | .agg parts => uptoBulkAll parts + 1
  | .iface _ d => uptoBulk d + 1
  | .map entries => uptoBulkEntries entries + 1
  | .held _ => 1
def uptoBulkAll {H : Type} : List (DataW H) → Nat
  | [] => 0
  | d :: r => uptoBulk d + uptoBulkAll r
def uptoBulkEntries {H : Type} : List (Lit × DataW H) → Nat
  | [] => 0
  | x :: r => uptoBulkEntry x + uptoBulkEntries r
def uptoBulkEntry {H : Type} : Lit × DataW H → Nat
  | (.string bytes, d) => bytes.length + uptoBulk d + 1
  | (_, d) => uptoBulk d + 1
 end
def uptoSmall : (H : Type) → List (DataW H) → Bool := fun _ ds => decide (uptoBulkAll ds ≤ 1048576)
def OpenSpec.upto (s : _root_.Go.ChangeSpec) : _root_.Go.OpenSpec := { _root_.Go.OpenSpec.ofChange s with cond := some uptoSmall }

/-- 'layoutlaw48.TextMeasures', WHERE WHAT IT READS IS OF BULK AT MOST 1048576: true; the input reads as it did. -/
def textMeasuresUptoRow : OpenClaim := { program := "ytjhmefkkaenoaaadoor", sum := "6c99b3baf2467f1bf69d371fc5eb9c85070842e3b91739866e3f556ded57cf08", func := "layout/layoutlaw48.TextMeasures", spec := "textMeasures", inPlace := ["internal/bytealg.CountString", "internal/bytealg.IndexByteString", "internal/bytealg.IndexString"], unfollowed := true, recurses := true, named := ["unicode/utf8.first", "unicode/utf8.acceptRanges", "internal/bytealg.MaxLen"], apart := false, laid := [("unicode/utf8.acceptRanges", laid_unicode_utf8_acceptRanges), ("unicode/utf8.first", laid_unicode_utf8_first)], narrowed := true }
def TextMeasuresUptoSaid : Prop := textMeasuresUptoRow.holds Tryd.pinned (OpenSpec.upto textMeasuresSpec)

/-- 'layoutlaw48.TextBreaks', WHERE WHAT IT READS IS OF BULK AT MOST 1048576: true; the input reads as it did. -/
def textBreaksUptoRow : OpenClaim := { program := "ytjhmefkkaenoaaadoor", sum := "6c99b3baf2467f1bf69d371fc5eb9c85070842e3b91739866e3f556ded57cf08", func := "layout/layoutlaw48.TextBreaks", spec := "textBreaks", inPlace := ["internal/bytealg.CountString", "internal/bytealg.IndexByteString", "internal/bytealg.IndexString"], unfollowed := true, recurses := true, named := ["unicode/utf8.first", "unicode/utf8.acceptRanges", "internal/bytealg.MaxLen"], apart := false, laid := [("unicode/utf8.acceptRanges", laid_unicode_utf8_acceptRanges), ("unicode/utf8.first", laid_unicode_utf8_first)], narrowed := true }
def TextBreaksUptoSaid : Prop := textBreaksUptoRow.holds Tryd.pinned (OpenSpec.upto textBreaksSpec)

/-- 'layoutlaw48.TextWraps', WHERE WHAT IT READS IS OF BULK AT MOST 1048576: true; the input reads as it did. -/
def textWrapsUptoRow : OpenClaim := { program := "ytjhmefkkaenoaaadoor", sum := "6c99b3baf2467f1bf69d371fc5eb9c85070842e3b91739866e3f556ded57cf08", func := "layout/layoutlaw48.TextWraps", spec := "textWraps", inPlace := ["internal/bytealg.CountString", "internal/bytealg.IndexByteString", "internal/bytealg.IndexString"], unfollowed := true, recurses := true, named := ["unicode/utf8.first", "unicode/utf8.acceptRanges", "internal/bytealg.MaxLen"], apart := false, laid := [("unicode/utf8.acceptRanges", laid_unicode_utf8_acceptRanges), ("unicode/utf8.first", laid_unicode_utf8_first)], narrowed := true }
def TextWrapsUptoSaid : Prop := textWrapsUptoRow.holds Tryd.pinned (OpenSpec.upto textWrapsSpec)

/-- 'layoutlaw48.TextNarrows', WHERE WHAT IT READS IS OF BULK AT MOST 1048576: true; the input reads as it did. -/
def textNarrowsUptoRow : OpenClaim := { program := "ytjhmefkkaenoaaadoor", sum := "6c99b3baf2467f1bf69d371fc5eb9c85070842e3b91739866e3f556ded57cf08", func := "layout/layoutlaw48.TextNarrows", spec := "textNarrows", inPlace := ["internal/bytealg.CountString", "internal/bytealg.IndexByteString", "internal/bytealg.IndexString"], unfollowed := true, recurses := true, named := ["unicode/utf8.first", "unicode/utf8.acceptRanges", "internal/bytealg.MaxLen"], apart := false, laid := [("unicode/utf8.acceptRanges", laid_unicode_utf8_acceptRanges), ("unicode/utf8.first", laid_unicode_utf8_first)], narrowed := true }
def TextNarrowsUptoSaid : Prop := textNarrowsUptoRow.holds Tryd.pinned (OpenSpec.upto textNarrowsSpec)

/-- 'layoutlaw48.TextSizes', WHERE WHAT IT READS IS OF BULK AT MOST 1048576: true; the input reads as it did. -/
def textSizesUptoRow : OpenClaim := { program := "ytjhmefkkaenoaaadoor", sum := "6c99b3baf2467f1bf69d371fc5eb9c85070842e3b91739866e3f556ded57cf08", func := "layout/layoutlaw48.TextSizes", spec := "textSizes", inPlace := ["internal/bytealg.CountString", "internal/bytealg.IndexByteString", "internal/bytealg.IndexString"], unfollowed := true, recurses := true, named := ["unicode/utf8.first", "unicode/utf8.acceptRanges", "internal/bytealg.MaxLen"], apart := false, laid := [("unicode/utf8.acceptRanges", laid_unicode_utf8_acceptRanges), ("unicode/utf8.first", laid_unicode_utf8_first)], narrowed := true }
def TextSizesUptoSaid : Prop := textSizesUptoRow.holds Tryd.pinned (OpenSpec.upto textSizesSpec)

end Rows
end Go.Proofs.YtjhmefkkaenoaaaDoor

/-
  NARROWER THAN 'FOR EVERY INPUT', by the rows' own cells (each row's printed sentence says how): InsertEdges: laid · InsertSplits: laid · InsertPaths: laid · InsertBack: laid · InsertCrosses: laid · TriangulateChecks: laid · TriangulateExtends: laid · TriangulateAgain: laid · TriangulateRepairs: laid.
  DERIVED. THE GIVEN ROWS OF THIS SEAT. 9 by the template 'for every input the law returns true; each argument reads behind the call as it read before'; 0 by the template 'total and deterministic' (their statements: YtgihliccohoggaaDoorTotals.lean).
  GIVEN WITH THE SEED: the statements are not yours to turn. If you find one false, say at which input.
  Laid BY PROGRAM, IN A SANDBOX (cutbox-rows.mjs): the forced cells as the released guide's own fill.sh prints them over the translation d02e9c384c64ee3b… (all of the seat's roots in one cut). By AI agents, Wed Nov 11 2026. No macro, syntax, notation, axiom, sorry.
-/
import Derived.Test.YtgihliccohoggaaDoorChecked
import GoSem.Claim
import GoSem.ClaimJoined
import GoSem.ClaimMapViews
import Derived.JoinedTies
import Derived.KernelRfl
namespace Go.Proofs.YtgihliccohoggaaDoor
/- THE CELL 'sum', in the pinned program and in every row, IS THE sha256 OF THE DUMP (.gsa) THAT YtgihliccohoggaaDoorProg.lean LOADS. Nothing in Lean hashes anything: it is a label: what it is worth is what the hold of that sum in a sandbox is worth. -/
noncomputable def Tryd.pinned : Pinned := { name := "ytgihliccohoggaadoor", sum := "d02e9c384c64ee3bae54e804e9f180756900a777952d3e65a021babc10f1d292", checked := Tryd.checked }
namespace Rows
def none {H : Type} : Left H := { results := [], args := [] }

/- WHAT THE LISTED PACKAGE-LEVEL VARIABLES READ AS WHEN THE CALL BEGINS. Each datum BY PROGRAM (the guide's laid-datum.mjs) off the statement by which the dump's own 'gosem.cut.vars' lays the variable. In a bare row this is a premise. The card (YtgihliccohoggaaDoorCards.lean) ties it to the program's text. -/
def laid_layout_rotation_limits {H : Type} : DataW H := .agg [.lit (.int .i64 16384), .lit (.int .i64 32768)]

/-- 'layoutlaw33.InsertEdges': WHATEVER THE INPUT: true; the input reads as it did. -/
def insertEdgesSpec : ChangeSpec := { name := "insertEdges", fn := fun _ => fun
  | [d1, d2, d3] => { results := [.lit (.bool true)], args := [d1, d2, d3] }
  | _ => none }
def insertEdgesRow : OpenClaim := { program := "ytgihliccohoggaadoor", sum := "d02e9c384c64ee3bae54e804e9f180756900a777952d3e65a021babc10f1d292", func := "layout/layoutlaw33.InsertEdges", spec := "insertEdges", inPlace := ["slices.overlaps[int]"], unfollowed := true, recurses := true, named := ["layout/rotation.limits"], plainKeys := false, apart := false, laid := [("layout/rotation.limits", laid_layout_rotation_limits)] }
def InsertEdgesSaid : Prop := insertEdgesRow.holds Tryd.pinned (OpenSpec.ofChange insertEdgesSpec)

/-- ITS FALSE NEIGHBOUR: 'it returns false'. Refute it at one input. -/
def insertEdgesWrong : ChangeSpec := { name := "insertEdges", fn := fun _ => fun
  | [d1, d2, d3] => { results := [.lit (.bool false)], args := [d1, d2, d3] }
  | _ => none }
def InsertEdgesWrongFalsely : Prop := insertEdgesRow.holds Tryd.pinned (OpenSpec.ofChange insertEdgesWrong)

/-- 'layoutlaw33.InsertSplits': WHATEVER THE INPUT: true; the input reads as it did. -/
def insertSplitsSpec : ChangeSpec := { name := "insertSplits", fn := fun _ => fun
  | [d1, d2] => { results := [.lit (.bool true)], args := [d1, d2] }
  | _ => none }
def insertSplitsRow : OpenClaim := { program := "ytgihliccohoggaadoor", sum := "d02e9c384c64ee3bae54e804e9f180756900a777952d3e65a021babc10f1d292", func := "layout/layoutlaw33.InsertSplits", spec := "insertSplits", inPlace := ["slices.overlaps[int]"], unfollowed := true, recurses := true, named := ["layout/rotation.limits"], plainKeys := false, apart := false, laid := [("layout/rotation.limits", laid_layout_rotation_limits)] }
def InsertSplitsSaid : Prop := insertSplitsRow.holds Tryd.pinned (OpenSpec.ofChange insertSplitsSpec)

/-- ITS FALSE NEIGHBOUR: 'it returns false'. Refute it at one input. -/
def insertSplitsWrong : ChangeSpec := { name := "insertSplits", fn := fun _ => fun
  | [d1, d2] => { results := [.lit (.bool false)], args := [d1, d2] }
  | _ => none }
def InsertSplitsWrongFalsely : Prop := insertSplitsRow.holds Tryd.pinned (OpenSpec.ofChange insertSplitsWrong)

/-- 'layoutlaw33.InsertPaths': WHATEVER THE INPUT: true; the input reads as it did. -/
def insertPathsSpec : ChangeSpec := { name := "insertPaths", fn := fun _ => fun
  | [d1, d2, d3] => { results := [.lit (.bool true)], args := [d1, d2, d3] }
  | _ => none }
def insertPathsRow : OpenClaim := { program := "ytgihliccohoggaadoor", sum := "d02e9c384c64ee3bae54e804e9f180756900a777952d3e65a021babc10f1d292", func := "layout/layoutlaw33.InsertPaths", spec := "insertPaths", inPlace := ["slices.overlaps[int]"], unfollowed := true, recurses := true, named := ["layout/rotation.limits"], plainKeys := false, apart := false, laid := [("layout/rotation.limits", laid_layout_rotation_limits)] }
def InsertPathsSaid : Prop := insertPathsRow.holds Tryd.pinned (OpenSpec.ofChange insertPathsSpec)

/-- ITS FALSE NEIGHBOUR: 'it returns false'. Refute it at one input. -/
def insertPathsWrong : ChangeSpec := { name := "insertPaths", fn := fun _ => fun
  | [d1, d2, d3] => { results := [.lit (.bool false)], args := [d1, d2, d3] }
  | _ => none }
def InsertPathsWrongFalsely : Prop := insertPathsRow.holds Tryd.pinned (OpenSpec.ofChange insertPathsWrong)

/-- 'layoutlaw33.InsertBack': WHATEVER THE INPUT: true; the input reads as it did. -/
def insertBackSpec : ChangeSpec := { name := "insertBack", fn := fun _ => fun
  | [d1, d2, d3] => { results := [.lit (.bool true)], args := [d1, d2, d3] }
  | _ => none }
def insertBackRow : OpenClaim := { program := "ytgihliccohoggaadoor", sum := "d02e9c384c64ee3bae54e804e9f180756900a777952d3e65a021babc10f1d292", func := "layout/layoutlaw33.InsertBack", spec := "insertBack", inPlace := ["slices.overlaps[int]"], unfollowed := true, recurses := true, named := ["layout/rotation.limits"], plainKeys := false, apart := false, laid := [("layout/rotation.limits", laid_layout_rotation_limits)] }
def InsertBackSaid : Prop := insertBackRow.holds Tryd.pinned (OpenSpec.ofChange insertBackSpec)

/-- ITS FALSE NEIGHBOUR: 'it returns false'. Refute it at one input. -/
def insertBackWrong : ChangeSpec := { name := "insertBack", fn := fun _ => fun
  | [d1, d2, d3] => { results := [.lit (.bool false)], args := [d1, d2, d3] }
  | _ => none }
def InsertBackWrongFalsely : Prop := insertBackRow.holds Tryd.pinned (OpenSpec.ofChange insertBackWrong)

/-- 'layoutlaw33.InsertCrosses': WHATEVER THE INPUT: true; the input reads as it did. -/
def insertCrossesSpec : ChangeSpec := { name := "insertCrosses", fn := fun _ => fun
  | [d1, d2, d3] => { results := [.lit (.bool true)], args := [d1, d2, d3] }
  | _ => none }
def insertCrossesRow : OpenClaim := { program := "ytgihliccohoggaadoor", sum := "d02e9c384c64ee3bae54e804e9f180756900a777952d3e65a021babc10f1d292", func := "layout/layoutlaw33.InsertCrosses", spec := "insertCrosses", inPlace := ["slices.overlaps[int]"], unfollowed := true, recurses := true, named := ["layout/rotation.limits"], plainKeys := false, apart := false, laid := [("layout/rotation.limits", laid_layout_rotation_limits)] }
def InsertCrossesSaid : Prop := insertCrossesRow.holds Tryd.pinned (OpenSpec.ofChange insertCrossesSpec)

/-- ITS FALSE NEIGHBOUR: 'it returns false'. Refute it at one input. -/
def insertCrossesWrong : ChangeSpec := { name := "insertCrosses", fn := fun _ => fun
  | [d1, d2, d3] => { results := [.lit (.bool false)], args := [d1, d2, d3] }
  | _ => none }
def InsertCrossesWrongFalsely : Prop := insertCrossesRow.holds Tryd.pinned (OpenSpec.ofChange insertCrossesWrong)

/-- 'layoutlaw35.TriangulateChecks': WHATEVER THE INPUT: true; the input reads as it did. -/
def triangulateChecksSpec : ChangeSpec := { name := "triangulateChecks", fn := fun _ => fun
  | [d] => { results := [.lit (.bool true)], args := [d] }
  | _ => none }
def triangulateChecksRow : OpenClaim := { program := "ytgihliccohoggaadoor", sum := "d02e9c384c64ee3bae54e804e9f180756900a777952d3e65a021babc10f1d292", func := "layout/layoutlaw35.TriangulateChecks", spec := "triangulateChecks", inPlace := ["slices.overlaps[int]"], named := ["layout/rotation.limits"], plainKeys := false, apart := false, laid := [("layout/rotation.limits", laid_layout_rotation_limits)] }
def TriangulateChecksSaid : Prop := triangulateChecksRow.holds Tryd.pinned (OpenSpec.ofChange triangulateChecksSpec)

/-- ITS FALSE NEIGHBOUR: 'it returns false'. Refute it at one input. -/
def triangulateChecksWrong : ChangeSpec := { name := "triangulateChecks", fn := fun _ => fun
  | [d] => { results := [.lit (.bool false)], args := [d] }
  | _ => none }
def TriangulateChecksWrongFalsely : Prop := triangulateChecksRow.holds Tryd.pinned (OpenSpec.ofChange triangulateChecksWrong)

/-- 'layoutlaw35.TriangulateExtends': WHATEVER THE INPUT: true; the input reads as it did. -/
def triangulateExtendsSpec : ChangeSpec := { name := "triangulateExtends", fn := fun _ => fun
  | [d] => { results := [.lit (.bool true)], args := [d] }
  | _ => none }
def triangulateExtendsRow : OpenClaim := { program := "ytgihliccohoggaadoor", sum := "d02e9c384c64ee3bae54e804e9f180756900a777952d3e65a021babc10f1d292", func := "layout/layoutlaw35.TriangulateExtends", spec := "triangulateExtends", inPlace := ["slices.overlaps[int]"], named := ["layout/rotation.limits"], plainKeys := false, apart := false, laid := [("layout/rotation.limits", laid_layout_rotation_limits)] }
def TriangulateExtendsSaid : Prop := triangulateExtendsRow.holds Tryd.pinned (OpenSpec.ofChange triangulateExtendsSpec)

/-- ITS FALSE NEIGHBOUR: 'it returns false'. Refute it at one input. -/
def triangulateExtendsWrong : ChangeSpec := { name := "triangulateExtends", fn := fun _ => fun
  | [d] => { results := [.lit (.bool false)], args := [d] }
  | _ => none }
def TriangulateExtendsWrongFalsely : Prop := triangulateExtendsRow.holds Tryd.pinned (OpenSpec.ofChange triangulateExtendsWrong)

/-- 'layoutlaw35.TriangulateAgain': WHATEVER THE INPUT: true; the input reads as it did. -/
def triangulateAgainSpec : ChangeSpec := { name := "triangulateAgain", fn := fun _ => fun
  | [d1, d2] => { results := [.lit (.bool true)], args := [d1, d2] }
  | _ => none }
def triangulateAgainRow : OpenClaim := { program := "ytgihliccohoggaadoor", sum := "d02e9c384c64ee3bae54e804e9f180756900a777952d3e65a021babc10f1d292", func := "layout/layoutlaw35.TriangulateAgain", spec := "triangulateAgain", inPlace := ["slices.overlaps[int]"], named := ["layout/rotation.limits"], plainKeys := false, apart := false, laid := [("layout/rotation.limits", laid_layout_rotation_limits)] }
def TriangulateAgainSaid : Prop := triangulateAgainRow.holds Tryd.pinned (OpenSpec.ofChange triangulateAgainSpec)

/-- ITS FALSE NEIGHBOUR: 'it returns false'. Refute it at one input. -/
def triangulateAgainWrong : ChangeSpec := { name := "triangulateAgain", fn := fun _ => fun
  | [d1, d2] => { results := [.lit (.bool false)], args := [d1, d2] }
  | _ => none }
def TriangulateAgainWrongFalsely : Prop := triangulateAgainRow.holds Tryd.pinned (OpenSpec.ofChange triangulateAgainWrong)

/-- 'layoutlaw35.TriangulateRepairs': WHATEVER THE INPUT: true; the input reads as it did. -/
def triangulateRepairsSpec : ChangeSpec := { name := "triangulateRepairs", fn := fun _ => fun
  | [d1, d2] => { results := [.lit (.bool true)], args := [d1, d2] }
  | _ => none }
def triangulateRepairsRow : OpenClaim := { program := "ytgihliccohoggaadoor", sum := "d02e9c384c64ee3bae54e804e9f180756900a777952d3e65a021babc10f1d292", func := "layout/layoutlaw35.TriangulateRepairs", spec := "triangulateRepairs", inPlace := ["slices.overlaps[int]"], named := ["layout/rotation.limits"], plainKeys := false, apart := false, laid := [("layout/rotation.limits", laid_layout_rotation_limits)] }
def TriangulateRepairsSaid : Prop := triangulateRepairsRow.holds Tryd.pinned (OpenSpec.ofChange triangulateRepairsSpec)

/-- ITS FALSE NEIGHBOUR: 'it returns false'. Refute it at one input. -/
def triangulateRepairsWrong : ChangeSpec := { name := "triangulateRepairs", fn := fun _ => fun
  | [d1, d2] => { results := [.lit (.bool false)], args := [d1, d2] }
  | _ => none }
def TriangulateRepairsWrongFalsely : Prop := triangulateRepairsRow.holds Tryd.pinned (OpenSpec.ofChange triangulateRepairsWrong)

/- THE SECOND FORM. 'bulk': how many values and letters a reading holds, each counted each time it is reached (what is shared counts as often as it is met; a slice's spare places count too). A statement '..UptoSaid' is the law's where the arguments, and the package variables that the reading takes, are together of bulk at most 1048576: NARROWER than '..Said'. Prove '..Said' where nothing that the law and all that it calls make is longer than what came in: it says more and counts as full. Else prove '..UptoSaid'. A law counts once. -/
mutual
def uptoBulk {H : Type} : DataW H → Nat
  | .lit (.string bytes) => bytes.length + 1
  | .lit _ => 1
  | .nil => 1
  | .ptr d => uptoBulk d + 1
  | .slice elems spare => uptoBulkAll elems + uptoBulkAll spare + 1
  | .agg parts => uptoBulkAll parts + 1
  | .iface _ d => uptoBulk d + 1
  | .map entries => uptoBulkEntries entries + 1
  | .held _ => 1
def uptoBulkAll {H : Type} : List (DataW H) → Nat
  | [] => 0
  | d :: r => uptoBulk d + uptoBulkAll r
def uptoBulkEntries {H : Type} : List (Lit × DataW H) → Nat
  | [] => 0
  | x :: r => uptoBulkEntry x + uptoBulkEntries r
def uptoBulkEntry {H : Type} : Lit × DataW H → Nat
  | (.string bytes, d) => bytes.length + uptoBulk d + 1
  | (_, d) => uptoBulk d + 1
 end
def uptoSmall : (H : Type) → List (DataW H) → Bool := fun _ ds => decide (uptoBulkAll ds ≤ 1048576)
def OpenSpec.upto (s : _root_.Go.ChangeSpec) : _root_.Go.OpenSpec := { _root_.Go.OpenSpec.ofChange s with cond := some uptoSmall }

/-- 'layoutlaw33.InsertEdges', WHERE WHAT IT READS IS OF BULK AT MOST 1048576: true; the input reads as it did. -/
def insertEdgesUptoRow : OpenClaim := { program := "ytgihliccohoggaadoor", sum := "d02e9c384c64ee3bae54e804e9f180756900a777952d3e65a021babc10f1d292", func := "layout/layoutlaw33.InsertEdges", spec := "insertEdges", inPlace := ["slices.overlaps[int]"], unfollowed := true, recurses := true, named := ["layout/rotation.limits"], plainKeys := false, apart := false, laid := [("layout/rotation.limits", laid_layout_rotation_limits)], narrowed := true }
def InsertEdgesUptoSaid : Prop := insertEdgesUptoRow.holds Tryd.pinned (OpenSpec.upto insertEdgesSpec)

/-- 'layoutlaw33.InsertSplits', WHERE WHAT IT READS IS OF BULK AT MOST 1048576: true; the input reads as it did. -/
def insertSplitsUptoRow : OpenClaim := { program := "ytgihliccohoggaadoor", sum := "d02e9c384c64ee3bae54e804e9f180756900a777952d3e65a021babc10f1d292", func := "layout/layoutlaw33.InsertSplits", spec := "insertSplits", inPlace := ["slices.overlaps[int]"], unfollowed := true, recurses := true, named := ["layout/rotation.limits"], plainKeys := false, apart := false, laid := [("layout/rotation.limits", laid_layout_rotation_limits)], narrowed := true }
def InsertSplitsUptoSaid : Prop := insertSplitsUptoRow.holds Tryd.pinned (OpenSpec.upto insertSplitsSpec)

/-- 'layoutlaw33.InsertPaths', WHERE WHAT IT READS IS OF BULK AT MOST 1048576: true; the input reads as it did. -/
def insertPathsUptoRow : OpenClaim := { program := "ytgihliccohoggaadoor", sum := "d02e9c384c64ee3bae54e804e9f180756900a777952d3e65a021babc10f1d292", func := "layout/layoutlaw33.InsertPaths", spec := "insertPaths", inPlace := ["slices.overlaps[int]"], unfollowed := true, recurses := true, named := ["layout/rotation.limits"], plainKeys := false, apart := false, laid := [("layout/rotation.limits", laid_layout_rotation_limits)], narrowed := true }
def InsertPathsUptoSaid : Prop := insertPathsUptoRow.holds Tryd.pinned (OpenSpec.upto insertPathsSpec)

/-- 'layoutlaw33.InsertBack', WHERE WHAT IT READS IS OF BULK AT MOST 1048576: true; the input reads as it did. -/
def insertBackUptoRow : OpenClaim := { program := "ytgihliccohoggaadoor", sum := "d02e9c384c64ee3bae54e804e9f180756900a777952d3e65a021babc10f1d292", func := "layout/layoutlaw33.InsertBack", spec := "insertBack", inPlace := ["slices.overlaps[int]"], unfollowed := true, recurses := true, named := ["layout/rotation.limits"], plainKeys := false, apart := false, laid := [("layout/rotation.limits", laid_layout_rotation_limits)], narrowed := true }
def InsertBackUptoSaid : Prop := insertBackUptoRow.holds Tryd.pinned (OpenSpec.upto insertBackSpec)

/-- 'layoutlaw33.InsertCrosses', WHERE WHAT IT READS IS OF BULK AT MOST 1048576: true; the input reads as it did. -/
def insertCrossesUptoRow : OpenClaim := { program := "ytgihliccohoggaadoor", sum := "d02e9c384c64ee3bae54e804e9f180756900a777952d3e65a021babc10f1d292", func := "layout/layoutlaw33.InsertCrosses", spec := "insertCrosses", inPlace := ["slices.overlaps[int]"], unfollowed := true, recurses := true, named := ["layout/rotation.limits"], plainKeys := false, apart := false, laid := [("layout/rotation.limits", laid_layout_rotation_limits)], narrowed := true }
def InsertCrossesUptoSaid : Prop := insertCrossesUptoRow.holds Tryd.pinned (OpenSpec.upto insertCrossesSpec)

/-- 'layoutlaw35.TriangulateChecks', WHERE WHAT IT READS IS OF BULK AT MOST 1048576: true; the input reads as it did. -/
def triangulateChecksUptoRow : OpenClaim := { program := "ytgihliccohoggaadoor", sum := "d02e9c384c64ee3bae54e804e9f180756900a777952d3e65a021babc10f1d292", func := "layout/layoutlaw35.TriangulateChecks", spec := "triangulateChecks", inPlace := ["slices.overlaps[int]"], named := ["layout/rotation.limits"], plainKeys := false, apart := false, laid := [("layout/rotation.limits", laid_layout_rotation_limits)], narrowed := true }
def TriangulateChecksUptoSaid : Prop := triangulateChecksUptoRow.holds Tryd.pinned (OpenSpec.upto triangulateChecksSpec)

/-- 'layoutlaw35.TriangulateExtends', WHERE WHAT IT READS IS OF BULK AT MOST 1048576: true; the input reads as it did. -/
def triangulateExtendsUptoRow : OpenClaim := { program := "ytgihliccohoggaadoor", sum := "d02e9c384c64ee3bae54e804e9f180756900a777952d3e65a021babc10f1d292", func := "layout/layoutlaw35.TriangulateExtends", spec := "triangulateExtends", inPlace := ["slices.overlaps[int]"], named := ["layout/rotation.limits"], plainKeys := false, apart := false, laid := [("layout/rotation.limits", laid_layout_rotation_limits)], narrowed := true }
def TriangulateExtendsUptoSaid : Prop := triangulateExtendsUptoRow.holds Tryd.pinned (OpenSpec.upto triangulateExtendsSpec)

/-- 'layoutlaw35.TriangulateAgain', WHERE WHAT IT READS IS OF BULK AT MOST 1048576: true; the input reads as it did. -/
def triangulateAgainUptoRow : OpenClaim := { program := "ytgihliccohoggaadoor", sum := "d02e9c384c64ee3bae54e804e9f180756900a777952d3e65a021babc10f1d292", func := "layout/layoutlaw35.TriangulateAgain", spec := "triangulateAgain", inPlace := ["slices.overlaps[int]"], named := ["layout/rotation.limits"], plainKeys := false, apart := false, laid := [("layout/rotation.limits", laid_layout_rotation_limits)], narrowed := true }
def TriangulateAgainUptoSaid : Prop := triangulateAgainUptoRow.holds Tryd.pinned (OpenSpec.upto triangulateAgainSpec)

/-- 'layoutlaw35.TriangulateRepairs', WHERE WHAT IT READS IS OF BULK AT MOST 1048576: true; the input reads as it did. -/
def triangulateRepairsUptoRow : OpenClaim := { program := "ytgihliccohoggaadoor", sum := "d02e9c384c64ee3bae54e804e9f180756900a777952d3e65a021babc10f1d292", func := "layout/layoutlaw35.TriangulateRepairs", spec := "triangulateRepairs", inPlace := ["slices.overlaps[int]"], named := ["layout/rotation.limits"], plainKeys := false, apart := false, laid := [("layout/rotation.limits", laid_layout_rotation_limits)], narrowed := true }
def TriangulateRepairsUptoSaid : Prop := triangulateRepairsUptoRow.holds Tryd.pinned (OpenSpec.upto triangulateRepairsSpec)

end Rows
end Go.Proofs.YtgihliccohoggaaDoor

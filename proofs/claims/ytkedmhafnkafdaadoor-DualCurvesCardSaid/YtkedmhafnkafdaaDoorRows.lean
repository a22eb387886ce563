/-
  NARROWER THAN 'FOR EVERY INPUT', by the rows' own cells (each row's printed sentence says how): DualFaces: laid · DualRoutes: laid · DualCurves: laid · DualBetween: laid · InsertEdges: laid · InsertSplits: laid · InsertPaths: laid · InsertBack: laid · InsertCrosses: laid.
  DERIVED. THE GIVEN ROWS OF THIS SEAT. 9 by the template 'for every input the law returns true; each argument reads behind the call as it read before'; 0 by the template 'total and deterministic' (their statements: YtkedmhafnkafdaaDoorTotals.lean).
  GIVEN WITH THE SEED: the statements are not yours to turn. If you find one false, say at which input.
  Laid BY PROGRAM, IN A SANDBOX (cutbox-rows.mjs): the forced cells as the released guide's own fill.sh prints them over the translation b14b3b7ef86f902b… (all of the seat's roots in one cut). By AI agents, Wed Nov 11 2026. No macro, syntax, notation, axiom, sorry.
-/
import Derived.Test.YtkedmhafnkafdaaDoorChecked
import GoSem.Claim
import GoSem.ClaimJoined
import GoSem.ClaimMapViews
import Derived.JoinedTies
import Derived.KernelRfl
namespace Go.Proofs.YtkedmhafnkafdaaDoor
/- THE CELL 'sum', in the pinned program and in every row, IS THE sha256 OF THE DUMP (.gsa) THAT YtkedmhafnkafdaaDoorProg.lean LOADS. Nothing in Lean hashes anything: it is a label: what it is worth is what the hold of that sum in a sandbox is worth. -/
noncomputable def Tryd.pinned : Pinned := { name := "ytkedmhafnkafdaadoor", sum := "b14b3b7ef86f902b268f0da7dc78a6c030267b49145cd5414cbc3a73f2c7d22c", checked := Tryd.checked }
namespace Rows
def none {H : Type} : Left H := { results := [], args := [] }

/- WHAT THE LISTED PACKAGE-LEVEL VARIABLES READ AS WHEN THE CALL BEGINS. Each datum BY PROGRAM (the guide's laid-datum.mjs) off the statement by which the dump's own 'gosem.cut.vars' lays the variable. In a bare row this is a premise. The card (YtkedmhafnkafdaaDoorCards.lean) ties it to the program's text. -/
def laid_layout_rotation_limits {H : Type} : DataW H := .agg [.lit (.int .i64 16384), .lit (.int .i64 32768)]

/-- 'layoutlaw32.DualFaces': WHATEVER THE INPUT: true; the input reads as it did. -/
def dualFacesSpec : ChangeSpec := { name := "dualFaces", fn := fun _ => fun
  | [d1, d2] => { results := [.lit (.bool true)], args := [d1, d2] }
  | _ => none }
def dualFacesRow : OpenClaim := { program := "ytkedmhafnkafdaadoor", sum := "b14b3b7ef86f902b268f0da7dc78a6c030267b49145cd5414cbc3a73f2c7d22c", func := "layout/layoutlaw32.DualFaces", spec := "dualFaces", unfollowed := true, recurses := true, named := ["layout/rotation.limits"], apart := false, laid := [("layout/rotation.limits", laid_layout_rotation_limits)] }
def DualFacesSaid : Prop := dualFacesRow.holds Tryd.pinned (OpenSpec.ofChange dualFacesSpec)

/-- ITS FALSE NEIGHBOUR: 'it returns false'. Refute it at one input. -/
def dualFacesWrong : ChangeSpec := { name := "dualFaces", fn := fun _ => fun
  | [d1, d2] => { results := [.lit (.bool false)], args := [d1, d2] }
  | _ => none }
def DualFacesWrongFalsely : Prop := dualFacesRow.holds Tryd.pinned (OpenSpec.ofChange dualFacesWrong)

/-- 'layoutlaw32.DualRoutes': WHATEVER THE INPUT: true; the input reads as it did. -/
def dualRoutesSpec : ChangeSpec := { name := "dualRoutes", fn := fun _ => fun
  | [d1, d2, d3] => { results := [.lit (.bool true)], args := [d1, d2, d3] }
  | _ => none }
def dualRoutesRow : OpenClaim := { program := "ytkedmhafnkafdaadoor", sum := "b14b3b7ef86f902b268f0da7dc78a6c030267b49145cd5414cbc3a73f2c7d22c", func := "layout/layoutlaw32.DualRoutes", spec := "dualRoutes", unfollowed := true, recurses := true, named := ["layout/rotation.limits"], apart := false, laid := [("layout/rotation.limits", laid_layout_rotation_limits)] }
def DualRoutesSaid : Prop := dualRoutesRow.holds Tryd.pinned (OpenSpec.ofChange dualRoutesSpec)

/-- ITS FALSE NEIGHBOUR: 'it returns false'. Refute it at one input. -/
def dualRoutesWrong : ChangeSpec := { name := "dualRoutes", fn := fun _ => fun
  | [d1, d2, d3] => { results := [.lit (.bool false)], args := [d1, d2, d3] }
  | _ => none }
def DualRoutesWrongFalsely : Prop := dualRoutesRow.holds Tryd.pinned (OpenSpec.ofChange dualRoutesWrong)

/-- 'layoutlaw32.DualCurves': WHATEVER THE INPUT: true; the input reads as it did. -/
def dualCurvesSpec : ChangeSpec := { name := "dualCurves", fn := fun _ => fun
  | [d1, d2, d3] => { results := [.lit (.bool true)], args := [d1, d2, d3] }
  | _ => none }
def dualCurvesRow : OpenClaim := { program := "ytkedmhafnkafdaadoor", sum := "b14b3b7ef86f902b268f0da7dc78a6c030267b49145cd5414cbc3a73f2c7d22c", func := "layout/layoutlaw32.DualCurves", spec := "dualCurves", unfollowed := true, recurses := true, named := ["layout/rotation.limits"], apart := false, laid := [("layout/rotation.limits", laid_layout_rotation_limits)] }
def DualCurvesSaid : Prop := dualCurvesRow.holds Tryd.pinned (OpenSpec.ofChange dualCurvesSpec)

/-- ITS FALSE NEIGHBOUR: 'it returns false'. Refute it at one input. -/
def dualCurvesWrong : ChangeSpec := { name := "dualCurves", fn := fun _ => fun
  | [d1, d2, d3] => { results := [.lit (.bool false)], args := [d1, d2, d3] }
  | _ => none }
def DualCurvesWrongFalsely : Prop := dualCurvesRow.holds Tryd.pinned (OpenSpec.ofChange dualCurvesWrong)

/-- 'layoutlaw32.DualBetween': WHATEVER THE INPUT: true; the input reads as it did. -/
def dualBetweenSpec : ChangeSpec := { name := "dualBetween", fn := fun _ => fun
  | [d1, d2, d3] => { results := [.lit (.bool true)], args := [d1, d2, d3] }
  | _ => none }
def dualBetweenRow : OpenClaim := { program := "ytkedmhafnkafdaadoor", sum := "b14b3b7ef86f902b268f0da7dc78a6c030267b49145cd5414cbc3a73f2c7d22c", func := "layout/layoutlaw32.DualBetween", spec := "dualBetween", unfollowed := true, recurses := true, named := ["layout/rotation.limits"], apart := false, laid := [("layout/rotation.limits", laid_layout_rotation_limits)] }
def DualBetweenSaid : Prop := dualBetweenRow.holds Tryd.pinned (OpenSpec.ofChange dualBetweenSpec)

/-- ITS FALSE NEIGHBOUR: 'it returns false'. Refute it at one input. -/
def dualBetweenWrong : ChangeSpec := { name := "dualBetween", fn := fun _ => fun
  | [d1, d2, d3] => { results := [.lit (.bool false)], args := [d1, d2, d3] }
  | _ => none }
def DualBetweenWrongFalsely : Prop := dualBetweenRow.holds Tryd.pinned (OpenSpec.ofChange dualBetweenWrong)

/-- 'layoutlaw33.InsertEdges': WHATEVER THE INPUT: true; the input reads as it did. -/
def insertEdgesSpec : ChangeSpec := { name := "insertEdges", fn := fun _ => fun
  | [d1, d2, d3] => { results := [.lit (.bool true)], args := [d1, d2, d3] }
  | _ => none }
def insertEdgesRow : OpenClaim := { program := "ytkedmhafnkafdaadoor", sum := "b14b3b7ef86f902b268f0da7dc78a6c030267b49145cd5414cbc3a73f2c7d22c", func := "layout/layoutlaw33.InsertEdges", spec := "insertEdges", inPlace := ["slices.overlaps[int]"], unfollowed := true, recurses := true, named := ["layout/rotation.limits"], apart := false, laid := [("layout/rotation.limits", laid_layout_rotation_limits)] }
def InsertEdgesSaid : Prop := insertEdgesRow.holds Tryd.pinned (OpenSpec.ofChange insertEdgesSpec)

/-- ITS FALSE NEIGHBOUR: 'it returns false'. Refute it at one input. -/
def insertEdgesWrong : ChangeSpec := { name := "insertEdges", fn := fun _ => fun
  | [d1, d2, d3] => { results := [.lit (.bool false)], args := [d1, d2, d3] }
  | _ => none }
def InsertEdgesWrongFalsely : Prop := insertEdgesRow.holds Tryd.pinned (OpenSpec.ofChange insertEdgesWrong)

/-- 'layoutlaw33.InsertSplits': WHATEVER THE INPUT: true; the input reads as it did. -/
def insertSplitsSpec : ChangeSpec := { name := "insertSplits", fn := fun _ => fun
  | [d1, d2] => { results := [.lit (.bool true)], args := [d1, d2] }
  | _ => none }
def insertSplitsRow : OpenClaim := { program := "ytkedmhafnkafdaadoor", sum := "b14b3b7ef86f902b268f0da7dc78a6c030267b49145cd5414cbc3a73f2c7d22c", func := "layout/layoutlaw33.InsertSplits", spec := "insertSplits", inPlace := ["slices.overlaps[int]"], unfollowed := true, recurses := true, named := ["layout/rotation.limits"], apart := false, laid := [("layout/rotation.limits", laid_layout_rotation_limits)] }
def InsertSplitsSaid : Prop := insertSplitsRow.holds Tryd.pinned (OpenSpec.ofChange insertSplitsSpec)

/-- ITS FALSE NEIGHBOUR: 'it returns false'. Refute it at one input. -/
def insertSplitsWrong : ChangeSpec := { name := "insertSplits", fn := fun _ => fun
  | [d1, d2] => { results := [.lit (.bool false)], args := [d1, d2] }
  | _ => none }
def InsertSplitsWrongFalsely : Prop := insertSplitsRow.holds Tryd.pinned (OpenSpec.ofChange insertSplitsWrong)

/-- 'layoutlaw33.InsertPaths': WHATEVER THE INPUT: true; the input reads as it did. -/
def insertPathsSpec : ChangeSpec := { name := "insertPaths", fn := fun _ => fun
  | [d1, d2, d3] => { results := [.lit (.bool true)], args := [d1, d2, d3] }
  | _ => none }
def insertPathsRow : OpenClaim := { program := "ytkedmhafnkafdaadoor", sum := "b14b3b7ef86f902b268f0da7dc78a6c030267b49145cd5414cbc3a73f2c7d22c", func := "layout/layoutlaw33.InsertPaths", spec := "insertPaths", inPlace := ["slices.overlaps[int]"], unfollowed := true, recurses := true, named := ["layout/rotation.limits"], apart := false, laid := [("layout/rotation.limits", laid_layout_rotation_limits)] }
def InsertPathsSaid : Prop := insertPathsRow.holds Tryd.pinned (OpenSpec.ofChange insertPathsSpec)

/-- ITS FALSE NEIGHBOUR: 'it returns false'. Refute it at one input. -/
def insertPathsWrong : ChangeSpec := { name := "insertPaths", fn := fun _ => fun
  | [d1, d2, d3] => { results := [.lit (.bool false)], args := [d1, d2, d3] }
  | _ => none }
def InsertPathsWrongFalsely : Prop := insertPathsRow.holds Tryd.pinned (OpenSpec.ofChange insertPathsWrong)

/-- 'layoutlaw33.InsertBack': WHATEVER THE INPUT: true; the input reads as it did. -/
def insertBackSpec : ChangeSpec := { name := "insertBack", fn := fun _ => fun
  | [d1, d2, d3] => { results := [.lit (.bool true)], args := [d1, d2, d3] }
  | _ => none }
def insertBackRow : OpenClaim := { program := "ytkedmhafnkafdaadoor", sum := "b14b3b7ef86f902b268f0da7dc78a6c030267b49145cd5414cbc3a73f2c7d22c", func := "layout/layoutlaw33.InsertBack", spec := "insertBack", inPlace := ["slices.overlaps[int]"], unfollowed := true, recurses := true, named := ["layout/rotation.limits"], apart := false, laid := [("layout/rotation.limits", laid_layout_rotation_limits)] }
def InsertBackSaid : Prop := insertBackRow.holds Tryd.pinned (OpenSpec.ofChange insertBackSpec)

/-- ITS FALSE NEIGHBOUR: 'it returns false'. Refute it at one input. -/
def insertBackWrong : ChangeSpec := { name := "insertBack", fn := fun _ => fun
  | [d1, d2, d3] => { results := [.lit (.bool false)], args := [d1, d2, d3] }
  | _ => none }
def InsertBackWrongFalsely : Prop := insertBackRow.holds Tryd.pinned (OpenSpec.ofChange insertBackWrong)

/-- 'layoutlaw33.InsertCrosses': WHATEVER THE INPUT: true; the input reads as it did. -/
def insertCrossesSpec : ChangeSpec := { name := "insertCrosses", fn := fun _ => fun
  | [d1, d2, d3] => { results := [.lit (.bool true)], args := [d1, d2, d3] }
  | _ => none }
def insertCrossesRow : OpenClaim := { program := "ytkedmhafnkafdaadoor", sum := "b14b3b7ef86f902b268f0da7dc78a6c030267b49145cd5414cbc3a73f2c7d22c", func := "layout/layoutlaw33.InsertCrosses", spec := "insertCrosses", inPlace := ["slices.overlaps[int]"], unfollowed := true, recurses := true, named := ["layout/rotation.limits"], apart := false, laid := [("layout/rotation.limits", laid_layout_rotation_limits)] }
def InsertCrossesSaid : Prop := insertCrossesRow.holds Tryd.pinned (OpenSpec.ofChange insertCrossesSpec)

/-- ITS FALSE NEIGHBOUR: 'it returns false'. Refute it at one input. -/
def insertCrossesWrong : ChangeSpec := { name := "insertCrosses", fn := fun _ => fun
  | [d1, d2, d3] => { results := [.lit (.bool false)], args := [d1, d2, d3] }
  | _ => none }
def InsertCrossesWrongFalsely : Prop := insertCrossesRow.holds Tryd.pinned (OpenSpec.ofChange insertCrossesWrong)

/- THE SECOND FORM. 'bulk': how many values and letters a reading holds, each counted each time it is reached (what is shared counts as often as it is met; a slice's spare places count too). A statement '..UptoSaid' is the law's where the arguments, and the package variables that the reading takes, are together of bulk at most 1048576: NARROWER than '..Said'. Prove '..Said' where nothing that the law and all that it calls make is longer than what came in: it says more and counts as full. Else prove '..UptoSaid'. A law counts once. -/
mutual
def uptoBulk {H : Type} : DataW H → Nat
  | .lit (.string bytes) => bytes.length + 1
  | .lit _ => 1
  | .nil => 1
  | .ptr d => uptoBulk d + 1
  | .slice elems spare => uptoBulkAll elems + uptoBulkAll spare + 1
  | .agg parts => uptoBulkAll parts + 1
  | .iface _ d => uptoBulk d + 1
  | .map entries => uptoBulkEntries entries + 1
  | .held _ => 1
def uptoBulkAll {H : Type} : List (DataW H) → Nat
  | [] => 0
  | d :: r => uptoBulk d + uptoBulkAll r
def uptoBulkEntries {H : Type} : List (Lit × DataW H) → Nat
  | [] => 0
  | x :: r => uptoBulkEntry x + uptoBulkEntries r
def uptoBulkEntry {H : Type} : Lit × DataW H → Nat
  | (.string bytes, d) => bytes.length + uptoBulk d + 1
  | (_, d) => uptoBulk d + 1
 end
def uptoSmall : (H : Type) → List (DataW H) → Bool := fun _ ds => decide (uptoBulkAll ds ≤ 1048576)
def OpenSpec.upto (s : _root_.Go.ChangeSpec) : _root_.Go.OpenSpec := { _root_.Go.OpenSpec.ofChange s with cond := some uptoSmall }

/-- 'layoutlaw32.DualFaces', WHERE WHAT IT READS IS OF BULK AT MOST 1048576: true; the input reads as it did. -/
def dualFacesUptoRow : OpenClaim := { program := "ytkedmhafnkafdaadoor", sum := "b14b3b7ef86f902b268f0da7dc78a6c030267b49145cd5414cbc3a73f2c7d22c", func := "layout/layoutlaw32.DualFaces", spec := "dualFaces", unfollowed := true, recurses := true, named := ["layout/rotation.limits"], apart := false, laid := [("layout/rotation.limits", laid_layout_rotation_limits)], narrowed := true }
def DualFacesUptoSaid : Prop := dualFacesUptoRow.holds Tryd.pinned (OpenSpec.upto dualFacesSpec)

/-- 'layoutlaw32.DualRoutes', WHERE WHAT IT READS IS OF BULK AT MOST 1048576: true; the input reads as it did. -/
def dualRoutesUptoRow : OpenClaim := { program := "ytkedmhafnkafdaadoor", sum := "b14b3b7ef86f902b268f0da7dc78a6c030267b49145cd5414cbc3a73f2c7d22c", func := "layout/layoutlaw32.DualRoutes", spec := "dualRoutes", unfollowed := true, recurses := true, named := ["layout/rotation.limits"], apart := false, laid := [("layout/rotation.limits", laid_layout_rotation_limits)], narrowed := true }
def DualRoutesUptoSaid : Prop := dualRoutesUptoRow.holds Tryd.pinned (OpenSpec.upto dualRoutesSpec)

/-- 'layoutlaw32.DualCurves', WHERE WHAT IT READS IS OF BULK AT MOST 1048576: true; the input reads as it did. -/
def dualCurvesUptoRow : OpenClaim := { program := "ytkedmhafnkafdaadoor", sum := "b14b3b7ef86f902b268f0da7dc78a6c030267b49145cd5414cbc3a73f2c7d22c", func := "layout/layoutlaw32.DualCurves", spec := "dualCurves", unfollowed := true, recurses := true, named := ["layout/rotation.limits"], apart := false, laid := [("layout/rotation.limits", laid_layout_rotation_limits)], narrowed := true }
def DualCurvesUptoSaid : Prop := dualCurvesUptoRow.holds Tryd.pinned (OpenSpec.upto dualCurvesSpec)

/-- 'layoutlaw32.DualBetween', WHERE WHAT IT READS IS OF BULK AT MOST 1048576: true; the input reads as it did. -/
def dualBetweenUptoRow : OpenClaim := { program := "ytkedmhafnkafdaadoor", sum := "b14b3b7ef86f902b268f0da7dc78a6c030267b49145cd5414cbc3a73f2c7d22c", func := "layout/layoutlaw32.DualBetween", spec := "dualBetween", unfollowed := true, recurses := true, named := ["layout/rotation.limits"], apart := false, laid := [("layout/rotation.limits", laid_layout_rotation_limits)], narrowed := true }
def DualBetweenUptoSaid : Prop := dualBetweenUptoRow.holds Tryd.pinned (OpenSpec.upto dualBetweenSpec)

/-- 'layoutlaw33.InsertEdges', WHERE WHAT IT READS IS OF BULK AT MOST 1048576: true; the input reads as it did. -/
def insertEdgesUptoRow : OpenClaim := { program := "ytkedmhafnkafdaadoor", sum := "b14b3b7ef86f902b268f0da7dc78a6c030267b49145cd5414cbc3a73f2c7d22c", func := "layout/layoutlaw33.InsertEdges", spec := "insertEdges", inPlace := ["slices.overlaps[int]"], unfollowed := true, recurses := true, named := ["layout/rotation.limits"], apart := false, laid := [("layout/rotation.limits", laid_layout_rotation_limits)], narrowed := true }
def InsertEdgesUptoSaid : Prop := insertEdgesUptoRow.holds Tryd.pinned (OpenSpec.upto insertEdgesSpec)

/-- 'layoutlaw33.InsertSplits', WHERE WHAT IT READS IS OF BULK AT MOST 1048576: true; the input reads as it did. -/
def insertSplitsUptoRow : OpenClaim := { program := "ytkedmhafnkafdaadoor", sum := "b14b3b7ef86f902b268f0da7dc78a6c030267b49145cd5414cbc3a73f2c7d22c", func := "layout/layoutlaw33.InsertSplits", spec := "insertSplits", inPlace := ["slices.overlaps[int]"], unfollowed := true, recurses := true, named := ["layout/rotation.limits"], apart := false, laid := [("layout/rotation.limits", laid_layout_rotation_limits)], narrowed := true }
def InsertSplitsUptoSaid : Prop := insertSplitsUptoRow.holds Tryd.pinned (OpenSpec.upto insertSplitsSpec)

/-- 'layoutlaw33.InsertPaths', WHERE WHAT IT READS IS OF BULK AT MOST 1048576: true; the input reads as it did. -/
def insertPathsUptoRow : OpenClaim := { program := "ytkedmhafnkafdaadoor", sum := "b14b3b7ef86f902b268f0da7dc78a6c030267b49145cd5414cbc3a73f2c7d22c", func := "layout/layoutlaw33.InsertPaths", spec := "insertPaths", inPlace := ["slices.overlaps[int]"], unfollowed := true, recurses := true, named := ["layout/rotation.limits"], apart := false, laid := [("layout/rotation.limits", laid_layout_rotation_limits)], narrowed := true }
def InsertPathsUptoSaid : Prop := insertPathsUptoRow.holds Tryd.pinned (OpenSpec.upto insertPathsSpec)

/-- 'layoutlaw33.InsertBack', WHERE WHAT IT READS IS OF BULK AT MOST 1048576: true; the input reads as it did. -/
def insertBackUptoRow : OpenClaim := { program := "ytkedmhafnkafdaadoor", sum := "b14b3b7ef86f902b268f0da7dc78a6c030267b49145cd5414cbc3a73f2c7d22c", func := "layout/layoutlaw33.InsertBack", spec := "insertBack", inPlace := ["slices.overlaps[int]"], unfollowed := true, recurses := true, named := ["layout/rotation.limits"], apart := false, laid := [("layout/rotation.limits", laid_layout_rotation_limits)], narrowed := true }
def InsertBackUptoSaid : Prop := insertBackUptoRow.holds Tryd.pinned (OpenSpec.upto insertBackSpec)

/-- 'layoutlaw33.InsertCrosses', WHERE WHAT IT READS IS OF BULK AT MOST 1048576: true; the input reads as it did. -/
def insertCrossesUptoRow : OpenClaim := { program := "ytkedmhafnkafdaadoor", sum := "b14b3b7ef86f902b268f0da7dc78a6c030267b49145cd5414cbc3a73f2c7d22c", func := "layout/layoutlaw33.InsertCrosses", spec := "insertCrosses", inPlace := ["slices.overlaps[int]"], unfollowed := true, recurses := true, named := ["layout/rotation.limits"], apart := false, laid := [("layout/rotation.limits", laid_layout_rotation_limits)], narrowed := true }
def InsertCrossesUptoSaid : Prop := insertCrossesUptoRow.holds Tryd.pinned (OpenSpec.upto insertCrossesSpec)

end Rows
end Go.Proofs.YtkedmhafnkafdaaDoor

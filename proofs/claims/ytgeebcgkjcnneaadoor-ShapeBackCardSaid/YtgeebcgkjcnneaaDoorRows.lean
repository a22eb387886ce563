/-
  NARROWER THAN 'FOR EVERY INPUT', by the rows' own cells (each row's printed sentence says how): ShapeValid: laid · ShapeReverse: laid · ShapeMirrors: laid · ShapeBack: laid · ShapeFaces: laid · TriangulateChecks: laid · TriangulateExtends: laid · TriangulateAgain: laid · TriangulateRepairs: laid.
  DERIVED. THE GIVEN ROWS OF THIS SEAT. 9 by the template 'for every input the law returns true; each argument reads behind the call as it read before'; 0 by the template 'total and deterministic' (their statements: YtgeebcgkjcnneaaDoorTotals.lean).
  GIVEN WITH THE SEED: the statements are not yours to turn. If you find one false, say at which input.
  Laid BY PROGRAM, IN A SANDBOX (cutbox-rows.mjs): the forced cells as the released guide's own fill.sh prints them over the translation 82c2efd70ecfe206… (all of the seat's roots in one cut). By AI agents, Wed Nov 11 2026. No macro, syntax, notation, axiom, sorry.
-/
import Derived.Test.YtgeebcgkjcnneaaDoorChecked
import GoSem.Claim
import GoSem.ClaimJoined
import GoSem.ClaimMapViews
import Derived.JoinedTies
import Derived.KernelRfl
namespace Go.Proofs.YtgeebcgkjcnneaaDoor
/- THE CELL 'sum', in the pinned program and in every row, IS THE sha256 OF THE DUMP (.gsa) THAT YtgeebcgkjcnneaaDoorProg.lean LOADS. Nothing in Lean hashes anything: it is a label: what it is worth is what the hold of that sum in a sandbox is worth. -/
noncomputable def Tryd.pinned : Pinned := { name := "ytgeebcgkjcnneaadoor", sum := "82c2efd70ecfe206aa01cc6357d7d4c01d8493f28ba318567079200e0297e799", checked := Tryd.checked }
namespace Rows
def none {H : Type} : Left H := { results := [], args := [] }

/- WHAT THE LISTED PACKAGE-LEVEL VARIABLES READ AS WHEN THE CALL BEGINS. Each datum BY PROGRAM (the guide's laid-datum.mjs) off the statement by which the dump's own 'gosem.cut.vars' lays the variable. In a bare row this is a premise. The card (YtgeebcgkjcnneaaDoorCards.lean) ties it to the program's text. -/
def laid_layout_rotation_limits {H : Type} : DataW H := .agg [.lit (.int .i64 16384), .lit (.int .i64 32768)]

/-- 'layoutlaw39.ShapeValid': WHATEVER THE INPUT: true; the input reads as it did. -/
def shapeValidSpec : ChangeSpec := { name := "shapeValid", fn := fun _ => fun
  | [d1, d2] => { results := [.lit (.bool true)], args := [d1, d2] }
  | _ => none }
def shapeValidRow : OpenClaim := { program := "ytgeebcgkjcnneaadoor", sum := "82c2efd70ecfe206aa01cc6357d7d4c01d8493f28ba318567079200e0297e799", func := "layout/layoutlaw39.ShapeValid", spec := "shapeValid", named := ["layout/rotation.limits"], plainKeys := false, apart := false, laid := [("layout/rotation.limits", laid_layout_rotation_limits)] }
def ShapeValidSaid : Prop := shapeValidRow.holds Tryd.pinned (OpenSpec.ofChange shapeValidSpec)

/-- ITS FALSE NEIGHBOUR: 'it returns false'. Refute it at one input. -/
def shapeValidWrong : ChangeSpec := { name := "shapeValid", fn := fun _ => fun
  | [d1, d2] => { results := [.lit (.bool false)], args := [d1, d2] }
  | _ => none }
def ShapeValidWrongFalsely : Prop := shapeValidRow.holds Tryd.pinned (OpenSpec.ofChange shapeValidWrong)

/-- 'layoutlaw39.ShapeReverse': WHATEVER THE INPUT: true; the input reads as it did. -/
def shapeReverseSpec : ChangeSpec := { name := "shapeReverse", fn := fun _ => fun
  | [d] => { results := [.lit (.bool true)], args := [d] }
  | _ => none }
def shapeReverseRow : OpenClaim := { program := "ytgeebcgkjcnneaadoor", sum := "82c2efd70ecfe206aa01cc6357d7d4c01d8493f28ba318567079200e0297e799", func := "layout/layoutlaw39.ShapeReverse", spec := "shapeReverse", named := ["layout/rotation.limits"], plainKeys := false, apart := false, laid := [("layout/rotation.limits", laid_layout_rotation_limits)] }
def ShapeReverseSaid : Prop := shapeReverseRow.holds Tryd.pinned (OpenSpec.ofChange shapeReverseSpec)

/-- ITS FALSE NEIGHBOUR: 'it returns false'. Refute it at one input. -/
def shapeReverseWrong : ChangeSpec := { name := "shapeReverse", fn := fun _ => fun
  | [d] => { results := [.lit (.bool false)], args := [d] }
  | _ => none }
def ShapeReverseWrongFalsely : Prop := shapeReverseRow.holds Tryd.pinned (OpenSpec.ofChange shapeReverseWrong)

/-- 'layoutlaw39.ShapeMirrors': WHATEVER THE INPUT: true; the input reads as it did. -/
def shapeMirrorsSpec : ChangeSpec := { name := "shapeMirrors", fn := fun _ => fun
  | [d] => { results := [.lit (.bool true)], args := [d] }
  | _ => none }
def shapeMirrorsRow : OpenClaim := { program := "ytgeebcgkjcnneaadoor", sum := "82c2efd70ecfe206aa01cc6357d7d4c01d8493f28ba318567079200e0297e799", func := "layout/layoutlaw39.ShapeMirrors", spec := "shapeMirrors", named := ["layout/rotation.limits"], plainKeys := false, apart := false, laid := [("layout/rotation.limits", laid_layout_rotation_limits)] }
def ShapeMirrorsSaid : Prop := shapeMirrorsRow.holds Tryd.pinned (OpenSpec.ofChange shapeMirrorsSpec)

/-- ITS FALSE NEIGHBOUR: 'it returns false'. Refute it at one input. -/
def shapeMirrorsWrong : ChangeSpec := { name := "shapeMirrors", fn := fun _ => fun
  | [d] => { results := [.lit (.bool false)], args := [d] }
  | _ => none }
def ShapeMirrorsWrongFalsely : Prop := shapeMirrorsRow.holds Tryd.pinned (OpenSpec.ofChange shapeMirrorsWrong)

/-- 'layoutlaw39.ShapeBack': WHATEVER THE INPUT: true; the input reads as it did. -/
def shapeBackSpec : ChangeSpec := { name := "shapeBack", fn := fun _ => fun
  | [d] => { results := [.lit (.bool true)], args := [d] }
  | _ => none }
def shapeBackRow : OpenClaim := { program := "ytgeebcgkjcnneaadoor", sum := "82c2efd70ecfe206aa01cc6357d7d4c01d8493f28ba318567079200e0297e799", func := "layout/layoutlaw39.ShapeBack", spec := "shapeBack", named := ["layout/rotation.limits"], plainKeys := false, apart := false, laid := [("layout/rotation.limits", laid_layout_rotation_limits)] }
def ShapeBackSaid : Prop := shapeBackRow.holds Tryd.pinned (OpenSpec.ofChange shapeBackSpec)

/-- ITS FALSE NEIGHBOUR: 'it returns false'. Refute it at one input. -/
def shapeBackWrong : ChangeSpec := { name := "shapeBack", fn := fun _ => fun
  | [d] => { results := [.lit (.bool false)], args := [d] }
  | _ => none }
def ShapeBackWrongFalsely : Prop := shapeBackRow.holds Tryd.pinned (OpenSpec.ofChange shapeBackWrong)

/-- 'layoutlaw39.ShapeFaces': WHATEVER THE INPUT: true; the input reads as it did. -/
def shapeFacesSpec : ChangeSpec := { name := "shapeFaces", fn := fun _ => fun
  | [d] => { results := [.lit (.bool true)], args := [d] }
  | _ => none }
def shapeFacesRow : OpenClaim := { program := "ytgeebcgkjcnneaadoor", sum := "82c2efd70ecfe206aa01cc6357d7d4c01d8493f28ba318567079200e0297e799", func := "layout/layoutlaw39.ShapeFaces", spec := "shapeFaces", named := ["layout/rotation.limits"], plainKeys := false, apart := false, laid := [("layout/rotation.limits", laid_layout_rotation_limits)] }
def ShapeFacesSaid : Prop := shapeFacesRow.holds Tryd.pinned (OpenSpec.ofChange shapeFacesSpec)

/-- ITS FALSE NEIGHBOUR: 'it returns false'. Refute it at one input. -/
def shapeFacesWrong : ChangeSpec := { name := "shapeFaces", fn := fun _ => fun
  | [d] => { results := [.lit (.bool false)], args := [d] }
  | _ => none }
def ShapeFacesWrongFalsely : Prop := shapeFacesRow.holds Tryd.pinned (OpenSpec.ofChange shapeFacesWrong)

/-- 'layoutlaw35.TriangulateChecks': WHATEVER THE INPUT: true; the input reads as it did. -/
def triangulateChecksSpec : ChangeSpec := { name := "triangulateChecks", fn := fun _ => fun
  | [d] => { results := [.lit (.bool true)], args := [d] }
  | _ => none }
def triangulateChecksRow : OpenClaim := { program := "ytgeebcgkjcnneaadoor", sum := "82c2efd70ecfe206aa01cc6357d7d4c01d8493f28ba318567079200e0297e799", func := "layout/layoutlaw35.TriangulateChecks", spec := "triangulateChecks", inPlace := ["slices.overlaps[int]"], named := ["layout/rotation.limits"], plainKeys := false, apart := false, laid := [("layout/rotation.limits", laid_layout_rotation_limits)] }
def TriangulateChecksSaid : Prop := triangulateChecksRow.holds Tryd.pinned (OpenSpec.ofChange triangulateChecksSpec)

/-- ITS FALSE NEIGHBOUR: 'it returns false'. Refute it at one input. -/
def triangulateChecksWrong : ChangeSpec := { name := "triangulateChecks", fn := fun _ => fun
  | [d] => { results := [.lit (.bool false)], args := [d] }
  | _ => none }
def TriangulateChecksWrongFalsely : Prop := triangulateChecksRow.holds Tryd.pinned (OpenSpec.ofChange triangulateChecksWrong)

/-- 'layoutlaw35.TriangulateExtends': WHATEVER THE INPUT: true; the input reads as it did. -/
def triangulateExtendsSpec : ChangeSpec := { name := "triangulateExtends", fn := fun _ => fun
  | [d] => { results := [.lit (.bool true)], args := [d] }
  | _ => none }
def triangulateExtendsRow : OpenClaim := { program := "ytgeebcgkjcnneaadoor", sum := "82c2efd70ecfe206aa01cc6357d7d4c01d8493f28ba318567079200e0297e799", func := "layout/layoutlaw35.TriangulateExtends", spec := "triangulateExtends", inPlace := ["slices.overlaps[int]"], named := ["layout/rotation.limits"], plainKeys := false, apart := false, laid := [("layout/rotation.limits", laid_layout_rotation_limits)] }
def TriangulateExtendsSaid : Prop := triangulateExtendsRow.holds Tryd.pinned (OpenSpec.ofChange triangulateExtendsSpec)

/-- ITS FALSE NEIGHBOUR: 'it returns false'. Refute it at one input. -/
def triangulateExtendsWrong : ChangeSpec := { name := "triangulateExtends", fn := fun _ => fun
  | [d] => { results := [.lit (.bool false)], args := [d] }
  | _ => none }
def TriangulateExtendsWrongFalsely : Prop := triangulateExtendsRow.holds Tryd.pinned (OpenSpec.ofChange triangulateExtendsWrong)

/-- 'layoutlaw35.TriangulateAgain': WHATEVER THE INPUT: true; the input reads as it did. -/
def triangulateAgainSpec : ChangeSpec := { name := "triangulateAgain", fn := fun _ => fun
  | [d1, d2] => { results := [.lit (.bool true)], args := [d1, d2] }
  | _ => none }
def triangulateAgainRow : OpenClaim := { program := "ytgeebcgkjcnneaadoor", sum := "82c2efd70ecfe206aa01cc6357d7d4c01d8493f28ba318567079200e0297e799", func := "layout/layoutlaw35.TriangulateAgain", spec := "triangulateAgain", inPlace := ["slices.overlaps[int]"], named := ["layout/rotation.limits"], plainKeys := false, apart := false, laid := [("layout/rotation.limits", laid_layout_rotation_limits)] }
def TriangulateAgainSaid : Prop := triangulateAgainRow.holds Tryd.pinned (OpenSpec.ofChange triangulateAgainSpec)

/-- ITS FALSE NEIGHBOUR: 'it returns false'. Refute it at one input. -/
def triangulateAgainWrong : ChangeSpec := { name := "triangulateAgain", fn := fun _ => fun
  | [d1, d2] => { results := [.lit (.bool false)], args := [d1, d2] }
  | _ => none }
def TriangulateAgainWrongFalsely : Prop := triangulateAgainRow.holds Tryd.pinned (OpenSpec.ofChange triangulateAgainWrong)

/-- 'layoutlaw35.TriangulateRepairs': WHATEVER THE INPUT: true; the input reads as it did. -/
def triangulateRepairsSpec : ChangeSpec := { name := "triangulateRepairs", fn := fun _ => fun
  | [d1, d2] => { results := [.lit (.bool true)], args := [d1, d2] }
  | _ => none }
def triangulateRepairsRow : OpenClaim := { program := "ytgeebcgkjcnneaadoor", sum := "82c2efd70ecfe206aa01cc6357d7d4c01d8493f28ba318567079200e0297e799", func := "layout/layoutlaw35.TriangulateRepairs", spec := "triangulateRepairs", inPlace := ["slices.overlaps[int]"], named := ["layout/rotation.limits"], plainKeys := false, apart := false, laid := [("layout/rotation.limits", laid_layout_rotation_limits)] }
def TriangulateRepairsSaid : Prop := triangulateRepairsRow.holds Tryd.pinned (OpenSpec.ofChange triangulateRepairsSpec)

/-- ITS FALSE NEIGHBOUR: 'it returns false'. Refute it at one input. -/
def triangulateRepairsWrong : ChangeSpec := { name := "triangulateRepairs", fn := fun _ => fun
  | [d1, d2] => { results := [.lit (.bool false)], args := [d1, d2] }
  | _ => none }
def TriangulateRepairsWrongFalsely : Prop := triangulateRepairsRow.holds Tryd.pinned (OpenSpec.ofChange triangulateRepairsWrong)

/- THE SECOND FORM. 'bulk': how many values and letters a reading holds, each counted each time it is reached (what is shared counts as often as it is met; a slice's spare places count too). A statement '..UptoSaid' is the law's where the arguments, and the package variables that the reading takes, are together of bulk at most 1048576: NARROWER than '..Said'. Prove '..Said' where nothing that the law and all that it calls make is longer than what came in: it says more and counts as full. Else prove '..UptoSaid'. A law counts once. -/
mutual
def uptoBulk {H : Type} : DataW H → Nat
  | .lit (.string bytes) => bytes.length + 1
  | .lit _ => 1
  | .nil => 1
  | .ptr d => uptoBulk d + 1
  | .slice elems spare => uptoBulkAll elems + uptoBulkAll spare + 1
  | .agg parts => uptoBulkAll parts + 1
  | .iface _ d => uptoBulk d + 1
  | .map entries => uptoBulkEntries entries + 1
  | .held _ => 1
def uptoBulkAll {H : Type} : List (DataW H) → Nat
  | [] => 0
  | d :: r => uptoBulk d + uptoBulkAll r
def uptoBulkEntries {H : Type} : List (Lit × DataW H) → Nat
  | [] => 0
  | x :: r => uptoBulkEntry x + uptoBulkEntries r
def uptoBulkEntry {H : Type} : Lit × DataW H → Nat
  | (.string bytes, d) => bytes.length + uptoBulk d + 1
  | (_, d) => uptoBulk d + 1
 end
def uptoSmall : (H : Type) → List (DataW H) → Bool := fun _ ds => decide (uptoBulkAll ds ≤ 1048576)
def OpenSpec.upto (s : _root_.Go.ChangeSpec) : _root_.Go.OpenSpec := { _root_.Go.OpenSpec.ofChange s with cond := some uptoSmall }

/-- 'layoutlaw39.ShapeValid', WHERE WHAT IT READS IS OF BULK AT MOST 1048576: true; the input reads as it did. -/
def shapeValidUptoRow : OpenClaim := { program := "ytgeebcgkjcnneaadoor", sum := "82c2efd70ecfe206aa01cc6357d7d4c01d8493f28ba318567079200e0297e799", func := "layout/layoutlaw39.ShapeValid", spec := "shapeValid", named := ["layout/rotation.limits"], plainKeys := false, apart := false, laid := [("layout/rotation.limits", laid_layout_rotation_limits)], narrowed := true }
def ShapeValidUptoSaid : Prop := shapeValidUptoRow.holds Tryd.pinned (OpenSpec.upto shapeValidSpec)

/-- 'layoutlaw39.ShapeReverse', WHERE WHAT IT READS IS OF BULK AT MOST 1048576: true; the input reads as it did. -/
def shapeReverseUptoRow : OpenClaim := { program := "ytgeebcgkjcnneaadoor", sum := "82c2efd70ecfe206aa01cc6357d7d4c01d8493f28ba318567079200e0297e799", func := "layout/layoutlaw39.ShapeReverse", spec := "shapeReverse", named := ["layout/rotation.limits"], plainKeys := false, apart := false, laid := [("layout/rotation.limits", laid_layout_rotation_limits)], narrowed := true }
def ShapeReverseUptoSaid : Prop := shapeReverseUptoRow.holds Tryd.pinned (OpenSpec.upto shapeReverseSpec)

/-- 'layoutlaw39.ShapeMirrors', WHERE WHAT IT READS IS OF BULK AT MOST 1048576: true; the input reads as it did. -/
def shapeMirrorsUptoRow : OpenClaim := { program := "ytgeebcgkjcnneaadoor", sum := "82c2efd70ecfe206aa01cc6357d7d4c01d8493f28ba318567079200e0297e799", func := "layout/layoutlaw39.ShapeMirrors", spec := "shapeMirrors", named := ["layout/rotation.limits"], plainKeys := false, apart := false, laid := [("layout/rotation.limits", laid_layout_rotation_limits)], narrowed := true }
def ShapeMirrorsUptoSaid : Prop := shapeMirrorsUptoRow.holds Tryd.pinned (OpenSpec.upto shapeMirrorsSpec)

/-- 'layoutlaw39.ShapeBack', WHERE WHAT IT READS IS OF BULK AT MOST 1048576: true; the input reads as it did. -/
def shapeBackUptoRow : OpenClaim := { program := "ytgeebcgkjcnneaadoor", sum := "82c2efd70ecfe206aa01cc6357d7d4c01d8493f28ba318567079200e0297e799", func := "layout/layoutlaw39.ShapeBack", spec := "shapeBack", named := ["layout/rotation.limits"], plainKeys := false, apart := false, laid := [("layout/rotation.limits", laid_layout_rotation_limits)], narrowed := true }
def ShapeBackUptoSaid : Prop := shapeBackUptoRow.holds Tryd.pinned (OpenSpec.upto shapeBackSpec)

/-- 'layoutlaw39.ShapeFaces', WHERE WHAT IT READS IS OF BULK AT MOST 1048576: true; the input reads as it did. -/
def shapeFacesUptoRow : OpenClaim := { program := "ytgeebcgkjcnneaadoor", sum := "82c2efd70ecfe206aa01cc6357d7d4c01d8493f28ba318567079200e0297e799", func := "layout/layoutlaw39.ShapeFaces", spec := "shapeFaces", named := ["layout/rotation.limits"], plainKeys := false, apart := false, laid := [("layout/rotation.limits", laid_layout_rotation_limits)], narrowed := true }
def ShapeFacesUptoSaid : Prop := shapeFacesUptoRow.holds Tryd.pinned (OpenSpec.upto shapeFacesSpec)

/-- 'layoutlaw35.TriangulateChecks', WHERE WHAT IT READS IS OF BULK AT MOST 1048576: true; the input reads as it did. -/
def triangulateChecksUptoRow : OpenClaim := { program := "ytgeebcgkjcnneaadoor", sum := "82c2efd70ecfe206aa01cc6357d7d4c01d8493f28ba318567079200e0297e799", func := "layout/layoutlaw35.TriangulateChecks", spec := "triangulateChecks", inPlace := ["slices.overlaps[int]"], named := ["layout/rotation.limits"], plainKeys := false, apart := false, laid := [("layout/rotation.limits", laid_layout_rotation_limits)], narrowed := true }
def TriangulateChecksUptoSaid : Prop := triangulateChecksUptoRow.holds Tryd.pinned (OpenSpec.upto triangulateChecksSpec)

/-- 'layoutlaw35.TriangulateExtends', WHERE WHAT IT READS IS OF BULK AT MOST 1048576: true; the input reads as it did. -/
def triangulateExtendsUptoRow : OpenClaim := { program := "ytgeebcgkjcnneaadoor", sum := "82c2efd70ecfe206aa01cc6357d7d4c01d8493f28ba318567079200e0297e799", func := "layout/layoutlaw35.TriangulateExtends", spec := "triangulateExtends", inPlace := ["slices.overlaps[int]"], named := ["layout/rotation.limits"], plainKeys := false, apart := false, laid := [("layout/rotation.limits", laid_layout_rotation_limits)], narrowed := true }
def TriangulateExtendsUptoSaid : Prop := triangulateExtendsUptoRow.holds Tryd.pinned (OpenSpec.upto triangulateExtendsSpec)

/-- 'layoutlaw35.TriangulateAgain', WHERE WHAT IT READS IS OF BULK AT MOST 1048576: true; the input reads as it did. -/
def triangulateAgainUptoRow : OpenClaim := { program := "ytgeebcgkjcnneaadoor", sum := "82c2efd70ecfe206aa01cc6357d7d4c01d8493f28ba318567079200e0297e799", func := "layout/layoutlaw35.TriangulateAgain", spec := "triangulateAgain", inPlace := ["slices.overlaps[int]"], named := ["layout/rotation.limits"], plainKeys := false, apart := false, laid := [("layout/rotation.limits", laid_layout_rotation_limits)], narrowed := true }
def TriangulateAgainUptoSaid : Prop := triangulateAgainUptoRow.holds Tryd.pinned (OpenSpec.upto triangulateAgainSpec)

/-- 'layoutlaw35.TriangulateRepairs', WHERE WHAT IT READS IS OF BULK AT MOST 1048576: true; the input reads as it did. -/
def triangulateRepairsUptoRow : OpenClaim := { program := "ytgeebcgkjcnneaadoor", sum := "82c2efd70ecfe206aa01cc6357d7d4c01d8493f28ba318567079200e0297e799", func := "layout/layoutlaw35.TriangulateRepairs", spec := "triangulateRepairs", inPlace := ["slices.overlaps[int]"], named := ["layout/rotation.limits"], plainKeys := false, apart := false, laid := [("layout/rotation.limits", laid_layout_rotation_limits)], narrowed := true }
def TriangulateRepairsUptoSaid : Prop := triangulateRepairsUptoRow.holds Tryd.pinned (OpenSpec.upto triangulateRepairsSpec)

end Rows
end Go.Proofs.YtgeebcgkjcnneaaDoor

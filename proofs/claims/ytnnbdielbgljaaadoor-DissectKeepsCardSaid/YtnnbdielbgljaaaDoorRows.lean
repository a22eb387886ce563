/-
  NARROWER THAN 'FOR EVERY INPUT', by the rows' own cells (each row's printed sentence says how): DissectStraightens: laid · DissectChecks: laid · DissectRefines: laid · DissectKeeps: laid · DissectAgain: laid.
  DERIVED. THE GIVEN ROWS OF THIS SEAT. 5 by the template 'for every input the law returns true; each argument reads behind the call as it read before'; 0 by the template 'total and deterministic' (their statements: YtnnbdielbgljaaaDoorTotals.lean).
  GIVEN WITH THE SEED: the statements are not yours to turn. If you find one false, say at which input.
  Laid BY PROGRAM, IN A SANDBOX (cutbox-rows.mjs): the forced cells as the released guide's own fill.sh prints them over the translation ce677ec00f9cff2e… (all of the seat's roots in one cut). By AI agents, Wed Nov 11 2026. No macro, syntax, notation, axiom, sorry.
-/
import Derived.Test.YtnnbdielbgljaaaDoorChecked
import GoSem.Claim
import GoSem.ClaimJoined
import GoSem.ClaimMapViews
import Derived.JoinedTies
import Derived.KernelRfl
namespace Go.Proofs.YtnnbdielbgljaaaDoor
/- THE CELL 'sum', in the pinned program and in every row, IS THE sha256 OF THE DUMP (.gsa) THAT YtnnbdielbgljaaaDoorProg.lean LOADS. Nothing in Lean hashes anything: it is a label: what it is worth is what the hold of that sum in a sandbox is worth. -/
noncomputable def Tryd.pinned : Pinned := { name := "ytnnbdielbgljaaadoor", sum := "ce677ec00f9cff2edc82e716cccaab8ba8287682df87380c7ff40d163f55eb32", checked := Tryd.checked }
namespace Rows
def none {H : Type} : Left H := { results := [], args := [] }

/- WHAT THE LISTED PACKAGE-LEVEL VARIABLES READ AS WHEN THE CALL BEGINS. Each datum BY PROGRAM (the guide's laid-datum.mjs) off the statement by which the dump's own 'gosem.cut.vars' lays the variable. In a bare row this is a premise. The card (YtnnbdielbgljaaaDoorCards.lean) ties it to the program's text. -/
def laid_layout_rotation_limits {H : Type} : DataW H := .agg [.lit (.int .i64 16384), .lit (.int .i64 32768)]

/-- 'layoutlaw41.DissectStraightens': WHATEVER THE INPUT: true; the input reads as it did. -/
def dissectStraightensSpec : ChangeSpec := { name := "dissectStraightens", fn := fun _ => fun
  | [d] => { results := [.lit (.bool true)], args := [d] }
  | _ => none }
def dissectStraightensRow : OpenClaim := { program := "ytnnbdielbgljaaadoor", sum := "ce677ec00f9cff2edc82e716cccaab8ba8287682df87380c7ff40d163f55eb32", func := "layout/layoutlaw41.DissectStraightens", spec := "dissectStraightens", inPlace := ["slices.overlaps[int]"], unfollowed := true, recurses := true, named := ["layout/rotation.limits"], apart := false, laid := [("layout/rotation.limits", laid_layout_rotation_limits)] }
def DissectStraightensSaid : Prop := dissectStraightensRow.holds Tryd.pinned (OpenSpec.ofChange dissectStraightensSpec)

/-- ITS FALSE NEIGHBOUR: 'it returns false'. Refute it at one input. -/
def dissectStraightensWrong : ChangeSpec := { name := "dissectStraightens", fn := fun _ => fun
  | [d] => { results := [.lit (.bool false)], args := [d] }
  | _ => none }
def DissectStraightensWrongFalsely : Prop := dissectStraightensRow.holds Tryd.pinned (OpenSpec.ofChange dissectStraightensWrong)

/-- 'layoutlaw41.DissectChecks': WHATEVER THE INPUT: true; the input reads as it did. -/
def dissectChecksSpec : ChangeSpec := { name := "dissectChecks", fn := fun _ => fun
  | [d] => { results := [.lit (.bool true)], args := [d] }
  | _ => none }
def dissectChecksRow : OpenClaim := { program := "ytnnbdielbgljaaadoor", sum := "ce677ec00f9cff2edc82e716cccaab8ba8287682df87380c7ff40d163f55eb32", func := "layout/layoutlaw41.DissectChecks", spec := "dissectChecks", inPlace := ["slices.overlaps[int]"], unfollowed := true, recurses := true, named := ["layout/rotation.limits"], apart := false, laid := [("layout/rotation.limits", laid_layout_rotation_limits)] }
def DissectChecksSaid : Prop := dissectChecksRow.holds Tryd.pinned (OpenSpec.ofChange dissectChecksSpec)

/-- ITS FALSE NEIGHBOUR: 'it returns false'. Refute it at one input. -/
def dissectChecksWrong : ChangeSpec := { name := "dissectChecks", fn := fun _ => fun
  | [d] => { results := [.lit (.bool false)], args := [d] }
  | _ => none }
def DissectChecksWrongFalsely : Prop := dissectChecksRow.holds Tryd.pinned (OpenSpec.ofChange dissectChecksWrong)

/-- 'layoutlaw41.DissectRefines': WHATEVER THE INPUT: true; the input reads as it did. -/
def dissectRefinesSpec : ChangeSpec := { name := "dissectRefines", fn := fun _ => fun
  | [d] => { results := [.lit (.bool true)], args := [d] }
  | _ => none }
def dissectRefinesRow : OpenClaim := { program := "ytnnbdielbgljaaadoor", sum := "ce677ec00f9cff2edc82e716cccaab8ba8287682df87380c7ff40d163f55eb32", func := "layout/layoutlaw41.DissectRefines", spec := "dissectRefines", inPlace := ["slices.overlaps[int]"], unfollowed := true, recurses := true, named := ["layout/rotation.limits"], apart := false, laid := [("layout/rotation.limits", laid_layout_rotation_limits)] }
def DissectRefinesSaid : Prop := dissectRefinesRow.holds Tryd.pinned (OpenSpec.ofChange dissectRefinesSpec)

/-- ITS FALSE NEIGHBOUR: 'it returns false'. Refute it at one input. -/
def dissectRefinesWrong : ChangeSpec := { name := "dissectRefines", fn := fun _ => fun
  | [d] => { results := [.lit (.bool false)], args := [d] }
  | _ => none }
def DissectRefinesWrongFalsely : Prop := dissectRefinesRow.holds Tryd.pinned (OpenSpec.ofChange dissectRefinesWrong)

/-- 'layoutlaw41.DissectKeeps': WHATEVER THE INPUT: true; the input reads as it did. -/
def dissectKeepsSpec : ChangeSpec := { name := "dissectKeeps", fn := fun _ => fun
  | [d] => { results := [.lit (.bool true)], args := [d] }
  | _ => none }
def dissectKeepsRow : OpenClaim := { program := "ytnnbdielbgljaaadoor", sum := "ce677ec00f9cff2edc82e716cccaab8ba8287682df87380c7ff40d163f55eb32", func := "layout/layoutlaw41.DissectKeeps", spec := "dissectKeeps", inPlace := ["slices.overlaps[int]"], unfollowed := true, recurses := true, named := ["layout/rotation.limits"], apart := false, laid := [("layout/rotation.limits", laid_layout_rotation_limits)] }
def DissectKeepsSaid : Prop := dissectKeepsRow.holds Tryd.pinned (OpenSpec.ofChange dissectKeepsSpec)

/-- ITS FALSE NEIGHBOUR: 'it returns false'. Refute it at one input. -/
def dissectKeepsWrong : ChangeSpec := { name := "dissectKeeps", fn := fun _ => fun
  | [d] => { results := [.lit (.bool false)], args := [d] }
  | _ => none }
def DissectKeepsWrongFalsely : Prop := dissectKeepsRow.holds Tryd.pinned (OpenSpec.ofChange dissectKeepsWrong)

/-- 'layoutlaw41.DissectAgain': WHATEVER THE INPUT: true; the input reads as it did. -/
def dissectAgainSpec : ChangeSpec := { name := "dissectAgain", fn := fun _ => fun
  | [d] => { results := [.lit (.bool true)], args := [d] }
  | _ => none }
def dissectAgainRow : OpenClaim := { program := "ytnnbdielbgljaaadoor", sum := "ce677ec00f9cff2edc82e716cccaab8ba8287682df87380c7ff40d163f55eb32", func := "layout/layoutlaw41.DissectAgain", spec := "dissectAgain", inPlace := ["slices.overlaps[int]"], unfollowed := true, recurses := true, named := ["layout/rotation.limits"], apart := false, laid := [("layout/rotation.limits", laid_layout_rotation_limits)] }
def DissectAgainSaid : Prop := dissectAgainRow.holds Tryd.pinned (OpenSpec.ofChange dissectAgainSpec)

/-- ITS FALSE NEIGHBOUR: 'it returns false'. Refute it at one input. -/
def dissectAgainWrong : ChangeSpec := { name := "dissectAgain", fn := fun _ => fun
  | [d] => { results := [.lit (.bool false)], args := [d] }
  | _ => none }
def DissectAgainWrongFalsely : Prop := dissectAgainRow.holds Tryd.pinned (OpenSpec.ofChange dissectAgainWrong)

/- THE SECOND FORM. 'bulk': how many values and letters a reading holds, each counted each time it is reached (what is shared counts as often as it is met; a slice's spare places count too). A statement '..UptoSaid' is the law's where the arguments, and the package variables that the reading takes, are together of bulk at most 1048576: NARROWER than '..Said'. Prove '..Said' where nothing that the law and all that it calls make is longer than what came in: it says more and counts as full. Else prove '..UptoSaid'. A law counts once. -/
mutual
def uptoBulk {H : Type} : DataW H → Nat
  | .lit (.string bytes) => bytes.length + 1
  | .lit _ => 1
  | .nil => 1
  | .ptr d => uptoBulk d + 1
  | .slice elems spare => uptoBulkAll elems + uptoBulkAll spare + 1
  | .agg parts => uptoBulkAll parts + 1
  | .iface _ d => uptoBulk d + 1
  | .map entries => uptoBulkEntries entries + 1
  | .held _ => 1
def uptoBulkAll {H : Type} : List (DataW H) → Nat
  | [] => 0
  | d :: r => uptoBulk d + uptoBulkAll r
def uptoBulkEntries {H : Type} : List (Lit × DataW H) → Nat
  | [] => 0
  | x :: r => uptoBulkEntry x + uptoBulkEntries r
def uptoBulkEntry {H : Type} : Lit × DataW H → Nat
  | (.string bytes, d) => bytes.length + uptoBulk d + 1
  | (_, d) => uptoBulk d + 1
 end
def uptoSmall : (H : Type) → List (DataW H) → Bool := fun _ ds => decide (uptoBulkAll ds ≤ 1048576)
def OpenSpec.upto (s : _root_.Go.ChangeSpec) : _root_.Go.OpenSpec := { _root_.Go.OpenSpec.ofChange s with cond := some uptoSmall }

/-- 'layoutlaw41.DissectStraightens', WHERE WHAT IT READS IS OF BULK AT MOST 1048576: true; the input reads as it did. -/
def dissectStraightensUptoRow : OpenClaim := { program := "ytnnbdielbgljaaadoor", sum := "ce677ec00f9cff2edc82e716cccaab8ba8287682df87380c7ff40d163f55eb32", func := "layout/layoutlaw41.DissectStraightens", spec := "dissectStraightens", inPlace := ["slices.overlaps[int]"], unfollowed := true, recurses := true, named := ["layout/rotation.limits"], apart := false, laid := [("layout/rotation.limits", laid_layout_rotation_limits)], narrowed := true }
def DissectStraightensUptoSaid : Prop := dissectStraightensUptoRow.holds Tryd.pinned (OpenSpec.upto dissectStraightensSpec)

/-- 'layoutlaw41.DissectChecks', WHERE WHAT IT READS IS OF BULK AT MOST 1048576: true; the input reads as it did. -/
def dissectChecksUptoRow : OpenClaim := { program := "ytnnbdielbgljaaadoor", sum := "ce677ec00f9cff2edc82e716cccaab8ba8287682df87380c7ff40d163f55eb32", func := "layout/layoutlaw41.DissectChecks", spec := "dissectChecks", inPlace := ["slices.overlaps[int]"], unfollowed := true, recurses := true, named := ["layout/rotation.limits"], apart := false, laid := [("layout/rotation.limits", laid_layout_rotation_limits)], narrowed := true }
def DissectChecksUptoSaid : Prop := dissectChecksUptoRow.holds Tryd.pinned (OpenSpec.upto dissectChecksSpec)

/-- 'layoutlaw41.DissectRefines', WHERE WHAT IT READS IS OF BULK AT MOST 1048576: true; the input reads as it did. -/
def dissectRefinesUptoRow : OpenClaim := { program := "ytnnbdielbgljaaadoor", sum := "ce677ec00f9cff2edc82e716cccaab8ba8287682df87380c7ff40d163f55eb32", func := "layout/layoutlaw41.DissectRefines", spec := "dissectRefines", inPlace := ["slices.overlaps[int]"], unfollowed := true, recurses := true, named := ["layout/rotation.limits"], apart := false, laid := [("layout/rotation.limits", laid_layout_rotation_limits)], narrowed := true }
def DissectRefinesUptoSaid : Prop := dissectRefinesUptoRow.holds Tryd.pinned (OpenSpec.upto dissectRefinesSpec)

/-- 'layoutlaw41.DissectKeeps', WHERE WHAT IT READS IS OF BULK AT MOST 1048576: true; the input reads as it did. -/
def dissectKeepsUptoRow : OpenClaim := { program := "ytnnbdielbgljaaadoor", sum := "ce677ec00f9cff2edc82e716cccaab8ba8287682df87380c7ff40d163f55eb32", func := "layout/layoutlaw41.DissectKeeps", spec := "dissectKeeps", inPlace := ["slices.overlaps[int]"], unfollowed := true, recurses := true, named := ["layout/rotation.limits"], apart := false, laid := [("layout/rotation.limits", laid_layout_rotation_limits)], narrowed := true }
def DissectKeepsUptoSaid : Prop := dissectKeepsUptoRow.holds Tryd.pinned (OpenSpec.upto dissectKeepsSpec)

/-- 'layoutlaw41.DissectAgain', WHERE WHAT IT READS IS OF BULK AT MOST 1048576: true; the input reads as it did. -/
def dissectAgainUptoRow : OpenClaim := { program := "ytnnbdielbgljaaadoor", sum := "ce677ec00f9cff2edc82e716cccaab8ba8287682df87380c7ff40d163f55eb32", func := "layout/layoutlaw41.DissectAgain", spec := "dissectAgain", inPlace := ["slices.overlaps[int]"], unfollowed := true, recurses := true, named := ["layout/rotation.limits"], apart := false, laid := [("layout/rotation.limits", laid_layout_rotation_limits)], narrowed := true }
def DissectAgainUptoSaid : Prop := dissectAgainUptoRow.holds Tryd.pinned (OpenSpec.upto dissectAgainSpec)

end Rows
end Go.Proofs.YtnnbdielbgljaaaDoor

/-
  NARROWER THAN 'FOR EVERY INPUT', by the rows' own cells (each row's printed sentence says how): StraightShifts: laid · StraightGrid: laid.
  DERIVED. THE GIVEN ROWS OF THIS SEAT. 2 by the template 'for every input the law returns true; each argument reads behind the call as it read before'; 0 by the template 'total and deterministic' (their statements: YtgdkanecejfeiaaGreatDoorTotals.lean).
  GIVEN WITH THE SEED: the statements are not yours to turn. If you find one false, say at which input.
  Laid BY PROGRAM, IN A SANDBOX (cutbox-rows.mjs): the forced cells as the released guide's own fill.sh prints them over the translation 190e213be234ec67… (all of the seat's roots in one cut). By AI agents, Wed Nov 11 2026. No macro, syntax, notation, axiom, sorry.
-/
import Derived.Test.YtgdkanecejfeiaaGreatDoorChecked
import GoSem.Claim
import GoSem.ClaimJoined
import GoSem.ClaimMapViews
import Derived.JoinedTies
import Derived.KernelRfl
namespace Go.Proofs.YtgdkanecejfeiaaGreatDoor
/- THE CELL 'sum', in the pinned program and in every row, IS THE sha256 OF THE DUMP (.gsa) THAT YtgdkanecejfeiaaGreatDoorProg.lean LOADS. Nothing in Lean hashes anything: it is a label: what it is worth is what the hold of that sum in a sandbox is worth. -/
noncomputable def Tryz.pinned : Pinned := { name := "ytgdkanecejfeiaagreatdoor", sum := "190e213be234ec6730386324817c4eea73c3a6b255e2ada1875591788fd19a37", checked := Tryz.checked }
namespace Rows
def none {H : Type} : Left H := { results := [], args := [] }

/- WHAT THE LISTED PACKAGE-LEVEL VARIABLES READ AS WHEN THE CALL BEGINS. Each datum BY PROGRAM (the guide's laid-datum.mjs) off the statement by which the dump's own 'gosem.cut.vars' lays the variable. In a bare row this is a premise. The card (YtgdkanecejfeiaaGreatDoorCards.lean) ties it to the program's text. -/
def laid_layout_rotation_limits {H : Type} : DataW H := .agg [.lit (.int .i64 16384), .lit (.int .i64 32768)]

/-- 'layoutlaw37.StraightShifts': WHATEVER THE INPUT: true; the input reads as it did. -/
def straightShiftsSpec : ChangeSpec := { name := "straightShifts", fn := fun _ => fun
  | [d1, d2] => { results := [.lit (.bool true)], args := [d1, d2] }
  | _ => none }
def straightShiftsRow : OpenClaim := { program := "ytgdkanecejfeiaagreatdoor", sum := "190e213be234ec6730386324817c4eea73c3a6b255e2ada1875591788fd19a37", func := "layout/layoutlaw37.StraightShifts", spec := "straightShifts", inPlace := ["slices.overlaps[int]"], unfollowed := true, recurses := true, named := ["layout/rotation.limits"], plainKeys := false, apart := false, laid := [("layout/rotation.limits", laid_layout_rotation_limits)] }
def StraightShiftsSaid : Prop := straightShiftsRow.holds Tryz.pinned (OpenSpec.ofChange straightShiftsSpec)

/-- ITS FALSE NEIGHBOUR: 'it returns false'. Refute it at one input. -/
def straightShiftsWrong : ChangeSpec := { name := "straightShifts", fn := fun _ => fun
  | [d1, d2] => { results := [.lit (.bool false)], args := [d1, d2] }
  | _ => none }
def StraightShiftsWrongFalsely : Prop := straightShiftsRow.holds Tryz.pinned (OpenSpec.ofChange straightShiftsWrong)

/-- 'layoutlaw37.StraightGrid': WHATEVER THE INPUT: true; the input reads as it did. -/
def straightGridSpec : ChangeSpec := { name := "straightGrid", fn := fun _ => fun
  | [d1, d2] => { results := [.lit (.bool true)], args := [d1, d2] }
  | _ => none }
def straightGridRow : OpenClaim := { program := "ytgdkanecejfeiaagreatdoor", sum := "190e213be234ec6730386324817c4eea73c3a6b255e2ada1875591788fd19a37", func := "layout/layoutlaw37.StraightGrid", spec := "straightGrid", inPlace := ["slices.overlaps[int]"], unfollowed := true, recurses := true, named := ["layout/rotation.limits"], plainKeys := false, apart := false, laid := [("layout/rotation.limits", laid_layout_rotation_limits)] }
def StraightGridSaid : Prop := straightGridRow.holds Tryz.pinned (OpenSpec.ofChange straightGridSpec)

/-- ITS FALSE NEIGHBOUR: 'it returns false'. Refute it at one input. -/
def straightGridWrong : ChangeSpec := { name := "straightGrid", fn := fun _ => fun
  | [d1, d2] => { results := [.lit (.bool false)], args := [d1, d2] }
  | _ => none }
def StraightGridWrongFalsely : Prop := straightGridRow.holds Tryz.pinned (OpenSpec.ofChange straightGridWrong)

/- THE SECOND FORM. 'bulk': how many values and letters a reading holds, each counted each time it is reached (what is shared counts as often as it is met; a slice's spare places count too). A statement '..UptoSaid' is the law's where the arguments, and the package variables that the reading takes, are together of bulk at most 1048576: NARROWER than '..Said'. Prove '..Said' where nothing that the law and all that it calls make is longer than what came in: it says more and counts as full. Else prove '..UptoSaid'. A law counts once. -/
mutual
def uptoBulk {H : Type} : DataW H → Nat
  | .lit (.string bytes) => bytes.length + 1
  | .lit _ => 1
  | .nil => 1
  | .ptr d => uptoBulk d + 1
  | .slice elems spare => uptoBulkAll elems + uptoBulkAll spare + 1
  | .agg parts => uptoBulkAll parts + 1
  | .iface _ d => uptoBulk d + 1
  | .map entries => uptoBulkEntries entries + 1
  | .held _ => 1
def uptoBulkAll {H : Type} : List (DataW H) → Nat
  | [] => 0
  | d :: r => uptoBulk d + uptoBulkAll r
def uptoBulkEntries {H : Type} : List (Lit × DataW H) → Nat
  | [] => 0
  | x :: r => uptoBulkEntry x + uptoBulkEntries r
def uptoBulkEntry {H : Type} : Lit × DataW H → Nat
  | (.string bytes, d) => bytes.length + uptoBulk d + 1
  | (_, d) => uptoBulk d + 1
 end
def uptoSmall : (H : Type) → List (DataW H) → Bool := fun _ ds => decide (uptoBulkAll ds ≤ 1048576)
def OpenSpec.upto (s : _root_.Go.ChangeSpec) : _root_.Go.OpenSpec := { _root_.Go.OpenSpec.ofChange s with cond := some uptoSmall }

/-- 'layoutlaw37.StraightShifts', WHERE WHAT IT READS IS OF BULK AT MOST 1048576: true; the input reads as it did. -/
def straightShiftsUptoRow : OpenClaim := { program := "ytgdkanecejfeiaagreatdoor", sum := "190e213be234ec6730386324817c4eea73c3a6b255e2ada1875591788fd19a37", func := "layout/layoutlaw37.StraightShifts", spec := "straightShifts", inPlace := ["slices.overlaps[int]"], unfollowed := true, recurses := true, named := ["layout/rotation.limits"], plainKeys := false, apart := false, laid := [("layout/rotation.limits", laid_layout_rotation_limits)], narrowed := true }
def StraightShiftsUptoSaid : Prop := straightShiftsUptoRow.holds Tryz.pinned (OpenSpec.upto straightShiftsSpec)

/-- 'layoutlaw37.StraightGrid', WHERE WHAT IT READS IS OF BULK AT MOST 1048576: true; the input reads as it did. -/
def straightGridUptoRow : OpenClaim := { program := "ytgdkanecejfeiaagreatdoor", sum := "190e213be234ec6730386324817c4eea73c3a6b255e2ada1875591788fd19a37", func := "layout/layoutlaw37.StraightGrid", spec := "straightGrid", inPlace := ["slices.overlaps[int]"], unfollowed := true, recurses := true, named := ["layout/rotation.limits"], plainKeys := false, apart := false, laid := [("layout/rotation.limits", laid_layout_rotation_limits)], narrowed := true }
def StraightGridUptoSaid : Prop := straightGridUptoRow.holds Tryz.pinned (OpenSpec.upto straightGridSpec)

end Rows
end Go.Proofs.YtgdkanecejfeiaaGreatDoor

/-
  NARROWER THAN 'FOR EVERY INPUT', by the rows' own cells (each row's printed sentence says how): PlanarizeChecks: laid · PlanarizeRefuses: laid · PlanarizeKeeps: laid · PlanarizeFirst: laid · PlanarizeSpoils: laid · StraightShifts: laid · StraightGrid: laid · StraightCounts: laid · StraightPlanar: laid · StraightComponents: laid.
  DERIVED. THE GIVEN ROWS OF THIS SEAT. 10 by the template 'for every input the law returns true; each argument reads behind the call as it read before'; 0 by the template 'total and deterministic' (their statements: YtlbmgijhnimbbaaGreatDoorTotals.lean).
  GIVEN WITH THE SEED: the statements are not yours to turn. If you find one false, say at which input.
  Laid BY PROGRAM, IN A SANDBOX (cutbox-rows.mjs): the forced cells as the released guide's own fill.sh prints them over the translation 2a8d78bc0bd54317… (all of the seat's roots in one cut). By AI agents, Wed Nov 11 2026. No macro, syntax, notation, axiom, sorry.
-/
import Derived.Test.YtlbmgijhnimbbaaGreatDoorChecked
import GoSem.Claim
import GoSem.ClaimJoined
import GoSem.ClaimMapViews
import Derived.JoinedTies
import Derived.KernelRfl
namespace Go.Proofs.YtlbmgijhnimbbaaGreatDoor
/- THE CELL 'sum', in the pinned program and in every row, IS THE sha256 OF THE DUMP (.gsa) THAT YtlbmgijhnimbbaaGreatDoorProg.lean LOADS. Nothing in Lean hashes anything: it is a label: what it is worth is what the hold of that sum in a sandbox is worth. -/
noncomputable def Tryz.pinned : Pinned := { name := "ytlbmgijhnimbbaagreatdoor", sum := "2a8d78bc0bd543178247ad73b057c4a552b405229060363cafaa0d75035b27b8", checked := Tryz.checked }
namespace Rows
def none {H : Type} : Left H := { results := [], args := [] }

/- WHAT THE LISTED PACKAGE-LEVEL VARIABLES READ AS WHEN THE CALL BEGINS. Each datum BY PROGRAM (the guide's laid-datum.mjs) off the statement by which the dump's own 'gosem.cut.vars' lays the variable. In a bare row this is a premise. The card (YtlbmgijhnimbbaaGreatDoorCards.lean) ties it to the program's text. -/
def laid_layout_rotation_limits {H : Type} : DataW H := .agg [.lit (.int .i64 16384), .lit (.int .i64 32768)]

/-- 'layoutlaw34.PlanarizeChecks': WHATEVER THE INPUT: true; the input reads as it did. -/
def planarizeChecksSpec : ChangeSpec := { name := "planarizeChecks", fn := fun _ => fun
  | [d1, d2] => { results := [.lit (.bool true)], args := [d1, d2] }
  | _ => none }
def planarizeChecksRow : OpenClaim := { program := "ytlbmgijhnimbbaagreatdoor", sum := "2a8d78bc0bd543178247ad73b057c4a552b405229060363cafaa0d75035b27b8", func := "layout/layoutlaw34.PlanarizeChecks", spec := "planarizeChecks", inPlace := ["slices.overlaps[int]"], unfollowed := true, recurses := true, named := ["layout/rotation.limits"], plainKeys := false, apart := false, laid := [("layout/rotation.limits", laid_layout_rotation_limits)] }
def PlanarizeChecksSaid : Prop := planarizeChecksRow.holds Tryz.pinned (OpenSpec.ofChange planarizeChecksSpec)

/-- ITS FALSE NEIGHBOUR: 'it returns false'. Refute it at one input. -/
def planarizeChecksWrong : ChangeSpec := { name := "planarizeChecks", fn := fun _ => fun
  | [d1, d2] => { results := [.lit (.bool false)], args := [d1, d2] }
  | _ => none }
def PlanarizeChecksWrongFalsely : Prop := planarizeChecksRow.holds Tryz.pinned (OpenSpec.ofChange planarizeChecksWrong)

/-- 'layoutlaw34.PlanarizeRefuses': WHATEVER THE INPUT: true; the input reads as it did. -/
def planarizeRefusesSpec : ChangeSpec := { name := "planarizeRefuses", fn := fun _ => fun
  | [d] => { results := [.lit (.bool true)], args := [d] }
  | _ => none }
def planarizeRefusesRow : OpenClaim := { program := "ytlbmgijhnimbbaagreatdoor", sum := "2a8d78bc0bd543178247ad73b057c4a552b405229060363cafaa0d75035b27b8", func := "layout/layoutlaw34.PlanarizeRefuses", spec := "planarizeRefuses", inPlace := ["slices.overlaps[int]"], unfollowed := true, recurses := true, named := ["layout/rotation.limits"], plainKeys := false, apart := false, laid := [("layout/rotation.limits", laid_layout_rotation_limits)] }
def PlanarizeRefusesSaid : Prop := planarizeRefusesRow.holds Tryz.pinned (OpenSpec.ofChange planarizeRefusesSpec)

/-- ITS FALSE NEIGHBOUR: 'it returns false'. Refute it at one input. -/
def planarizeRefusesWrong : ChangeSpec := { name := "planarizeRefuses", fn := fun _ => fun
  | [d] => { results := [.lit (.bool false)], args := [d] }
  | _ => none }
def PlanarizeRefusesWrongFalsely : Prop := planarizeRefusesRow.holds Tryz.pinned (OpenSpec.ofChange planarizeRefusesWrong)

/-- 'layoutlaw34.PlanarizeKeeps': WHATEVER THE INPUT: true; the input reads as it did. -/
def planarizeKeepsSpec : ChangeSpec := { name := "planarizeKeeps", fn := fun _ => fun
  | [d] => { results := [.lit (.bool true)], args := [d] }
  | _ => none }
def planarizeKeepsRow : OpenClaim := { program := "ytlbmgijhnimbbaagreatdoor", sum := "2a8d78bc0bd543178247ad73b057c4a552b405229060363cafaa0d75035b27b8", func := "layout/layoutlaw34.PlanarizeKeeps", spec := "planarizeKeeps", inPlace := ["slices.overlaps[int]"], unfollowed := true, recurses := true, named := ["layout/rotation.limits"], plainKeys := false, apart := false, laid := [("layout/rotation.limits", laid_layout_rotation_limits)] }
def PlanarizeKeepsSaid : Prop := planarizeKeepsRow.holds Tryz.pinned (OpenSpec.ofChange planarizeKeepsSpec)

/-- ITS FALSE NEIGHBOUR: 'it returns false'. Refute it at one input. -/
def planarizeKeepsWrong : ChangeSpec := { name := "planarizeKeeps", fn := fun _ => fun
  | [d] => { results := [.lit (.bool false)], args := [d] }
  | _ => none }
def PlanarizeKeepsWrongFalsely : Prop := planarizeKeepsRow.holds Tryz.pinned (OpenSpec.ofChange planarizeKeepsWrong)

/-- 'layoutlaw34.PlanarizeFirst': WHATEVER THE INPUT: true; the input reads as it did. -/
def planarizeFirstSpec : ChangeSpec := { name := "planarizeFirst", fn := fun _ => fun
  | [d] => { results := [.lit (.bool true)], args := [d] }
  | _ => none }
def planarizeFirstRow : OpenClaim := { program := "ytlbmgijhnimbbaagreatdoor", sum := "2a8d78bc0bd543178247ad73b057c4a552b405229060363cafaa0d75035b27b8", func := "layout/layoutlaw34.PlanarizeFirst", spec := "planarizeFirst", inPlace := ["slices.overlaps[int]"], unfollowed := true, recurses := true, named := ["layout/rotation.limits"], plainKeys := false, apart := false, laid := [("layout/rotation.limits", laid_layout_rotation_limits)] }
def PlanarizeFirstSaid : Prop := planarizeFirstRow.holds Tryz.pinned (OpenSpec.ofChange planarizeFirstSpec)

/-- ITS FALSE NEIGHBOUR: 'it returns false'. Refute it at one input. -/
def planarizeFirstWrong : ChangeSpec := { name := "planarizeFirst", fn := fun _ => fun
  | [d] => { results := [.lit (.bool false)], args := [d] }
  | _ => none }
def PlanarizeFirstWrongFalsely : Prop := planarizeFirstRow.holds Tryz.pinned (OpenSpec.ofChange planarizeFirstWrong)

/-- 'layoutlaw34.PlanarizeSpoils': WHATEVER THE INPUT: true; the input reads as it did. -/
def planarizeSpoilsSpec : ChangeSpec := { name := "planarizeSpoils", fn := fun _ => fun
  | [d1, d2] => { results := [.lit (.bool true)], args := [d1, d2] }
  | _ => none }
def planarizeSpoilsRow : OpenClaim := { program := "ytlbmgijhnimbbaagreatdoor", sum := "2a8d78bc0bd543178247ad73b057c4a552b405229060363cafaa0d75035b27b8", func := "layout/layoutlaw34.PlanarizeSpoils", spec := "planarizeSpoils", inPlace := ["slices.overlaps[int]"], unfollowed := true, recurses := true, named := ["layout/rotation.limits"], plainKeys := false, apart := false, laid := [("layout/rotation.limits", laid_layout_rotation_limits)] }
def PlanarizeSpoilsSaid : Prop := planarizeSpoilsRow.holds Tryz.pinned (OpenSpec.ofChange planarizeSpoilsSpec)

/-- ITS FALSE NEIGHBOUR: 'it returns false'. Refute it at one input. -/
def planarizeSpoilsWrong : ChangeSpec := { name := "planarizeSpoils", fn := fun _ => fun
  | [d1, d2] => { results := [.lit (.bool false)], args := [d1, d2] }
  | _ => none }
def PlanarizeSpoilsWrongFalsely : Prop := planarizeSpoilsRow.holds Tryz.pinned (OpenSpec.ofChange planarizeSpoilsWrong)

/-- 'layoutlaw37.StraightShifts': WHATEVER THE INPUT: true; the input reads as it did. -/
def straightShiftsSpec : ChangeSpec := { name := "straightShifts", fn := fun _ => fun
  | [d1, d2] => { results := [.lit (.bool true)], args := [d1, d2] }
  | _ => none }
def straightShiftsRow : OpenClaim := { program := "ytlbmgijhnimbbaagreatdoor", sum := "2a8d78bc0bd543178247ad73b057c4a552b405229060363cafaa0d75035b27b8", func := "layout/layoutlaw37.StraightShifts", spec := "straightShifts", inPlace := ["slices.overlaps[int]"], unfollowed := true, recurses := true, named := ["layout/rotation.limits"], plainKeys := false, apart := false, laid := [("layout/rotation.limits", laid_layout_rotation_limits)] }
def StraightShiftsSaid : Prop := straightShiftsRow.holds Tryz.pinned (OpenSpec.ofChange straightShiftsSpec)

/-- ITS FALSE NEIGHBOUR: 'it returns false'. Refute it at one input. -/
def straightShiftsWrong : ChangeSpec := { name := "straightShifts", fn := fun _ => fun
  | [d1, d2] => { results := [.lit (.bool false)], args := [d1, d2] }
  | _ => none }
def StraightShiftsWrongFalsely : Prop := straightShiftsRow.holds Tryz.pinned (OpenSpec.ofChange straightShiftsWrong)

/-- 'layoutlaw37.StraightGrid': WHATEVER THE INPUT: true; the input reads as it did. -/
def straightGridSpec : ChangeSpec := { name := "straightGrid", fn := fun _ => fun
  | [d1, d2] => { results := [.lit (.bool true)], args := [d1, d2] }
  | _ => none }
def straightGridRow : OpenClaim := { program := "ytlbmgijhnimbbaagreatdoor", sum := "2a8d78bc0bd543178247ad73b057c4a552b405229060363cafaa0d75035b27b8", func := "layout/layoutlaw37.StraightGrid", spec := "straightGrid", inPlace := ["slices.overlaps[int]"], unfollowed := true, recurses := true, named := ["layout/rotation.limits"], plainKeys := false, apart := false, laid := [("layout/rotation.limits", laid_layout_rotation_limits)] }
def StraightGridSaid : Prop := straightGridRow.holds Tryz.pinned (OpenSpec.ofChange straightGridSpec)

/-- ITS FALSE NEIGHBOUR: 'it returns false'. Refute it at one input. -/
def straightGridWrong : ChangeSpec := { name := "straightGrid", fn := fun _ => fun
  | [d1, d2] => { results := [.lit (.bool false)], args := [d1, d2] }
  | _ => none }
def StraightGridWrongFalsely : Prop := straightGridRow.holds Tryz.pinned (OpenSpec.ofChange straightGridWrong)

/-- 'layoutlaw37.StraightCounts': WHATEVER THE INPUT: true; the input reads as it did. -/
def straightCountsSpec : ChangeSpec := { name := "straightCounts", fn := fun _ => fun
  | [d1, d2] => { results := [.lit (.bool true)], args := [d1, d2] }
  | _ => none }
def straightCountsRow : OpenClaim := { program := "ytlbmgijhnimbbaagreatdoor", sum := "2a8d78bc0bd543178247ad73b057c4a552b405229060363cafaa0d75035b27b8", func := "layout/layoutlaw37.StraightCounts", spec := "straightCounts", inPlace := ["slices.overlaps[int]"], unfollowed := true, recurses := true, named := ["layout/rotation.limits"], plainKeys := false, apart := false, laid := [("layout/rotation.limits", laid_layout_rotation_limits)] }
def StraightCountsSaid : Prop := straightCountsRow.holds Tryz.pinned (OpenSpec.ofChange straightCountsSpec)

/-- ITS FALSE NEIGHBOUR: 'it returns false'. Refute it at one input. -/
def straightCountsWrong : ChangeSpec := { name := "straightCounts", fn := fun _ => fun
  | [d1, d2] => { results := [.lit (.bool false)], args := [d1, d2] }
  | _ => none }
def StraightCountsWrongFalsely : Prop := straightCountsRow.holds Tryz.pinned (OpenSpec.ofChange straightCountsWrong)

/-- 'layoutlaw37.StraightPlanar': WHATEVER THE INPUT: true; the input reads as it did. -/
def straightPlanarSpec : ChangeSpec := { name := "straightPlanar", fn := fun _ => fun
  | [d] => { results := [.lit (.bool true)], args := [d] }
  | _ => none }
def straightPlanarRow : OpenClaim := { program := "ytlbmgijhnimbbaagreatdoor", sum := "2a8d78bc0bd543178247ad73b057c4a552b405229060363cafaa0d75035b27b8", func := "layout/layoutlaw37.StraightPlanar", spec := "straightPlanar", inPlace := ["slices.overlaps[int]"], unfollowed := true, recurses := true, named := ["layout/rotation.limits"], plainKeys := false, apart := false, laid := [("layout/rotation.limits", laid_layout_rotation_limits)] }
def StraightPlanarSaid : Prop := straightPlanarRow.holds Tryz.pinned (OpenSpec.ofChange straightPlanarSpec)

/-- ITS FALSE NEIGHBOUR: 'it returns false'. Refute it at one input. -/
def straightPlanarWrong : ChangeSpec := { name := "straightPlanar", fn := fun _ => fun
  | [d] => { results := [.lit (.bool false)], args := [d] }
  | _ => none }
def StraightPlanarWrongFalsely : Prop := straightPlanarRow.holds Tryz.pinned (OpenSpec.ofChange straightPlanarWrong)

/-- 'layoutlaw37.StraightComponents': WHATEVER THE INPUT: true; the input reads as it did. -/
def straightComponentsSpec : ChangeSpec := { name := "straightComponents", fn := fun _ => fun
  | [d] => { results := [.lit (.bool true)], args := [d] }
  | _ => none }
def straightComponentsRow : OpenClaim := { program := "ytlbmgijhnimbbaagreatdoor", sum := "2a8d78bc0bd543178247ad73b057c4a552b405229060363cafaa0d75035b27b8", func := "layout/layoutlaw37.StraightComponents", spec := "straightComponents", inPlace := ["slices.overlaps[int]"], unfollowed := true, recurses := true, named := ["layout/rotation.limits"], plainKeys := false, apart := false, laid := [("layout/rotation.limits", laid_layout_rotation_limits)] }
def StraightComponentsSaid : Prop := straightComponentsRow.holds Tryz.pinned (OpenSpec.ofChange straightComponentsSpec)

/-- ITS FALSE NEIGHBOUR: 'it returns false'. Refute it at one input. -/
def straightComponentsWrong : ChangeSpec := { name := "straightComponents", fn := fun _ => fun
  | [d] => { results := [.lit (.bool false)], args := [d] }
  | _ => none }
def StraightComponentsWrongFalsely : Prop := straightComponentsRow.holds Tryz.pinned (OpenSpec.ofChange straightComponentsWrong)

/- THE SECOND FORM. 'bulk': how many values and letters a reading holds, each counted each time it is reached (what is shared counts as often as it is met; a slice's spare places count too). A statement '..UptoSaid' is the law's where the arguments, and the package variables that the reading takes, are together of bulk at most 1048576: NARROWER than '..Said'. Prove '..Said' where nothing that the law and all that it calls make is longer than what came in: it says more and counts as full. Else prove '..UptoSaid'. A law counts once. -/
mutual
def uptoBulk {H : Type} : DataW H → Nat
  | .lit (.string bytes) => bytes.length + 1
  | .lit _ => 1
  | .nil => 1
  | .ptr d => uptoBulk d + 1
  | .slice elems spare => uptoBulkAll elems + uptoBulkAll spare + 1
  | .agg parts => uptoBulkAll parts + 1
  | .iface _ d => uptoBulk d + 1
  | .map entries => uptoBulkEntries entries + 1
  | .held _ => 1
def uptoBulkAll {H : Type} : List (DataW H) → Nat
  | [] => 0
  | d :: r => uptoBulk d + uptoBulkAll r
def uptoBulkEntries {H : Type} : List (Lit × DataW H) → Nat
  | [] => 0
  | x :: r => uptoBulkEntry x + uptoBulkEntries r
def uptoBulkEntry {H : Type} : Lit × DataW H → Nat
  | (.string bytes, d) => bytes.length + uptoBulk d + 1
  | (_, d) => uptoBulk d + 1
 end
def uptoSmall : (H : Type) → List (DataW H) → Bool := fun _ ds => decide (uptoBulkAll ds ≤ 1048576)
def OpenSpec.upto (s : _root_.Go.ChangeSpec) : _root_.Go.OpenSpec := { _root_.Go.OpenSpec.ofChange s with cond := some uptoSmall }

/-- 'layoutlaw34.PlanarizeChecks', WHERE WHAT IT READS IS OF BULK AT MOST 1048576: true; the input reads as it did. -/
def planarizeChecksUptoRow : OpenClaim := { program := "ytlbmgijhnimbbaagreatdoor", sum := "2a8d78bc0bd543178247ad73b057c4a552b405229060363cafaa0d75035b27b8", func := "layout/layoutlaw34.PlanarizeChecks", spec := "planarizeChecks", inPlace := ["slices.overlaps[int]"], unfollowed := true, recurses := true, named := ["layout/rotation.limits"], plainKeys := false, apart := false, laid := [("layout/rotation.limits", laid_layout_rotation_limits)], narrowed := true }
def PlanarizeChecksUptoSaid : Prop := planarizeChecksUptoRow.holds Tryz.pinned (OpenSpec.upto planarizeChecksSpec)

/-- 'layoutlaw34.PlanarizeRefuses', WHERE WHAT IT READS IS OF BULK AT MOST 1048576: true; the input reads as it did. -/
def planarizeRefusesUptoRow : OpenClaim := { program := "ytlbmgijhnimbbaagreatdoor", sum := "2a8d78bc0bd543178247ad73b057c4a552b405229060363cafaa0d75035b27b8", func := "layout/layoutlaw34.PlanarizeRefuses", spec := "planarizeRefuses", inPlace := ["slices.overlaps[int]"], unfollowed := true, recurses := true, named := ["layout/rotation.limits"], plainKeys := false, apart := false, laid := [("layout/rotation.limits", laid_layout_rotation_limits)], narrowed := true }
def PlanarizeRefusesUptoSaid : Prop := planarizeRefusesUptoRow.holds Tryz.pinned (OpenSpec.upto planarizeRefusesSpec)

/-- 'layoutlaw34.PlanarizeKeeps', WHERE WHAT IT READS IS OF BULK AT MOST 1048576: true; the input reads as it did. -/
def planarizeKeepsUptoRow : OpenClaim := { program := "ytlbmgijhnimbbaagreatdoor", sum := "2a8d78bc0bd543178247ad73b057c4a552b405229060363cafaa0d75035b27b8", func := "layout/layoutlaw34.PlanarizeKeeps", spec := "planarizeKeeps", inPlace := ["slices.overlaps[int]"], unfollowed := true, recurses := true, named := ["layout/rotation.limits"], plainKeys := false, apart := false, laid := [("layout/rotation.limits", laid_layout_rotation_limits)], narrowed := true }
def PlanarizeKeepsUptoSaid : Prop := planarizeKeepsUptoRow.holds Tryz.pinned (OpenSpec.upto planarizeKeepsSpec)

/-- 'layoutlaw34.PlanarizeFirst', WHERE WHAT IT READS IS OF BULK AT MOST 1048576: true; the input reads as it did. -/
def planarizeFirstUptoRow : OpenClaim := { program := "ytlbmgijhnimbbaagreatdoor", sum := "2a8d78bc0bd543178247ad73b057c4a552b405229060363cafaa0d75035b27b8", func := "layout/layoutlaw34.PlanarizeFirst", spec := "planarizeFirst", inPlace := ["slices.overlaps[int]"], unfollowed := true, recurses := true, named := ["layout/rotation.limits"], plainKeys := false, apart := false, laid := [("layout/rotation.limits", laid_layout_rotation_limits)], narrowed := true }
def PlanarizeFirstUptoSaid : Prop := planarizeFirstUptoRow.holds Tryz.pinned (OpenSpec.upto planarizeFirstSpec)

/-- 'layoutlaw34.PlanarizeSpoils', WHERE WHAT IT READS IS OF BULK AT MOST 1048576: true; the input reads as it did. -/
def planarizeSpoilsUptoRow : OpenClaim := { program := "ytlbmgijhnimbbaagreatdoor", sum := "2a8d78bc0bd543178247ad73b057c4a552b405229060363cafaa0d75035b27b8", func := "layout/layoutlaw34.PlanarizeSpoils", spec := "planarizeSpoils", inPlace := ["slices.overlaps[int]"], unfollowed := true, recurses := true, named := ["layout/rotation.limits"], plainKeys := false, apart := false, laid := [("layout/rotation.limits", laid_layout_rotation_limits)], narrowed := true }
def PlanarizeSpoilsUptoSaid : Prop := planarizeSpoilsUptoRow.holds Tryz.pinned (OpenSpec.upto planarizeSpoilsSpec)

/-- 'layoutlaw37.StraightShifts', WHERE WHAT IT READS IS OF BULK AT MOST 1048576: true; the input reads as it did. -/
def straightShiftsUptoRow : OpenClaim := { program := "ytlbmgijhnimbbaagreatdoor", sum := "2a8d78bc0bd543178247ad73b057c4a552b405229060363cafaa0d75035b27b8", func := "layout/layoutlaw37.StraightShifts", spec := "straightShifts", inPlace := ["slices.overlaps[int]"], unfollowed := true, recurses := true, named := ["layout/rotation.limits"], plainKeys := false, apart := false, laid := [("layout/rotation.limits", laid_layout_rotation_limits)], narrowed := true }
def StraightShiftsUptoSaid : Prop := straightShiftsUptoRow.holds Tryz.pinned (OpenSpec.upto straightShiftsSpec)

/-- 'layoutlaw37.StraightGrid', WHERE WHAT IT READS IS OF BULK AT MOST 1048576: true; the input reads as it did. -/
def straightGridUptoRow : OpenClaim := { program := "ytlbmgijhnimbbaagreatdoor", sum := "2a8d78bc0bd543178247ad73b057c4a552b405229060363cafaa0d75035b27b8", func := "layout/layoutlaw37.StraightGrid", spec := "straightGrid", inPlace := ["slices.overlaps[int]"], unfollowed := true, recurses := true, named := ["layout/rotation.limits"], plainKeys := false, apart := false, laid := [("layout/rotation.limits", laid_layout_rotation_limits)], narrowed := true }
def StraightGridUptoSaid : Prop := straightGridUptoRow.holds Tryz.pinned (OpenSpec.upto straightGridSpec)

/-- 'layoutlaw37.StraightCounts', WHERE WHAT IT READS IS OF BULK AT MOST 1048576: true; the input reads as it did. -/
def straightCountsUptoRow : OpenClaim := { program := "ytlbmgijhnimbbaagreatdoor", sum := "2a8d78bc0bd543178247ad73b057c4a552b405229060363cafaa0d75035b27b8", func := "layout/layoutlaw37.StraightCounts", spec := "straightCounts", inPlace := ["slices.overlaps[int]"], unfollowed := true, recurses := true, named := ["layout/rotation.limits"], plainKeys := false, apart := false, laid := [("layout/rotation.limits", laid_layout_rotation_limits)], narrowed := true }
def StraightCountsUptoSaid : Prop := straightCountsUptoRow.holds Tryz.pinned (OpenSpec.upto straightCountsSpec)

/-- 'layoutlaw37.StraightPlanar', WHERE WHAT IT READS IS OF BULK AT MOST 1048576: true; the input reads as it did. -/
def straightPlanarUptoRow : OpenClaim := { program := "ytlbmgijhnimbbaagreatdoor", sum := "2a8d78bc0bd543178247ad73b057c4a552b405229060363cafaa0d75035b27b8", func := "layout/layoutlaw37.StraightPlanar", spec := "straightPlanar", inPlace := ["slices.overlaps[int]"], unfollowed := true, recurses := true, named := ["layout/rotation.limits"], plainKeys := false, apart := false, laid := [("layout/rotation.limits", laid_layout_rotation_limits)], narrowed := true }
def StraightPlanarUptoSaid : Prop := straightPlanarUptoRow.holds Tryz.pinned (OpenSpec.upto straightPlanarSpec)

/-- 'layoutlaw37.StraightComponents', WHERE WHAT IT READS IS OF BULK AT MOST 1048576: true; the input reads as it did. -/
def straightComponentsUptoRow : OpenClaim := { program := "ytlbmgijhnimbbaagreatdoor", sum := "2a8d78bc0bd543178247ad73b057c4a552b405229060363cafaa0d75035b27b8", func := "layout/layoutlaw37.StraightComponents", spec := "straightComponents", inPlace := ["slices.overlaps[int]"], unfollowed := true, recurses := true, named := ["layout/rotation.limits"], plainKeys := false, apart := false, laid := [("layout/rotation.limits", laid_layout_rotation_limits)], narrowed := true }
def StraightComponentsUptoSaid : Prop := straightComponentsUptoRow.holds Tryz.pinned (OpenSpec.upto straightComponentsSpec)

end Rows
end Go.Proofs.YtlbmgijhnimbbaaGreatDoor

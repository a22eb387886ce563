/-
  NARROWER THAN 'FOR EVERY INPUT', by the rows' own cells (each row's printed sentence says how): CompactDirections: laid · CompactPlaces: laid · CompactChecks: laid · CompactDraws: laid · CompactOpposite: laid.
  DERIVED. THE GIVEN ROWS OF THIS SEAT. 5 by the template 'for every input the law returns true; each argument reads behind the call as it read before'; 0 by the template 'total and deterministic' (their statements: YtpgfkljmcacegaaDoorTotals.lean).
  GIVEN WITH THE SEED: the statements are not yours to turn. If you find one false, say at which input.
  Laid BY PROGRAM, IN A SANDBOX (cutbox-rows.mjs): the forced cells as the released guide's own fill.sh prints them over the translation ec1c9d9b32feaad6… (all of the seat's roots in one cut). By AI agents, Wed Nov 11 2026. No macro, syntax, notation, axiom, sorry.
-/
import Derived.Test.YtpgfkljmcacegaaDoorChecked
import GoSem.Claim
import GoSem.ClaimJoined
import GoSem.ClaimMapViews
import Derived.JoinedTies
import Derived.KernelRfl
namespace Go.Proofs.YtpgfkljmcacegaaDoor
/- THE CELL 'sum', in the pinned program and in every row, IS THE sha256 OF THE DUMP (.gsa) THAT YtpgfkljmcacegaaDoorProg.lean LOADS. Nothing in Lean hashes anything: it is a label: what it is worth is what the hold of that sum in a sandbox is worth. -/
noncomputable def Tryd.pinned : Pinned := { name := "ytpgfkljmcacegaadoor", sum := "ec1c9d9b32feaad699f703b68a41a44b1743a3da6931a4d835f62e04678ecd24", checked := Tryd.checked }
namespace Rows
def none {H : Type} : Left H := { results := [], args := [] }

/- WHAT THE LISTED PACKAGE-LEVEL VARIABLES READ AS WHEN THE CALL BEGINS. Each datum BY PROGRAM (the guide's laid-datum.mjs) off the statement by which the dump's own 'gosem.cut.vars' lays the variable. In a bare row this is a premise. The card (YtpgfkljmcacegaaDoorCards.lean) ties it to the program's text. -/
def laid_layout_rotation_limits {H : Type} : DataW H := .agg [.lit (.int .i64 16384), .lit (.int .i64 32768)]

/-- 'layoutlaw42.CompactDirections': WHATEVER THE INPUT: true; the input reads as it did. -/
def compactDirectionsSpec : ChangeSpec := { name := "compactDirections", fn := fun _ => fun
  | [d] => { results := [.lit (.bool true)], args := [d] }
  | _ => none }
def compactDirectionsRow : OpenClaim := { program := "ytpgfkljmcacegaadoor", sum := "ec1c9d9b32feaad699f703b68a41a44b1743a3da6931a4d835f62e04678ecd24", func := "layout/layoutlaw42.CompactDirections", spec := "compactDirections", unfollowed := true, recurses := true, named := ["layout/rotation.limits"], plainKeys := false, apart := false, laid := [("layout/rotation.limits", laid_layout_rotation_limits)] }
def CompactDirectionsSaid : Prop := compactDirectionsRow.holds Tryd.pinned (OpenSpec.ofChange compactDirectionsSpec)

/-- ITS FALSE NEIGHBOUR: 'it returns false'. Refute it at one input. -/
def compactDirectionsWrong : ChangeSpec := { name := "compactDirections", fn := fun _ => fun
  | [d] => { results := [.lit (.bool false)], args := [d] }
  | _ => none }
def CompactDirectionsWrongFalsely : Prop := compactDirectionsRow.holds Tryd.pinned (OpenSpec.ofChange compactDirectionsWrong)

/-- 'layoutlaw42.CompactPlaces': WHATEVER THE INPUT: true; the input reads as it did. -/
def compactPlacesSpec : ChangeSpec := { name := "compactPlaces", fn := fun _ => fun
  | [d] => { results := [.lit (.bool true)], args := [d] }
  | _ => none }
def compactPlacesRow : OpenClaim := { program := "ytpgfkljmcacegaadoor", sum := "ec1c9d9b32feaad699f703b68a41a44b1743a3da6931a4d835f62e04678ecd24", func := "layout/layoutlaw42.CompactPlaces", spec := "compactPlaces", unfollowed := true, recurses := true, named := ["layout/rotation.limits"], plainKeys := false, apart := false, laid := [("layout/rotation.limits", laid_layout_rotation_limits)] }
def CompactPlacesSaid : Prop := compactPlacesRow.holds Tryd.pinned (OpenSpec.ofChange compactPlacesSpec)

/-- ITS FALSE NEIGHBOUR: 'it returns false'. Refute it at one input. -/
def compactPlacesWrong : ChangeSpec := { name := "compactPlaces", fn := fun _ => fun
  | [d] => { results := [.lit (.bool false)], args := [d] }
  | _ => none }
def CompactPlacesWrongFalsely : Prop := compactPlacesRow.holds Tryd.pinned (OpenSpec.ofChange compactPlacesWrong)

/-- 'layoutlaw42.CompactChecks': WHATEVER THE INPUT: true; the input reads as it did. -/
def compactChecksSpec : ChangeSpec := { name := "compactChecks", fn := fun _ => fun
  | [d1, d2] => { results := [.lit (.bool true)], args := [d1, d2] }
  | _ => none }
def compactChecksRow : OpenClaim := { program := "ytpgfkljmcacegaadoor", sum := "ec1c9d9b32feaad699f703b68a41a44b1743a3da6931a4d835f62e04678ecd24", func := "layout/layoutlaw42.CompactChecks", spec := "compactChecks", unfollowed := true, recurses := true, named := ["layout/rotation.limits"], plainKeys := false, apart := false, laid := [("layout/rotation.limits", laid_layout_rotation_limits)] }
def CompactChecksSaid : Prop := compactChecksRow.holds Tryd.pinned (OpenSpec.ofChange compactChecksSpec)

/-- ITS FALSE NEIGHBOUR: 'it returns false'. Refute it at one input. -/
def compactChecksWrong : ChangeSpec := { name := "compactChecks", fn := fun _ => fun
  | [d1, d2] => { results := [.lit (.bool false)], args := [d1, d2] }
  | _ => none }
def CompactChecksWrongFalsely : Prop := compactChecksRow.holds Tryd.pinned (OpenSpec.ofChange compactChecksWrong)

/-- 'layoutlaw42.CompactDraws': WHATEVER THE INPUT: true; the input reads as it did. -/
def compactDrawsSpec : ChangeSpec := { name := "compactDraws", fn := fun _ => fun
  | [d1, d2] => { results := [.lit (.bool true)], args := [d1, d2] }
  | _ => none }
def compactDrawsRow : OpenClaim := { program := "ytpgfkljmcacegaadoor", sum := "ec1c9d9b32feaad699f703b68a41a44b1743a3da6931a4d835f62e04678ecd24", func := "layout/layoutlaw42.CompactDraws", spec := "compactDraws", unfollowed := true, recurses := true, named := ["layout/rotation.limits"], plainKeys := false, apart := false, laid := [("layout/rotation.limits", laid_layout_rotation_limits)] }
def CompactDrawsSaid : Prop := compactDrawsRow.holds Tryd.pinned (OpenSpec.ofChange compactDrawsSpec)

/-- ITS FALSE NEIGHBOUR: 'it returns false'. Refute it at one input. -/
def compactDrawsWrong : ChangeSpec := { name := "compactDraws", fn := fun _ => fun
  | [d1, d2] => { results := [.lit (.bool false)], args := [d1, d2] }
  | _ => none }
def CompactDrawsWrongFalsely : Prop := compactDrawsRow.holds Tryd.pinned (OpenSpec.ofChange compactDrawsWrong)

/-- 'layoutlaw42.CompactOpposite': WHATEVER THE INPUT: true; the input reads as it did. -/
def compactOppositeSpec : ChangeSpec := { name := "compactOpposite", fn := fun _ => fun
  | [d] => { results := [.lit (.bool true)], args := [d] }
  | _ => none }
def compactOppositeRow : OpenClaim := { program := "ytpgfkljmcacegaadoor", sum := "ec1c9d9b32feaad699f703b68a41a44b1743a3da6931a4d835f62e04678ecd24", func := "layout/layoutlaw42.CompactOpposite", spec := "compactOpposite", unfollowed := true, recurses := true, named := ["layout/rotation.limits"], plainKeys := false, apart := false, laid := [("layout/rotation.limits", laid_layout_rotation_limits)] }
def CompactOppositeSaid : Prop := compactOppositeRow.holds Tryd.pinned (OpenSpec.ofChange compactOppositeSpec)

/-- ITS FALSE NEIGHBOUR: 'it returns false'. Refute it at one input. -/
def compactOppositeWrong : ChangeSpec := { name := "compactOpposite", fn := fun _ => fun
  | [d] => { results := [.lit (.bool false)], args := [d] }
  | _ => none }
def CompactOppositeWrongFalsely : Prop := compactOppositeRow.holds Tryd.pinned (OpenSpec.ofChange compactOppositeWrong)

/- THE SECOND FORM. 'bulk': how many values and letters a reading holds, each counted each time it is reached (what is shared counts as often as it is met; a slice's spare places count too). A statement '..UptoSaid' is the law's where the arguments, and the package variables that the reading takes, are together of bulk at most 1048576: NARROWER than '..Said'. Prove '..Said' where nothing that the law and all that it calls make is longer than what came in: it says more and counts as full. Else prove '..UptoSaid'. A law counts once. -/
mutual
def uptoBulk {H : Type} : DataW H → Nat
  | .lit (.string bytes) => bytes.length + 1
  | .lit _ => 1
  | .nil => 1
  | .ptr d => uptoBulk d + 1
  | .slice elems spare => uptoBulkAll elems + uptoBulkAll spare + 1
  | .agg parts => uptoBulkAll parts + 1
  | .iface _ d => uptoBulk d + 1
  | .map entries => uptoBulkEntries entries + 1
  | .held _ => 1
def uptoBulkAll {H : Type} : List (DataW H) → Nat
  | [] => 0
  | d :: r => uptoBulk d + uptoBulkAll r
def uptoBulkEntries {H : Type} : List (Lit × DataW H) → Nat
  | [] => 0
  | x :: r => uptoBulkEntry x + uptoBulkEntries r
def uptoBulkEntry {H : Type} : Lit × DataW H → Nat
  | (.string bytes, d) => bytes.length + uptoBulk d + 1
  | (_, d) => uptoBulk d + 1
 end
def uptoSmall : (H : Type) → List (DataW H) → Bool := fun _ ds => decide (uptoBulkAll ds ≤ 1048576)
def OpenSpec.upto (s : _root_.Go.ChangeSpec) : _root_.Go.OpenSpec := { _root_.Go.OpenSpec.ofChange s with cond := some uptoSmall }

/-- 'layoutlaw42.CompactDirections', WHERE WHAT IT READS IS OF BULK AT MOST 1048576: true; the input reads as it did. -/
def compactDirectionsUptoRow : OpenClaim := { program := "ytpgfkljmcacegaadoor", sum := "ec1c9d9b32feaad699f703b68a41a44b1743a3da6931a4d835f62e04678ecd24", func := "layout/layoutlaw42.CompactDirections", spec := "compactDirections", unfollowed := true, recurses := true, named := ["layout/rotation.limits"], plainKeys := false, apart := false, laid := [("layout/rotation.limits", laid_layout_rotation_limits)], narrowed := true }
def CompactDirectionsUptoSaid : Prop := compactDirectionsUptoRow.holds Tryd.pinned (OpenSpec.upto compactDirectionsSpec)

/-- 'layoutlaw42.CompactPlaces', WHERE WHAT IT READS IS OF BULK AT MOST 1048576: true; the input reads as it did. -/
def compactPlacesUptoRow : OpenClaim := { program := "ytpgfkljmcacegaadoor", sum := "ec1c9d9b32feaad699f703b68a41a44b1743a3da6931a4d835f62e04678ecd24", func := "layout/layoutlaw42.CompactPlaces", spec := "compactPlaces", unfollowed := true, recurses := true, named := ["layout/rotation.limits"], plainKeys := false, apart := false, laid := [("layout/rotation.limits", laid_layout_rotation_limits)], narrowed := true }
def CompactPlacesUptoSaid : Prop := compactPlacesUptoRow.holds Tryd.pinned (OpenSpec.upto compactPlacesSpec)

/-- 'layoutlaw42.CompactChecks', WHERE WHAT IT READS IS OF BULK AT MOST 1048576: true; the input reads as it did. -/
def compactChecksUptoRow : OpenClaim := { program := "ytpgfkljmcacegaadoor", sum := "ec1c9d9b32feaad699f703b68a41a44b1743a3da6931a4d835f62e04678ecd24", func := "layout/layoutlaw42.CompactChecks", spec := "compactChecks", unfollowed := true, recurses := true, named := ["layout/rotation.limits"], plainKeys := false, apart := false, laid := [("layout/rotation.limits", laid_layout_rotation_limits)], narrowed := true }
def CompactChecksUptoSaid : Prop := compactChecksUptoRow.holds Tryd.pinned (OpenSpec.upto compactChecksSpec)

/-- 'layoutlaw42.CompactDraws', WHERE WHAT IT READS IS OF BULK AT MOST 1048576: true; the input reads as it did. -/
def compactDrawsUptoRow : OpenClaim := { program := "ytpgfkljmcacegaadoor", sum := "ec1c9d9b32feaad699f703b68a41a44b1743a3da6931a4d835f62e04678ecd24", func := "layout/layoutlaw42.CompactDraws", spec := "compactDraws", unfollowed := true, recurses := true, named := ["layout/rotation.limits"], plainKeys := false, apart := false, laid := [("layout/rotation.limits", laid_layout_rotation_limits)], narrowed := true }
def CompactDrawsUptoSaid : Prop := compactDrawsUptoRow.holds Tryd.pinned (OpenSpec.upto compactDrawsSpec)

/-- 'layoutlaw42.CompactOpposite', WHERE WHAT IT READS IS OF BULK AT MOST 1048576: true; the input reads as it did. -/
def compactOppositeUptoRow : OpenClaim := { program := "ytpgfkljmcacegaadoor", sum := "ec1c9d9b32feaad699f703b68a41a44b1743a3da6931a4d835f62e04678ecd24", func := "layout/layoutlaw42.CompactOpposite", spec := "compactOpposite", unfollowed := true, recurses := true, named := ["layout/rotation.limits"], plainKeys := false, apart := false, laid := [("layout/rotation.limits", laid_layout_rotation_limits)], narrowed := true }
def CompactOppositeUptoSaid : Prop := compactOppositeUptoRow.holds Tryd.pinned (OpenSpec.upto compactOppositeSpec)

end Rows
end Go.Proofs.YtpgfkljmcacegaaDoor

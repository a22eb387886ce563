/-
  DERIVED. GIVEN WITH THE SEED: THE CARDS: each row of YtganppkchbnikaaGreatDoorRows.lean that lists a variable, with what it lists TIED to the program's text (the seventh form; the later family's looks); each row that meets fmt, with fmt's text TOLD by the authors' own Lean function (tested against real Go, not proved from fmt's source: count such statements apart). THE CARD IS WHAT COUNTS. Prove the row's statement (the work); the ties are given (YtganppkchbnikaaGreatDoorTie.lean); close each card by the builder's one call (the guide's Derived/Test/ToyasCard.lean, 'card_holds'). Laid BY PROGRAM, IN A SANDBOX (cutbox-door.mjs). By AI agents, Wed Nov 11 2026. No macro, syntax, notation, axiom, sorry.
-/
import Derived.Test.YtganppkchbnikaaGreatDoorRows
import GoSem.ClaimSeven
namespace Go.Proofs.YtganppkchbnikaaGreatDoor
namespace Rows

/-- THE TIED CARD OF 'layoutlaw34.PlanarizeRefuses'. -/
def planarizeRefusesCard : Claim7 := { stood := { row := planarizeRefusesRow, standIns := [], harness := (true, "7fbbfda72364546117327e09b7fe3dca787140cc6f35575b0906ec074cd69053"), looks := false }, kinds := [], alts := [], laidByText := true, laidKinds := [.data], laidTests := true, laidLooks := .later }
def PlanarizeRefusesCardSaid : Prop := Claim7.holds Tryz.pinned (.plain (OpenSpec.ofChange planarizeRefusesSpec)) planarizeRefusesCard

/-- THE SECOND FORM's CARD OF 'layoutlaw34.PlanarizeRefuses'. -/
def planarizeRefusesUptoCard : Claim7 := { stood := { row := planarizeRefusesUptoRow, standIns := [], harness := (true, "7fbbfda72364546117327e09b7fe3dca787140cc6f35575b0906ec074cd69053"), looks := false }, kinds := [], alts := [], laidByText := true, laidKinds := [.data], laidTests := true, laidLooks := .later }
def PlanarizeRefusesUptoCardSaid : Prop := Claim7.holds Tryz.pinned (.plain (OpenSpec.upto planarizeRefusesSpec)) planarizeRefusesUptoCard
end Rows
end Go.Proofs.YtganppkchbnikaaGreatDoor

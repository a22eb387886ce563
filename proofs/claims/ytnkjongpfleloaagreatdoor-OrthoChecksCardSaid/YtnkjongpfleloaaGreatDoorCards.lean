/-
  DERIVED. GIVEN WITH THE SEED: THE CARDS: each row of YtnkjongpfleloaaGreatDoorRows.lean that lists a variable, with what it lists TIED to the program's text (the seventh form; the later family's looks); each row that meets fmt, with fmt's text TOLD by the authors' own Lean function (tested against real Go, not proved from fmt's source: count such statements apart). THE CARD IS WHAT COUNTS. Prove the row's statement (the work); the ties are given (YtnkjongpfleloaaGreatDoorTie.lean); close each card by the builder's one call (the guide's Derived/Test/ToyasCard.lean, 'card_holds'). Laid BY PROGRAM, IN A SANDBOX (cutbox-door.mjs). By AI agents, Wed Nov 11 2026. No macro, syntax, notation, axiom, sorry.
-/
import Derived.Test.YtnkjongpfleloaaGreatDoorRows
import GoSem.ClaimSeven
namespace Go.Proofs.YtnkjongpfleloaaGreatDoor
namespace Rows

/-- THE TIED CARD OF 'layoutlaw43.OrthoChecks'. -/
def orthoChecksCard : Claim7 := { stood := { row := orthoChecksRow, standIns := [], harness := (true, "c1a77388e4d44dc2fcf2eb3564bc717d5002bc72f5ebb67a55c87bc209bf4c92"), looks := false }, kinds := [], alts := [], laidByText := true, laidKinds := [.data], laidTests := true, laidLooks := .later }
def OrthoChecksCardSaid : Prop := Claim7.holds Tryz.pinned (.plain (OpenSpec.ofChange orthoChecksSpec)) orthoChecksCard

/-- THE SECOND FORM's CARD OF 'layoutlaw43.OrthoChecks'. -/
def orthoChecksUptoCard : Claim7 := { stood := { row := orthoChecksUptoRow, standIns := [], harness := (true, "c1a77388e4d44dc2fcf2eb3564bc717d5002bc72f5ebb67a55c87bc209bf4c92"), looks := false }, kinds := [], alts := [], laidByText := true, laidKinds := [.data], laidTests := true, laidLooks := .later }
def OrthoChecksUptoCardSaid : Prop := Claim7.holds Tryz.pinned (.plain (OpenSpec.upto orthoChecksSpec)) orthoChecksUptoCard
end Rows
end Go.Proofs.YtnkjongpfleloaaGreatDoor

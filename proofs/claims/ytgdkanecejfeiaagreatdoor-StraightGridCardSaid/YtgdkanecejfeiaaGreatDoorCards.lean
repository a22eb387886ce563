/-
  DERIVED. GIVEN WITH THE SEED: THE CARDS: each row of YtgdkanecejfeiaaGreatDoorRows.lean that lists a variable, with what it lists TIED to the program's text (the seventh form; the later family's looks); each row that meets fmt, with fmt's text TOLD by the authors' own Lean function (tested against real Go, not proved from fmt's source: count such statements apart). THE CARD IS WHAT COUNTS. Prove the row's statement (the work); the ties are given (YtgdkanecejfeiaaGreatDoorTie.lean); close each card by the builder's one call (the guide's Derived/Test/ToyasCard.lean, 'card_holds'). Laid BY PROGRAM, IN A SANDBOX (cutbox-door.mjs). By AI agents, Wed Nov 11 2026. No macro, syntax, notation, axiom, sorry.
-/
import Derived.Test.YtgdkanecejfeiaaGreatDoorRows
import GoSem.ClaimSeven
namespace Go.Proofs.YtgdkanecejfeiaaGreatDoor
namespace Rows

/-- THE TIED CARD OF 'layoutlaw37.StraightShifts'. -/
def straightShiftsCard : Claim7 := { stood := { row := straightShiftsRow, standIns := [], harness := (true, "dced2822f85eb810e9bf8b40339c3d6975b12b3b0d93b1eb7ff46b89a322019c"), looks := false }, kinds := [], alts := [], laidByText := true, laidKinds := [.data], laidTests := true, laidLooks := .later }
def StraightShiftsCardSaid : Prop := Claim7.holds Tryz.pinned (.plain (OpenSpec.ofChange straightShiftsSpec)) straightShiftsCard

/-- THE TIED CARD OF 'layoutlaw37.StraightGrid'. -/
def straightGridCard : Claim7 := { stood := { row := straightGridRow, standIns := [], harness := (true, "dced2822f85eb810e9bf8b40339c3d6975b12b3b0d93b1eb7ff46b89a322019c"), looks := false }, kinds := [], alts := [], laidByText := true, laidKinds := [.data], laidTests := true, laidLooks := .later }
def StraightGridCardSaid : Prop := Claim7.holds Tryz.pinned (.plain (OpenSpec.ofChange straightGridSpec)) straightGridCard

/-- THE SECOND FORM's CARD OF 'layoutlaw37.StraightShifts'. -/
def straightShiftsUptoCard : Claim7 := { stood := { row := straightShiftsUptoRow, standIns := [], harness := (true, "dced2822f85eb810e9bf8b40339c3d6975b12b3b0d93b1eb7ff46b89a322019c"), looks := false }, kinds := [], alts := [], laidByText := true, laidKinds := [.data], laidTests := true, laidLooks := .later }
def StraightShiftsUptoCardSaid : Prop := Claim7.holds Tryz.pinned (.plain (OpenSpec.upto straightShiftsSpec)) straightShiftsUptoCard

/-- THE SECOND FORM's CARD OF 'layoutlaw37.StraightGrid'. -/
def straightGridUptoCard : Claim7 := { stood := { row := straightGridUptoRow, standIns := [], harness := (true, "dced2822f85eb810e9bf8b40339c3d6975b12b3b0d93b1eb7ff46b89a322019c"), looks := false }, kinds := [], alts := [], laidByText := true, laidKinds := [.data], laidTests := true, laidLooks := .later }
def StraightGridUptoCardSaid : Prop := Claim7.holds Tryz.pinned (.plain (OpenSpec.upto straightGridSpec)) straightGridUptoCard
end Rows
end Go.Proofs.YtgdkanecejfeiaaGreatDoor

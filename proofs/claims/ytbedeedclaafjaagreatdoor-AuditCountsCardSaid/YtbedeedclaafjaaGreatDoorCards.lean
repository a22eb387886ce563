/-
  DERIVED. GIVEN WITH THE SEED: THE CARDS: each row of YtbedeedclaafjaaGreatDoorRows.lean that lists a variable, with what it lists TIED to the program's text (the seventh form; the later family's looks); each row that meets fmt, with fmt's text TOLD by the authors' own Lean function (tested against real Go, not proved from fmt's source: count such statements apart). THE CARD IS WHAT COUNTS. Prove the row's statement (the work); the ties are given (YtbedeedclaafjaaGreatDoorTie.lean); close each card by the builder's one call (the guide's Derived/Test/ToyasCard.lean, 'card_holds'). Laid BY PROGRAM, IN A SANDBOX (cutbox-door.mjs). By AI agents, Wed Nov 11 2026. No macro, syntax, notation, axiom, sorry.
-/
import Derived.Test.YtbedeedclaafjaaGreatDoorRows
import GoSem.ClaimSeven
namespace Go.Proofs.YtbedeedclaafjaaGreatDoor
namespace Rows

/-- THE TIED CARD OF 'layoutlaw58.AuditCounts'. -/
def auditCountsCard : Claim7 := { stood := { row := auditCountsRow, standIns := [], harness := (true, "ba5f40e8929ede1f318096e8c2f644c8e3e40c05397b57613ab8e39d8ec94caa"), looks := false }, kinds := [], alts := [], laidByText := true, laidKinds := [.data, .data, .data, .data, .data, .pinned], laidTests := true, laidLooks := .later }
def AuditCountsCardSaid : Prop := Claim7.holds Tryz.pinned (.plain (OpenSpec.ofChange auditCountsSpec)) auditCountsCard

/-- THE SECOND FORM's CARD OF 'layoutlaw58.AuditCounts'. -/
def auditCountsUptoCard : Claim7 := { stood := { row := auditCountsUptoRow, standIns := [], harness := (true, "ba5f40e8929ede1f318096e8c2f644c8e3e40c05397b57613ab8e39d8ec94caa"), looks := false }, kinds := [], alts := [], laidByText := true, laidKinds := [.data, .data, .data, .data, .data, .pinned], laidTests := true, laidLooks := .later }
def AuditCountsUptoCardSaid : Prop := Claim7.holds Tryz.pinned (.plain (OpenSpec.upto auditCountsSpec)) auditCountsUptoCard
end Rows
end Go.Proofs.YtbedeedclaafjaaGreatDoor

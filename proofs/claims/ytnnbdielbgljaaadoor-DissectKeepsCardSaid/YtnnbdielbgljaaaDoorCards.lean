/-
  DERIVED. GIVEN WITH THE SEED: THE CARDS: each row of YtnnbdielbgljaaaDoorRows.lean that lists a variable, with what it lists TIED to the program's text (the seventh form; the later family's looks); each row that meets fmt, with fmt's text TOLD by the authors' own Lean function (tested against real Go, not proved from fmt's source: count such statements apart). THE CARD IS WHAT COUNTS. Prove the row's statement (the work); the ties are given (YtnnbdielbgljaaaDoorTie.lean); close each card by the builder's one call (the guide's Derived/Test/ToyasCard.lean, 'card_holds'). Laid BY PROGRAM, IN A SANDBOX (cutbox-door.mjs). By AI agents, Wed Nov 11 2026. No macro, syntax, notation, axiom, sorry.
-/
import Derived.Test.YtnnbdielbgljaaaDoorRows
import GoSem.ClaimSeven
namespace Go.Proofs.YtnnbdielbgljaaaDoor
namespace Rows

/-- THE TIED CARD OF 'layoutlaw41.DissectStraightens'. -/
def dissectStraightensCard : Claim7 := { stood := { row := dissectStraightensRow, standIns := [], harness := (true, "8027b3484404eea93bb6388a100f25b9ce57ea3b7e1b39743ad13e893fac853d"), looks := false }, kinds := [], alts := [], laidByText := true, laidKinds := [.data], laidTests := true, laidLooks := .later }
def DissectStraightensCardSaid : Prop := Claim7.holds Tryd.pinned (.plain (OpenSpec.ofChange dissectStraightensSpec)) dissectStraightensCard

/-- THE TIED CARD OF 'layoutlaw41.DissectChecks'. -/
def dissectChecksCard : Claim7 := { stood := { row := dissectChecksRow, standIns := [], harness := (true, "8027b3484404eea93bb6388a100f25b9ce57ea3b7e1b39743ad13e893fac853d"), looks := false }, kinds := [], alts := [], laidByText := true, laidKinds := [.data], laidTests := true, laidLooks := .later }
def DissectChecksCardSaid : Prop := Claim7.holds Tryd.pinned (.plain (OpenSpec.ofChange dissectChecksSpec)) dissectChecksCard

/-- THE TIED CARD OF 'layoutlaw41.DissectRefines'. -/
def dissectRefinesCard : Claim7 := { stood := { row := dissectRefinesRow, standIns := [], harness := (true, "8027b3484404eea93bb6388a100f25b9ce57ea3b7e1b39743ad13e893fac853d"), looks := false }, kinds := [], alts := [], laidByText := true, laidKinds := [.data], laidTests := true, laidLooks := .later }
def DissectRefinesCardSaid : Prop := Claim7.holds Tryd.pinned (.plain (OpenSpec.ofChange dissectRefinesSpec)) dissectRefinesCard

/-- THE TIED CARD OF 'layoutlaw41.DissectKeeps'. -/
def dissectKeepsCard : Claim7 := { stood := { row := dissectKeepsRow, standIns := [], harness := (true, "8027b3484404eea93bb6388a100f25b9ce57ea3b7e1b39743ad13e893fac853d"), looks := false }, kinds := [], alts := [], laidByText := true, laidKinds := [.data], laidTests := true, laidLooks := .later }
def DissectKeepsCardSaid : Prop := Claim7.holds Tryd.pinned (.plain (OpenSpec.ofChange dissectKeepsSpec)) dissectKeepsCard

/-- THE TIED CARD OF 'layoutlaw41.DissectAgain'. -/
def dissectAgainCard : Claim7 := { stood := { row := dissectAgainRow, standIns := [], harness := (true, "8027b3484404eea93bb6388a100f25b9ce57ea3b7e1b39743ad13e893fac853d"), looks := false }, kinds := [], alts := [], laidByText := true, laidKinds := [.data], laidTests := true, laidLooks := .later }
def DissectAgainCardSaid : Prop := Claim7.holds Tryd.pinned (.plain (OpenSpec.ofChange dissectAgainSpec)) dissectAgainCard

/-- THE SECOND FORM's CARD OF 'layoutlaw41.DissectStraightens'. -/
def dissectStraightensUptoCard : Claim7 := { stood := { row := dissectStraightensUptoRow, standIns := [], harness := (true, "8027b3484404eea93bb6388a100f25b9ce57ea3b7e1b39743ad13e893fac853d"), looks := false }, kinds := [], alts := [], laidByText := true, laidKinds := [.data], laidTests := true, laidLooks := .later }
def DissectStraightensUptoCardSaid : Prop := Claim7.holds Tryd.pinned (.plain (OpenSpec.upto dissectStraightensSpec)) dissectStraightensUptoCard

/-- THE SECOND FORM's CARD OF 'layoutlaw41.DissectChecks'. -/
def dissectChecksUptoCard : Claim7 := { stood := { row := dissectChecksUptoRow, standIns := [], harness := (true, "8027b3484404eea93bb6388a100f25b9ce57ea3b7e1b39743ad13e893fac853d"), looks := false }, kinds := [], alts := [], laidByText := true, laidKinds := [.data], laidTests := true, laidLooks := .later }
def DissectChecksUptoCardSaid : Prop := Claim7.holds Tryd.pinned (.plain (OpenSpec.upto dissectChecksSpec)) dissectChecksUptoCard

/-- THE SECOND FORM's CARD OF 'layoutlaw41.DissectRefines'. -/
def dissectRefinesUptoCard : Claim7 := { stood := { row := dissectRefinesUptoRow, standIns := [], harness := (true, "8027b3484404eea93bb6388a100f25b9ce57ea3b7e1b39743ad13e893fac853d"), looks := false }, kinds := [], alts := [], laidByText := true, laidKinds := [.data], laidTests := true, laidLooks := .later }
def DissectRefinesUptoCardSaid : Prop := Claim7.holds Tryd.pinned (.plain (OpenSpec.upto dissectRefinesSpec)) dissectRefinesUptoCard

/-- THE SECOND FORM's CARD OF 'layoutlaw41.DissectKeeps'. -/
def dissectKeepsUptoCard : Claim7 := { stood := { row := dissectKeepsUptoRow, standIns := [], harness := (true, "8027b3484404eea93bb6388a100f25b9ce57ea3b7e1b39743ad13e893fac853d"), looks := false }, kinds := [], alts := [], laidByText := true, laidKinds := [.data], laidTests := true, laidLooks := .later }
def DissectKeepsUptoCardSaid : Prop := Claim7.holds Tryd.pinned (.plain (OpenSpec.upto dissectKeepsSpec)) dissectKeepsUptoCard

/-- THE SECOND FORM's CARD OF 'layoutlaw41.DissectAgain'. -/
def dissectAgainUptoCard : Claim7 := { stood := { row := dissectAgainUptoRow, standIns := [], harness := (true, "8027b3484404eea93bb6388a100f25b9ce57ea3b7e1b39743ad13e893fac853d"), looks := false }, kinds := [], alts := [], laidByText := true, laidKinds := [.data], laidTests := true, laidLooks := .later }
def DissectAgainUptoCardSaid : Prop := Claim7.holds Tryd.pinned (.plain (OpenSpec.upto dissectAgainSpec)) dissectAgainUptoCard
end Rows
end Go.Proofs.YtnnbdielbgljaaaDoor

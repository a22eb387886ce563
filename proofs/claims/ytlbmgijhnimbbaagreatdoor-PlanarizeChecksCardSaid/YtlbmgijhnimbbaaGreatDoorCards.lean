/-
  DERIVED. GIVEN WITH THE SEED: THE CARDS: each row of YtlbmgijhnimbbaaGreatDoorRows.lean that lists a variable, with what it lists TIED to the program's text (the seventh form; the later family's looks); each row that meets fmt, with fmt's text TOLD by the authors' own Lean function (tested against real Go, not proved from fmt's source: count such statements apart). THE CARD IS WHAT COUNTS. Prove the row's statement (the work); the ties are given (YtlbmgijhnimbbaaGreatDoorTie.lean); close each card by the builder's one call (the guide's Derived/Test/ToyasCard.lean, 'card_holds'). Laid BY PROGRAM, IN A SANDBOX (cutbox-door.mjs). By AI agents, Wed Nov 11 2026. No macro, syntax, notation, axiom, sorry.
-/
import Derived.Test.YtlbmgijhnimbbaaGreatDoorRows
import GoSem.ClaimSeven
namespace Go.Proofs.YtlbmgijhnimbbaaGreatDoor
namespace Rows

/-- THE TIED CARD OF 'layoutlaw34.PlanarizeChecks'. -/
def planarizeChecksCard : Claim7 := { stood := { row := planarizeChecksRow, standIns := [], harness := (true, "b52170b4ee0f4f74b81938744f0b9df6e1045b3b612c940595f375ba43048f49"), looks := false }, kinds := [], alts := [], laidByText := true, laidKinds := [.data], laidTests := true, laidLooks := .later }
def PlanarizeChecksCardSaid : Prop := Claim7.holds Tryz.pinned (.plain (OpenSpec.ofChange planarizeChecksSpec)) planarizeChecksCard

/-- THE TIED CARD OF 'layoutlaw34.PlanarizeRefuses'. -/
def planarizeRefusesCard : Claim7 := { stood := { row := planarizeRefusesRow, standIns := [], harness := (true, "b52170b4ee0f4f74b81938744f0b9df6e1045b3b612c940595f375ba43048f49"), looks := false }, kinds := [], alts := [], laidByText := true, laidKinds := [.data], laidTests := true, laidLooks := .later }
def PlanarizeRefusesCardSaid : Prop := Claim7.holds Tryz.pinned (.plain (OpenSpec.ofChange planarizeRefusesSpec)) planarizeRefusesCard

/-- THE TIED CARD OF 'layoutlaw34.PlanarizeKeeps'. -/
def planarizeKeepsCard : Claim7 := { stood := { row := planarizeKeepsRow, standIns := [], harness := (true, "b52170b4ee0f4f74b81938744f0b9df6e1045b3b612c940595f375ba43048f49"), looks := false }, kinds := [], alts := [], laidByText := true, laidKinds := [.data], laidTests := true, laidLooks := .later }
def PlanarizeKeepsCardSaid : Prop := Claim7.holds Tryz.pinned (.plain (OpenSpec.ofChange planarizeKeepsSpec)) planarizeKeepsCard

/-- THE TIED CARD OF 'layoutlaw34.PlanarizeFirst'. -/
def planarizeFirstCard : Claim7 := { stood := { row := planarizeFirstRow, standIns := [], harness := (true, "b52170b4ee0f4f74b81938744f0b9df6e1045b3b612c940595f375ba43048f49"), looks := false }, kinds := [], alts := [], laidByText := true, laidKinds := [.data], laidTests := true, laidLooks := .later }
def PlanarizeFirstCardSaid : Prop := Claim7.holds Tryz.pinned (.plain (OpenSpec.ofChange planarizeFirstSpec)) planarizeFirstCard

/-- THE TIED CARD OF 'layoutlaw34.PlanarizeSpoils'. -/
def planarizeSpoilsCard : Claim7 := { stood := { row := planarizeSpoilsRow, standIns := [], harness := (true, "b52170b4ee0f4f74b81938744f0b9df6e1045b3b612c940595f375ba43048f49"), looks := false }, kinds := [], alts := [], laidByText := true, laidKinds := [.data], laidTests := true, laidLooks := .later }
def PlanarizeSpoilsCardSaid : Prop := Claim7.holds Tryz.pinned (.plain (OpenSpec.ofChange planarizeSpoilsSpec)) planarizeSpoilsCard

/-- THE TIED CARD OF 'layoutlaw37.StraightShifts'. -/
def straightShiftsCard : Claim7 := { stood := { row := straightShiftsRow, standIns := [], harness := (true, "b52170b4ee0f4f74b81938744f0b9df6e1045b3b612c940595f375ba43048f49"), looks := false }, kinds := [], alts := [], laidByText := true, laidKinds := [.data], laidTests := true, laidLooks := .later }
def StraightShiftsCardSaid : Prop := Claim7.holds Tryz.pinned (.plain (OpenSpec.ofChange straightShiftsSpec)) straightShiftsCard

/-- THE TIED CARD OF 'layoutlaw37.StraightGrid'. -/
def straightGridCard : Claim7 := { stood := { row := straightGridRow, standIns := [], harness := (true, "b52170b4ee0f4f74b81938744f0b9df6e1045b3b612c940595f375ba43048f49"), looks := false }, kinds := [], alts := [], laidByText := true, laidKinds := [.data], laidTests := true, laidLooks := .later }
def StraightGridCardSaid : Prop := Claim7.holds Tryz.pinned (.plain (OpenSpec.ofChange straightGridSpec)) straightGridCard

/-- THE TIED CARD OF 'layoutlaw37.StraightCounts'. -/
def straightCountsCard : Claim7 := { stood := { row := straightCountsRow, standIns := [], harness := (true, "b52170b4ee0f4f74b81938744f0b9df6e1045b3b612c940595f375ba43048f49"), looks := false }, kinds := [], alts := [], laidByText := true, laidKinds := [.data], laidTests := true, laidLooks := .later }
def StraightCountsCardSaid : Prop := Claim7.holds Tryz.pinned (.plain (OpenSpec.ofChange straightCountsSpec)) straightCountsCard

/-- THE TIED CARD OF 'layoutlaw37.StraightPlanar'. -/
def straightPlanarCard : Claim7 := { stood := { row := straightPlanarRow, standIns := [], harness := (true, "b52170b4ee0f4f74b81938744f0b9df6e1045b3b612c940595f375ba43048f49"), looks := false }, kinds := [], alts := [], laidByText := true, laidKinds := [.data], laidTests := true, laidLooks := .later }
def StraightPlanarCardSaid : Prop := Claim7.holds Tryz.pinned (.plain (OpenSpec.ofChange straightPlanarSpec)) straightPlanarCard

/-- THE TIED CARD OF 'layoutlaw37.StraightComponents'. -/
def straightComponentsCard : Claim7 := { stood := { row := straightComponentsRow, standIns := [], harness := (true, "b52170b4ee0f4f74b81938744f0b9df6e1045b3b612c940595f375ba43048f49"), looks := false }, kinds := [], alts := [], laidByText := true, laidKinds := [.data], laidTests := true, laidLooks := .later }
def StraightComponentsCardSaid : Prop := Claim7.holds Tryz.pinned (.plain (OpenSpec.ofChange straightComponentsSpec)) straightComponentsCard

/-- THE SECOND FORM's CARD OF 'layoutlaw34.PlanarizeChecks'. -/
def planarizeChecksUptoCard : Claim7 := { stood := { row := planarizeChecksUptoRow, standIns := [], harness := (true, "b52170b4ee0f4f74b81938744f0b9df6e1045b3b612c940595f375ba43048f49"), looks := false }, kinds := [], alts := [], laidByText := true, laidKinds := [.data], laidTests := true, laidLooks := .later }
def PlanarizeChecksUptoCardSaid : Prop := Claim7.holds Tryz.pinned (.plain (OpenSpec.upto planarizeChecksSpec)) planarizeChecksUptoCard

/-- THE SECOND FORM's CARD OF 'layoutlaw34.PlanarizeRefuses'. -/
def planarizeRefusesUptoCard : Claim7 := { stood := { row := planarizeRefusesUptoRow, standIns := [], harness := (true, "b52170b4ee0f4f74b81938744f0b9df6e1045b3b612c940595f375ba43048f49"), looks := false }, kinds := [], alts := [], laidByText := true, laidKinds := [.data], laidTests := true, laidLooks := .later }
def PlanarizeRefusesUptoCardSaid : Prop := Claim7.holds Tryz.pinned (.plain (OpenSpec.upto planarizeRefusesSpec)) planarizeRefusesUptoCard

/-- THE SECOND FORM's CARD OF 'layoutlaw34.PlanarizeKeeps'. -/
def planarizeKeepsUptoCard : Claim7 := { stood := { row := planarizeKeepsUptoRow, standIns := [], harness := (true, "b52170b4ee0f4f74b81938744f0b9df6e1045b3b612c940595f375ba43048f49"), looks := false }, kinds := [], alts := [], laidByText := true, laidKinds := [.data], laidTests := true, laidLooks := .later }
def PlanarizeKeepsUptoCardSaid : Prop := Claim7.holds Tryz.pinned (.plain (OpenSpec.upto planarizeKeepsSpec)) planarizeKeepsUptoCard

/-- THE SECOND FORM's CARD OF 'layoutlaw34.PlanarizeFirst'. -/
def planarizeFirstUptoCard : Claim7 := { stood := { row := planarizeFirstUptoRow, standIns := [], harness := (true, "b52170b4ee0f4f74b81938744f0b9df6e1045b3b612c940595f375ba43048f49"), looks := false }, kinds := [], alts := [], laidByText := true, laidKinds := [.data], laidTests := true, laidLooks := .later }
def PlanarizeFirstUptoCardSaid : Prop := Claim7.holds Tryz.pinned (.plain (OpenSpec.upto planarizeFirstSpec)) planarizeFirstUptoCard

/-- THE SECOND FORM's CARD OF 'layoutlaw34.PlanarizeSpoils'. -/
def planarizeSpoilsUptoCard : Claim7 := { stood := { row := planarizeSpoilsUptoRow, standIns := [], harness := (true, "b52170b4ee0f4f74b81938744f0b9df6e1045b3b612c940595f375ba43048f49"), looks := false }, kinds := [], alts := [], laidByText := true, laidKinds := [.data], laidTests := true, laidLooks := .later }
def PlanarizeSpoilsUptoCardSaid : Prop := Claim7.holds Tryz.pinned (.plain (OpenSpec.upto planarizeSpoilsSpec)) planarizeSpoilsUptoCard

/-- THE SECOND FORM's CARD OF 'layoutlaw37.StraightShifts'. -/
def straightShiftsUptoCard : Claim7 := { stood := { row := straightShiftsUptoRow, standIns := [], harness := (true, "b52170b4ee0f4f74b81938744f0b9df6e1045b3b612c940595f375ba43048f49"), looks := false }, kinds := [], alts := [], laidByText := true, laidKinds := [.data], laidTests := true, laidLooks := .later }
def StraightShiftsUptoCardSaid : Prop := Claim7.holds Tryz.pinned (.plain (OpenSpec.upto straightShiftsSpec)) straightShiftsUptoCard

/-- THE SECOND FORM's CARD OF 'layoutlaw37.StraightGrid'. -/
def straightGridUptoCard : Claim7 := { stood := { row := straightGridUptoRow, standIns := [], harness := (true, "b52170b4ee0f4f74b81938744f0b9df6e1045b3b612c940595f375ba43048f49"), looks := false }, kinds := [], alts := [], laidByText := true, laidKinds := [.data], laidTests := true, laidLooks := .later }
def StraightGridUptoCardSaid : Prop := Claim7.holds Tryz.pinned (.plain (OpenSpec.upto straightGridSpec)) straightGridUptoCard

/-- THE SECOND FORM's CARD OF 'layoutlaw37.StraightCounts'. -/
def straightCountsUptoCard : Claim7 := { stood := { row := straightCountsUptoRow, standIns := [], harness := (true, "b52170b4ee0f4f74b81938744f0b9df6e1045b3b612c940595f375ba43048f49"), looks := false }, kinds := [], alts := [], laidByText := true, laidKinds := [.data], laidTests := true, laidLooks := .later }
def StraightCountsUptoCardSaid : Prop := Claim7.holds Tryz.pinned (.plain (OpenSpec.upto straightCountsSpec)) straightCountsUptoCard

/-- THE SECOND FORM's CARD OF 'layoutlaw37.StraightPlanar'. -/
def straightPlanarUptoCard : Claim7 := { stood := { row := straightPlanarUptoRow, standIns := [], harness := (true, "b52170b4ee0f4f74b81938744f0b9df6e1045b3b612c940595f375ba43048f49"), looks := false }, kinds := [], alts := [], laidByText := true, laidKinds := [.data], laidTests := true, laidLooks := .later }
def StraightPlanarUptoCardSaid : Prop := Claim7.holds Tryz.pinned (.plain (OpenSpec.upto straightPlanarSpec)) straightPlanarUptoCard

/-- THE SECOND FORM's CARD OF 'layoutlaw37.StraightComponents'. -/
def straightComponentsUptoCard : Claim7 := { stood := { row := straightComponentsUptoRow, standIns := [], harness := (true, "b52170b4ee0f4f74b81938744f0b9df6e1045b3b612c940595f375ba43048f49"), looks := false }, kinds := [], alts := [], laidByText := true, laidKinds := [.data], laidTests := true, laidLooks := .later }
def StraightComponentsUptoCardSaid : Prop := Claim7.holds Tryz.pinned (.plain (OpenSpec.upto straightComponentsSpec)) straightComponentsUptoCard
end Rows
end Go.Proofs.YtlbmgijhnimbbaaGreatDoor

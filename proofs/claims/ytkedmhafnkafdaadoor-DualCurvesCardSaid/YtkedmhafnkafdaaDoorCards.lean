/-
  DERIVED. GIVEN WITH THE SEED: THE CARDS: each row of YtkedmhafnkafdaaDoorRows.lean that lists a variable, with what it lists TIED to the program's text (the seventh form; the later family's looks); each row that meets fmt, with fmt's text TOLD by the authors' own Lean function (tested against real Go, not proved from fmt's source: count such statements apart). THE CARD IS WHAT COUNTS. Prove the row's statement (the work); the ties are given (YtkedmhafnkafdaaDoorTie.lean); close each card by the builder's one call (the guide's Derived/Test/ToyasCard.lean, 'card_holds'). Laid BY PROGRAM, IN A SANDBOX (cutbox-door.mjs). By AI agents, Wed Nov 11 2026. No macro, syntax, notation, axiom, sorry.
-/
import Derived.Test.YtkedmhafnkafdaaDoorRows
import GoSem.ClaimSeven
namespace Go.Proofs.YtkedmhafnkafdaaDoor
namespace Rows

/-- THE TIED CARD OF 'layoutlaw32.DualFaces'. -/
def dualFacesCard : Claim7 := { stood := { row := dualFacesRow, standIns := [], harness := (true, "8c221827b5a6ebcefb66637eca94f7a8266085fd6f918905cdbbcdf68970c592"), looks := false }, kinds := [], alts := [], laidByText := true, laidKinds := [.data], laidTests := true, laidLooks := .later }
def DualFacesCardSaid : Prop := Claim7.holds Tryd.pinned (.plain (OpenSpec.ofChange dualFacesSpec)) dualFacesCard

/-- THE TIED CARD OF 'layoutlaw32.DualRoutes'. -/
def dualRoutesCard : Claim7 := { stood := { row := dualRoutesRow, standIns := [], harness := (true, "8c221827b5a6ebcefb66637eca94f7a8266085fd6f918905cdbbcdf68970c592"), looks := false }, kinds := [], alts := [], laidByText := true, laidKinds := [.data], laidTests := true, laidLooks := .later }
def DualRoutesCardSaid : Prop := Claim7.holds Tryd.pinned (.plain (OpenSpec.ofChange dualRoutesSpec)) dualRoutesCard

/-- THE TIED CARD OF 'layoutlaw32.DualCurves'. -/
def dualCurvesCard : Claim7 := { stood := { row := dualCurvesRow, standIns := [], harness := (true, "8c221827b5a6ebcefb66637eca94f7a8266085fd6f918905cdbbcdf68970c592"), looks := false }, kinds := [], alts := [], laidByText := true, laidKinds := [.data], laidTests := true, laidLooks := .later }
def DualCurvesCardSaid : Prop := Claim7.holds Tryd.pinned (.plain (OpenSpec.ofChange dualCurvesSpec)) dualCurvesCard

/-- THE TIED CARD OF 'layoutlaw32.DualBetween'. -/
def dualBetweenCard : Claim7 := { stood := { row := dualBetweenRow, standIns := [], harness := (true, "8c221827b5a6ebcefb66637eca94f7a8266085fd6f918905cdbbcdf68970c592"), looks := false }, kinds := [], alts := [], laidByText := true, laidKinds := [.data], laidTests := true, laidLooks := .later }
def DualBetweenCardSaid : Prop := Claim7.holds Tryd.pinned (.plain (OpenSpec.ofChange dualBetweenSpec)) dualBetweenCard

/-- THE TIED CARD OF 'layoutlaw33.InsertEdges'. -/
def insertEdgesCard : Claim7 := { stood := { row := insertEdgesRow, standIns := [], harness := (true, "8c221827b5a6ebcefb66637eca94f7a8266085fd6f918905cdbbcdf68970c592"), looks := false }, kinds := [], alts := [], laidByText := true, laidKinds := [.data], laidTests := true, laidLooks := .later }
def InsertEdgesCardSaid : Prop := Claim7.holds Tryd.pinned (.plain (OpenSpec.ofChange insertEdgesSpec)) insertEdgesCard

/-- THE TIED CARD OF 'layoutlaw33.InsertSplits'. -/
def insertSplitsCard : Claim7 := { stood := { row := insertSplitsRow, standIns := [], harness := (true, "8c221827b5a6ebcefb66637eca94f7a8266085fd6f918905cdbbcdf68970c592"), looks := false }, kinds := [], alts := [], laidByText := true, laidKinds := [.data], laidTests := true, laidLooks := .later }
def InsertSplitsCardSaid : Prop := Claim7.holds Tryd.pinned (.plain (OpenSpec.ofChange insertSplitsSpec)) insertSplitsCard

/-- THE TIED CARD OF 'layoutlaw33.InsertPaths'. -/
def insertPathsCard : Claim7 := { stood := { row := insertPathsRow, standIns := [], harness := (true, "8c221827b5a6ebcefb66637eca94f7a8266085fd6f918905cdbbcdf68970c592"), looks := false }, kinds := [], alts := [], laidByText := true, laidKinds := [.data], laidTests := true, laidLooks := .later }
def InsertPathsCardSaid : Prop := Claim7.holds Tryd.pinned (.plain (OpenSpec.ofChange insertPathsSpec)) insertPathsCard

/-- THE TIED CARD OF 'layoutlaw33.InsertBack'. -/
def insertBackCard : Claim7 := { stood := { row := insertBackRow, standIns := [], harness := (true, "8c221827b5a6ebcefb66637eca94f7a8266085fd6f918905cdbbcdf68970c592"), looks := false }, kinds := [], alts := [], laidByText := true, laidKinds := [.data], laidTests := true, laidLooks := .later }
def InsertBackCardSaid : Prop := Claim7.holds Tryd.pinned (.plain (OpenSpec.ofChange insertBackSpec)) insertBackCard

/-- THE TIED CARD OF 'layoutlaw33.InsertCrosses'. -/
def insertCrossesCard : Claim7 := { stood := { row := insertCrossesRow, standIns := [], harness := (true, "8c221827b5a6ebcefb66637eca94f7a8266085fd6f918905cdbbcdf68970c592"), looks := false }, kinds := [], alts := [], laidByText := true, laidKinds := [.data], laidTests := true, laidLooks := .later }
def InsertCrossesCardSaid : Prop := Claim7.holds Tryd.pinned (.plain (OpenSpec.ofChange insertCrossesSpec)) insertCrossesCard

/-- THE SECOND FORM's CARD OF 'layoutlaw32.DualFaces'. -/
def dualFacesUptoCard : Claim7 := { stood := { row := dualFacesUptoRow, standIns := [], harness := (true, "8c221827b5a6ebcefb66637eca94f7a8266085fd6f918905cdbbcdf68970c592"), looks := false }, kinds := [], alts := [], laidByText := true, laidKinds := [.data], laidTests := true, laidLooks := .later }
def DualFacesUptoCardSaid : Prop := Claim7.holds Tryd.pinned (.plain (OpenSpec.upto dualFacesSpec)) dualFacesUptoCard

/-- THE SECOND FORM's CARD OF 'layoutlaw32.DualRoutes'. -/
def dualRoutesUptoCard : Claim7 := { stood := { row := dualRoutesUptoRow, standIns := [], harness := (true, "8c221827b5a6ebcefb66637eca94f7a8266085fd6f918905cdbbcdf68970c592"), looks := false }, kinds := [], alts := [], laidByText := true, laidKinds := [.data], laidTests := true, laidLooks := .later }
def DualRoutesUptoCardSaid : Prop := Claim7.holds Tryd.pinned (.plain (OpenSpec.upto dualRoutesSpec)) dualRoutesUptoCard

/-- THE SECOND FORM's CARD OF 'layoutlaw32.DualCurves'. -/
def dualCurvesUptoCard : Claim7 := { stood := { row := dualCurvesUptoRow, standIns := [], harness := (true, "8c221827b5a6ebcefb66637eca94f7a8266085fd6f918905cdbbcdf68970c592"), looks := false }, kinds := [], alts := [], laidByText := true, laidKinds := [.data], laidTests := true, laidLooks := .later }
def DualCurvesUptoCardSaid : Prop := Claim7.holds Tryd.pinned (.plain (OpenSpec.upto dualCurvesSpec)) dualCurvesUptoCard

/-- THE SECOND FORM's CARD OF 'layoutlaw32.DualBetween'. -/
def dualBetweenUptoCard : Claim7 := { stood := { row := dualBetweenUptoRow, standIns := [], harness := (true, "8c221827b5a6ebcefb66637eca94f7a8266085fd6f918905cdbbcdf68970c592"), looks := false }, kinds := [], alts := [], laidByText := true, laidKinds := [.data], laidTests := true, laidLooks := .later }
def DualBetweenUptoCardSaid : Prop := Claim7.holds Tryd.pinned (.plain (OpenSpec.upto dualBetweenSpec)) dualBetweenUptoCard

/-- THE SECOND FORM's CARD OF 'layoutlaw33.InsertEdges'. -/
def insertEdgesUptoCard : Claim7 := { stood := { row := insertEdgesUptoRow, standIns := [], harness := (true, "8c221827b5a6ebcefb66637eca94f7a8266085fd6f918905cdbbcdf68970c592"), looks := false }, kinds := [], alts := [], laidByText := true, laidKinds := [.data], laidTests := true, laidLooks := .later }
def InsertEdgesUptoCardSaid : Prop := Claim7.holds Tryd.pinned (.plain (OpenSpec.upto insertEdgesSpec)) insertEdgesUptoCard

/-- THE SECOND FORM's CARD OF 'layoutlaw33.InsertSplits'. -/
def insertSplitsUptoCard : Claim7 := { stood := { row := insertSplitsUptoRow, standIns := [], harness := (true, "8c221827b5a6ebcefb66637eca94f7a8266085fd6f918905cdbbcdf68970c592"), looks := false }, kinds := [], alts := [], laidByText := true, laidKinds := [.data], laidTests := true, laidLooks := .later }
def InsertSplitsUptoCardSaid : Prop := Claim7.holds Tryd.pinned (.plain (OpenSpec.upto insertSplitsSpec)) insertSplitsUptoCard

/-- THE SECOND FORM's CARD OF 'layoutlaw33.InsertPaths'. -/
def insertPathsUptoCard : Claim7 := { stood := { row := insertPathsUptoRow, standIns := [], harness := (true, "8c221827b5a6ebcefb66637eca94f7a8266085fd6f918905cdbbcdf68970c592"), looks := false }, kinds := [], alts := [], laidByText := true, laidKinds := [.data], laidTests := true, laidLooks := .later }
def InsertPathsUptoCardSaid : Prop := Claim7.holds Tryd.pinned (.plain (OpenSpec.upto insertPathsSpec)) insertPathsUptoCard

/-- THE SECOND FORM's CARD OF 'layoutlaw33.InsertBack'. -/
def insertBackUptoCard : Claim7 := { stood := { row := insertBackUptoRow, standIns := [], harness := (true, "8c221827b5a6ebcefb66637eca94f7a8266085fd6f918905cdbbcdf68970c592"), looks := false }, kinds := [], alts := [], laidByText := true, laidKinds := [.data], laidTests := true, laidLooks := .later }
def InsertBackUptoCardSaid : Prop := Claim7.holds Tryd.pinned (.plain (OpenSpec.upto insertBackSpec)) insertBackUptoCard

/-- THE SECOND FORM's CARD OF 'layoutlaw33.InsertCrosses'. -/
def insertCrossesUptoCard : Claim7 := { stood := { row := insertCrossesUptoRow, standIns := [], harness := (true, "8c221827b5a6ebcefb66637eca94f7a8266085fd6f918905cdbbcdf68970c592"), looks := false }, kinds := [], alts := [], laidByText := true, laidKinds := [.data], laidTests := true, laidLooks := .later }
def InsertCrossesUptoCardSaid : Prop := Claim7.holds Tryd.pinned (.plain (OpenSpec.upto insertCrossesSpec)) insertCrossesUptoCard
end Rows
end Go.Proofs.YtkedmhafnkafdaaDoor

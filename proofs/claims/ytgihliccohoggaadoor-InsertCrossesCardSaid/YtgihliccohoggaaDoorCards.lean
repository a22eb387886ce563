/-
  DERIVED. GIVEN WITH THE SEED: THE CARDS: each row of YtgihliccohoggaaDoorRows.lean that lists a variable, with what it lists TIED to the program's text (the seventh form; the later family's looks); each row that meets fmt, with fmt's text TOLD by the authors' own Lean function (tested against real Go, not proved from fmt's source: count such statements apart). THE CARD IS WHAT COUNTS. Prove the row's statement (the work); the ties are given (YtgihliccohoggaaDoorTie.lean); close each card by the builder's one call (the guide's Derived/Test/ToyasCard.lean, 'card_holds'). Laid BY PROGRAM, IN A SANDBOX (cutbox-door.mjs). By AI agents, Wed Nov 11 2026. No macro, syntax, notation, axiom, sorry.
-/
import Derived.Test.YtgihliccohoggaaDoorRows
import GoSem.ClaimSeven
namespace Go.Proofs.YtgihliccohoggaaDoor
namespace Rows

/-- THE TIED CARD OF 'layoutlaw33.InsertEdges'. -/
def insertEdgesCard : Claim7 := { stood := { row := insertEdgesRow, standIns := [], harness := (true, "5ab1fd18a9d4781b78e6caecbc9de9e4dcaae63121c0f609bbe8e78b39180112"), looks := false }, kinds := [], alts := [], laidByText := true, laidKinds := [.data], laidTests := true, laidLooks := .later }
def InsertEdgesCardSaid : Prop := Claim7.holds Tryd.pinned (.plain (OpenSpec.ofChange insertEdgesSpec)) insertEdgesCard

/-- THE TIED CARD OF 'layoutlaw33.InsertSplits'. -/
def insertSplitsCard : Claim7 := { stood := { row := insertSplitsRow, standIns := [], harness := (true, "5ab1fd18a9d4781b78e6caecbc9de9e4dcaae63121c0f609bbe8e78b39180112"), looks := false }, kinds := [], alts := [], laidByText := true, laidKinds := [.data], laidTests := true, laidLooks := .later }
def InsertSplitsCardSaid : Prop := Claim7.holds Tryd.pinned (.plain (OpenSpec.ofChange insertSplitsSpec)) insertSplitsCard

/-- THE TIED CARD OF 'layoutlaw33.InsertPaths'. -/
def insertPathsCard : Claim7 := { stood := { row := insertPathsRow, standIns := [], harness := (true, "5ab1fd18a9d4781b78e6caecbc9de9e4dcaae63121c0f609bbe8e78b39180112"), looks := false }, kinds := [], alts := [], laidByText := true, laidKinds := [.data], laidTests := true, laidLooks := .later }
def InsertPathsCardSaid : Prop := Claim7.holds Tryd.pinned (.plain (OpenSpec.ofChange insertPathsSpec)) insertPathsCard

/-- THE TIED CARD OF 'layoutlaw33.InsertBack'. -/
def insertBackCard : Claim7 := { stood := { row := insertBackRow, standIns := [], harness := (true, "5ab1fd18a9d4781b78e6caecbc9de9e4dcaae63121c0f609bbe8e78b39180112"), looks := false }, kinds := [], alts := [], laidByText := true, laidKinds := [.data], laidTests := true, laidLooks := .later }
def InsertBackCardSaid : Prop := Claim7.holds Tryd.pinned (.plain (OpenSpec.ofChange insertBackSpec)) insertBackCard

/-- THE TIED CARD OF 'layoutlaw33.InsertCrosses'. -/
def insertCrossesCard : Claim7 := { stood := { row := insertCrossesRow, standIns := [], harness := (true, "5ab1fd18a9d4781b78e6caecbc9de9e4dcaae63121c0f609bbe8e78b39180112"), looks := false }, kinds := [], alts := [], laidByText := true, laidKinds := [.data], laidTests := true, laidLooks := .later }
def InsertCrossesCardSaid : Prop := Claim7.holds Tryd.pinned (.plain (OpenSpec.ofChange insertCrossesSpec)) insertCrossesCard

/-- THE TIED CARD OF 'layoutlaw35.TriangulateChecks'. -/
def triangulateChecksCard : Claim7 := { stood := { row := triangulateChecksRow, standIns := [], harness := (true, "5ab1fd18a9d4781b78e6caecbc9de9e4dcaae63121c0f609bbe8e78b39180112"), looks := false }, kinds := [], alts := [], laidByText := true, laidKinds := [.data], laidTests := true, laidLooks := .later }
def TriangulateChecksCardSaid : Prop := Claim7.holds Tryd.pinned (.plain (OpenSpec.ofChange triangulateChecksSpec)) triangulateChecksCard

/-- THE TIED CARD OF 'layoutlaw35.TriangulateExtends'. -/
def triangulateExtendsCard : Claim7 := { stood := { row := triangulateExtendsRow, standIns := [], harness := (true, "5ab1fd18a9d4781b78e6caecbc9de9e4dcaae63121c0f609bbe8e78b39180112"), looks := false }, kinds := [], alts := [], laidByText := true, laidKinds := [.data], laidTests := true, laidLooks := .later }
def TriangulateExtendsCardSaid : Prop := Claim7.holds Tryd.pinned (.plain (OpenSpec.ofChange triangulateExtendsSpec)) triangulateExtendsCard

/-- THE TIED CARD OF 'layoutlaw35.TriangulateAgain'. -/
def triangulateAgainCard : Claim7 := { stood := { row := triangulateAgainRow, standIns := [], harness := (true, "5ab1fd18a9d4781b78e6caecbc9de9e4dcaae63121c0f609bbe8e78b39180112"), looks := false }, kinds := [], alts := [], laidByText := true, laidKinds := [.data], laidTests := true, laidLooks := .later }
def TriangulateAgainCardSaid : Prop := Claim7.holds Tryd.pinned (.plain (OpenSpec.ofChange triangulateAgainSpec)) triangulateAgainCard

/-- THE TIED CARD OF 'layoutlaw35.TriangulateRepairs'. -/
def triangulateRepairsCard : Claim7 := { stood := { row := triangulateRepairsRow, standIns := [], harness := (true, "5ab1fd18a9d4781b78e6caecbc9de9e4dcaae63121c0f609bbe8e78b39180112"), looks := false }, kinds := [], alts := [], laidByText := true, laidKinds := [.data], laidTests := true, laidLooks := .later }
def TriangulateRepairsCardSaid : Prop := Claim7.holds Tryd.pinned (.plain (OpenSpec.ofChange triangulateRepairsSpec)) triangulateRepairsCard

/-- THE SECOND FORM's CARD OF 'layoutlaw33.InsertEdges'. -/
def insertEdgesUptoCard : Claim7 := { stood := { row := insertEdgesUptoRow, standIns := [], harness := (true, "5ab1fd18a9d4781b78e6caecbc9de9e4dcaae63121c0f609bbe8e78b39180112"), looks := false }, kinds := [], alts := [], laidByText := true, laidKinds := [.data], laidTests := true, laidLooks := .later }
def InsertEdgesUptoCardSaid : Prop := Claim7.holds Tryd.pinned (.plain (OpenSpec.upto insertEdgesSpec)) insertEdgesUptoCard

/-- THE SECOND FORM's CARD OF 'layoutlaw33.InsertSplits'. -/
def insertSplitsUptoCard : Claim7 := { stood := { row := insertSplitsUptoRow, standIns := [], harness := (true, "5ab1fd18a9d4781b78e6caecbc9de9e4dcaae63121c0f609bbe8e78b39180112"), looks := false }, kinds := [], alts := [], laidByText := true, laidKinds := [.data], laidTests := true, laidLooks := .later }
def InsertSplitsUptoCardSaid : Prop := Claim7.holds Tryd.pinned (.plain (OpenSpec.upto insertSplitsSpec)) insertSplitsUptoCard

/-- THE SECOND FORM's CARD OF 'layoutlaw33.InsertPaths'. -/
def insertPathsUptoCard : Claim7 := { stood := { row := insertPathsUptoRow, standIns := [], harness := (true, "5ab1fd18a9d4781b78e6caecbc9de9e4dcaae63121c0f609bbe8e78b39180112"), looks := false }, kinds := [], alts := [], laidByText := true, laidKinds := [.data], laidTests := true, laidLooks := .later }
def InsertPathsUptoCardSaid : Prop := Claim7.holds Tryd.pinned (.plain (OpenSpec.upto insertPathsSpec)) insertPathsUptoCard

/-- THE SECOND FORM's CARD OF 'layoutlaw33.InsertBack'. -/
def insertBackUptoCard : Claim7 := { stood := { row := insertBackUptoRow, standIns := [], harness := (true, "5ab1fd18a9d4781b78e6caecbc9de9e4dcaae63121c0f609bbe8e78b39180112"), looks := false }, kinds := [], alts := [], laidByText := true, laidKinds := [.data], laidTests := true, laidLooks := .later }
def InsertBackUptoCardSaid : Prop := Claim7.holds Tryd.pinned (.plain (OpenSpec.upto insertBackSpec)) insertBackUptoCard

/-- THE SECOND FORM's CARD OF 'layoutlaw33.InsertCrosses'. -/
def insertCrossesUptoCard : Claim7 := { stood := { row := insertCrossesUptoRow, standIns := [], harness := (true, "5ab1fd18a9d4781b78e6caecbc9de9e4dcaae63121c0f609bbe8e78b39180112"), looks := false }, kinds := [], alts := [], laidByText := true, laidKinds := [.data], laidTests := true, laidLooks := .later }
def InsertCrossesUptoCardSaid : Prop := Claim7.holds Tryd.pinned (.plain (OpenSpec.upto insertCrossesSpec)) insertCrossesUptoCard

/-- THE SECOND FORM's CARD OF 'layoutlaw35.TriangulateChecks'. -/
def triangulateChecksUptoCard : Claim7 := { stood := { row := triangulateChecksUptoRow, standIns := [], harness := (true, "5ab1fd18a9d4781b78e6caecbc9de9e4dcaae63121c0f609bbe8e78b39180112"), looks := false }, kinds := [], alts := [], laidByText := true, laidKinds := [.data], laidTests := true, laidLooks := .later }
def TriangulateChecksUptoCardSaid : Prop := Claim7.holds Tryd.pinned (.plain (OpenSpec.upto triangulateChecksSpec)) triangulateChecksUptoCard

/-- THE SECOND FORM's CARD OF 'layoutlaw35.TriangulateExtends'. -/
def triangulateExtendsUptoCard : Claim7 := { stood := { row := triangulateExtendsUptoRow, standIns := [], harness := (true, "5ab1fd18a9d4781b78e6caecbc9de9e4dcaae63121c0f609bbe8e78b39180112"), looks := false }, kinds := [], alts := [], laidByText := true, laidKinds := [.data], laidTests := true, laidLooks := .later }
def TriangulateExtendsUptoCardSaid : Prop := Claim7.holds Tryd.pinned (.plain (OpenSpec.upto triangulateExtendsSpec)) triangulateExtendsUptoCard

/-- THE SECOND FORM's CARD OF 'layoutlaw35.TriangulateAgain'. -/
def triangulateAgainUptoCard : Claim7 := { stood := { row := triangulateAgainUptoRow, standIns := [], harness := (true, "5ab1fd18a9d4781b78e6caecbc9de9e4dcaae63121c0f609bbe8e78b39180112"), looks := false }, kinds := [], alts := [], laidByText := true, laidKinds := [.data], laidTests := true, laidLooks := .later }
def TriangulateAgainUptoCardSaid : Prop := Claim7.holds Tryd.pinned (.plain (OpenSpec.upto triangulateAgainSpec)) triangulateAgainUptoCard

/-- THE SECOND FORM's CARD OF 'layoutlaw35.TriangulateRepairs'. -/
def triangulateRepairsUptoCard : Claim7 := { stood := { row := triangulateRepairsUptoRow, standIns := [], harness := (true, "5ab1fd18a9d4781b78e6caecbc9de9e4dcaae63121c0f609bbe8e78b39180112"), looks := false }, kinds := [], alts := [], laidByText := true, laidKinds := [.data], laidTests := true, laidLooks := .later }
def TriangulateRepairsUptoCardSaid : Prop := Claim7.holds Tryd.pinned (.plain (OpenSpec.upto triangulateRepairsSpec)) triangulateRepairsUptoCard
end Rows
end Go.Proofs.YtgihliccohoggaaDoor

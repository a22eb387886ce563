/-
  DERIVED. GIVEN WITH THE SEED: THE CARDS: each row of YtgeebcgkjcnneaaDoorRows.lean that lists a variable, with what it lists TIED to the program's text (the seventh form; the later family's looks); each row that meets fmt, with fmt's text TOLD by the authors' own Lean function (tested against real Go, not proved from fmt's source: count such statements apart). THE CARD IS WHAT COUNTS. Prove the row's statement (the work); the ties are given (YtgeebcgkjcnneaaDoorTie.lean); close each card by the builder's one call (the guide's Derived/Test/ToyasCard.lean, 'card_holds'). Laid BY PROGRAM, IN A SANDBOX (cutbox-door.mjs). By AI agents, Wed Nov 11 2026. No macro, syntax, notation, axiom, sorry.
-/
import Derived.Test.YtgeebcgkjcnneaaDoorRows
import GoSem.ClaimSeven
namespace Go.Proofs.YtgeebcgkjcnneaaDoor
namespace Rows

/-- THE TIED CARD OF 'layoutlaw39.ShapeValid'. -/
def shapeValidCard : Claim7 := { stood := { row := shapeValidRow, standIns := [], harness := (true, "58c09a76bd546b4ef4c240e555f74e4d9116ae42699a7dd6743c0456efec58d4"), looks := false }, kinds := [], alts := [], laidByText := true, laidKinds := [.data], laidTests := true, laidLooks := .later }
def ShapeValidCardSaid : Prop := Claim7.holds Tryd.pinned (.plain (OpenSpec.ofChange shapeValidSpec)) shapeValidCard

/-- THE TIED CARD OF 'layoutlaw39.ShapeReverse'. -/
def shapeReverseCard : Claim7 := { stood := { row := shapeReverseRow, standIns := [], harness := (true, "58c09a76bd546b4ef4c240e555f74e4d9116ae42699a7dd6743c0456efec58d4"), looks := false }, kinds := [], alts := [], laidByText := true, laidKinds := [.data], laidTests := true, laidLooks := .later }
def ShapeReverseCardSaid : Prop := Claim7.holds Tryd.pinned (.plain (OpenSpec.ofChange shapeReverseSpec)) shapeReverseCard

/-- THE TIED CARD OF 'layoutlaw39.ShapeMirrors'. -/
def shapeMirrorsCard : Claim7 := { stood := { row := shapeMirrorsRow, standIns := [], harness := (true, "58c09a76bd546b4ef4c240e555f74e4d9116ae42699a7dd6743c0456efec58d4"), looks := false }, kinds := [], alts := [], laidByText := true, laidKinds := [.data], laidTests := true, laidLooks := .later }
def ShapeMirrorsCardSaid : Prop := Claim7.holds Tryd.pinned (.plain (OpenSpec.ofChange shapeMirrorsSpec)) shapeMirrorsCard

/-- THE TIED CARD OF 'layoutlaw39.ShapeBack'. -/
def shapeBackCard : Claim7 := { stood := { row := shapeBackRow, standIns := [], harness := (true, "58c09a76bd546b4ef4c240e555f74e4d9116ae42699a7dd6743c0456efec58d4"), looks := false }, kinds := [], alts := [], laidByText := true, laidKinds := [.data], laidTests := true, laidLooks := .later }
def ShapeBackCardSaid : Prop := Claim7.holds Tryd.pinned (.plain (OpenSpec.ofChange shapeBackSpec)) shapeBackCard

/-- THE TIED CARD OF 'layoutlaw39.ShapeFaces'. -/
def shapeFacesCard : Claim7 := { stood := { row := shapeFacesRow, standIns := [], harness := (true, "58c09a76bd546b4ef4c240e555f74e4d9116ae42699a7dd6743c0456efec58d4"), looks := false }, kinds := [], alts := [], laidByText := true, laidKinds := [.data], laidTests := true, laidLooks := .later }
def ShapeFacesCardSaid : Prop := Claim7.holds Tryd.pinned (.plain (OpenSpec.ofChange shapeFacesSpec)) shapeFacesCard

/-- THE TIED CARD OF 'layoutlaw35.TriangulateChecks'. -/
def triangulateChecksCard : Claim7 := { stood := { row := triangulateChecksRow, standIns := [], harness := (true, "58c09a76bd546b4ef4c240e555f74e4d9116ae42699a7dd6743c0456efec58d4"), looks := false }, kinds := [], alts := [], laidByText := true, laidKinds := [.data], laidTests := true, laidLooks := .later }
def TriangulateChecksCardSaid : Prop := Claim7.holds Tryd.pinned (.plain (OpenSpec.ofChange triangulateChecksSpec)) triangulateChecksCard

/-- THE TIED CARD OF 'layoutlaw35.TriangulateExtends'. -/
def triangulateExtendsCard : Claim7 := { stood := { row := triangulateExtendsRow, standIns := [], harness := (true, "58c09a76bd546b4ef4c240e555f74e4d9116ae42699a7dd6743c0456efec58d4"), looks := false }, kinds := [], alts := [], laidByText := true, laidKinds := [.data], laidTests := true, laidLooks := .later }
def TriangulateExtendsCardSaid : Prop := Claim7.holds Tryd.pinned (.plain (OpenSpec.ofChange triangulateExtendsSpec)) triangulateExtendsCard

/-- THE TIED CARD OF 'layoutlaw35.TriangulateAgain'. -/
def triangulateAgainCard : Claim7 := { stood := { row := triangulateAgainRow, standIns := [], harness := (true, "58c09a76bd546b4ef4c240e555f74e4d9116ae42699a7dd6743c0456efec58d4"), looks := false }, kinds := [], alts := [], laidByText := true, laidKinds := [.data], laidTests := true, laidLooks := .later }
def TriangulateAgainCardSaid : Prop := Claim7.holds Tryd.pinned (.plain (OpenSpec.ofChange triangulateAgainSpec)) triangulateAgainCard

/-- THE TIED CARD OF 'layoutlaw35.TriangulateRepairs'. -/
def triangulateRepairsCard : Claim7 := { stood := { row := triangulateRepairsRow, standIns := [], harness := (true, "58c09a76bd546b4ef4c240e555f74e4d9116ae42699a7dd6743c0456efec58d4"), looks := false }, kinds := [], alts := [], laidByText := true, laidKinds := [.data], laidTests := true, laidLooks := .later }
def TriangulateRepairsCardSaid : Prop := Claim7.holds Tryd.pinned (.plain (OpenSpec.ofChange triangulateRepairsSpec)) triangulateRepairsCard

/-- THE SECOND FORM's CARD OF 'layoutlaw39.ShapeValid'. -/
def shapeValidUptoCard : Claim7 := { stood := { row := shapeValidUptoRow, standIns := [], harness := (true, "58c09a76bd546b4ef4c240e555f74e4d9116ae42699a7dd6743c0456efec58d4"), looks := false }, kinds := [], alts := [], laidByText := true, laidKinds := [.data], laidTests := true, laidLooks := .later }
def ShapeValidUptoCardSaid : Prop := Claim7.holds Tryd.pinned (.plain (OpenSpec.upto shapeValidSpec)) shapeValidUptoCard

/-- THE SECOND FORM's CARD OF 'layoutlaw39.ShapeReverse'. -/
def shapeReverseUptoCard : Claim7 := { stood := { row := shapeReverseUptoRow, standIns := [], harness := (true, "58c09a76bd546b4ef4c240e555f74e4d9116ae42699a7dd6743c0456efec58d4"), looks := false }, kinds := [], alts := [], laidByText := true, laidKinds := [.data], laidTests := true, laidLooks := .later }
def ShapeReverseUptoCardSaid : Prop := Claim7.holds Tryd.pinned (.plain (OpenSpec.upto shapeReverseSpec)) shapeReverseUptoCard

/-- THE SECOND FORM's CARD OF 'layoutlaw39.ShapeMirrors'. -/
def shapeMirrorsUptoCard : Claim7 := { stood := { row := shapeMirrorsUptoRow, standIns := [], harness := (true, "58c09a76bd546b4ef4c240e555f74e4d9116ae42699a7dd6743c0456efec58d4"), looks := false }, kinds := [], alts := [], laidByText := true, laidKinds := [.data], laidTests := true, laidLooks := .later }
def ShapeMirrorsUptoCardSaid : Prop := Claim7.holds Tryd.pinned (.plain (OpenSpec.upto shapeMirrorsSpec)) shapeMirrorsUptoCard

/-- THE SECOND FORM's CARD OF 'layoutlaw39.ShapeBack'. -/
def shapeBackUptoCard : Claim7 := { stood := { row := shapeBackUptoRow, standIns := [], harness := (true, "58c09a76bd546b4ef4c240e555f74e4d9116ae42699a7dd6743c0456efec58d4"), looks := false }, kinds := [], alts := [], laidByText := true, laidKinds := [.data], laidTests := true, laidLooks := .later }
def ShapeBackUptoCardSaid : Prop := Claim7.holds Tryd.pinned (.plain (OpenSpec.upto shapeBackSpec)) shapeBackUptoCard

/-- THE SECOND FORM's CARD OF 'layoutlaw39.ShapeFaces'. -/
def shapeFacesUptoCard : Claim7 := { stood := { row := shapeFacesUptoRow, standIns := [], harness := (true, "58c09a76bd546b4ef4c240e555f74e4d9116ae42699a7dd6743c0456efec58d4"), looks := false }, kinds := [], alts := [], laidByText := true, laidKinds := [.data], laidTests := true, laidLooks := .later }
def ShapeFacesUptoCardSaid : Prop := Claim7.holds Tryd.pinned (.plain (OpenSpec.upto shapeFacesSpec)) shapeFacesUptoCard

/-- THE SECOND FORM's CARD OF 'layoutlaw35.TriangulateChecks'. -/
def triangulateChecksUptoCard : Claim7 := { stood := { row := triangulateChecksUptoRow, standIns := [], harness := (true, "58c09a76bd546b4ef4c240e555f74e4d9116ae42699a7dd6743c0456efec58d4"), looks := false }, kinds := [], alts := [], laidByText := true, laidKinds := [.data], laidTests := true, laidLooks := .later }
def TriangulateChecksUptoCardSaid : Prop := Claim7.holds Tryd.pinned (.plain (OpenSpec.upto triangulateChecksSpec)) triangulateChecksUptoCard

/-- THE SECOND FORM's CARD OF 'layoutlaw35.TriangulateExtends'. -/
def triangulateExtendsUptoCard : Claim7 := { stood := { row := triangulateExtendsUptoRow, standIns := [], harness := (true, "58c09a76bd546b4ef4c240e555f74e4d9116ae42699a7dd6743c0456efec58d4"), looks := false }, kinds := [], alts := [], laidByText := true, laidKinds := [.data], laidTests := true, laidLooks := .later }
def TriangulateExtendsUptoCardSaid : Prop := Claim7.holds Tryd.pinned (.plain (OpenSpec.upto triangulateExtendsSpec)) triangulateExtendsUptoCard

/-- THE SECOND FORM's CARD OF 'layoutlaw35.TriangulateAgain'. -/
def triangulateAgainUptoCard : Claim7 := { stood := { row := triangulateAgainUptoRow, standIns := [], harness := (true, "58c09a76bd546b4ef4c240e555f74e4d9116ae42699a7dd6743c0456efec58d4"), looks := false }, kinds := [], alts := [], laidByText := true, laidKinds := [.data], laidTests := true, laidLooks := .later }
def TriangulateAgainUptoCardSaid : Prop := Claim7.holds Tryd.pinned (.plain (OpenSpec.upto triangulateAgainSpec)) triangulateAgainUptoCard

/-- THE SECOND FORM's CARD OF 'layoutlaw35.TriangulateRepairs'. -/
def triangulateRepairsUptoCard : Claim7 := { stood := { row := triangulateRepairsUptoRow, standIns := [], harness := (true, "58c09a76bd546b4ef4c240e555f74e4d9116ae42699a7dd6743c0456efec58d4"), looks := false }, kinds := [], alts := [], laidByText := true, laidKinds := [.data], laidTests := true, laidLooks := .later }
def TriangulateRepairsUptoCardSaid : Prop := Claim7.holds Tryd.pinned (.plain (OpenSpec.upto triangulateRepairsSpec)) triangulateRepairsUptoCard
end Rows
end Go.Proofs.YtgeebcgkjcnneaaDoor

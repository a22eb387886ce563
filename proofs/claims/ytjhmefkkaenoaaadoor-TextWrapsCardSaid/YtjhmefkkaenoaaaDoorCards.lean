/-
  DERIVED. GIVEN WITH THE SEED: THE CARDS: each row of YtjhmefkkaenoaaaDoorRows.lean that lists a variable, with what it lists TIED to the program's text (the seventh form; the later family's looks); each row that meets fmt, with fmt's text TOLD by the authors' own Lean function (tested against real Go, not proved from fmt's source: count such statements apart). THE CARD IS WHAT COUNTS. Prove the row's statement (the work); the ties are given (YtjhmefkkaenoaaaDoorTie.lean); close each card by the builder's one call (the guide's Derived/Test/ToyasCard.lean, 'card_holds'). Laid BY PROGRAM, IN A SANDBOX (cutbox-door.mjs). By AI agents, Wed Nov 11 2026. No macro, syntax, notation, axiom, sorry.
-/
import Derived.Test.YtjhmefkkaenoaaaDoorRows
import GoSem.ClaimSeven
namespace Go.Proofs.YtjhmefkkaenoaaaDoor
namespace Rows

/-- THE TIED CARD OF 'layoutlaw48.TextMeasures'. -/
def textMeasuresCard : Claim7 := { stood := { row := textMeasuresRow, standIns := [], harness := (true, "d7e11828ec156e45d6fe1e25984aaf35e3af4b9aeabcf0e0198819e274d167eb"), looks := false }, kinds := [], alts := [], laidByText := true, laidKinds := [.data, .pinned], laidTests := true, laidLooks := .later }
def TextMeasuresCardSaid : Prop := Claim7.holds Tryd.pinned (.plain (OpenSpec.ofChange textMeasuresSpec)) textMeasuresCard

/-- THE TIED CARD OF 'layoutlaw48.TextBreaks'. -/
def textBreaksCard : Claim7 := { stood := { row := textBreaksRow, standIns := [], harness := (true, "d7e11828ec156e45d6fe1e25984aaf35e3af4b9aeabcf0e0198819e274d167eb"), looks := false }, kinds := [], alts := [], laidByText := true, laidKinds := [.data, .pinned], laidTests := true, laidLooks := .later }
def TextBreaksCardSaid : Prop := Claim7.holds Tryd.pinned (.plain (OpenSpec.ofChange textBreaksSpec)) textBreaksCard

/-- THE TIED CARD OF 'layoutlaw48.TextWraps'. -/
def textWrapsCard : Claim7 := { stood := { row := textWrapsRow, standIns := [], harness := (true, "d7e11828ec156e45d6fe1e25984aaf35e3af4b9aeabcf0e0198819e274d167eb"), looks := false }, kinds := [], alts := [], laidByText := true, laidKinds := [.data, .pinned], laidTests := true, laidLooks := .later }
def TextWrapsCardSaid : Prop := Claim7.holds Tryd.pinned (.plain (OpenSpec.ofChange textWrapsSpec)) textWrapsCard

/-- THE TIED CARD OF 'layoutlaw48.TextNarrows'. -/
def textNarrowsCard : Claim7 := { stood := { row := textNarrowsRow, standIns := [], harness := (true, "d7e11828ec156e45d6fe1e25984aaf35e3af4b9aeabcf0e0198819e274d167eb"), looks := false }, kinds := [], alts := [], laidByText := true, laidKinds := [.data, .pinned], laidTests := true, laidLooks := .later }
def TextNarrowsCardSaid : Prop := Claim7.holds Tryd.pinned (.plain (OpenSpec.ofChange textNarrowsSpec)) textNarrowsCard

/-- THE TIED CARD OF 'layoutlaw48.TextSizes'. -/
def textSizesCard : Claim7 := { stood := { row := textSizesRow, standIns := [], harness := (true, "d7e11828ec156e45d6fe1e25984aaf35e3af4b9aeabcf0e0198819e274d167eb"), looks := false }, kinds := [], alts := [], laidByText := true, laidKinds := [.data, .pinned], laidTests := true, laidLooks := .later }
def TextSizesCardSaid : Prop := Claim7.holds Tryd.pinned (.plain (OpenSpec.ofChange textSizesSpec)) textSizesCard

/-- THE SECOND FORM's CARD OF 'layoutlaw48.TextMeasures'. -/
def textMeasuresUptoCard : Claim7 := { stood := { row := textMeasuresUptoRow, standIns := [], harness := (true, "d7e11828ec156e45d6fe1e25984aaf35e3af4b9aeabcf0e0198819e274d167eb"), looks := false }, kinds := [], alts := [], laidByText := true, laidKinds := [.data, .pinned], laidTests := true, laidLooks := .later }
def TextMeasuresUptoCardSaid : Prop := Claim7.holds Tryd.pinned (.plain (OpenSpec.upto textMeasuresSpec)) textMeasuresUptoCard

/-- THE SECOND FORM's CARD OF 'layoutlaw48.TextBreaks'. -/
def textBreaksUptoCard : Claim7 := { stood := { row := textBreaksUptoRow, standIns := [], harness := (true, "d7e11828ec156e45d6fe1e25984aaf35e3af4b9aeabcf0e0198819e274d167eb"), looks := false }, kinds := [], alts := [], laidByText := true, laidKinds := [.data, .pinned], laidTests := true, laidLooks := .later }
def TextBreaksUptoCardSaid : Prop := Claim7.holds Tryd.pinned (.plain (OpenSpec.upto textBreaksSpec)) textBreaksUptoCard

/-- THE SECOND FORM's CARD OF 'layoutlaw48.TextWraps'. -/
def textWrapsUptoCard : Claim7 := { stood := { row := textWrapsUptoRow, standIns := [], harness := (true, "d7e11828ec156e45d6fe1e25984aaf35e3af4b9aeabcf0e0198819e274d167eb"), looks := false }, kinds := [], alts := [], laidByText := true, laidKinds := [.data, .pinned], laidTests := true, laidLooks := .later }
def TextWrapsUptoCardSaid : Prop := Claim7.holds Tryd.pinned (.plain (OpenSpec.upto textWrapsSpec)) textWrapsUptoCard

/-- THE SECOND FORM's CARD OF 'layoutlaw48.TextNarrows'. -/
def textNarrowsUptoCard : Claim7 := { stood := { row := textNarrowsUptoRow, standIns := [], harness := (true, "d7e11828ec156e45d6fe1e25984aaf35e3af4b9aeabcf0e0198819e274d167eb"), looks := false }, kinds := [], alts := [], laidByText := true, laidKinds := [.data, .pinned], laidTests := true, laidLooks := .later }
def TextNarrowsUptoCardSaid : Prop := Claim7.holds Tryd.pinned (.plain (OpenSpec.upto textNarrowsSpec)) textNarrowsUptoCard

/-- THE SECOND FORM's CARD OF 'layoutlaw48.TextSizes'. -/
def textSizesUptoCard : Claim7 := { stood := { row := textSizesUptoRow, standIns := [], harness := (true, "d7e11828ec156e45d6fe1e25984aaf35e3af4b9aeabcf0e0198819e274d167eb"), looks := false }, kinds := [], alts := [], laidByText := true, laidKinds := [.data, .pinned], laidTests := true, laidLooks := .later }
def TextSizesUptoCardSaid : Prop := Claim7.holds Tryd.pinned (.plain (OpenSpec.upto textSizesSpec)) textSizesUptoCard
end Rows
end Go.Proofs.YtjhmefkkaenoaaaDoor

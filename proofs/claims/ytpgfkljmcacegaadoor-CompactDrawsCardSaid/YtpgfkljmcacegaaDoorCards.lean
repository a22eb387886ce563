/-
  DERIVED. GIVEN WITH THE SEED: THE CARDS: each row of YtpgfkljmcacegaaDoorRows.lean that lists a variable, with what it lists TIED to the program's text (the seventh form; the later family's looks); each row that meets fmt, with fmt's text TOLD by the authors' own Lean function (tested against real Go, not proved from fmt's source: count such statements apart). THE CARD IS WHAT COUNTS. Prove the row's statement (the work); the ties are given (YtpgfkljmcacegaaDoorTie.lean); close each card by the builder's one call (the guide's Derived/Test/ToyasCard.lean, 'card_holds'). Laid BY PROGRAM, IN A SANDBOX (cutbox-door.mjs). By AI agents, Wed Nov 11 2026. No macro, syntax, notation, axiom, sorry.
-/
import Derived.Test.YtpgfkljmcacegaaDoorRows
import GoSem.ClaimSeven
namespace Go.Proofs.YtpgfkljmcacegaaDoor
namespace Rows

/-- THE TIED CARD OF 'layoutlaw42.CompactDirections'. -/
def compactDirectionsCard : Claim7 := { stood := { row := compactDirectionsRow, standIns := [], harness := (true, "183fcdb23e4fc7bcc421c4fad312c1f94b983f32d2b573f6609cd02a31d9c041"), looks := false }, kinds := [], alts := [], laidByText := true, laidKinds := [.data], laidTests := true, laidLooks := .later }
def CompactDirectionsCardSaid : Prop := Claim7.holds Tryd.pinned (.plain (OpenSpec.ofChange compactDirectionsSpec)) compactDirectionsCard

/-- THE TIED CARD OF 'layoutlaw42.CompactPlaces'. -/
def compactPlacesCard : Claim7 := { stood := { row := compactPlacesRow, standIns := [], harness := (true, "183fcdb23e4fc7bcc421c4fad312c1f94b983f32d2b573f6609cd02a31d9c041"), looks := false }, kinds := [], alts := [], laidByText := true, laidKinds := [.data], laidTests := true, laidLooks := .later }
def CompactPlacesCardSaid : Prop := Claim7.holds Tryd.pinned (.plain (OpenSpec.ofChange compactPlacesSpec)) compactPlacesCard

/-- THE TIED CARD OF 'layoutlaw42.CompactChecks'. -/
def compactChecksCard : Claim7 := { stood := { row := compactChecksRow, standIns := [], harness := (true, "183fcdb23e4fc7bcc421c4fad312c1f94b983f32d2b573f6609cd02a31d9c041"), looks := false }, kinds := [], alts := [], laidByText := true, laidKinds := [.data], laidTests := true, laidLooks := .later }
def CompactChecksCardSaid : Prop := Claim7.holds Tryd.pinned (.plain (OpenSpec.ofChange compactChecksSpec)) compactChecksCard

/-- THE TIED CARD OF 'layoutlaw42.CompactDraws'. -/
def compactDrawsCard : Claim7 := { stood := { row := compactDrawsRow, standIns := [], harness := (true, "183fcdb23e4fc7bcc421c4fad312c1f94b983f32d2b573f6609cd02a31d9c041"), looks := false }, kinds := [], alts := [], laidByText := true, laidKinds := [.data], laidTests := true, laidLooks := .later }
def CompactDrawsCardSaid : Prop := Claim7.holds Tryd.pinned (.plain (OpenSpec.ofChange compactDrawsSpec)) compactDrawsCard

/-- THE TIED CARD OF 'layoutlaw42.CompactOpposite'. -/
def compactOppositeCard : Claim7 := { stood := { row := compactOppositeRow, standIns := [], harness := (true, "183fcdb23e4fc7bcc421c4fad312c1f94b983f32d2b573f6609cd02a31d9c041"), looks := false }, kinds := [], alts := [], laidByText := true, laidKinds := [.data], laidTests := true, laidLooks := .later }
def CompactOppositeCardSaid : Prop := Claim7.holds Tryd.pinned (.plain (OpenSpec.ofChange compactOppositeSpec)) compactOppositeCard

/-- THE SECOND FORM's CARD OF 'layoutlaw42.CompactDirections'. -/
def compactDirectionsUptoCard : Claim7 := { stood := { row := compactDirectionsUptoRow, standIns := [], harness := (true, "183fcdb23e4fc7bcc421c4fad312c1f94b983f32d2b573f6609cd02a31d9c041"), looks := false }, kinds := [], alts := [], laidByText := true, laidKinds := [.data], laidTests := true, laidLooks := .later }
def CompactDirectionsUptoCardSaid : Prop := Claim7.holds Tryd.pinned (.plain (OpenSpec.upto compactDirectionsSpec)) compactDirectionsUptoCard

/-- THE SECOND FORM's CARD OF 'layoutlaw42.CompactPlaces'. -/
def compactPlacesUptoCard : Claim7 := { stood := { row := compactPlacesUptoRow, standIns := [], harness := (true, "183fcdb23e4fc7bcc421c4fad312c1f94b983f32d2b573f6609cd02a31d9c041"), looks := false }, kinds := [], alts := [], laidByText := true, laidKinds := [.data], laidTests := true, laidLooks := .later }
def CompactPlacesUptoCardSaid : Prop := Claim7.holds Tryd.pinned (.plain (OpenSpec.upto compactPlacesSpec)) compactPlacesUptoCard

/-- THE SECOND FORM's CARD OF 'layoutlaw42.CompactChecks'. -/
def compactChecksUptoCard : Claim7 := { stood := { row := compactChecksUptoRow, standIns := [], harness := (true, "183fcdb23e4fc7bcc421c4fad312c1f94b983f32d2b573f6609cd02a31d9c041"), looks := false }, kinds := [], alts := [], laidByText := true, laidKinds := [.data], laidTests := true, laidLooks := .later }
def CompactChecksUptoCardSaid : Prop := Claim7.holds Tryd.pinned (.plain (OpenSpec.upto compactChecksSpec)) compactChecksUptoCard

/-- THE SECOND FORM's CARD OF 'layoutlaw42.CompactDraws'. -/
def compactDrawsUptoCard : Claim7 := { stood := { row := compactDrawsUptoRow, standIns := [], harness := (true, "183fcdb23e4fc7bcc421c4fad312c1f94b983f32d2b573f6609cd02a31d9c041"), looks := false }, kinds := [], alts := [], laidByText := true, laidKinds := [.data], laidTests := true, laidLooks := .later }
def CompactDrawsUptoCardSaid : Prop := Claim7.holds Tryd.pinned (.plain (OpenSpec.upto compactDrawsSpec)) compactDrawsUptoCard

/-- THE SECOND FORM's CARD OF 'layoutlaw42.CompactOpposite'. -/
def compactOppositeUptoCard : Claim7 := { stood := { row := compactOppositeUptoRow, standIns := [], harness := (true, "183fcdb23e4fc7bcc421c4fad312c1f94b983f32d2b573f6609cd02a31d9c041"), looks := false }, kinds := [], alts := [], laidByText := true, laidKinds := [.data], laidTests := true, laidLooks := .later }
def CompactOppositeUptoCardSaid : Prop := Claim7.holds Tryd.pinned (.plain (OpenSpec.upto compactOppositeSpec)) compactOppositeUptoCard
end Rows
end Go.Proofs.YtpgfkljmcacegaaDoor

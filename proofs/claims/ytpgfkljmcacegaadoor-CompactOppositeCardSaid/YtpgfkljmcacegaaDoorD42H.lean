/-
  Contracts of the functions that the law reaches.
-/
import Derived.Test.YtpgfkljmcacegaaDoorD42
import Derived.Test.YtpgfkljmcacegaaDoorVmD
set_option linter.unusedVariables false
set_option linter.unusedSimpArgs false
namespace Go.Vm
open Go.Proofs
noncomputable section
set_option maxRecDepth 100000
theorem seat_ok : SeatOK Tryd.prog tab eqs := ⟨by kernel_rfl, by kernel_rfl, by kernel_rfl⟩
def layoutlaw42_small_P : List (LoopPf layoutlaw42_small_C layoutlaw42_small_As (bodyOf Tryd.f8)) := [⟨4, layoutlaw42_small_A4, layoutlaw42_small_B4, rfl, layoutlaw42_small_R4⟩]
theorem layoutlaw42_small_loops : LoopsOK layoutlaw42_small_C layoutlaw42_small_As (loopsIn (bodyOf Tryd.f8)) := loops_ok layoutlaw42_small_P (by kernel_rfl) (by kernel_rfl)
theorem layoutlaw42_small_cons : ∀ f site c, (layoutlaw42_small_C).con f site = some c → c.Holds Tryd.prog (layoutlaw42_small_C).glob f := by
  intro f site c h; cases h
theorem layoutlaw42_small_holds : Con.Holds Tryd.prog glob 8 layoutlaw42_small_c :=
  fn_holds (C := layoutlaw42_small_C) (A := layoutlaw42_small_As) (outs := [(.tmp 2, true, .bool)]) seat_ok layoutlaw42_small_cons (by kernel_rfl) (by kernel_rfl) layoutlaw42_small_loops (by kernel_rfl) (by kernel_rfl) layoutlaw42_small_eq
def layoutlaw42_square_P : List (LoopPf layoutlaw42_square_C layoutlaw42_square_As (bodyOf Tryd.f21)) := []
theorem layoutlaw42_square_loops : LoopsOK layoutlaw42_square_C layoutlaw42_square_As (loopsIn (bodyOf Tryd.f21)) := loops_ok layoutlaw42_square_P (by kernel_rfl) (by kernel_rfl)
theorem layoutlaw42_square_cons : ∀ f site c, (layoutlaw42_square_C).con f site = some c → c.Holds Tryd.prog (layoutlaw42_square_C).glob f := by
  intro f site c h; cases h
theorem layoutlaw42_square_holds : Con.Holds Tryd.prog glob 21 layoutlaw42_square_c :=
  fn_holds (C := layoutlaw42_square_C) (A := layoutlaw42_square_As) (outs := [(.cell 0 29, true, (.prod (.prod I (.prod (.slice (.prod I (.prod I .unit))) (.prod (.slice (.slice I)) .unit))) (.prod (.slice I) (.prod (.slice .str) (.prod I .unit)))))]) seat_ok layoutlaw42_square_cons (by kernel_rfl) (by kernel_rfl) layoutlaw42_square_loops (by kernel_rfl) (by kernel_rfl) layoutlaw42_square_eq
def rotation_tail_P : List (LoopPf rotation_tail_C rotation_tail_As (bodyOf Tryd.f51)) := []
theorem rotation_tail_loops : LoopsOK rotation_tail_C rotation_tail_As (loopsIn (bodyOf Tryd.f51)) := loops_ok rotation_tail_P (by kernel_rfl) (by kernel_rfl)
theorem rotation_tail_cons : ∀ f site c, (rotation_tail_C).con f site = some c → c.Holds Tryd.prog (rotation_tail_C).glob f := by
  intro f site c h; cases h
theorem rotation_tail_holds : Con.Holds Tryd.prog glob 51 rotation_tail_c :=
  fn_holds (C := rotation_tail_C) (A := rotation_tail_As) (outs := [(.tmp 4, true, I)]) seat_ok rotation_tail_cons (by kernel_rfl) (by kernel_rfl) rotation_tail_loops (by kernel_rfl) (by kernel_rfl) rotation_tail_eq
def rotation_Valid_P : List (LoopPf rotation_Valid_C rotation_Valid_As (bodyOf Tryd.f50)) := [⟨4, rotation_Valid_A4, rotation_Valid_B4, rfl, rotation_Valid_R4⟩, ⟨12, rotation_Valid_A12, rotation_Valid_B12, rfl, rotation_Valid_R12⟩, ⟨15, rotation_Valid_A15, rotation_Valid_B15, rfl, rotation_Valid_R15⟩]
theorem rotation_Valid_loops : LoopsOK rotation_Valid_C rotation_Valid_As (loopsIn (bodyOf Tryd.f50)) := loops_ok rotation_Valid_P (by kernel_rfl) (by kernel_rfl)
theorem rotation_Valid_cons : ∀ f site c, (rotation_Valid_C).con f site = some c → c.Holds Tryd.prog (rotation_Valid_C).glob f := by
  intro f site c h
  unfold rotation_Valid_C at h
  dsimp only at h
  split at h
  · cases h; exact rotation_tail_holds
  · cases h
theorem rotation_Valid_holds : Con.Holds Tryd.prog glob 50 rotation_Valid_c :=
  fn_holds (C := rotation_Valid_C) (A := rotation_Valid_As) (outs := [(.tmp 2, true, .bool)]) seat_ok rotation_Valid_cons (by kernel_rfl) (by kernel_rfl) rotation_Valid_loops (by kernel_rfl) (by kernel_rfl) rotation_Valid_eq
def rotation_Tail_P : List (LoopPf rotation_Tail_C rotation_Tail_As (bodyOf Tryd.f31)) := []
theorem rotation_Tail_loops : LoopsOK rotation_Tail_C rotation_Tail_As (loopsIn (bodyOf Tryd.f31)) := loops_ok rotation_Tail_P (by kernel_rfl) (by kernel_rfl)
theorem rotation_Tail_cons : ∀ f site c, (rotation_Tail_C).con f site = some c → c.Holds Tryd.prog (rotation_Tail_C).glob f := by
  intro f site c h
  unfold rotation_Tail_C at h
  dsimp only at h
  split at h
  · cases h; exact rotation_Valid_holds
  · cases h; exact rotation_tail_holds
  · cases h
theorem rotation_Tail_holds : Con.Holds Tryd.prog glob 31 rotation_Tail_c :=
  fn_holds (C := rotation_Tail_C) (A := rotation_Tail_As) (outs := [(.tmp 4, true, I)]) seat_ok rotation_Tail_cons (by kernel_rfl) (by kernel_rfl) rotation_Tail_loops (by kernel_rfl) (by kernel_rfl) rotation_Tail_eq
def shape_connected_P : List (LoopPf shape_connected_C shape_connected_As (bodyOf Tryd.f74)) := [⟨6, shape_connected_A6, shape_connected_B6, rfl, shape_connected_R6⟩, ⟨11, shape_connected_A11, shape_connected_B11, rfl, shape_connected_R11⟩]
theorem shape_connected_loops : LoopsOK shape_connected_C shape_connected_As (loopsIn (bodyOf Tryd.f74)) := loops_ok shape_connected_P (by kernel_rfl) (by kernel_rfl)
theorem shape_connected_cons : ∀ f site c, (shape_connected_C).con f site = some c → c.Holds Tryd.prog (shape_connected_C).glob f := by
  intro f site c h
  unfold shape_connected_C at h
  dsimp only at h
  split at h
  · cases h; exact rotation_Tail_holds
  · cases h
theorem shape_connected_holds : Con.Holds Tryd.prog glob 74 shape_connected_c :=
  fn_holds (C := shape_connected_C) (A := shape_connected_As) (outs := [(.tmp 2, true, .bool)]) seat_ok shape_connected_cons (by kernel_rfl) (by kernel_rfl) shape_connected_loops (by kernel_rfl) (by kernel_rfl) shape_connected_eq
def rotation_follow_P : List (LoopPf rotation_follow_C rotation_follow_As (bodyOf Tryd.f65)) := [⟨3, rotation_follow_A3, rotation_follow_B3, rfl, rotation_follow_R3⟩, ⟨6, rotation_follow_A6, rotation_follow_B6, rfl, rotation_follow_R6⟩]
theorem rotation_follow_loops : LoopsOK rotation_follow_C rotation_follow_As (loopsIn (bodyOf Tryd.f65)) := loops_ok rotation_follow_P (by kernel_rfl) (by kernel_rfl)
theorem rotation_follow_cons : ∀ f site c, (rotation_follow_C).con f site = some c → c.Holds Tryd.prog (rotation_follow_C).glob f := by
  intro f site c h; cases h
theorem rotation_follow_holds : Con.Holds Tryd.prog glob 65 rotation_follow_c :=
  fn_holds (C := rotation_follow_C) (A := rotation_follow_As) (outs := [(.tmp 2, true, (.slice I))]) seat_ok rotation_follow_cons (by kernel_rfl) (by kernel_rfl) rotation_follow_loops (by kernel_rfl) (by kernel_rfl) rotation_follow_eq
def rotation_Faces_P : List (LoopPf rotation_Faces_C rotation_Faces_As (bodyOf Tryd.f48)) := [⟨7, rotation_Faces_A7, rotation_Faces_B7, rfl, rotation_Faces_R7⟩, ⟨11, rotation_Faces_A11, rotation_Faces_B11, rfl, rotation_Faces_R11⟩]
theorem rotation_Faces_loops : LoopsOK rotation_Faces_C rotation_Faces_As (loopsIn (bodyOf Tryd.f48)) := loops_ok rotation_Faces_P (by kernel_rfl) (by kernel_rfl)
theorem rotation_Faces_cons : ∀ f site c, (rotation_Faces_C).con f site = some c → c.Holds Tryd.prog (rotation_Faces_C).glob f := by
  intro f site c h
  unfold rotation_Faces_C at h
  dsimp only at h
  split at h
  · cases h; exact rotation_Valid_holds
  · cases h; exact rotation_follow_holds
  · cases h
theorem rotation_Faces_holds : Con.Holds Tryd.prog glob 48 rotation_Faces_c :=
  fn_holds (C := rotation_Faces_C) (A := rotation_Faces_As) (outs := [(.tmp 2, true, (.slice (.slice I)))]) seat_ok rotation_Faces_cons (by kernel_rfl) (by kernel_rfl) rotation_Faces_loops (by kernel_rfl) (by kernel_rfl) rotation_Faces_eq
def rotation_components_P : List (LoopPf rotation_components_C rotation_components_As (bodyOf Tryd.f84)) := [⟨4, rotation_components_A4, rotation_components_B4, rfl, rotation_components_R4⟩, ⟨10, rotation_components_A10, rotation_components_B10, rfl, rotation_components_R10⟩, ⟨13, rotation_components_A13, rotation_components_B13, rfl, rotation_components_R13⟩]
theorem rotation_components_loops : LoopsOK rotation_components_C rotation_components_As (loopsIn (bodyOf Tryd.f84)) := loops_ok rotation_components_P (by kernel_rfl) (by kernel_rfl)
theorem rotation_components_cons : ∀ f site c, (rotation_components_C).con f site = some c → c.Holds Tryd.prog (rotation_components_C).glob f := by
  intro f site c h
  unfold rotation_components_C at h
  dsimp only at h
  split at h
  · cases h; exact rotation_tail_holds
  · cases h
theorem rotation_components_holds : Con.Holds Tryd.prog glob 84 rotation_components_c :=
  fn_holds (C := rotation_components_C) (A := rotation_components_As) (outs := [(.tmp 2, true, I)]) seat_ok rotation_components_cons (by kernel_rfl) (by kernel_rfl) rotation_components_loops (by kernel_rfl) (by kernel_rfl) rotation_components_eq
def rotation_Genus_P : List (LoopPf rotation_Genus_C rotation_Genus_As (bodyOf Tryd.f75)) := [⟨5, rotation_Genus_A5, rotation_Genus_B5, rfl, rotation_Genus_R5⟩]
theorem rotation_Genus_loops : LoopsOK rotation_Genus_C rotation_Genus_As (loopsIn (bodyOf Tryd.f75)) := loops_ok rotation_Genus_P (by kernel_rfl) (by kernel_rfl)
theorem rotation_Genus_cons : ∀ f site c, (rotation_Genus_C).con f site = some c → c.Holds Tryd.prog (rotation_Genus_C).glob f := by
  intro f site c h
  unfold rotation_Genus_C at h
  dsimp only at h
  split at h
  · cases h; exact rotation_Faces_holds
  · cases h; exact rotation_Valid_holds
  · cases h; exact rotation_components_holds
  · cases h
theorem rotation_Genus_holds : Con.Holds Tryd.prog glob 75 rotation_Genus_c :=
  fn_holds (C := rotation_Genus_C) (A := rotation_Genus_As) (outs := [(.tmp 2, true, I)]) seat_ok rotation_Genus_cons (by kernel_rfl) (by kernel_rfl) rotation_Genus_loops (by kernel_rfl) (by kernel_rfl) rotation_Genus_eq
def shape_angled_P : List (LoopPf shape_angled_C shape_angled_As (bodyOf Tryd.f76)) := [⟨2, shape_angled_A2, shape_angled_B2, rfl, shape_angled_R2⟩, ⟨6, shape_angled_A6, shape_angled_B6, rfl, shape_angled_R6⟩]
theorem shape_angled_loops : LoopsOK shape_angled_C shape_angled_As (loopsIn (bodyOf Tryd.f76)) := loops_ok shape_angled_P (by kernel_rfl) (by kernel_rfl)
theorem shape_angled_cons : ∀ f site c, (shape_angled_C).con f site = some c → c.Holds Tryd.prog (shape_angled_C).glob f := by
  intro f site c h; cases h
theorem shape_angled_holds : Con.Holds Tryd.prog glob 76 shape_angled_c :=
  fn_holds (C := shape_angled_C) (A := shape_angled_As) (outs := [(.tmp 2, true, .bool)]) seat_ok shape_angled_cons (by kernel_rfl) (by kernel_rfl) shape_angled_loops (by kernel_rfl) (by kernel_rfl) shape_angled_eq
def shape_swapped_P : List (LoopPf shape_swapped_C shape_swapped_As (bodyOf Tryd.f85)) := []
theorem shape_swapped_loops : LoopsOK shape_swapped_C shape_swapped_As (loopsIn (bodyOf Tryd.f85)) := loops_ok shape_swapped_P (by kernel_rfl) (by kernel_rfl)
theorem shape_swapped_cons : ∀ f site c, (shape_swapped_C).con f site = some c → c.Holds Tryd.prog (shape_swapped_C).glob f := by
  intro f site c h; cases h
theorem shape_swapped_holds : Con.Holds Tryd.prog glob 85 shape_swapped_c :=
  fn_holds (C := shape_swapped_C) (A := shape_swapped_As) (outs := [(.tmp 2, true, (.int .u8)), (.tmp 3, true, .bool)]) seat_ok shape_swapped_cons (by kernel_rfl) (by kernel_rfl) shape_swapped_loops (by kernel_rfl) (by kernel_rfl) shape_swapped_eq
def shape_bent_P : List (LoopPf shape_bent_C shape_bent_As (bodyOf Tryd.f77)) := [⟨4, shape_bent_A4, shape_bent_B4, rfl, shape_bent_R4⟩]
theorem shape_bent_loops : LoopsOK shape_bent_C shape_bent_As (loopsIn (bodyOf Tryd.f77)) := loops_ok shape_bent_P (by kernel_rfl) (by kernel_rfl)
theorem shape_bent_cons : ∀ f site c, (shape_bent_C).con f site = some c → c.Holds Tryd.prog (shape_bent_C).glob f := by
  intro f site c h
  unfold shape_bent_C at h
  dsimp only at h
  split at h
  · cases h; exact shape_swapped_holds
  · cases h
theorem shape_bent_holds : Con.Holds Tryd.prog glob 77 shape_bent_c :=
  fn_holds (C := shape_bent_C) (A := shape_bent_As) (outs := [(.tmp 2, true, .bool)]) seat_ok shape_bent_cons (by kernel_rfl) (by kernel_rfl) shape_bent_loops (by kernel_rfl) (by kernel_rfl) shape_bent_eq
def slices_Reverse_byte_P : List (LoopPf slices_Reverse_byte_C slices_Reverse_byte_As (bodyOf Tryd.f86)) := [⟨1, slices_Reverse_byte_A1, slices_Reverse_byte_B1, rfl, slices_Reverse_byte_R1⟩]
theorem slices_Reverse_byte_loops : LoopsOK slices_Reverse_byte_C slices_Reverse_byte_As (loopsIn (bodyOf Tryd.f86)) := loops_ok slices_Reverse_byte_P (by kernel_rfl) (by kernel_rfl)
theorem slices_Reverse_byte_cons : ∀ f site c, (slices_Reverse_byte_C).con f site = some c → c.Holds Tryd.prog (slices_Reverse_byte_C).glob f := by
  intro f site c h; cases h
theorem slices_Reverse_byte_holds : Con.Holds Tryd.prog glob 86 slices_Reverse_byte_c :=
  fn_holds (C := slices_Reverse_byte_C) (A := slices_Reverse_byte_As) (outs := []) seat_ok slices_Reverse_byte_cons (by kernel_rfl) (by kernel_rfl) slices_Reverse_byte_loops (by kernel_rfl) (by kernel_rfl) slices_Reverse_byte_eq
def shape_Reverse_P : List (LoopPf shape_Reverse_C shape_Reverse_As (bodyOf Tryd.f78)) := [⟨4, shape_Reverse_A4, shape_Reverse_B4, rfl, shape_Reverse_R4⟩]
theorem shape_Reverse_loops : LoopsOK shape_Reverse_C shape_Reverse_As (loopsIn (bodyOf Tryd.f78)) := loops_ok shape_Reverse_P (by kernel_rfl) (by kernel_rfl)
theorem shape_Reverse_cons : ∀ f site c, (shape_Reverse_C).con f site = some c → c.Holds Tryd.prog (shape_Reverse_C).glob f := by
  intro f site c h
  unfold shape_Reverse_C at h
  dsimp only at h
  split at h
  · cases h; exact shape_swapped_holds
  · cases h; exact slices_Reverse_byte_holds
  · cases h
theorem shape_Reverse_holds : Con.Holds Tryd.prog glob 78 shape_Reverse_c :=
  fn_holds (C := shape_Reverse_C) (A := shape_Reverse_As) (outs := [(.tmp 2, true, .str)]) seat_ok shape_Reverse_cons (by kernel_rfl) (by kernel_rfl) shape_Reverse_loops (by kernel_rfl) (by kernel_rfl) shape_Reverse_eq
def slices_Index_int_P : List (LoopPf slices_Index_int_C slices_Index_int_As (bodyOf Tryd.f64)) := [⟨2, slices_Index_int_A2, slices_Index_int_B2, rfl, slices_Index_int_R2⟩]
theorem slices_Index_int_loops : LoopsOK slices_Index_int_C slices_Index_int_As (loopsIn (bodyOf Tryd.f64)) := loops_ok slices_Index_int_P (by kernel_rfl) (by kernel_rfl)
theorem slices_Index_int_cons : ∀ f site c, (slices_Index_int_C).con f site = some c → c.Holds Tryd.prog (slices_Index_int_C).glob f := by
  intro f site c h; cases h
theorem slices_Index_int_holds : Con.Holds Tryd.prog glob 64 slices_Index_int_c :=
  fn_holds (C := slices_Index_int_C) (A := slices_Index_int_As) (outs := [(.tmp 4, true, I)]) seat_ok slices_Index_int_cons (by kernel_rfl) (by kernel_rfl) slices_Index_int_loops (by kernel_rfl) (by kernel_rfl) slices_Index_int_eq
def slices_Contains_int_P : List (LoopPf slices_Contains_int_C slices_Contains_int_As (bodyOf Tryd.f79)) := []
theorem slices_Contains_int_loops : LoopsOK slices_Contains_int_C slices_Contains_int_As (loopsIn (bodyOf Tryd.f79)) := loops_ok slices_Contains_int_P (by kernel_rfl) (by kernel_rfl)
theorem slices_Contains_int_cons : ∀ f site c, (slices_Contains_int_C).con f site = some c → c.Holds Tryd.prog (slices_Contains_int_C).glob f := by
  intro f site c h
  unfold slices_Contains_int_C at h
  dsimp only at h
  split at h
  · cases h; exact slices_Index_int_holds
  · cases h
theorem slices_Contains_int_holds : Con.Holds Tryd.prog glob 79 slices_Contains_int_c :=
  fn_holds (C := slices_Contains_int_C) (A := slices_Contains_int_As) (outs := [(.tmp 4, true, .bool)]) seat_ok slices_Contains_int_cons (by kernel_rfl) (by kernel_rfl) slices_Contains_int_loops (by kernel_rfl) (by kernel_rfl) slices_Contains_int_eq
def shape_turn_P : List (LoopPf shape_turn_C shape_turn_As (bodyOf Tryd.f87)) := [⟨3, shape_turn_A3, shape_turn_B3, rfl, shape_turn_R3⟩]
theorem shape_turn_loops : LoopsOK shape_turn_C shape_turn_As (loopsIn (bodyOf Tryd.f87)) := loops_ok shape_turn_P (by kernel_rfl) (by kernel_rfl)
theorem shape_turn_cons : ∀ f site c, (shape_turn_C).con f site = some c → c.Holds Tryd.prog (shape_turn_C).glob f := by
  intro f site c h; cases h
theorem shape_turn_holds : Con.Holds Tryd.prog glob 87 shape_turn_c :=
  fn_holds (C := shape_turn_C) (A := shape_turn_As) (outs := [(.tmp 4, true, I)]) seat_ok shape_turn_cons (by kernel_rfl) (by kernel_rfl) shape_turn_loops (by kernel_rfl) (by kernel_rfl) shape_turn_eq
def shape_turns_P : List (LoopPf shape_turns_C shape_turns_As (bodyOf Tryd.f80)) := [⟨3, shape_turns_A3, shape_turns_B3, rfl, shape_turns_R3⟩]
theorem shape_turns_loops : LoopsOK shape_turns_C shape_turns_As (loopsIn (bodyOf Tryd.f80)) := loops_ok shape_turns_P (by kernel_rfl) (by kernel_rfl)
theorem shape_turns_cons : ∀ f site c, (shape_turns_C).con f site = some c → c.Holds Tryd.prog (shape_turns_C).glob f := by
  intro f site c h
  unfold shape_turns_C at h
  dsimp only at h
  split at h
  · cases h; exact shape_turn_holds
  · cases h
theorem shape_turns_holds : Con.Holds Tryd.prog glob 80 shape_turns_c :=
  fn_holds (C := shape_turns_C) (A := shape_turns_As) (outs := [(.tmp 4, true, I)]) seat_ok shape_turns_cons (by kernel_rfl) (by kernel_rfl) shape_turns_loops (by kernel_rfl) (by kernel_rfl) shape_turns_eq
def shape_valid_P : List (LoopPf shape_valid_C shape_valid_As (bodyOf Tryd.f63)) := [⟨8, shape_valid_A8, shape_valid_B8, rfl, shape_valid_R8⟩, ⟨13, shape_valid_A13, shape_valid_B13, rfl, shape_valid_R13⟩]
theorem shape_valid_loops : LoopsOK shape_valid_C shape_valid_As (loopsIn (bodyOf Tryd.f63)) := loops_ok shape_valid_P (by kernel_rfl) (by kernel_rfl)
theorem shape_valid_cons : ∀ f site c, (shape_valid_C).con f site = some c → c.Holds Tryd.prog (shape_valid_C).glob f := by
  intro f site c h
  unfold shape_valid_C at h
  dsimp only at h
  split at h
  · cases h; exact rotation_Faces_holds
  · cases h; exact rotation_Valid_holds
  · cases h; exact shape_connected_holds
  · cases h; exact rotation_Genus_holds
  · cases h; exact shape_angled_holds
  · cases h; exact shape_bent_holds
  · cases h; exact shape_Reverse_holds
  · cases h; exact slices_Contains_int_holds
  · cases h; exact shape_turns_holds
  · cases h
theorem shape_valid_holds : Con.Holds Tryd.prog glob 63 shape_valid_c :=
  fn_holds (C := shape_valid_C) (A := shape_valid_As) (outs := [(.tmp 2, true, .bool)]) seat_ok shape_valid_cons (by kernel_rfl) (by kernel_rfl) shape_valid_loops (by kernel_rfl) (by kernel_rfl) shape_valid_eq
def shape_Valid_P : List (LoopPf shape_Valid_C shape_Valid_As (bodyOf Tryd.f45)) := []
theorem shape_Valid_loops : LoopsOK shape_Valid_C shape_Valid_As (loopsIn (bodyOf Tryd.f45)) := loops_ok shape_Valid_P (by kernel_rfl) (by kernel_rfl)
theorem shape_Valid_cons : ∀ f site c, (shape_Valid_C).con f site = some c → c.Holds Tryd.prog (shape_Valid_C).glob f := by
  intro f site c h
  unfold shape_Valid_C at h
  dsimp only at h
  split at h
  · cases h; exact shape_valid_holds
  · cases h
theorem shape_Valid_holds : Con.Holds Tryd.prog glob 45 shape_Valid_c :=
  fn_holds (C := shape_Valid_C) (A := shape_Valid_As) (outs := [(.tmp 2, true, I)]) seat_ok shape_Valid_cons (by kernel_rfl) (by kernel_rfl) shape_Valid_loops (by kernel_rfl) (by kernel_rfl) shape_Valid_eq
def shape_Bends_P : List (LoopPf shape_Bends_C shape_Bends_As (bodyOf Tryd.f46)) := [⟨5, shape_Bends_A5, shape_Bends_B5, rfl, shape_Bends_R5⟩]
theorem shape_Bends_loops : LoopsOK shape_Bends_C shape_Bends_As (loopsIn (bodyOf Tryd.f46)) := loops_ok shape_Bends_P (by kernel_rfl) (by kernel_rfl)
theorem shape_Bends_cons : ∀ f site c, (shape_Bends_C).con f site = some c → c.Holds Tryd.prog (shape_Bends_C).glob f := by
  intro f site c h
  unfold shape_Bends_C at h
  dsimp only at h
  split at h
  · cases h; exact shape_valid_holds
  · cases h
theorem shape_Bends_holds : Con.Holds Tryd.prog glob 46 shape_Bends_c :=
  fn_holds (C := shape_Bends_C) (A := shape_Bends_As) (outs := [(.tmp 2, true, I)]) seat_ok shape_Bends_cons (by kernel_rfl) (by kernel_rfl) shape_Bends_loops (by kernel_rfl) (by kernel_rfl) shape_Bends_eq
def compact_straight_P : List (LoopPf compact_straight_C compact_straight_As (bodyOf Tryd.f22)) := []
theorem compact_straight_loops : LoopsOK compact_straight_C compact_straight_As (loopsIn (bodyOf Tryd.f22)) := loops_ok compact_straight_P (by kernel_rfl) (by kernel_rfl)
theorem compact_straight_cons : ∀ f site c, (compact_straight_C).con f site = some c → c.Holds Tryd.prog (compact_straight_C).glob f := by
  intro f site c h
  unfold compact_straight_C at h
  dsimp only at h
  split at h
  · cases h; exact shape_Valid_holds
  · cases h; exact shape_Bends_holds
  · cases h
theorem compact_straight_holds : Con.Holds Tryd.prog glob 22 compact_straight_c :=
  fn_holds (C := compact_straight_C) (A := compact_straight_As) (outs := [(.tmp 2, true, .bool)]) seat_ok compact_straight_cons (by kernel_rfl) (by kernel_rfl) compact_straight_loops (by kernel_rfl) (by kernel_rfl) compact_straight_eq
def rotation_Next_P : List (LoopPf rotation_Next_C rotation_Next_As (bodyOf Tryd.f47)) := []
theorem rotation_Next_loops : LoopsOK rotation_Next_C rotation_Next_As (loopsIn (bodyOf Tryd.f47)) := loops_ok rotation_Next_P (by kernel_rfl) (by kernel_rfl)
theorem rotation_Next_cons : ∀ f site c, (rotation_Next_C).con f site = some c → c.Holds Tryd.prog (rotation_Next_C).glob f := by
  intro f site c h
  unfold rotation_Next_C at h
  dsimp only at h
  split at h
  · cases h; exact rotation_Valid_holds
  · cases h; exact rotation_tail_holds
  · cases h; exact slices_Index_int_holds
  · cases h
theorem rotation_Next_holds : Con.Holds Tryd.prog glob 47 rotation_Next_c :=
  fn_holds (C := rotation_Next_C) (A := rotation_Next_As) (outs := [(.tmp 4, true, I)]) seat_ok rotation_Next_cons (by kernel_rfl) (by kernel_rfl) rotation_Next_loops (by kernel_rfl) (by kernel_rfl) rotation_Next_eq
def compact_directed_P : List (LoopPf compact_directed_C compact_directed_As (bodyOf Tryd.f23)) := [⟨3, compact_directed_A3, compact_directed_B3, rfl, compact_directed_R3⟩, ⟨11, compact_directed_A11, compact_directed_B11, rfl, compact_directed_R11⟩, ⟨16, compact_directed_A16, compact_directed_B16, rfl, compact_directed_R16⟩]
theorem compact_directed_loops : LoopsOK compact_directed_C compact_directed_As (loopsIn (bodyOf Tryd.f23)) := loops_ok compact_directed_P (by kernel_rfl) (by kernel_rfl)
theorem compact_directed_cons : ∀ f site c, (compact_directed_C).con f site = some c → c.Holds Tryd.prog (compact_directed_C).glob f := by
  intro f site c h
  unfold compact_directed_C at h
  dsimp only at h
  split at h
  · cases h; exact rotation_Next_holds
  · cases h
theorem compact_directed_holds : Con.Holds Tryd.prog glob 23 compact_directed_c :=
  fn_holds (C := compact_directed_C) (A := compact_directed_As) (outs := [(.tmp 2, true, (.slice I))]) seat_ok compact_directed_cons (by kernel_rfl) (by kernel_rfl) compact_directed_loops (by kernel_rfl) (by kernel_rfl) compact_directed_eq
def compact_Directions_P : List (LoopPf compact_Directions_C compact_Directions_As (bodyOf Tryd.f10)) := []
theorem compact_Directions_loops : LoopsOK compact_Directions_C compact_Directions_As (loopsIn (bodyOf Tryd.f10)) := loops_ok compact_Directions_P (by kernel_rfl) (by kernel_rfl)
theorem compact_Directions_cons : ∀ f site c, (compact_Directions_C).con f site = some c → c.Holds Tryd.prog (compact_Directions_C).glob f := by
  intro f site c h
  unfold compact_Directions_C at h
  dsimp only at h
  split at h
  · cases h; exact compact_straight_holds
  · cases h; exact compact_directed_holds
  · cases h
theorem compact_Directions_holds : Con.Holds Tryd.prog glob 10 compact_Directions_c :=
  fn_holds (C := compact_Directions_C) (A := compact_Directions_As) (outs := [(.tmp 2, true, (.slice I)), (.tmp 3, true, I)]) seat_ok compact_Directions_cons (by kernel_rfl) (by kernel_rfl) compact_Directions_loops (by kernel_rfl) (by kernel_rfl) compact_Directions_eq
def compact_rectangular_P : List (LoopPf compact_rectangular_C compact_rectangular_As (bodyOf Tryd.f25)) := [⟨4, compact_rectangular_A4, compact_rectangular_B4, rfl, compact_rectangular_R4⟩, ⟨8, compact_rectangular_A8, compact_rectangular_B8, rfl, compact_rectangular_R8⟩, ⟨15, compact_rectangular_A15, compact_rectangular_B15, rfl, compact_rectangular_R15⟩]
theorem compact_rectangular_loops : LoopsOK compact_rectangular_C compact_rectangular_As (loopsIn (bodyOf Tryd.f25)) := loops_ok compact_rectangular_P (by kernel_rfl) (by kernel_rfl)
theorem compact_rectangular_cons : ∀ f site c, (compact_rectangular_C).con f site = some c → c.Holds Tryd.prog (compact_rectangular_C).glob f := by
  intro f site c h
  unfold compact_rectangular_C at h
  dsimp only at h
  split at h
  · cases h; exact rotation_Faces_holds
  · cases h
theorem compact_rectangular_holds : Con.Holds Tryd.prog glob 25 compact_rectangular_c :=
  fn_holds (C := compact_rectangular_C) (A := compact_rectangular_As) (outs := [(.tmp 2, true, .bool)]) seat_ok compact_rectangular_cons (by kernel_rfl) (by kernel_rfl) compact_rectangular_loops (by kernel_rfl) (by kernel_rfl) compact_rectangular_eq
def compact_classes_P : List (LoopPf compact_classes_C compact_classes_As (bodyOf Tryd.f27)) := [⟨3, compact_classes_A3, compact_classes_B3, rfl, compact_classes_R3⟩, ⟨8, compact_classes_A8, compact_classes_B8, rfl, compact_classes_R8⟩, ⟨11, compact_classes_A11, compact_classes_B11, rfl, compact_classes_R11⟩]
theorem compact_classes_loops : LoopsOK compact_classes_C compact_classes_As (loopsIn (bodyOf Tryd.f27)) := loops_ok compact_classes_P (by kernel_rfl) (by kernel_rfl)
theorem compact_classes_cons : ∀ f site c, (compact_classes_C).con f site = some c → c.Holds Tryd.prog (compact_classes_C).glob f := by
  intro f site c h
  unfold compact_classes_C at h
  dsimp only at h
  split at h
  · cases h; exact rotation_Tail_holds
  · cases h
theorem compact_classes_holds : Con.Holds Tryd.prog glob 27 compact_classes_c :=
  fn_holds (C := compact_classes_C) (A := compact_classes_As) (outs := [(.tmp 6, true, (.slice I))]) seat_ok compact_classes_cons (by kernel_rfl) (by kernel_rfl) compact_classes_loops (by kernel_rfl) (by kernel_rfl) compact_classes_eq
def compact_ranks_P : List (LoopPf compact_ranks_C compact_ranks_As (bodyOf Tryd.f26)) := [⟨3, compact_ranks_A3, compact_ranks_B3, rfl, compact_ranks_R3⟩, ⟨5, compact_ranks_A5, compact_ranks_B5, rfl, compact_ranks_R5⟩, ⟨14, compact_ranks_A14, compact_ranks_B14, rfl, compact_ranks_R14⟩]
theorem compact_ranks_loops : LoopsOK compact_ranks_C compact_ranks_As (loopsIn (bodyOf Tryd.f26)) := loops_ok compact_ranks_P (by kernel_rfl) (by kernel_rfl)
theorem compact_ranks_cons : ∀ f site c, (compact_ranks_C).con f site = some c → c.Holds Tryd.prog (compact_ranks_C).glob f := by
  intro f site c h
  unfold compact_ranks_C at h
  dsimp only at h
  split at h
  · cases h; exact rotation_Tail_holds
  · cases h
theorem compact_ranks_holds : Con.Holds Tryd.prog glob 26 compact_ranks_c :=
  fn_holds (C := compact_ranks_C) (A := compact_ranks_As) (outs := [(.tmp 8, true, (.slice I))]) seat_ok compact_ranks_cons (by kernel_rfl) (by kernel_rfl) compact_ranks_loops (by kernel_rfl) (by kernel_rfl) compact_ranks_eq
def compact_Place_P : List (LoopPf compact_Place_C compact_Place_As (bodyOf Tryd.f13)) := [⟨8, compact_Place_A8, compact_Place_B8, rfl, compact_Place_R8⟩]
theorem compact_Place_loops : LoopsOK compact_Place_C compact_Place_As (loopsIn (bodyOf Tryd.f13)) := loops_ok compact_Place_P (by kernel_rfl) (by kernel_rfl)
theorem compact_Place_cons : ∀ f site c, (compact_Place_C).con f site = some c → c.Holds Tryd.prog (compact_Place_C).glob f := by
  intro f site c h
  unfold compact_Place_C at h
  dsimp only at h
  split at h
  · cases h; exact compact_straight_holds
  · cases h; exact compact_directed_holds
  · cases h; exact compact_rectangular_holds
  · cases h; exact compact_ranks_holds
  · cases h; exact compact_classes_holds
  · cases h
theorem compact_Place_holds : Con.Holds Tryd.prog glob 13 compact_Place_c :=
  fn_holds (C := compact_Place_C) (A := compact_Place_As) (outs := [(.tmp 2, true, (.slice (.prod I (.prod I .unit)))), (.tmp 3, true, I)]) seat_ok compact_Place_cons (by kernel_rfl) (by kernel_rfl) compact_Place_loops (by kernel_rfl) (by kernel_rfl) compact_Place_eq
def layoutref14_SameInts_P : List (LoopPf layoutref14_SameInts_C layoutref14_SameInts_As (bodyOf Tryd.f12)) := [⟨4, layoutref14_SameInts_A4, layoutref14_SameInts_B4, rfl, layoutref14_SameInts_R4⟩]
theorem layoutref14_SameInts_loops : LoopsOK layoutref14_SameInts_C layoutref14_SameInts_As (loopsIn (bodyOf Tryd.f12)) := loops_ok layoutref14_SameInts_P (by kernel_rfl) (by kernel_rfl)
theorem layoutref14_SameInts_cons : ∀ f site c, (layoutref14_SameInts_C).con f site = some c → c.Holds Tryd.prog (layoutref14_SameInts_C).glob f := by
  intro f site c h; cases h
theorem layoutref14_SameInts_holds : Con.Holds Tryd.prog glob 12 layoutref14_SameInts_c :=
  fn_holds (C := layoutref14_SameInts_C) (A := layoutref14_SameInts_As) (outs := [(.tmp 4, true, .bool)]) seat_ok layoutref14_SameInts_cons (by kernel_rfl) (by kernel_rfl) layoutref14_SameInts_loops (by kernel_rfl) (by kernel_rfl) layoutref14_SameInts_eq
def layoutlaw42_samePoints_P : List (LoopPf layoutlaw42_samePoints_C layoutlaw42_samePoints_As (bodyOf Tryd.f15)) := [⟨4, layoutlaw42_samePoints_A4, layoutlaw42_samePoints_B4, rfl, layoutlaw42_samePoints_R4⟩]
theorem layoutlaw42_samePoints_loops : LoopsOK layoutlaw42_samePoints_C layoutlaw42_samePoints_As (loopsIn (bodyOf Tryd.f15)) := loops_ok layoutlaw42_samePoints_P (by kernel_rfl) (by kernel_rfl)
theorem layoutlaw42_samePoints_cons : ∀ f site c, (layoutlaw42_samePoints_C).con f site = some c → c.Holds Tryd.prog (layoutlaw42_samePoints_C).glob f := by
  intro f site c h; cases h
theorem layoutlaw42_samePoints_holds : Con.Holds Tryd.prog glob 15 layoutlaw42_samePoints_c :=
  fn_holds (C := layoutlaw42_samePoints_C) (A := layoutlaw42_samePoints_As) (outs := [(.tmp 4, true, .bool)]) seat_ok layoutlaw42_samePoints_cons (by kernel_rfl) (by kernel_rfl) layoutlaw42_samePoints_loops (by kernel_rfl) (by kernel_rfl) layoutlaw42_samePoints_eq
def geom_Valid_P : List (LoopPf geom_Valid_C geom_Valid_As (bodyOf Tryd.f49)) := []
theorem geom_Valid_loops : LoopsOK geom_Valid_C geom_Valid_As (loopsIn (bodyOf Tryd.f49)) := loops_ok geom_Valid_P (by kernel_rfl) (by kernel_rfl)
theorem geom_Valid_cons : ∀ f site c, (geom_Valid_C).con f site = some c → c.Holds Tryd.prog (geom_Valid_C).glob f := by
  intro f site c h; cases h
theorem geom_Valid_holds : Con.Holds Tryd.prog glob 49 geom_Valid_c :=
  fn_holds (C := geom_Valid_C) (A := geom_Valid_As) (outs := [(.tmp 2, true, .bool)]) seat_ok geom_Valid_cons (by kernel_rfl) (by kernel_rfl) geom_Valid_loops (by kernel_rfl) (by kernel_rfl) geom_Valid_eq
def compact_different_P : List (LoopPf compact_different_C compact_different_As (bodyOf Tryd.f29)) := [⟨3, compact_different_A3, compact_different_B3, rfl, compact_different_R3⟩]
theorem compact_different_loops : LoopsOK compact_different_C compact_different_As (loopsIn (bodyOf Tryd.f29)) := loops_ok compact_different_P (by kernel_rfl) (by kernel_rfl)
theorem compact_different_cons : ∀ f site c, (compact_different_C).con f site = some c → c.Holds Tryd.prog (compact_different_C).glob f := by
  intro f site c h
  unfold compact_different_C at h
  dsimp only at h
  split at h
  · cases h; exact geom_Valid_holds
  · cases h
theorem compact_different_holds : Con.Holds Tryd.prog glob 29 compact_different_c :=
  fn_holds (C := compact_different_C) (A := compact_different_As) (outs := [(.tmp 2, true, .bool)]) seat_ok compact_different_cons (by kernel_rfl) (by kernel_rfl) compact_different_loops (by kernel_rfl) (by kernel_rfl) compact_different_eq
def compact_leads_P : List (LoopPf compact_leads_C compact_leads_As (bodyOf Tryd.f30)) := []
theorem compact_leads_loops : LoopsOK compact_leads_C compact_leads_As (loopsIn (bodyOf Tryd.f30)) := loops_ok compact_leads_P (by kernel_rfl) (by kernel_rfl)
theorem compact_leads_cons : ∀ f site c, (compact_leads_C).con f site = some c → c.Holds Tryd.prog (compact_leads_C).glob f := by
  intro f site c h; cases h
theorem compact_leads_holds : Con.Holds Tryd.prog glob 30 compact_leads_c :=
  fn_holds (C := compact_leads_C) (A := compact_leads_As) (outs := [(.tmp 6, true, .bool)]) seat_ok compact_leads_cons (by kernel_rfl) (by kernel_rfl) compact_leads_loops (by kernel_rfl) (by kernel_rfl) compact_leads_eq
def geom_of_P : List (LoopPf geom_of_C geom_of_As (bodyOf Tryd.f66)) := []
theorem geom_of_loops : LoopsOK geom_of_C geom_of_As (loopsIn (bodyOf Tryd.f66)) := loops_ok geom_of_P (by kernel_rfl) (by kernel_rfl)
theorem geom_of_cons : ∀ f site c, (geom_of_C).con f site = some c → c.Holds Tryd.prog (geom_of_C).glob f := by
  intro f site c h
  unfold geom_of_C at h
  dsimp only at h
  split at h
  · cases h; exact geom_Valid_holds
  · cases h
theorem geom_of_holds : Con.Holds Tryd.prog glob 66 geom_of_c :=
  fn_holds (C := geom_of_C) (A := geom_of_As) (outs := [(.cell 2 78, true, (.prod (.prod I (.prod I .unit)) (.prod (.prod I (.prod I .unit)) .unit))), (.tmp 3, true, .bool)]) seat_ok geom_of_cons (by kernel_rfl) (by kernel_rfl) geom_of_loops (by kernel_rfl) (by kernel_rfl) geom_of_eq
def geom_line__spans_P : List (LoopPf geom_line__spans_C geom_line__spans_As (bodyOf Tryd.f81)) := []
theorem geom_line__spans_loops : LoopsOK geom_line__spans_C geom_line__spans_As (loopsIn (bodyOf Tryd.f81)) := loops_ok geom_line__spans_P (by kernel_rfl) (by kernel_rfl)
theorem geom_line__spans_cons : ∀ f site c, (geom_line__spans_C).con f site = some c → c.Holds Tryd.prog (geom_line__spans_C).glob f := by
  intro f site c h; cases h
theorem geom_line__spans_holds : Con.Holds Tryd.prog glob 81 geom_line__spans_c :=
  fn_holds (C := geom_line__spans_C) (A := geom_line__spans_As) (outs := [(.tmp 4, true, .bool)]) seat_ok geom_line__spans_cons (by kernel_rfl) (by kernel_rfl) geom_line__spans_loops (by kernel_rfl) (by kernel_rfl) geom_line__spans_eq
def geom_line__side_P : List (LoopPf geom_line__side_C geom_line__side_As (bodyOf Tryd.f82)) := []
theorem geom_line__side_loops : LoopsOK geom_line__side_C geom_line__side_As (loopsIn (bodyOf Tryd.f82)) := loops_ok geom_line__side_P (by kernel_rfl) (by kernel_rfl)
theorem geom_line__side_cons : ∀ f site c, (geom_line__side_C).con f site = some c → c.Holds Tryd.prog (geom_line__side_C).glob f := by
  intro f site c h; cases h
theorem geom_line__side_holds : Con.Holds Tryd.prog glob 82 geom_line__side_c :=
  fn_holds (C := geom_line__side_C) (A := geom_line__side_As) (outs := [(.tmp 4, true, I)]) seat_ok geom_line__side_cons (by kernel_rfl) (by kernel_rfl) geom_line__side_loops (by kernel_rfl) (by kernel_rfl) geom_line__side_eq
def geom_line__on_P : List (LoopPf geom_line__on_C geom_line__on_As (bodyOf Tryd.f67)) := []
theorem geom_line__on_loops : LoopsOK geom_line__on_C geom_line__on_As (loopsIn (bodyOf Tryd.f67)) := loops_ok geom_line__on_P (by kernel_rfl) (by kernel_rfl)
theorem geom_line__on_cons : ∀ f site c, (geom_line__on_C).con f site = some c → c.Holds Tryd.prog (geom_line__on_C).glob f := by
  intro f site c h
  unfold geom_line__on_C at h
  dsimp only at h
  split at h
  · cases h; exact geom_line__spans_holds
  · cases h; exact geom_line__side_holds
  · cases h
theorem geom_line__on_holds : Con.Holds Tryd.prog glob 67 geom_line__on_c :=
  fn_holds (C := geom_line__on_C) (A := geom_line__on_As) (outs := [(.tmp 4, true, .bool)]) seat_ok geom_line__on_cons (by kernel_rfl) (by kernel_rfl) geom_line__on_loops (by kernel_rfl) (by kernel_rfl) geom_line__on_eq
def geom_On_P : List (LoopPf geom_On_C geom_On_As (bodyOf Tryd.f52)) := []
theorem geom_On_loops : LoopsOK geom_On_C geom_On_As (loopsIn (bodyOf Tryd.f52)) := loops_ok geom_On_P (by kernel_rfl) (by kernel_rfl)
theorem geom_On_cons : ∀ f site c, (geom_On_C).con f site = some c → c.Holds Tryd.prog (geom_On_C).glob f := by
  intro f site c h
  unfold geom_On_C at h
  dsimp only at h
  split at h
  · cases h; exact geom_Valid_holds
  · cases h; exact geom_of_holds
  · cases h; exact geom_line__on_holds
  · cases h
theorem geom_On_holds : Con.Holds Tryd.prog glob 52 geom_On_c :=
  fn_holds (C := geom_On_C) (A := geom_On_As) (outs := [(.tmp 4, true, .bool)]) seat_ok geom_On_cons (by kernel_rfl) (by kernel_rfl) geom_On_loops (by kernel_rfl) (by kernel_rfl) geom_On_eq
def geom_line__parts_P : List (LoopPf geom_line__parts_C geom_line__parts_As (bodyOf Tryd.f68)) := []
theorem geom_line__parts_loops : LoopsOK geom_line__parts_C geom_line__parts_As (loopsIn (bodyOf Tryd.f68)) := loops_ok geom_line__parts_P (by kernel_rfl) (by kernel_rfl)
theorem geom_line__parts_cons : ∀ f site c, (geom_line__parts_C).con f site = some c → c.Holds Tryd.prog (geom_line__parts_C).glob f := by
  intro f site c h
  unfold geom_line__parts_C at h
  dsimp only at h
  split at h
  · cases h; exact geom_line__side_holds
  · cases h
theorem geom_line__parts_holds : Con.Holds Tryd.prog glob 68 geom_line__parts_c :=
  fn_holds (C := geom_line__parts_C) (A := geom_line__parts_As) (outs := [(.tmp 4, true, .bool)]) seat_ok geom_line__parts_cons (by kernel_rfl) (by kernel_rfl) geom_line__parts_loops (by kernel_rfl) (by kernel_rfl) geom_line__parts_eq
def geom_Meet_P : List (LoopPf geom_Meet_C geom_Meet_As (bodyOf Tryd.f53)) := []
theorem geom_Meet_loops : LoopsOK geom_Meet_C geom_Meet_As (loopsIn (bodyOf Tryd.f53)) := loops_ok geom_Meet_P (by kernel_rfl) (by kernel_rfl)
theorem geom_Meet_cons : ∀ f site c, (geom_Meet_C).con f site = some c → c.Holds Tryd.prog (geom_Meet_C).glob f := by
  intro f site c h
  unfold geom_Meet_C at h
  dsimp only at h
  split at h
  · cases h; exact geom_of_holds
  · cases h; exact geom_line__on_holds
  · cases h; exact geom_line__parts_holds
  · cases h
theorem geom_Meet_holds : Con.Holds Tryd.prog glob 53 geom_Meet_c :=
  fn_holds (C := geom_Meet_C) (A := geom_Meet_As) (outs := [(.tmp 4, true, .bool)]) seat_ok geom_Meet_cons (by kernel_rfl) (by kernel_rfl) geom_Meet_loops (by kernel_rfl) (by kernel_rfl) geom_Meet_eq
def compact_apart_P : List (LoopPf compact_apart_C compact_apart_As (bodyOf Tryd.f32)) := []
theorem compact_apart_loops : LoopsOK compact_apart_C compact_apart_As (loopsIn (bodyOf Tryd.f32)) := loops_ok compact_apart_P (by kernel_rfl) (by kernel_rfl)
theorem compact_apart_cons : ∀ f site c, (compact_apart_C).con f site = some c → c.Holds Tryd.prog (compact_apart_C).glob f := by
  intro f site c h
  unfold compact_apart_C at h
  dsimp only at h
  split at h
  · cases h; exact geom_On_holds
  · cases h; exact geom_Meet_holds
  · cases h
theorem compact_apart_holds : Con.Holds Tryd.prog glob 32 compact_apart_c :=
  fn_holds (C := compact_apart_C) (A := compact_apart_As) (outs := [(.tmp 6, true, .bool)]) seat_ok compact_apart_cons (by kernel_rfl) (by kernel_rfl) compact_apart_loops (by kernel_rfl) (by kernel_rfl) compact_apart_eq
def compact_Check_P : List (LoopPf compact_Check_C compact_Check_As (bodyOf Tryd.f16)) := [⟨4, compact_Check_A4, compact_Check_B4, rfl, compact_Check_R4⟩, ⟨10, compact_Check_A10, compact_Check_B10, rfl, compact_Check_R10⟩, ⟨13, compact_Check_A13, compact_Check_B13, rfl, compact_Check_R13⟩]
theorem compact_Check_loops : LoopsOK compact_Check_C compact_Check_As (loopsIn (bodyOf Tryd.f16)) := loops_ok compact_Check_P (by kernel_rfl) (by kernel_rfl)
theorem compact_Check_cons : ∀ f site c, (compact_Check_C).con f site = some c → c.Holds Tryd.prog (compact_Check_C).glob f := by
  intro f site c h
  unfold compact_Check_C at h
  dsimp only at h
  split at h
  · cases h; exact compact_straight_holds
  · cases h; exact compact_directed_holds
  · cases h; exact compact_different_holds
  · cases h; exact compact_leads_holds
  · cases h; exact rotation_Tail_holds
  · cases h; exact compact_apart_holds
  · cases h
theorem compact_Check_holds : Con.Holds Tryd.prog glob 16 compact_Check_c :=
  fn_holds (C := compact_Check_C) (A := compact_Check_As) (outs := [(.tmp 4, true, .bool)]) seat_ok compact_Check_cons (by kernel_rfl) (by kernel_rfl) compact_Check_loops (by kernel_rfl) (by kernel_rfl) compact_Check_eq
def layoutlaw42_awake_P : List (LoopPf layoutlaw42_awake_C layoutlaw42_awake_As (bodyOf Tryd.f9)) := []
theorem layoutlaw42_awake_loops : LoopsOK layoutlaw42_awake_C layoutlaw42_awake_As (loopsIn (bodyOf Tryd.f9)) := loops_ok layoutlaw42_awake_P (by kernel_rfl) (by kernel_rfl)
theorem layoutlaw42_awake_cons : ∀ f site c, (layoutlaw42_awake_C).con f site = some c → c.Holds Tryd.prog (layoutlaw42_awake_C).glob f := by
  intro f site c h
  unfold layoutlaw42_awake_C at h
  dsimp only at h
  split at h
  · cases h; exact compact_Directions_holds
  · cases h; exact layoutref14_SameInts_holds
  · cases h; exact compact_Place_holds
  · cases h; exact layoutlaw42_samePoints_holds
  · cases h; exact compact_Check_holds
  · cases h; exact layoutlaw42_square_holds
  · cases h
theorem layoutlaw42_awake_holds : Con.Holds Tryd.prog glob 9 layoutlaw42_awake_c :=
  fn_holds (C := layoutlaw42_awake_C) (A := layoutlaw42_awake_As) (outs := [(.tmp 0, true, .bool)]) seat_ok layoutlaw42_awake_cons (by kernel_rfl) (by kernel_rfl) layoutlaw42_awake_loops (by kernel_rfl) (by kernel_rfl) layoutlaw42_awake_eq
def layoutref29_Tails_P : List (LoopPf layoutref29_Tails_C layoutref29_Tails_As (bodyOf Tryd.f54)) := [⟨3, layoutref29_Tails_A3, layoutref29_Tails_B3, rfl, layoutref29_Tails_R3⟩]
theorem layoutref29_Tails_loops : LoopsOK layoutref29_Tails_C layoutref29_Tails_As (loopsIn (bodyOf Tryd.f54)) := loops_ok layoutref29_Tails_P (by kernel_rfl) (by kernel_rfl)
theorem layoutref29_Tails_cons : ∀ f site c, (layoutref29_Tails_C).con f site = some c → c.Holds Tryd.prog (layoutref29_Tails_C).glob f := by
  intro f site c h; cases h
theorem layoutref29_Tails_holds : Con.Holds Tryd.prog glob 54 layoutref29_Tails_c :=
  fn_holds (C := layoutref29_Tails_C) (A := layoutref29_Tails_As) (outs := [(.tmp 2, true, (.slice I))]) seat_ok layoutref29_Tails_cons (by kernel_rfl) (by kernel_rfl) layoutref29_Tails_loops (by kernel_rfl) (by kernel_rfl) layoutref29_Tails_eq
def layoutref29_Valid_P : List (LoopPf layoutref29_Valid_C layoutref29_Valid_As (bodyOf Tryd.f39)) := [⟨4, layoutref29_Valid_A4, layoutref29_Valid_B4, rfl, layoutref29_Valid_R4⟩, ⟨13, layoutref29_Valid_A13, layoutref29_Valid_B13, rfl, layoutref29_Valid_R13⟩, ⟨16, layoutref29_Valid_A16, layoutref29_Valid_B16, rfl, layoutref29_Valid_R16⟩]
theorem layoutref29_Valid_loops : LoopsOK layoutref29_Valid_C layoutref29_Valid_As (loopsIn (bodyOf Tryd.f39)) := loops_ok layoutref29_Valid_P (by kernel_rfl) (by kernel_rfl)
theorem layoutref29_Valid_cons : ∀ f site c, (layoutref29_Valid_C).con f site = some c → c.Holds Tryd.prog (layoutref29_Valid_C).glob f := by
  intro f site c h
  unfold layoutref29_Valid_C at h
  dsimp only at h
  split at h
  · cases h; exact layoutref29_Tails_holds
  · cases h
theorem layoutref29_Valid_holds : Con.Holds Tryd.prog glob 39 layoutref29_Valid_c :=
  fn_holds (C := layoutref29_Valid_C) (A := layoutref29_Valid_As) (outs := [(.tmp 2, true, .bool)]) seat_ok layoutref29_Valid_cons (by kernel_rfl) (by kernel_rfl) layoutref29_Valid_loops (by kernel_rfl) (by kernel_rfl) layoutref29_Valid_eq
def layoutref29_Follow_P : List (LoopPf layoutref29_Follow_C layoutref29_Follow_As (bodyOf Tryd.f57)) := [⟨3, layoutref29_Follow_A3, layoutref29_Follow_B3, rfl, layoutref29_Follow_R3⟩, ⟨7, layoutref29_Follow_A7, layoutref29_Follow_B7, rfl, layoutref29_Follow_R7⟩]
theorem layoutref29_Follow_loops : LoopsOK layoutref29_Follow_C layoutref29_Follow_As (loopsIn (bodyOf Tryd.f57)) := loops_ok layoutref29_Follow_P (by kernel_rfl) (by kernel_rfl)
theorem layoutref29_Follow_cons : ∀ f site c, (layoutref29_Follow_C).con f site = some c → c.Holds Tryd.prog (layoutref29_Follow_C).glob f := by
  intro f site c h; cases h
theorem layoutref29_Follow_holds : Con.Holds Tryd.prog glob 57 layoutref29_Follow_c :=
  fn_holds (C := layoutref29_Follow_C) (A := layoutref29_Follow_As) (outs := [(.tmp 2, true, (.slice I))]) seat_ok layoutref29_Follow_cons (by kernel_rfl) (by kernel_rfl) layoutref29_Follow_loops (by kernel_rfl) (by kernel_rfl) layoutref29_Follow_eq
def layoutref29_Other_P : List (LoopPf layoutref29_Other_C layoutref29_Other_As (bodyOf Tryd.f58)) := []
theorem layoutref29_Other_loops : LoopsOK layoutref29_Other_C layoutref29_Other_As (loopsIn (bodyOf Tryd.f58)) := loops_ok layoutref29_Other_P (by kernel_rfl) (by kernel_rfl)
theorem layoutref29_Other_cons : ∀ f site c, (layoutref29_Other_C).con f site = some c → c.Holds Tryd.prog (layoutref29_Other_C).glob f := by
  intro f site c h; cases h
theorem layoutref29_Other_holds : Con.Holds Tryd.prog glob 58 layoutref29_Other_c :=
  fn_holds (C := layoutref29_Other_C) (A := layoutref29_Other_As) (outs := [(.tmp 2, true, I)]) seat_ok layoutref29_Other_cons (by kernel_rfl) (by kernel_rfl) layoutref29_Other_loops (by kernel_rfl) (by kernel_rfl) layoutref29_Other_eq
def layoutref29_Faces_P : List (LoopPf layoutref29_Faces_C layoutref29_Faces_As (bodyOf Tryd.f37)) := [⟨7, layoutref29_Faces_A7, layoutref29_Faces_B7, rfl, layoutref29_Faces_R7⟩, ⟨12, layoutref29_Faces_A12, layoutref29_Faces_B12, rfl, layoutref29_Faces_R12⟩]
theorem layoutref29_Faces_loops : LoopsOK layoutref29_Faces_C layoutref29_Faces_As (loopsIn (bodyOf Tryd.f37)) := loops_ok layoutref29_Faces_P (by kernel_rfl) (by kernel_rfl)
theorem layoutref29_Faces_cons : ∀ f site c, (layoutref29_Faces_C).con f site = some c → c.Holds Tryd.prog (layoutref29_Faces_C).glob f := by
  intro f site c h
  unfold layoutref29_Faces_C at h
  dsimp only at h
  split at h
  · cases h; exact layoutref29_Valid_holds
  · cases h; exact layoutref29_Follow_holds
  · cases h; exact layoutref29_Other_holds
  · cases h
theorem layoutref29_Faces_holds : Con.Holds Tryd.prog glob 37 layoutref29_Faces_c :=
  fn_holds (C := layoutref29_Faces_C) (A := layoutref29_Faces_As) (outs := [(.tmp 2, true, (.slice (.slice I)))]) seat_ok layoutref29_Faces_cons (by kernel_rfl) (by kernel_rfl) layoutref29_Faces_loops (by kernel_rfl) (by kernel_rfl) layoutref29_Faces_eq
def layoutref29_root_P : List (LoopPf layoutref29_root_C layoutref29_root_As (bodyOf Tryd.f72)) := [⟨1, layoutref29_root_A1, layoutref29_root_B1, rfl, layoutref29_root_R1⟩]
theorem layoutref29_root_loops : LoopsOK layoutref29_root_C layoutref29_root_As (loopsIn (bodyOf Tryd.f72)) := loops_ok layoutref29_root_P (by kernel_rfl) (by kernel_rfl)
theorem layoutref29_root_cons : ∀ f site c, (layoutref29_root_C).con f site = some c → c.Holds Tryd.prog (layoutref29_root_C).glob f := by
  intro f site c h; cases h
theorem layoutref29_root_holds : Con.Holds Tryd.prog glob 72 layoutref29_root_c :=
  fn_holds (C := layoutref29_root_C) (A := layoutref29_root_As) (outs := [(.tmp 4, true, I)]) seat_ok layoutref29_root_cons (by kernel_rfl) (by kernel_rfl) layoutref29_root_loops (by kernel_rfl) (by kernel_rfl) layoutref29_root_eq
def layoutref29_Components_P : List (LoopPf layoutref29_Components_C layoutref29_Components_As (bodyOf Tryd.f60)) := [⟨3, layoutref29_Components_A3, layoutref29_Components_B3, rfl, layoutref29_Components_R3⟩, ⟨8, layoutref29_Components_A8, layoutref29_Components_B8, rfl, layoutref29_Components_R8⟩]
theorem layoutref29_Components_loops : LoopsOK layoutref29_Components_C layoutref29_Components_As (loopsIn (bodyOf Tryd.f60)) := loops_ok layoutref29_Components_P (by kernel_rfl) (by kernel_rfl)
theorem layoutref29_Components_cons : ∀ f site c, (layoutref29_Components_C).con f site = some c → c.Holds Tryd.prog (layoutref29_Components_C).glob f := by
  intro f site c h
  unfold layoutref29_Components_C at h
  dsimp only at h
  split at h
  · cases h; exact layoutref29_root_holds
  · cases h
theorem layoutref29_Components_holds : Con.Holds Tryd.prog glob 60 layoutref29_Components_c :=
  fn_holds (C := layoutref29_Components_C) (A := layoutref29_Components_As) (outs := [(.tmp 2, true, I)]) seat_ok layoutref29_Components_cons (by kernel_rfl) (by kernel_rfl) layoutref29_Components_loops (by kernel_rfl) (by kernel_rfl) layoutref29_Components_eq
def layoutref29_Genus_P : List (LoopPf layoutref29_Genus_C layoutref29_Genus_As (bodyOf Tryd.f59)) := [⟨5, layoutref29_Genus_A5, layoutref29_Genus_B5, rfl, layoutref29_Genus_R5⟩]
theorem layoutref29_Genus_loops : LoopsOK layoutref29_Genus_C layoutref29_Genus_As (loopsIn (bodyOf Tryd.f59)) := loops_ok layoutref29_Genus_P (by kernel_rfl) (by kernel_rfl)
theorem layoutref29_Genus_cons : ∀ f site c, (layoutref29_Genus_C).con f site = some c → c.Holds Tryd.prog (layoutref29_Genus_C).glob f := by
  intro f site c h
  unfold layoutref29_Genus_C at h
  dsimp only at h
  split at h
  · cases h; exact layoutref29_Faces_holds
  · cases h; exact layoutref29_Valid_holds
  · cases h; exact layoutref29_Components_holds
  · cases h
theorem layoutref29_Genus_holds : Con.Holds Tryd.prog glob 59 layoutref29_Genus_c :=
  fn_holds (C := layoutref29_Genus_C) (A := layoutref29_Genus_As) (outs := [(.tmp 2, true, I)]) seat_ok layoutref29_Genus_cons (by kernel_rfl) (by kernel_rfl) layoutref29_Genus_loops (by kernel_rfl) (by kernel_rfl) layoutref29_Genus_eq
def layoutref29_Planar_P : List (LoopPf layoutref29_Planar_C layoutref29_Planar_As (bodyOf Tryd.f40)) := []
theorem layoutref29_Planar_loops : LoopsOK layoutref29_Planar_C layoutref29_Planar_As (loopsIn (bodyOf Tryd.f40)) := loops_ok layoutref29_Planar_P (by kernel_rfl) (by kernel_rfl)
theorem layoutref29_Planar_cons : ∀ f site c, (layoutref29_Planar_C).con f site = some c → c.Holds Tryd.prog (layoutref29_Planar_C).glob f := by
  intro f site c h
  unfold layoutref29_Planar_C at h
  dsimp only at h
  split at h
  · cases h; exact layoutref29_Genus_holds
  · cases h; exact layoutref29_Components_holds
  · cases h
theorem layoutref29_Planar_holds : Con.Holds Tryd.prog glob 40 layoutref29_Planar_c :=
  fn_holds (C := layoutref29_Planar_C) (A := layoutref29_Planar_As) (outs := [(.tmp 2, true, .bool)]) seat_ok layoutref29_Planar_cons (by kernel_rfl) (by kernel_rfl) layoutref29_Planar_loops (by kernel_rfl) (by kernel_rfl) layoutref29_Planar_eq
def layoutref39_sums_P : List (LoopPf layoutref39_sums_C layoutref39_sums_As (bodyOf Tryd.f41)) := [⟨2, layoutref39_sums_A2, layoutref39_sums_B2, rfl, layoutref39_sums_R2⟩, ⟨6, layoutref39_sums_A6, layoutref39_sums_B6, rfl, layoutref39_sums_R6⟩]
theorem layoutref39_sums_loops : LoopsOK layoutref39_sums_C layoutref39_sums_As (loopsIn (bodyOf Tryd.f41)) := loops_ok layoutref39_sums_P (by kernel_rfl) (by kernel_rfl)
theorem layoutref39_sums_cons : ∀ f site c, (layoutref39_sums_C).con f site = some c → c.Holds Tryd.prog (layoutref39_sums_C).glob f := by
  intro f site c h; cases h
theorem layoutref39_sums_holds : Con.Holds Tryd.prog glob 41 layoutref39_sums_c :=
  fn_holds (C := layoutref39_sums_C) (A := layoutref39_sums_As) (outs := [(.tmp 2, true, .bool)]) seat_ok layoutref39_sums_cons (by kernel_rfl) (by kernel_rfl) layoutref39_sums_loops (by kernel_rfl) (by kernel_rfl) layoutref39_sums_eq
def layoutref39_exchange_P : List (LoopPf layoutref39_exchange_C layoutref39_exchange_As (bodyOf Tryd.f73)) := []
theorem layoutref39_exchange_loops : LoopsOK layoutref39_exchange_C layoutref39_exchange_As (loopsIn (bodyOf Tryd.f73)) := loops_ok layoutref39_exchange_P (by kernel_rfl) (by kernel_rfl)
theorem layoutref39_exchange_cons : ∀ f site c, (layoutref39_exchange_C).con f site = some c → c.Holds Tryd.prog (layoutref39_exchange_C).glob f := by
  intro f site c h; cases h
theorem layoutref39_exchange_holds : Con.Holds Tryd.prog glob 73 layoutref39_exchange_c :=
  fn_holds (C := layoutref39_exchange_C) (A := layoutref39_exchange_As) (outs := [(.tmp 2, true, (.int .u8))]) seat_ok layoutref39_exchange_cons (by kernel_rfl) (by kernel_rfl) layoutref39_exchange_loops (by kernel_rfl) (by kernel_rfl) layoutref39_exchange_eq
def layoutref39_Reverse_P : List (LoopPf layoutref39_Reverse_C layoutref39_Reverse_As (bodyOf Tryd.f61)) := [⟨3, layoutref39_Reverse_A3, layoutref39_Reverse_B3, rfl, layoutref39_Reverse_R3⟩]
theorem layoutref39_Reverse_loops : LoopsOK layoutref39_Reverse_C layoutref39_Reverse_As (loopsIn (bodyOf Tryd.f61)) := loops_ok layoutref39_Reverse_P (by kernel_rfl) (by kernel_rfl)
theorem layoutref39_Reverse_cons : ∀ f site c, (layoutref39_Reverse_C).con f site = some c → c.Holds Tryd.prog (layoutref39_Reverse_C).glob f := by
  intro f site c h
  unfold layoutref39_Reverse_C at h
  dsimp only at h
  split at h
  · cases h; exact layoutref39_exchange_holds
  · cases h
theorem layoutref39_Reverse_holds : Con.Holds Tryd.prog glob 61 layoutref39_Reverse_c :=
  fn_holds (C := layoutref39_Reverse_C) (A := layoutref39_Reverse_As) (outs := [(.tmp 2, true, .str)]) seat_ok layoutref39_Reverse_cons (by kernel_rfl) (by kernel_rfl) layoutref39_Reverse_loops (by kernel_rfl) (by kernel_rfl) layoutref39_Reverse_eq
def layoutref39_bends_P : List (LoopPf layoutref39_bends_C layoutref39_bends_As (bodyOf Tryd.f42)) := [⟨2, layoutref39_bends_A2, layoutref39_bends_B2, rfl, layoutref39_bends_R2⟩, ⟨7, layoutref39_bends_A7, layoutref39_bends_B7, rfl, layoutref39_bends_R7⟩]
theorem layoutref39_bends_loops : LoopsOK layoutref39_bends_C layoutref39_bends_As (loopsIn (bodyOf Tryd.f42)) := loops_ok layoutref39_bends_P (by kernel_rfl) (by kernel_rfl)
theorem layoutref39_bends_cons : ∀ f site c, (layoutref39_bends_C).con f site = some c → c.Holds Tryd.prog (layoutref39_bends_C).glob f := by
  intro f site c h
  unfold layoutref39_bends_C at h
  dsimp only at h
  split at h
  · cases h; exact layoutref39_Reverse_holds
  · cases h
theorem layoutref39_bends_holds : Con.Holds Tryd.prog glob 42 layoutref39_bends_c :=
  fn_holds (C := layoutref39_bends_C) (A := layoutref39_bends_As) (outs := [(.tmp 2, true, .bool)]) seat_ok layoutref39_bends_cons (by kernel_rfl) (by kernel_rfl) layoutref39_bends_loops (by kernel_rfl) (by kernel_rfl) layoutref39_bends_eq
def layoutref39_has_P : List (LoopPf layoutref39_has_C layoutref39_has_As (bodyOf Tryd.f43)) := [⟨2, layoutref39_has_A2, layoutref39_has_B2, rfl, layoutref39_has_R2⟩]
theorem layoutref39_has_loops : LoopsOK layoutref39_has_C layoutref39_has_As (loopsIn (bodyOf Tryd.f43)) := loops_ok layoutref39_has_P (by kernel_rfl) (by kernel_rfl)
theorem layoutref39_has_cons : ∀ f site c, (layoutref39_has_C).con f site = some c → c.Holds Tryd.prog (layoutref39_has_C).glob f := by
  intro f site c h; cases h
theorem layoutref39_has_holds : Con.Holds Tryd.prog glob 43 layoutref39_has_c :=
  fn_holds (C := layoutref39_has_C) (A := layoutref39_has_As) (outs := [(.tmp 4, true, .bool)]) seat_ok layoutref39_has_cons (by kernel_rfl) (by kernel_rfl) layoutref39_has_loops (by kernel_rfl) (by kernel_rfl) layoutref39_has_eq
def layoutref39_bent_P : List (LoopPf layoutref39_bent_C layoutref39_bent_As (bodyOf Tryd.f62)) := [⟨3, layoutref39_bent_A3, layoutref39_bent_B3, rfl, layoutref39_bent_R3⟩]
theorem layoutref39_bent_loops : LoopsOK layoutref39_bent_C layoutref39_bent_As (loopsIn (bodyOf Tryd.f62)) := loops_ok layoutref39_bent_P (by kernel_rfl) (by kernel_rfl)
theorem layoutref39_bent_cons : ∀ f site c, (layoutref39_bent_C).con f site = some c → c.Holds Tryd.prog (layoutref39_bent_C).glob f := by
  intro f site c h; cases h
theorem layoutref39_bent_holds : Con.Holds Tryd.prog glob 62 layoutref39_bent_c :=
  fn_holds (C := layoutref39_bent_C) (A := layoutref39_bent_As) (outs := [(.tmp 2, true, I)]) seat_ok layoutref39_bent_cons (by kernel_rfl) (by kernel_rfl) layoutref39_bent_loops (by kernel_rfl) (by kernel_rfl) layoutref39_bent_eq
def layoutref39_turns_P : List (LoopPf layoutref39_turns_C layoutref39_turns_As (bodyOf Tryd.f44)) := [⟨3, layoutref39_turns_A3, layoutref39_turns_B3, rfl, layoutref39_turns_R3⟩]
theorem layoutref39_turns_loops : LoopsOK layoutref39_turns_C layoutref39_turns_As (loopsIn (bodyOf Tryd.f44)) := loops_ok layoutref39_turns_P (by kernel_rfl) (by kernel_rfl)
theorem layoutref39_turns_cons : ∀ f site c, (layoutref39_turns_C).con f site = some c → c.Holds Tryd.prog (layoutref39_turns_C).glob f := by
  intro f site c h
  unfold layoutref39_turns_C at h
  dsimp only at h
  split at h
  · cases h; exact layoutref39_bent_holds
  · cases h
theorem layoutref39_turns_holds : Con.Holds Tryd.prog glob 44 layoutref39_turns_c :=
  fn_holds (C := layoutref39_turns_C) (A := layoutref39_turns_As) (outs := [(.tmp 4, true, I)]) seat_ok layoutref39_turns_cons (by kernel_rfl) (by kernel_rfl) layoutref39_turns_loops (by kernel_rfl) (by kernel_rfl) layoutref39_turns_eq
def layoutref39_Valid_P : List (LoopPf layoutref39_Valid_C layoutref39_Valid_As (bodyOf Tryd.f19)) := [⟨8, layoutref39_Valid_A8, layoutref39_Valid_B8, rfl, layoutref39_Valid_R8⟩]
theorem layoutref39_Valid_loops : LoopsOK layoutref39_Valid_C layoutref39_Valid_As (loopsIn (bodyOf Tryd.f19)) := loops_ok layoutref39_Valid_P (by kernel_rfl) (by kernel_rfl)
theorem layoutref39_Valid_cons : ∀ f site c, (layoutref39_Valid_C).con f site = some c → c.Holds Tryd.prog (layoutref39_Valid_C).glob f := by
  intro f site c h
  unfold layoutref39_Valid_C at h
  dsimp only at h
  split at h
  · cases h; exact layoutref29_Faces_holds
  · cases h; exact layoutref29_Valid_holds
  · cases h; exact layoutref29_Planar_holds
  · cases h; exact layoutref39_sums_holds
  · cases h; exact layoutref39_bends_holds
  · cases h; exact layoutref39_has_holds
  · cases h; exact layoutref39_turns_holds
  · cases h
theorem layoutref39_Valid_holds : Con.Holds Tryd.prog glob 19 layoutref39_Valid_c :=
  fn_holds (C := layoutref39_Valid_C) (A := layoutref39_Valid_As) (outs := [(.tmp 2, true, I)]) seat_ok layoutref39_Valid_cons (by kernel_rfl) (by kernel_rfl) layoutref39_Valid_loops (by kernel_rfl) (by kernel_rfl) layoutref39_Valid_eq
def layoutref39_Bends_P : List (LoopPf layoutref39_Bends_C layoutref39_Bends_As (bodyOf Tryd.f20)) := [⟨5, layoutref39_Bends_A5, layoutref39_Bends_B5, rfl, layoutref39_Bends_R5⟩]
theorem layoutref39_Bends_loops : LoopsOK layoutref39_Bends_C layoutref39_Bends_As (loopsIn (bodyOf Tryd.f20)) := loops_ok layoutref39_Bends_P (by kernel_rfl) (by kernel_rfl)
theorem layoutref39_Bends_cons : ∀ f site c, (layoutref39_Bends_C).con f site = some c → c.Holds Tryd.prog (layoutref39_Bends_C).glob f := by
  intro f site c h
  unfold layoutref39_Bends_C at h
  dsimp only at h
  split at h
  · cases h; exact layoutref39_Valid_holds
  · cases h
theorem layoutref39_Bends_holds : Con.Holds Tryd.prog glob 20 layoutref39_Bends_c :=
  fn_holds (C := layoutref39_Bends_C) (A := layoutref39_Bends_As) (outs := [(.tmp 2, true, I)]) seat_ok layoutref39_Bends_cons (by kernel_rfl) (by kernel_rfl) layoutref39_Bends_loops (by kernel_rfl) (by kernel_rfl) layoutref39_Bends_eq
def layoutref42_Straight_P : List (LoopPf layoutref42_Straight_C layoutref42_Straight_As (bodyOf Tryd.f24)) := []
def layoutref42_Directions_P : List (LoopPf layoutref42_Directions_C layoutref42_Directions_As (bodyOf Tryd.f11)) := [⟨6, layoutref42_Directions_A6, layoutref42_Directions_B6, rfl, layoutref42_Directions_R6⟩, ⟨12, layoutref42_Directions_A12, layoutref42_Directions_B12, rfl, layoutref42_Directions_R12⟩, ⟨15, layoutref42_Directions_A15, layoutref42_Directions_B15, rfl, layoutref42_Directions_R15⟩, ⟨19, layoutref42_Directions_A19, layoutref42_Directions_B19, rfl, layoutref42_Directions_R19⟩]
def layoutlaw42_CompactDirections_P : List (LoopPf layoutlaw42_CompactDirections_C layoutlaw42_CompactDirections_As (bodyOf Tryd.f3)) := []
def layoutlaw42_CompactOpposite_P : List (LoopPf layoutlaw42_CompactOpposite_C layoutlaw42_CompactOpposite_As (bodyOf Tryd.f7)) := [⟨7, layoutlaw42_CompactOpposite_A7, layoutlaw42_CompactOpposite_B7, rfl, layoutlaw42_CompactOpposite_R7⟩, ⟨11, layoutlaw42_CompactOpposite_A11, layoutlaw42_CompactOpposite_B11, rfl, layoutlaw42_CompactOpposite_R11⟩]
theorem layoutlaw42_CompactOpposite_loops : LoopsOK layoutlaw42_CompactOpposite_C layoutlaw42_CompactOpposite_As (loopsIn (bodyOf Tryd.f7)) := loops_ok layoutlaw42_CompactOpposite_P (by kernel_rfl) (by kernel_rfl)
theorem layoutlaw42_CompactOpposite_cons : ∀ f site c, (layoutlaw42_CompactOpposite_C).con f site = some c → c.Holds Tryd.prog (layoutlaw42_CompactOpposite_C).glob f := by
  intro f site c h
  unfold layoutlaw42_CompactOpposite_C at h
  dsimp only at h
  split at h
  · cases h; exact layoutlaw42_small_holds
  · cases h; exact layoutlaw42_awake_holds
  · cases h; exact compact_Directions_holds
  · cases h; exact layoutref39_Valid_holds
  · cases h; exact layoutref39_Bends_holds
  · cases h
theorem layoutlaw42_CompactOpposite_holds : Con.Holds Tryd.prog glob 7 layoutlaw42_CompactOpposite_c :=
  fn_holds (C := layoutlaw42_CompactOpposite_C) (A := layoutlaw42_CompactOpposite_As) (outs := [(.tmp 2, true, .bool)]) seat_ok layoutlaw42_CompactOpposite_cons (by kernel_rfl) (by kernel_rfl) layoutlaw42_CompactOpposite_loops (by kernel_rfl) (by kernel_rfl) layoutlaw42_CompactOpposite_eq
end
end Go.Vm

/-
  Contracts of the functions that the law reaches.
-/
import Derived.Test.YtgeebcgkjcnneaaDoorD39S
import Derived.Test.YtgeebcgkjcnneaaDoorVmC
set_option linter.unusedVariables false
set_option linter.unusedSimpArgs false
namespace Go.Vm
open Go.Proofs
noncomputable section
set_option maxRecDepth 100000
theorem seat_ok : SeatOK Tryd.prog tab eqs := ⟨by kernel_rfl, by kernel_rfl, by kernel_rfl⟩
def layoutlaw39_small_P : List (LoopPf layoutlaw39_small_C layoutlaw39_small_As (bodyOf Tryd.f12)) := [⟨4, layoutlaw39_small_A4, layoutlaw39_small_B4, rfl, layoutlaw39_small_R4⟩]
theorem layoutlaw39_small_loops : LoopsOK layoutlaw39_small_C layoutlaw39_small_As (loopsIn (bodyOf Tryd.f12)) := loops_ok layoutlaw39_small_P (by kernel_rfl) (by kernel_rfl)
theorem layoutlaw39_small_cons : ∀ f site c, (layoutlaw39_small_C).con f site = some c → c.Holds Tryd.prog (layoutlaw39_small_C).glob f := by
  intro f site c h; cases h
theorem layoutlaw39_small_holds : Con.Holds Tryd.prog glob 12 layoutlaw39_small_c :=
  fn_holds (C := layoutlaw39_small_C) (A := layoutlaw39_small_As) (outs := [(.tmp 2, true, .bool)]) seat_ok layoutlaw39_small_cons (by kernel_rfl) (by kernel_rfl) layoutlaw39_small_loops (by kernel_rfl) (by kernel_rfl) layoutlaw39_small_eq

def layoutlaw39_square_P : List (LoopPf layoutlaw39_square_C layoutlaw39_square_As (bodyOf Tryd.f35)) := []
theorem layoutlaw39_square_loops : LoopsOK layoutlaw39_square_C layoutlaw39_square_As (loopsIn (bodyOf Tryd.f35)) := loops_ok layoutlaw39_square_P (by kernel_rfl) (by kernel_rfl)
theorem layoutlaw39_square_cons : ∀ f site c, (layoutlaw39_square_C).con f site = some c → c.Holds Tryd.prog (layoutlaw39_square_C).glob f := by
  intro f site c h; cases h
theorem layoutlaw39_square_holds : Con.Holds Tryd.prog glob 35 layoutlaw39_square_c :=
  fn_holds (C := layoutlaw39_square_C) (A := layoutlaw39_square_As) (outs := [(.cell 0 29, true, (.prod (.prod I (.prod (.slice (.prod I (.prod I .unit))) (.prod (.slice (.slice I)) .unit))) (.prod (.slice I) (.prod (.slice .str) (.prod I .unit)))))]) seat_ok layoutlaw39_square_cons (by kernel_rfl) (by kernel_rfl) layoutlaw39_square_loops (by kernel_rfl) (by kernel_rfl) layoutlaw39_square_eq

def rotation_tail_P : List (LoopPf rotation_tail_C rotation_tail_As (bodyOf Tryd.f86)) := []
theorem rotation_tail_loops : LoopsOK rotation_tail_C rotation_tail_As (loopsIn (bodyOf Tryd.f86)) := loops_ok rotation_tail_P (by kernel_rfl) (by kernel_rfl)
theorem rotation_tail_cons : ∀ f site c, (rotation_tail_C).con f site = some c → c.Holds Tryd.prog (rotation_tail_C).glob f := by
  intro f site c h; cases h
theorem rotation_tail_holds : Con.Holds Tryd.prog glob 86 rotation_tail_c :=
  fn_holds (C := rotation_tail_C) (A := rotation_tail_As) (outs := [(.tmp 4, true, I)]) seat_ok rotation_tail_cons (by kernel_rfl) (by kernel_rfl) rotation_tail_loops (by kernel_rfl) (by kernel_rfl) rotation_tail_eq

def rotation_Valid_P : List (LoopPf rotation_Valid_C rotation_Valid_As (bodyOf Tryd.f60)) := [⟨4, rotation_Valid_A4, rotation_Valid_B4, rfl, rotation_Valid_R4⟩, ⟨12, rotation_Valid_A12, rotation_Valid_B12, rfl, rotation_Valid_R12⟩, ⟨15, rotation_Valid_A15, rotation_Valid_B15, rfl, rotation_Valid_R15⟩]
theorem rotation_Valid_loops : LoopsOK rotation_Valid_C rotation_Valid_As (loopsIn (bodyOf Tryd.f60)) := loops_ok rotation_Valid_P (by kernel_rfl) (by kernel_rfl)
theorem rotation_Valid_cons : ∀ f site c, (rotation_Valid_C).con f site = some c → c.Holds Tryd.prog (rotation_Valid_C).glob f := by
  intro f site c h
  unfold rotation_Valid_C at h
  dsimp only at h
  split at h
  · cases h; exact rotation_tail_holds
  · cases h
theorem rotation_Valid_holds : Con.Holds Tryd.prog glob 60 rotation_Valid_c :=
  fn_holds (C := rotation_Valid_C) (A := rotation_Valid_As) (outs := [(.tmp 2, true, .bool)]) seat_ok rotation_Valid_cons (by kernel_rfl) (by kernel_rfl) rotation_Valid_loops (by kernel_rfl) (by kernel_rfl) rotation_Valid_eq

def rotation_Tail_P : List (LoopPf rotation_Tail_C rotation_Tail_As (bodyOf Tryd.f78)) := []
theorem rotation_Tail_loops : LoopsOK rotation_Tail_C rotation_Tail_As (loopsIn (bodyOf Tryd.f78)) := loops_ok rotation_Tail_P (by kernel_rfl) (by kernel_rfl)
theorem rotation_Tail_cons : ∀ f site c, (rotation_Tail_C).con f site = some c → c.Holds Tryd.prog (rotation_Tail_C).glob f := by
  intro f site c h
  unfold rotation_Tail_C at h
  dsimp only at h
  split at h
  · cases h; exact rotation_Valid_holds
  · cases h; exact rotation_tail_holds
  · cases h
theorem rotation_Tail_holds : Con.Holds Tryd.prog glob 78 rotation_Tail_c :=
  fn_holds (C := rotation_Tail_C) (A := rotation_Tail_As) (outs := [(.tmp 4, true, I)]) seat_ok rotation_Tail_cons (by kernel_rfl) (by kernel_rfl) rotation_Tail_loops (by kernel_rfl) (by kernel_rfl) rotation_Tail_eq

def shape_connected_P : List (LoopPf shape_connected_C shape_connected_As (bodyOf Tryd.f61)) := [⟨6, shape_connected_A6, shape_connected_B6, rfl, shape_connected_R6⟩, ⟨11, shape_connected_A11, shape_connected_B11, rfl, shape_connected_R11⟩]
theorem shape_connected_loops : LoopsOK shape_connected_C shape_connected_As (loopsIn (bodyOf Tryd.f61)) := loops_ok shape_connected_P (by kernel_rfl) (by kernel_rfl)
theorem shape_connected_cons : ∀ f site c, (shape_connected_C).con f site = some c → c.Holds Tryd.prog (shape_connected_C).glob f := by
  intro f site c h
  unfold shape_connected_C at h
  dsimp only at h
  split at h
  · cases h; exact rotation_Tail_holds
  · cases h
theorem shape_connected_holds : Con.Holds Tryd.prog glob 61 shape_connected_c :=
  fn_holds (C := shape_connected_C) (A := shape_connected_As) (outs := [(.tmp 2, true, .bool)]) seat_ok shape_connected_cons (by kernel_rfl) (by kernel_rfl) shape_connected_loops (by kernel_rfl) (by kernel_rfl) shape_connected_eq

def rotation_follow_P : List (LoopPf rotation_follow_C rotation_follow_As (bodyOf Tryd.f70)) := [⟨3, rotation_follow_A3, rotation_follow_B3, rfl, rotation_follow_R3⟩, ⟨6, rotation_follow_A6, rotation_follow_B6, rfl, rotation_follow_R6⟩]
theorem rotation_follow_loops : LoopsOK rotation_follow_C rotation_follow_As (loopsIn (bodyOf Tryd.f70)) := loops_ok rotation_follow_P (by kernel_rfl) (by kernel_rfl)
theorem rotation_follow_cons : ∀ f site c, (rotation_follow_C).con f site = some c → c.Holds Tryd.prog (rotation_follow_C).glob f := by
  intro f site c h; cases h
theorem rotation_follow_holds : Con.Holds Tryd.prog glob 70 rotation_follow_c :=
  fn_holds (C := rotation_follow_C) (A := rotation_follow_As) (outs := [(.tmp 2, true, (.slice I))]) seat_ok rotation_follow_cons (by kernel_rfl) (by kernel_rfl) rotation_follow_loops (by kernel_rfl) (by kernel_rfl) rotation_follow_eq

def rotation_Faces_P : List (LoopPf rotation_Faces_C rotation_Faces_As (bodyOf Tryd.f43)) := [⟨7, rotation_Faces_A7, rotation_Faces_B7, rfl, rotation_Faces_R7⟩, ⟨11, rotation_Faces_A11, rotation_Faces_B11, rfl, rotation_Faces_R11⟩]
theorem rotation_Faces_loops : LoopsOK rotation_Faces_C rotation_Faces_As (loopsIn (bodyOf Tryd.f43)) := loops_ok rotation_Faces_P (by kernel_rfl) (by kernel_rfl)
theorem rotation_Faces_cons : ∀ f site c, (rotation_Faces_C).con f site = some c → c.Holds Tryd.prog (rotation_Faces_C).glob f := by
  intro f site c h
  unfold rotation_Faces_C at h
  dsimp only at h
  split at h
  · cases h; exact rotation_Valid_holds
  · cases h; exact rotation_follow_holds
  · cases h
theorem rotation_Faces_holds : Con.Holds Tryd.prog glob 43 rotation_Faces_c :=
  fn_holds (C := rotation_Faces_C) (A := rotation_Faces_As) (outs := [(.tmp 2, true, (.slice (.slice I)))]) seat_ok rotation_Faces_cons (by kernel_rfl) (by kernel_rfl) rotation_Faces_loops (by kernel_rfl) (by kernel_rfl) rotation_Faces_eq

def rotation_components_P : List (LoopPf rotation_components_C rotation_components_As (bodyOf Tryd.f87)) := [⟨4, rotation_components_A4, rotation_components_B4, rfl, rotation_components_R4⟩, ⟨10, rotation_components_A10, rotation_components_B10, rfl, rotation_components_R10⟩, ⟨13, rotation_components_A13, rotation_components_B13, rfl, rotation_components_R13⟩]
theorem rotation_components_loops : LoopsOK rotation_components_C rotation_components_As (loopsIn (bodyOf Tryd.f87)) := loops_ok rotation_components_P (by kernel_rfl) (by kernel_rfl)
theorem rotation_components_cons : ∀ f site c, (rotation_components_C).con f site = some c → c.Holds Tryd.prog (rotation_components_C).glob f := by
  intro f site c h
  unfold rotation_components_C at h
  dsimp only at h
  split at h
  · cases h; exact rotation_tail_holds
  · cases h
theorem rotation_components_holds : Con.Holds Tryd.prog glob 87 rotation_components_c :=
  fn_holds (C := rotation_components_C) (A := rotation_components_As) (outs := [(.tmp 2, true, I)]) seat_ok rotation_components_cons (by kernel_rfl) (by kernel_rfl) rotation_components_loops (by kernel_rfl) (by kernel_rfl) rotation_components_eq

def rotation_Genus_P : List (LoopPf rotation_Genus_C rotation_Genus_As (bodyOf Tryd.f62)) := [⟨5, rotation_Genus_A5, rotation_Genus_B5, rfl, rotation_Genus_R5⟩]
theorem rotation_Genus_loops : LoopsOK rotation_Genus_C rotation_Genus_As (loopsIn (bodyOf Tryd.f62)) := loops_ok rotation_Genus_P (by kernel_rfl) (by kernel_rfl)
theorem rotation_Genus_cons : ∀ f site c, (rotation_Genus_C).con f site = some c → c.Holds Tryd.prog (rotation_Genus_C).glob f := by
  intro f site c h
  unfold rotation_Genus_C at h
  dsimp only at h
  split at h
  · cases h; exact rotation_Faces_holds
  · cases h; exact rotation_Valid_holds
  · cases h; exact rotation_components_holds
  · cases h
theorem rotation_Genus_holds : Con.Holds Tryd.prog glob 62 rotation_Genus_c :=
  fn_holds (C := rotation_Genus_C) (A := rotation_Genus_As) (outs := [(.tmp 2, true, I)]) seat_ok rotation_Genus_cons (by kernel_rfl) (by kernel_rfl) rotation_Genus_loops (by kernel_rfl) (by kernel_rfl) rotation_Genus_eq

def shape_angled_P : List (LoopPf shape_angled_C shape_angled_As (bodyOf Tryd.f63)) := [⟨2, shape_angled_A2, shape_angled_B2, rfl, shape_angled_R2⟩, ⟨6, shape_angled_A6, shape_angled_B6, rfl, shape_angled_R6⟩]
theorem shape_angled_loops : LoopsOK shape_angled_C shape_angled_As (loopsIn (bodyOf Tryd.f63)) := loops_ok shape_angled_P (by kernel_rfl) (by kernel_rfl)
theorem shape_angled_cons : ∀ f site c, (shape_angled_C).con f site = some c → c.Holds Tryd.prog (shape_angled_C).glob f := by
  intro f site c h; cases h
theorem shape_angled_holds : Con.Holds Tryd.prog glob 63 shape_angled_c :=
  fn_holds (C := shape_angled_C) (A := shape_angled_As) (outs := [(.tmp 2, true, .bool)]) seat_ok shape_angled_cons (by kernel_rfl) (by kernel_rfl) shape_angled_loops (by kernel_rfl) (by kernel_rfl) shape_angled_eq

def shape_swapped_P : List (LoopPf shape_swapped_C shape_swapped_As (bodyOf Tryd.f47)) := []
theorem shape_swapped_loops : LoopsOK shape_swapped_C shape_swapped_As (loopsIn (bodyOf Tryd.f47)) := loops_ok shape_swapped_P (by kernel_rfl) (by kernel_rfl)
theorem shape_swapped_cons : ∀ f site c, (shape_swapped_C).con f site = some c → c.Holds Tryd.prog (shape_swapped_C).glob f := by
  intro f site c h; cases h
theorem shape_swapped_holds : Con.Holds Tryd.prog glob 47 shape_swapped_c :=
  fn_holds (C := shape_swapped_C) (A := shape_swapped_As) (outs := [(.tmp 2, true, (.int .u8)), (.tmp 3, true, .bool)]) seat_ok shape_swapped_cons (by kernel_rfl) (by kernel_rfl) shape_swapped_loops (by kernel_rfl) (by kernel_rfl) shape_swapped_eq

def shape_bent_P : List (LoopPf shape_bent_C shape_bent_As (bodyOf Tryd.f64)) := [⟨4, shape_bent_A4, shape_bent_B4, rfl, shape_bent_R4⟩]
theorem shape_bent_loops : LoopsOK shape_bent_C shape_bent_As (loopsIn (bodyOf Tryd.f64)) := loops_ok shape_bent_P (by kernel_rfl) (by kernel_rfl)
theorem shape_bent_cons : ∀ f site c, (shape_bent_C).con f site = some c → c.Holds Tryd.prog (shape_bent_C).glob f := by
  intro f site c h
  unfold shape_bent_C at h
  dsimp only at h
  split at h
  · cases h; exact shape_swapped_holds
  · cases h
theorem shape_bent_holds : Con.Holds Tryd.prog glob 64 shape_bent_c :=
  fn_holds (C := shape_bent_C) (A := shape_bent_As) (outs := [(.tmp 2, true, .bool)]) seat_ok shape_bent_cons (by kernel_rfl) (by kernel_rfl) shape_bent_loops (by kernel_rfl) (by kernel_rfl) shape_bent_eq

def slices_Reverse_byte_P : List (LoopPf slices_Reverse_byte_C slices_Reverse_byte_As (bodyOf Tryd.f46)) := [⟨1, slices_Reverse_byte_A1, slices_Reverse_byte_B1, rfl, slices_Reverse_byte_R1⟩]
theorem slices_Reverse_byte_loops : LoopsOK slices_Reverse_byte_C slices_Reverse_byte_As (loopsIn (bodyOf Tryd.f46)) := loops_ok slices_Reverse_byte_P (by kernel_rfl) (by kernel_rfl)
theorem slices_Reverse_byte_cons : ∀ f site c, (slices_Reverse_byte_C).con f site = some c → c.Holds Tryd.prog (slices_Reverse_byte_C).glob f := by
  intro f site c h; cases h
theorem slices_Reverse_byte_holds : Con.Holds Tryd.prog glob 46 slices_Reverse_byte_c :=
  fn_holds (C := slices_Reverse_byte_C) (A := slices_Reverse_byte_As) (outs := []) seat_ok slices_Reverse_byte_cons (by kernel_rfl) (by kernel_rfl) slices_Reverse_byte_loops (by kernel_rfl) (by kernel_rfl) slices_Reverse_byte_eq

def shape_Reverse_P : List (LoopPf shape_Reverse_C shape_Reverse_As (bodyOf Tryd.f20)) := [⟨4, shape_Reverse_A4, shape_Reverse_B4, rfl, shape_Reverse_R4⟩]
theorem shape_Reverse_loops : LoopsOK shape_Reverse_C shape_Reverse_As (loopsIn (bodyOf Tryd.f20)) := loops_ok shape_Reverse_P (by kernel_rfl) (by kernel_rfl)
theorem shape_Reverse_cons : ∀ f site c, (shape_Reverse_C).con f site = some c → c.Holds Tryd.prog (shape_Reverse_C).glob f := by
  intro f site c h
  unfold shape_Reverse_C at h
  dsimp only at h
  split at h
  · cases h; exact slices_Reverse_byte_holds
  · cases h; exact shape_swapped_holds
  · cases h
theorem shape_Reverse_holds : Con.Holds Tryd.prog glob 20 shape_Reverse_c :=
  fn_holds (C := shape_Reverse_C) (A := shape_Reverse_As) (outs := [(.tmp 2, true, .str)]) seat_ok shape_Reverse_cons (by kernel_rfl) (by kernel_rfl) shape_Reverse_loops (by kernel_rfl) (by kernel_rfl) shape_Reverse_eq

def slices_Index_int_P : List (LoopPf slices_Index_int_C slices_Index_int_As (bodyOf Tryd.f71)) := [⟨2, slices_Index_int_A2, slices_Index_int_B2, rfl, slices_Index_int_R2⟩]
theorem slices_Index_int_loops : LoopsOK slices_Index_int_C slices_Index_int_As (loopsIn (bodyOf Tryd.f71)) := loops_ok slices_Index_int_P (by kernel_rfl) (by kernel_rfl)
theorem slices_Index_int_cons : ∀ f site c, (slices_Index_int_C).con f site = some c → c.Holds Tryd.prog (slices_Index_int_C).glob f := by
  intro f site c h; cases h
theorem slices_Index_int_holds : Con.Holds Tryd.prog glob 71 slices_Index_int_c :=
  fn_holds (C := slices_Index_int_C) (A := slices_Index_int_As) (outs := [(.tmp 4, true, I)]) seat_ok slices_Index_int_cons (by kernel_rfl) (by kernel_rfl) slices_Index_int_loops (by kernel_rfl) (by kernel_rfl) slices_Index_int_eq

def slices_Contains_int_P : List (LoopPf slices_Contains_int_C slices_Contains_int_As (bodyOf Tryd.f44)) := []
theorem slices_Contains_int_loops : LoopsOK slices_Contains_int_C slices_Contains_int_As (loopsIn (bodyOf Tryd.f44)) := loops_ok slices_Contains_int_P (by kernel_rfl) (by kernel_rfl)
theorem slices_Contains_int_cons : ∀ f site c, (slices_Contains_int_C).con f site = some c → c.Holds Tryd.prog (slices_Contains_int_C).glob f := by
  intro f site c h
  unfold slices_Contains_int_C at h
  dsimp only at h
  split at h
  · cases h; exact slices_Index_int_holds
  · cases h
theorem slices_Contains_int_holds : Con.Holds Tryd.prog glob 44 slices_Contains_int_c :=
  fn_holds (C := slices_Contains_int_C) (A := slices_Contains_int_As) (outs := [(.tmp 4, true, .bool)]) seat_ok slices_Contains_int_cons (by kernel_rfl) (by kernel_rfl) slices_Contains_int_loops (by kernel_rfl) (by kernel_rfl) slices_Contains_int_eq

def shape_turn_P : List (LoopPf shape_turn_C shape_turn_As (bodyOf Tryd.f72)) := [⟨3, shape_turn_A3, shape_turn_B3, rfl, shape_turn_R3⟩]
theorem shape_turn_loops : LoopsOK shape_turn_C shape_turn_As (loopsIn (bodyOf Tryd.f72)) := loops_ok shape_turn_P (by kernel_rfl) (by kernel_rfl)
theorem shape_turn_cons : ∀ f site c, (shape_turn_C).con f site = some c → c.Holds Tryd.prog (shape_turn_C).glob f := by
  intro f site c h; cases h
theorem shape_turn_holds : Con.Holds Tryd.prog glob 72 shape_turn_c :=
  fn_holds (C := shape_turn_C) (A := shape_turn_As) (outs := [(.tmp 4, true, I)]) seat_ok shape_turn_cons (by kernel_rfl) (by kernel_rfl) shape_turn_loops (by kernel_rfl) (by kernel_rfl) shape_turn_eq

def shape_turns_P : List (LoopPf shape_turns_C shape_turns_As (bodyOf Tryd.f45)) := [⟨3, shape_turns_A3, shape_turns_B3, rfl, shape_turns_R3⟩]
theorem shape_turns_loops : LoopsOK shape_turns_C shape_turns_As (loopsIn (bodyOf Tryd.f45)) := loops_ok shape_turns_P (by kernel_rfl) (by kernel_rfl)
theorem shape_turns_cons : ∀ f site c, (shape_turns_C).con f site = some c → c.Holds Tryd.prog (shape_turns_C).glob f := by
  intro f site c h
  unfold shape_turns_C at h
  dsimp only at h
  split at h
  · cases h; exact shape_turn_holds
  · cases h
theorem shape_turns_holds : Con.Holds Tryd.prog glob 45 shape_turns_c :=
  fn_holds (C := shape_turns_C) (A := shape_turns_As) (outs := [(.tmp 4, true, I)]) seat_ok shape_turns_cons (by kernel_rfl) (by kernel_rfl) shape_turns_loops (by kernel_rfl) (by kernel_rfl) shape_turns_eq

def shape_valid_P : List (LoopPf shape_valid_C shape_valid_As (bodyOf Tryd.f36)) := [⟨8, shape_valid_A8, shape_valid_B8, rfl, shape_valid_R8⟩, ⟨13, shape_valid_A13, shape_valid_B13, rfl, shape_valid_R13⟩]
theorem shape_valid_loops : LoopsOK shape_valid_C shape_valid_As (loopsIn (bodyOf Tryd.f36)) := loops_ok shape_valid_P (by kernel_rfl) (by kernel_rfl)
theorem shape_valid_cons : ∀ f site c, (shape_valid_C).con f site = some c → c.Holds Tryd.prog (shape_valid_C).glob f := by
  intro f site c h
  unfold shape_valid_C at h
  dsimp only at h
  split at h
  · cases h; exact shape_Reverse_holds
  · cases h; exact rotation_Faces_holds
  · cases h; exact slices_Contains_int_holds
  · cases h; exact shape_turns_holds
  · cases h; exact rotation_Valid_holds
  · cases h; exact shape_connected_holds
  · cases h; exact rotation_Genus_holds
  · cases h; exact shape_angled_holds
  · cases h; exact shape_bent_holds
  · cases h
theorem shape_valid_holds : Con.Holds Tryd.prog glob 36 shape_valid_c :=
  fn_holds (C := shape_valid_C) (A := shape_valid_As) (outs := [(.tmp 2, true, .bool)]) seat_ok shape_valid_cons (by kernel_rfl) (by kernel_rfl) shape_valid_loops (by kernel_rfl) (by kernel_rfl) shape_valid_eq

def shape_Valid_P : List (LoopPf shape_Valid_C shape_Valid_As (bodyOf Tryd.f14)) := []
theorem shape_Valid_loops : LoopsOK shape_Valid_C shape_Valid_As (loopsIn (bodyOf Tryd.f14)) := loops_ok shape_Valid_P (by kernel_rfl) (by kernel_rfl)
theorem shape_Valid_cons : ∀ f site c, (shape_Valid_C).con f site = some c → c.Holds Tryd.prog (shape_Valid_C).glob f := by
  intro f site c h
  unfold shape_Valid_C at h
  dsimp only at h
  split at h
  · cases h; exact shape_valid_holds
  · cases h
theorem shape_Valid_holds : Con.Holds Tryd.prog glob 14 shape_Valid_c :=
  fn_holds (C := shape_Valid_C) (A := shape_Valid_As) (outs := [(.tmp 2, true, I)]) seat_ok shape_Valid_cons (by kernel_rfl) (by kernel_rfl) shape_Valid_loops (by kernel_rfl) (by kernel_rfl) shape_Valid_eq

def shape_Turns_P : List (LoopPf shape_Turns_C shape_Turns_As (bodyOf Tryd.f18)) := [⟨4, shape_Turns_A4, shape_Turns_B4, rfl, shape_Turns_R4⟩]
theorem shape_Turns_loops : LoopsOK shape_Turns_C shape_Turns_As (loopsIn (bodyOf Tryd.f18)) := loops_ok shape_Turns_P (by kernel_rfl) (by kernel_rfl)
theorem shape_Turns_cons : ∀ f site c, (shape_Turns_C).con f site = some c → c.Holds Tryd.prog (shape_Turns_C).glob f := by
  intro f site c h
  unfold shape_Turns_C at h
  dsimp only at h
  split at h
  · cases h; exact shape_valid_holds
  · cases h; exact rotation_Faces_holds
  · cases h; exact slices_Contains_int_holds
  · cases h; exact shape_turns_holds
  · cases h
theorem shape_Turns_holds : Con.Holds Tryd.prog glob 18 shape_Turns_c :=
  fn_holds (C := shape_Turns_C) (A := shape_Turns_As) (outs := [(.tmp 4, true, I)]) seat_ok shape_Turns_cons (by kernel_rfl) (by kernel_rfl) shape_Turns_loops (by kernel_rfl) (by kernel_rfl) shape_Turns_eq

def shape_Bends_P : List (LoopPf shape_Bends_C shape_Bends_As (bodyOf Tryd.f16)) := [⟨5, shape_Bends_A5, shape_Bends_B5, rfl, shape_Bends_R5⟩]
theorem shape_Bends_loops : LoopsOK shape_Bends_C shape_Bends_As (loopsIn (bodyOf Tryd.f16)) := loops_ok shape_Bends_P (by kernel_rfl) (by kernel_rfl)
theorem shape_Bends_cons : ∀ f site c, (shape_Bends_C).con f site = some c → c.Holds Tryd.prog (shape_Bends_C).glob f := by
  intro f site c h
  unfold shape_Bends_C at h
  dsimp only at h
  split at h
  · cases h; exact shape_valid_holds
  · cases h
theorem shape_Bends_holds : Con.Holds Tryd.prog glob 16 shape_Bends_c :=
  fn_holds (C := shape_Bends_C) (A := shape_Bends_As) (outs := [(.tmp 2, true, I)]) seat_ok shape_Bends_cons (by kernel_rfl) (by kernel_rfl) shape_Bends_loops (by kernel_rfl) (by kernel_rfl) shape_Bends_eq

def slices_Clone_Arc_P : List (LoopPf slices_Clone_Arc_C slices_Clone_Arc_As (bodyOf Tryd.f73)) := []
theorem slices_Clone_Arc_loops : LoopsOK slices_Clone_Arc_C slices_Clone_Arc_As (loopsIn (bodyOf Tryd.f73)) := loops_ok slices_Clone_Arc_P (by kernel_rfl) (by kernel_rfl)
theorem slices_Clone_Arc_cons : ∀ f site c, (slices_Clone_Arc_C).con f site = some c → c.Holds Tryd.prog (slices_Clone_Arc_C).glob f := by
  intro f site c h; cases h
theorem slices_Clone_Arc_holds : Con.Holds Tryd.prog glob 73 slices_Clone_Arc_c :=
  fn_holds (C := slices_Clone_Arc_C) (A := slices_Clone_Arc_As) (outs := [(.tmp 2, true, (.slice (.prod I (.prod I .unit))))]) seat_ok slices_Clone_Arc_cons (by kernel_rfl) (by kernel_rfl) slices_Clone_Arc_loops (by kernel_rfl) (by kernel_rfl) slices_Clone_Arc_eq

def slices_Clone_int_P : List (LoopPf slices_Clone_int_C slices_Clone_int_As (bodyOf Tryd.f74)) := []
theorem slices_Clone_int_loops : LoopsOK slices_Clone_int_C slices_Clone_int_As (loopsIn (bodyOf Tryd.f74)) := loops_ok slices_Clone_int_P (by kernel_rfl) (by kernel_rfl)
theorem slices_Clone_int_cons : ∀ f site c, (slices_Clone_int_C).con f site = some c → c.Holds Tryd.prog (slices_Clone_int_C).glob f := by
  intro f site c h; cases h
theorem slices_Clone_int_holds : Con.Holds Tryd.prog glob 74 slices_Clone_int_c :=
  fn_holds (C := slices_Clone_int_C) (A := slices_Clone_int_As) (outs := [(.tmp 2, true, (.slice I))]) seat_ok slices_Clone_int_cons (by kernel_rfl) (by kernel_rfl) slices_Clone_int_loops (by kernel_rfl) (by kernel_rfl) slices_Clone_int_eq

def slices_Reverse_int_P : List (LoopPf slices_Reverse_int_C slices_Reverse_int_As (bodyOf Tryd.f75)) := [⟨1, slices_Reverse_int_A1, slices_Reverse_int_B1, rfl, slices_Reverse_int_R1⟩]
theorem slices_Reverse_int_loops : LoopsOK slices_Reverse_int_C slices_Reverse_int_As (loopsIn (bodyOf Tryd.f75)) := loops_ok slices_Reverse_int_P (by kernel_rfl) (by kernel_rfl)
theorem slices_Reverse_int_cons : ∀ f site c, (slices_Reverse_int_C).con f site = some c → c.Holds Tryd.prog (slices_Reverse_int_C).glob f := by
  intro f site c h; cases h
theorem slices_Reverse_int_holds : Con.Holds Tryd.prog glob 75 slices_Reverse_int_c :=
  fn_holds (C := slices_Reverse_int_C) (A := slices_Reverse_int_As) (outs := []) seat_ok slices_Reverse_int_cons (by kernel_rfl) (by kernel_rfl) slices_Reverse_int_loops (by kernel_rfl) (by kernel_rfl) slices_Reverse_int_eq

def rotation_Mirror_P : List (LoopPf rotation_Mirror_C rotation_Mirror_As (bodyOf Tryd.f49)) := [⟨5, rotation_Mirror_A5, rotation_Mirror_B5, rfl, rotation_Mirror_R5⟩]
theorem rotation_Mirror_loops : LoopsOK rotation_Mirror_C rotation_Mirror_As (loopsIn (bodyOf Tryd.f49)) := loops_ok rotation_Mirror_P (by kernel_rfl) (by kernel_rfl)
theorem rotation_Mirror_cons : ∀ f site c, (rotation_Mirror_C).con f site = some c → c.Holds Tryd.prog (rotation_Mirror_C).glob f := by
  intro f site c h
  unfold rotation_Mirror_C at h
  dsimp only at h
  split at h
  · cases h; exact rotation_Valid_holds
  · cases h; exact slices_Clone_Arc_holds
  · cases h; exact slices_Clone_int_holds
  · cases h; exact slices_Reverse_int_holds
  · cases h
theorem rotation_Mirror_holds : Con.Holds Tryd.prog glob 49 rotation_Mirror_c :=
  fn_holds (C := rotation_Mirror_C) (A := rotation_Mirror_As) (outs := [(.cell 2 25, true, (.prod I (.prod (.slice (.prod I (.prod I .unit))) (.prod (.slice (.slice I)) .unit))))]) seat_ok rotation_Mirror_cons (by kernel_rfl) (by kernel_rfl) rotation_Mirror_loops (by kernel_rfl) (by kernel_rfl) rotation_Mirror_eq

def shape_exchanged_P : List (LoopPf shape_exchanged_C shape_exchanged_As (bodyOf Tryd.f50)) := [⟨3, shape_exchanged_A3, shape_exchanged_B3, rfl, shape_exchanged_R3⟩]
theorem shape_exchanged_loops : LoopsOK shape_exchanged_C shape_exchanged_As (loopsIn (bodyOf Tryd.f50)) := loops_ok shape_exchanged_P (by kernel_rfl) (by kernel_rfl)
theorem shape_exchanged_cons : ∀ f site c, (shape_exchanged_C).con f site = some c → c.Holds Tryd.prog (shape_exchanged_C).glob f := by
  intro f site c h
  unfold shape_exchanged_C at h
  dsimp only at h
  split at h
  · cases h; exact shape_swapped_holds
  · cases h
theorem shape_exchanged_holds : Con.Holds Tryd.prog glob 50 shape_exchanged_c :=
  fn_holds (C := shape_exchanged_C) (A := shape_exchanged_As) (outs := [(.tmp 2, true, .str)]) seat_ok shape_exchanged_cons (by kernel_rfl) (by kernel_rfl) shape_exchanged_loops (by kernel_rfl) (by kernel_rfl) shape_exchanged_eq

def shape_Mirror_P : List (LoopPf shape_Mirror_C shape_Mirror_As (bodyOf Tryd.f23)) := [⟨5, shape_Mirror_A5, shape_Mirror_B5, rfl, shape_Mirror_R5⟩, ⟨8, shape_Mirror_A8, shape_Mirror_B8, rfl, shape_Mirror_R8⟩, ⟨14, shape_Mirror_A14, shape_Mirror_B14, rfl, shape_Mirror_R14⟩]
theorem shape_Mirror_loops : LoopsOK shape_Mirror_C shape_Mirror_As (loopsIn (bodyOf Tryd.f23)) := loops_ok shape_Mirror_P (by kernel_rfl) (by kernel_rfl)
theorem shape_Mirror_cons : ∀ f site c, (shape_Mirror_C).con f site = some c → c.Holds Tryd.prog (shape_Mirror_C).glob f := by
  intro f site c h
  unfold shape_Mirror_C at h
  dsimp only at h
  split at h
  · cases h; exact shape_valid_holds
  · cases h; exact rotation_Mirror_holds
  · cases h; exact shape_exchanged_holds
  · cases h
theorem shape_Mirror_holds : Con.Holds Tryd.prog glob 23 shape_Mirror_c :=
  fn_holds (C := shape_Mirror_C) (A := shape_Mirror_As) (outs := [(.cell 2 29, true, (.prod (.prod I (.prod (.slice (.prod I (.prod I .unit))) (.prod (.slice (.slice I)) .unit))) (.prod (.slice I) (.prod (.slice .str) (.prod I .unit)))))]) seat_ok shape_Mirror_cons (by kernel_rfl) (by kernel_rfl) shape_Mirror_loops (by kernel_rfl) (by kernel_rfl) shape_Mirror_eq

def layoutlaw39_awake_P : List (LoopPf layoutlaw39_awake_C layoutlaw39_awake_As (bodyOf Tryd.f13)) := []
theorem layoutlaw39_awake_loops : LoopsOK layoutlaw39_awake_C layoutlaw39_awake_As (loopsIn (bodyOf Tryd.f13)) := loops_ok layoutlaw39_awake_P (by kernel_rfl) (by kernel_rfl)
theorem layoutlaw39_awake_cons : ∀ f site c, (layoutlaw39_awake_C).con f site = some c → c.Holds Tryd.prog (layoutlaw39_awake_C).glob f := by
  intro f site c h
  unfold layoutlaw39_awake_C at h
  dsimp only at h
  split at h
  · cases h; exact shape_Valid_holds
  · cases h; exact shape_Bends_holds
  · cases h; exact shape_Turns_holds
  · cases h; exact shape_Reverse_holds
  · cases h; exact shape_Mirror_holds
  · cases h; exact layoutlaw39_square_holds
  · cases h
theorem layoutlaw39_awake_holds : Con.Holds Tryd.prog glob 13 layoutlaw39_awake_c :=
  fn_holds (C := layoutlaw39_awake_C) (A := layoutlaw39_awake_As) (outs := [(.tmp 0, true, .bool)]) seat_ok layoutlaw39_awake_cons (by kernel_rfl) (by kernel_rfl) layoutlaw39_awake_loops (by kernel_rfl) (by kernel_rfl) layoutlaw39_awake_eq

def layoutref29_Tails_P : List (LoopPf layoutref29_Tails_C layoutref29_Tails_As (bodyOf Tryd.f58)) := [⟨3, layoutref29_Tails_A3, layoutref29_Tails_B3, rfl, layoutref29_Tails_R3⟩]
theorem layoutref29_Tails_loops : LoopsOK layoutref29_Tails_C layoutref29_Tails_As (loopsIn (bodyOf Tryd.f58)) := loops_ok layoutref29_Tails_P (by kernel_rfl) (by kernel_rfl)
theorem layoutref29_Tails_cons : ∀ f site c, (layoutref29_Tails_C).con f site = some c → c.Holds Tryd.prog (layoutref29_Tails_C).glob f := by
  intro f site c h; cases h
theorem layoutref29_Tails_holds : Con.Holds Tryd.prog glob 58 layoutref29_Tails_c :=
  fn_holds (C := layoutref29_Tails_C) (A := layoutref29_Tails_As) (outs := [(.tmp 2, true, (.slice I))]) seat_ok layoutref29_Tails_cons (by kernel_rfl) (by kernel_rfl) layoutref29_Tails_loops (by kernel_rfl) (by kernel_rfl) layoutref29_Tails_eq

def layoutref29_Valid_P : List (LoopPf layoutref29_Valid_C layoutref29_Valid_As (bodyOf Tryd.f31)) := [⟨4, layoutref29_Valid_A4, layoutref29_Valid_B4, rfl, layoutref29_Valid_R4⟩, ⟨13, layoutref29_Valid_A13, layoutref29_Valid_B13, rfl, layoutref29_Valid_R13⟩, ⟨16, layoutref29_Valid_A16, layoutref29_Valid_B16, rfl, layoutref29_Valid_R16⟩]
theorem layoutref29_Valid_loops : LoopsOK layoutref29_Valid_C layoutref29_Valid_As (loopsIn (bodyOf Tryd.f31)) := loops_ok layoutref29_Valid_P (by kernel_rfl) (by kernel_rfl)
theorem layoutref29_Valid_cons : ∀ f site c, (layoutref29_Valid_C).con f site = some c → c.Holds Tryd.prog (layoutref29_Valid_C).glob f := by
  intro f site c h
  unfold layoutref29_Valid_C at h
  dsimp only at h
  split at h
  · cases h; exact layoutref29_Tails_holds
  · cases h
theorem layoutref29_Valid_holds : Con.Holds Tryd.prog glob 31 layoutref29_Valid_c :=
  fn_holds (C := layoutref29_Valid_C) (A := layoutref29_Valid_As) (outs := [(.tmp 2, true, .bool)]) seat_ok layoutref29_Valid_cons (by kernel_rfl) (by kernel_rfl) layoutref29_Valid_loops (by kernel_rfl) (by kernel_rfl) layoutref29_Valid_eq

def layoutref29_Follow_P : List (LoopPf layoutref29_Follow_C layoutref29_Follow_As (bodyOf Tryd.f67)) := [⟨3, layoutref29_Follow_A3, layoutref29_Follow_B3, rfl, layoutref29_Follow_R3⟩, ⟨7, layoutref29_Follow_A7, layoutref29_Follow_B7, rfl, layoutref29_Follow_R7⟩]
theorem layoutref29_Follow_loops : LoopsOK layoutref29_Follow_C layoutref29_Follow_As (loopsIn (bodyOf Tryd.f67)) := loops_ok layoutref29_Follow_P (by kernel_rfl) (by kernel_rfl)
theorem layoutref29_Follow_cons : ∀ f site c, (layoutref29_Follow_C).con f site = some c → c.Holds Tryd.prog (layoutref29_Follow_C).glob f := by
  intro f site c h; cases h
theorem layoutref29_Follow_holds : Con.Holds Tryd.prog glob 67 layoutref29_Follow_c :=
  fn_holds (C := layoutref29_Follow_C) (A := layoutref29_Follow_As) (outs := [(.tmp 2, true, (.slice I))]) seat_ok layoutref29_Follow_cons (by kernel_rfl) (by kernel_rfl) layoutref29_Follow_loops (by kernel_rfl) (by kernel_rfl) layoutref29_Follow_eq

def layoutref29_Other_P : List (LoopPf layoutref29_Other_C layoutref29_Other_As (bodyOf Tryd.f68)) := []
theorem layoutref29_Other_loops : LoopsOK layoutref29_Other_C layoutref29_Other_As (loopsIn (bodyOf Tryd.f68)) := loops_ok layoutref29_Other_P (by kernel_rfl) (by kernel_rfl)
theorem layoutref29_Other_cons : ∀ f site c, (layoutref29_Other_C).con f site = some c → c.Holds Tryd.prog (layoutref29_Other_C).glob f := by
  intro f site c h; cases h
theorem layoutref29_Other_holds : Con.Holds Tryd.prog glob 68 layoutref29_Other_c :=
  fn_holds (C := layoutref29_Other_C) (A := layoutref29_Other_As) (outs := [(.tmp 2, true, I)]) seat_ok layoutref29_Other_cons (by kernel_rfl) (by kernel_rfl) layoutref29_Other_loops (by kernel_rfl) (by kernel_rfl) layoutref29_Other_eq

def layoutref29_Faces_P : List (LoopPf layoutref29_Faces_C layoutref29_Faces_As (bodyOf Tryd.f40)) := [⟨7, layoutref29_Faces_A7, layoutref29_Faces_B7, rfl, layoutref29_Faces_R7⟩, ⟨12, layoutref29_Faces_A12, layoutref29_Faces_B12, rfl, layoutref29_Faces_R12⟩]
theorem layoutref29_Faces_loops : LoopsOK layoutref29_Faces_C layoutref29_Faces_As (loopsIn (bodyOf Tryd.f40)) := loops_ok layoutref29_Faces_P (by kernel_rfl) (by kernel_rfl)
theorem layoutref29_Faces_cons : ∀ f site c, (layoutref29_Faces_C).con f site = some c → c.Holds Tryd.prog (layoutref29_Faces_C).glob f := by
  intro f site c h
  unfold layoutref29_Faces_C at h
  dsimp only at h
  split at h
  · cases h; exact layoutref29_Valid_holds
  · cases h; exact layoutref29_Follow_holds
  · cases h; exact layoutref29_Other_holds
  · cases h
theorem layoutref29_Faces_holds : Con.Holds Tryd.prog glob 40 layoutref29_Faces_c :=
  fn_holds (C := layoutref29_Faces_C) (A := layoutref29_Faces_As) (outs := [(.tmp 2, true, (.slice (.slice I)))]) seat_ok layoutref29_Faces_cons (by kernel_rfl) (by kernel_rfl) layoutref29_Faces_loops (by kernel_rfl) (by kernel_rfl) layoutref29_Faces_eq

def layoutref29_root_P : List (LoopPf layoutref29_root_C layoutref29_root_As (bodyOf Tryd.f88)) := [⟨1, layoutref29_root_A1, layoutref29_root_B1, rfl, layoutref29_root_R1⟩]
theorem layoutref29_root_loops : LoopsOK layoutref29_root_C layoutref29_root_As (loopsIn (bodyOf Tryd.f88)) := loops_ok layoutref29_root_P (by kernel_rfl) (by kernel_rfl)
theorem layoutref29_root_cons : ∀ f site c, (layoutref29_root_C).con f site = some c → c.Holds Tryd.prog (layoutref29_root_C).glob f := by
  intro f site c h; cases h
theorem layoutref29_root_holds : Con.Holds Tryd.prog glob 88 layoutref29_root_c :=
  fn_holds (C := layoutref29_root_C) (A := layoutref29_root_As) (outs := [(.tmp 4, true, I)]) seat_ok layoutref29_root_cons (by kernel_rfl) (by kernel_rfl) layoutref29_root_loops (by kernel_rfl) (by kernel_rfl) layoutref29_root_eq

def layoutref29_Components_P : List (LoopPf layoutref29_Components_C layoutref29_Components_As (bodyOf Tryd.f66)) := [⟨3, layoutref29_Components_A3, layoutref29_Components_B3, rfl, layoutref29_Components_R3⟩, ⟨8, layoutref29_Components_A8, layoutref29_Components_B8, rfl, layoutref29_Components_R8⟩]
theorem layoutref29_Components_loops : LoopsOK layoutref29_Components_C layoutref29_Components_As (loopsIn (bodyOf Tryd.f66)) := loops_ok layoutref29_Components_P (by kernel_rfl) (by kernel_rfl)
theorem layoutref29_Components_cons : ∀ f site c, (layoutref29_Components_C).con f site = some c → c.Holds Tryd.prog (layoutref29_Components_C).glob f := by
  intro f site c h
  unfold layoutref29_Components_C at h
  dsimp only at h
  split at h
  · cases h; exact layoutref29_root_holds
  · cases h
theorem layoutref29_Components_holds : Con.Holds Tryd.prog glob 66 layoutref29_Components_c :=
  fn_holds (C := layoutref29_Components_C) (A := layoutref29_Components_As) (outs := [(.tmp 2, true, I)]) seat_ok layoutref29_Components_cons (by kernel_rfl) (by kernel_rfl) layoutref29_Components_loops (by kernel_rfl) (by kernel_rfl) layoutref29_Components_eq

def layoutref29_Genus_P : List (LoopPf layoutref29_Genus_C layoutref29_Genus_As (bodyOf Tryd.f65)) := [⟨5, layoutref29_Genus_A5, layoutref29_Genus_B5, rfl, layoutref29_Genus_R5⟩]
theorem layoutref29_Genus_loops : LoopsOK layoutref29_Genus_C layoutref29_Genus_As (loopsIn (bodyOf Tryd.f65)) := loops_ok layoutref29_Genus_P (by kernel_rfl) (by kernel_rfl)
theorem layoutref29_Genus_cons : ∀ f site c, (layoutref29_Genus_C).con f site = some c → c.Holds Tryd.prog (layoutref29_Genus_C).glob f := by
  intro f site c h
  unfold layoutref29_Genus_C at h
  dsimp only at h
  split at h
  · cases h; exact layoutref29_Valid_holds
  · cases h; exact layoutref29_Faces_holds
  · cases h; exact layoutref29_Components_holds
  · cases h
theorem layoutref29_Genus_holds : Con.Holds Tryd.prog glob 65 layoutref29_Genus_c :=
  fn_holds (C := layoutref29_Genus_C) (A := layoutref29_Genus_As) (outs := [(.tmp 2, true, I)]) seat_ok layoutref29_Genus_cons (by kernel_rfl) (by kernel_rfl) layoutref29_Genus_loops (by kernel_rfl) (by kernel_rfl) layoutref29_Genus_eq

def layoutref29_Planar_P : List (LoopPf layoutref29_Planar_C layoutref29_Planar_As (bodyOf Tryd.f37)) := []
theorem layoutref29_Planar_loops : LoopsOK layoutref29_Planar_C layoutref29_Planar_As (loopsIn (bodyOf Tryd.f37)) := loops_ok layoutref29_Planar_P (by kernel_rfl) (by kernel_rfl)
theorem layoutref29_Planar_cons : ∀ f site c, (layoutref29_Planar_C).con f site = some c → c.Holds Tryd.prog (layoutref29_Planar_C).glob f := by
  intro f site c h
  unfold layoutref29_Planar_C at h
  dsimp only at h
  split at h
  · cases h; exact layoutref29_Genus_holds
  · cases h; exact layoutref29_Components_holds
  · cases h
theorem layoutref29_Planar_holds : Con.Holds Tryd.prog glob 37 layoutref29_Planar_c :=
  fn_holds (C := layoutref29_Planar_C) (A := layoutref29_Planar_As) (outs := [(.tmp 2, true, .bool)]) seat_ok layoutref29_Planar_cons (by kernel_rfl) (by kernel_rfl) layoutref29_Planar_loops (by kernel_rfl) (by kernel_rfl) layoutref29_Planar_eq

def layoutref39_sums_P : List (LoopPf layoutref39_sums_C layoutref39_sums_As (bodyOf Tryd.f38)) := [⟨2, layoutref39_sums_A2, layoutref39_sums_B2, rfl, layoutref39_sums_R2⟩, ⟨6, layoutref39_sums_A6, layoutref39_sums_B6, rfl, layoutref39_sums_R6⟩]
theorem layoutref39_sums_loops : LoopsOK layoutref39_sums_C layoutref39_sums_As (loopsIn (bodyOf Tryd.f38)) := loops_ok layoutref39_sums_P (by kernel_rfl) (by kernel_rfl)
theorem layoutref39_sums_cons : ∀ f site c, (layoutref39_sums_C).con f site = some c → c.Holds Tryd.prog (layoutref39_sums_C).glob f := by
  intro f site c h; cases h
theorem layoutref39_sums_holds : Con.Holds Tryd.prog glob 38 layoutref39_sums_c :=
  fn_holds (C := layoutref39_sums_C) (A := layoutref39_sums_As) (outs := [(.tmp 2, true, .bool)]) seat_ok layoutref39_sums_cons (by kernel_rfl) (by kernel_rfl) layoutref39_sums_loops (by kernel_rfl) (by kernel_rfl) layoutref39_sums_eq

def layoutref39_exchange_P : List (LoopPf layoutref39_exchange_C layoutref39_exchange_As (bodyOf Tryd.f48)) := []
theorem layoutref39_exchange_loops : LoopsOK layoutref39_exchange_C layoutref39_exchange_As (loopsIn (bodyOf Tryd.f48)) := loops_ok layoutref39_exchange_P (by kernel_rfl) (by kernel_rfl)
theorem layoutref39_exchange_cons : ∀ f site c, (layoutref39_exchange_C).con f site = some c → c.Holds Tryd.prog (layoutref39_exchange_C).glob f := by
  intro f site c h; cases h
theorem layoutref39_exchange_holds : Con.Holds Tryd.prog glob 48 layoutref39_exchange_c :=
  fn_holds (C := layoutref39_exchange_C) (A := layoutref39_exchange_As) (outs := [(.tmp 2, true, (.int .u8))]) seat_ok layoutref39_exchange_cons (by kernel_rfl) (by kernel_rfl) layoutref39_exchange_loops (by kernel_rfl) (by kernel_rfl) layoutref39_exchange_eq

def layoutref39_Reverse_P : List (LoopPf layoutref39_Reverse_C layoutref39_Reverse_As (bodyOf Tryd.f21)) := [⟨3, layoutref39_Reverse_A3, layoutref39_Reverse_B3, rfl, layoutref39_Reverse_R3⟩]
theorem layoutref39_Reverse_loops : LoopsOK layoutref39_Reverse_C layoutref39_Reverse_As (loopsIn (bodyOf Tryd.f21)) := loops_ok layoutref39_Reverse_P (by kernel_rfl) (by kernel_rfl)
theorem layoutref39_Reverse_cons : ∀ f site c, (layoutref39_Reverse_C).con f site = some c → c.Holds Tryd.prog (layoutref39_Reverse_C).glob f := by
  intro f site c h
  unfold layoutref39_Reverse_C at h
  dsimp only at h
  split at h
  · cases h; exact layoutref39_exchange_holds
  · cases h
theorem layoutref39_Reverse_holds : Con.Holds Tryd.prog glob 21 layoutref39_Reverse_c :=
  fn_holds (C := layoutref39_Reverse_C) (A := layoutref39_Reverse_As) (outs := [(.tmp 2, true, .str)]) seat_ok layoutref39_Reverse_cons (by kernel_rfl) (by kernel_rfl) layoutref39_Reverse_loops (by kernel_rfl) (by kernel_rfl) layoutref39_Reverse_eq

def layoutref39_bends_P : List (LoopPf layoutref39_bends_C layoutref39_bends_As (bodyOf Tryd.f39)) := [⟨2, layoutref39_bends_A2, layoutref39_bends_B2, rfl, layoutref39_bends_R2⟩, ⟨7, layoutref39_bends_A7, layoutref39_bends_B7, rfl, layoutref39_bends_R7⟩]
theorem layoutref39_bends_loops : LoopsOK layoutref39_bends_C layoutref39_bends_As (loopsIn (bodyOf Tryd.f39)) := loops_ok layoutref39_bends_P (by kernel_rfl) (by kernel_rfl)
theorem layoutref39_bends_cons : ∀ f site c, (layoutref39_bends_C).con f site = some c → c.Holds Tryd.prog (layoutref39_bends_C).glob f := by
  intro f site c h
  unfold layoutref39_bends_C at h
  dsimp only at h
  split at h
  · cases h; exact layoutref39_Reverse_holds
  · cases h
theorem layoutref39_bends_holds : Con.Holds Tryd.prog glob 39 layoutref39_bends_c :=
  fn_holds (C := layoutref39_bends_C) (A := layoutref39_bends_As) (outs := [(.tmp 2, true, .bool)]) seat_ok layoutref39_bends_cons (by kernel_rfl) (by kernel_rfl) layoutref39_bends_loops (by kernel_rfl) (by kernel_rfl) layoutref39_bends_eq

def layoutref39_has_P : List (LoopPf layoutref39_has_C layoutref39_has_As (bodyOf Tryd.f41)) := [⟨2, layoutref39_has_A2, layoutref39_has_B2, rfl, layoutref39_has_R2⟩]
theorem layoutref39_has_loops : LoopsOK layoutref39_has_C layoutref39_has_As (loopsIn (bodyOf Tryd.f41)) := loops_ok layoutref39_has_P (by kernel_rfl) (by kernel_rfl)
theorem layoutref39_has_cons : ∀ f site c, (layoutref39_has_C).con f site = some c → c.Holds Tryd.prog (layoutref39_has_C).glob f := by
  intro f site c h; cases h
theorem layoutref39_has_holds : Con.Holds Tryd.prog glob 41 layoutref39_has_c :=
  fn_holds (C := layoutref39_has_C) (A := layoutref39_has_As) (outs := [(.tmp 4, true, .bool)]) seat_ok layoutref39_has_cons (by kernel_rfl) (by kernel_rfl) layoutref39_has_loops (by kernel_rfl) (by kernel_rfl) layoutref39_has_eq

def layoutref39_bent_P : List (LoopPf layoutref39_bent_C layoutref39_bent_As (bodyOf Tryd.f69)) := [⟨3, layoutref39_bent_A3, layoutref39_bent_B3, rfl, layoutref39_bent_R3⟩]
theorem layoutref39_bent_loops : LoopsOK layoutref39_bent_C layoutref39_bent_As (loopsIn (bodyOf Tryd.f69)) := loops_ok layoutref39_bent_P (by kernel_rfl) (by kernel_rfl)
theorem layoutref39_bent_cons : ∀ f site c, (layoutref39_bent_C).con f site = some c → c.Holds Tryd.prog (layoutref39_bent_C).glob f := by
  intro f site c h; cases h
theorem layoutref39_bent_holds : Con.Holds Tryd.prog glob 69 layoutref39_bent_c :=
  fn_holds (C := layoutref39_bent_C) (A := layoutref39_bent_As) (outs := [(.tmp 2, true, I)]) seat_ok layoutref39_bent_cons (by kernel_rfl) (by kernel_rfl) layoutref39_bent_loops (by kernel_rfl) (by kernel_rfl) layoutref39_bent_eq

def layoutref39_turns_P : List (LoopPf layoutref39_turns_C layoutref39_turns_As (bodyOf Tryd.f42)) := [⟨3, layoutref39_turns_A3, layoutref39_turns_B3, rfl, layoutref39_turns_R3⟩]
theorem layoutref39_turns_loops : LoopsOK layoutref39_turns_C layoutref39_turns_As (loopsIn (bodyOf Tryd.f42)) := loops_ok layoutref39_turns_P (by kernel_rfl) (by kernel_rfl)
theorem layoutref39_turns_cons : ∀ f site c, (layoutref39_turns_C).con f site = some c → c.Holds Tryd.prog (layoutref39_turns_C).glob f := by
  intro f site c h
  unfold layoutref39_turns_C at h
  dsimp only at h
  split at h
  · cases h; exact layoutref39_bent_holds
  · cases h
theorem layoutref39_turns_holds : Con.Holds Tryd.prog glob 42 layoutref39_turns_c :=
  fn_holds (C := layoutref39_turns_C) (A := layoutref39_turns_As) (outs := [(.tmp 4, true, I)]) seat_ok layoutref39_turns_cons (by kernel_rfl) (by kernel_rfl) layoutref39_turns_loops (by kernel_rfl) (by kernel_rfl) layoutref39_turns_eq

def layoutref39_Valid_P : List (LoopPf layoutref39_Valid_C layoutref39_Valid_As (bodyOf Tryd.f15)) := [⟨8, layoutref39_Valid_A8, layoutref39_Valid_B8, rfl, layoutref39_Valid_R8⟩]
theorem layoutref39_Valid_loops : LoopsOK layoutref39_Valid_C layoutref39_Valid_As (loopsIn (bodyOf Tryd.f15)) := loops_ok layoutref39_Valid_P (by kernel_rfl) (by kernel_rfl)
theorem layoutref39_Valid_cons : ∀ f site c, (layoutref39_Valid_C).con f site = some c → c.Holds Tryd.prog (layoutref39_Valid_C).glob f := by
  intro f site c h
  unfold layoutref39_Valid_C at h
  dsimp only at h
  split at h
  · cases h; exact layoutref29_Valid_holds
  · cases h; exact layoutref29_Planar_holds
  · cases h; exact layoutref39_sums_holds
  · cases h; exact layoutref39_bends_holds
  · cases h; exact layoutref29_Faces_holds
  · cases h; exact layoutref39_has_holds
  · cases h; exact layoutref39_turns_holds
  · cases h
theorem layoutref39_Valid_holds : Con.Holds Tryd.prog glob 15 layoutref39_Valid_c :=
  fn_holds (C := layoutref39_Valid_C) (A := layoutref39_Valid_As) (outs := [(.tmp 2, true, I)]) seat_ok layoutref39_Valid_cons (by kernel_rfl) (by kernel_rfl) layoutref39_Valid_loops (by kernel_rfl) (by kernel_rfl) layoutref39_Valid_eq

def layoutref39_Bends_P : List (LoopPf layoutref39_Bends_C layoutref39_Bends_As (bodyOf Tryd.f17)) := [⟨5, layoutref39_Bends_A5, layoutref39_Bends_B5, rfl, layoutref39_Bends_R5⟩]
theorem layoutref39_Bends_loops : LoopsOK layoutref39_Bends_C layoutref39_Bends_As (loopsIn (bodyOf Tryd.f17)) := loops_ok layoutref39_Bends_P (by kernel_rfl) (by kernel_rfl)
theorem layoutref39_Bends_cons : ∀ f site c, (layoutref39_Bends_C).con f site = some c → c.Holds Tryd.prog (layoutref39_Bends_C).glob f := by
  intro f site c h
  unfold layoutref39_Bends_C at h
  dsimp only at h
  split at h
  · cases h; exact layoutref39_Valid_holds
  · cases h
theorem layoutref39_Bends_holds : Con.Holds Tryd.prog glob 17 layoutref39_Bends_c :=
  fn_holds (C := layoutref39_Bends_C) (A := layoutref39_Bends_As) (outs := [(.tmp 2, true, I)]) seat_ok layoutref39_Bends_cons (by kernel_rfl) (by kernel_rfl) layoutref39_Bends_loops (by kernel_rfl) (by kernel_rfl) layoutref39_Bends_eq

def layoutref39_Turns_P : List (LoopPf layoutref39_Turns_C layoutref39_Turns_As (bodyOf Tryd.f19)) := [⟨5, layoutref39_Turns_A5, layoutref39_Turns_B5, rfl, layoutref39_Turns_R5⟩]
theorem layoutref39_Turns_loops : LoopsOK layoutref39_Turns_C layoutref39_Turns_As (loopsIn (bodyOf Tryd.f19)) := loops_ok layoutref39_Turns_P (by kernel_rfl) (by kernel_rfl)
theorem layoutref39_Turns_cons : ∀ f site c, (layoutref39_Turns_C).con f site = some c → c.Holds Tryd.prog (layoutref39_Turns_C).glob f := by
  intro f site c h
  unfold layoutref39_Turns_C at h
  dsimp only at h
  split at h
  · cases h; exact layoutref39_Valid_holds
  · cases h; exact layoutref29_Faces_holds
  · cases h; exact layoutref39_has_holds
  · cases h; exact layoutref39_turns_holds
  · cases h
theorem layoutref39_Turns_holds : Con.Holds Tryd.prog glob 19 layoutref39_Turns_c :=
  fn_holds (C := layoutref39_Turns_C) (A := layoutref39_Turns_As) (outs := [(.tmp 4, true, I)]) seat_ok layoutref39_Turns_cons (by kernel_rfl) (by kernel_rfl) layoutref39_Turns_loops (by kernel_rfl) (by kernel_rfl) layoutref39_Turns_eq

def layoutlaw39_ShapeValid_P : List (LoopPf layoutlaw39_ShapeValid_C layoutlaw39_ShapeValid_As (bodyOf Tryd.f3)) := []
theorem layoutlaw39_ShapeValid_loops : LoopsOK layoutlaw39_ShapeValid_C layoutlaw39_ShapeValid_As (loopsIn (bodyOf Tryd.f3)) := loops_ok layoutlaw39_ShapeValid_P (by kernel_rfl) (by kernel_rfl)
theorem layoutlaw39_ShapeValid_cons : ∀ f site c, (layoutlaw39_ShapeValid_C).con f site = some c → c.Holds Tryd.prog (layoutlaw39_ShapeValid_C).glob f := by
  intro f site c h
  unfold layoutlaw39_ShapeValid_C at h
  dsimp only at h
  split at h
  · cases h; exact layoutlaw39_small_holds
  · cases h; exact layoutlaw39_awake_holds
  · cases h; exact shape_Valid_holds
  · cases h; exact layoutref39_Valid_holds
  · cases h; exact shape_Bends_holds
  · cases h; exact layoutref39_Bends_holds
  · cases h; exact shape_Turns_holds
  · cases h; exact layoutref39_Turns_holds
  · cases h
theorem layoutlaw39_ShapeValid_holds : Con.Holds Tryd.prog glob 3 layoutlaw39_ShapeValid_c :=
  fn_holds (C := layoutlaw39_ShapeValid_C) (A := layoutlaw39_ShapeValid_As) (outs := [(.tmp 4, true, .bool)]) seat_ok layoutlaw39_ShapeValid_cons (by kernel_rfl) (by kernel_rfl) layoutlaw39_ShapeValid_loops (by kernel_rfl) (by kernel_rfl) layoutlaw39_ShapeValid_eq

def layoutlaw39_ShapeReverse_P : List (LoopPf layoutlaw39_ShapeReverse_C layoutlaw39_ShapeReverse_As (bodyOf Tryd.f4)) := []
theorem layoutlaw39_ShapeReverse_loops : LoopsOK layoutlaw39_ShapeReverse_C layoutlaw39_ShapeReverse_As (loopsIn (bodyOf Tryd.f4)) := loops_ok layoutlaw39_ShapeReverse_P (by kernel_rfl) (by kernel_rfl)
theorem layoutlaw39_ShapeReverse_cons : ∀ f site c, (layoutlaw39_ShapeReverse_C).con f site = some c → c.Holds Tryd.prog (layoutlaw39_ShapeReverse_C).glob f := by
  intro f site c h
  unfold layoutlaw39_ShapeReverse_C at h
  dsimp only at h
  split at h
  · cases h; exact layoutlaw39_awake_holds
  · cases h; exact shape_Reverse_holds
  · cases h; exact layoutref39_Reverse_holds
  · cases h
theorem layoutlaw39_ShapeReverse_holds : Con.Holds Tryd.prog glob 4 layoutlaw39_ShapeReverse_c :=
  fn_holds (C := layoutlaw39_ShapeReverse_C) (A := layoutlaw39_ShapeReverse_As) (outs := [(.tmp 2, true, .bool)]) seat_ok layoutlaw39_ShapeReverse_cons (by kernel_rfl) (by kernel_rfl) layoutlaw39_ShapeReverse_loops (by kernel_rfl) (by kernel_rfl) layoutlaw39_ShapeReverse_eq

def layoutref29_Mirror_P : List (LoopPf layoutref29_Mirror_C layoutref29_Mirror_As (bodyOf Tryd.f51)) := [⟨5, layoutref29_Mirror_A5, layoutref29_Mirror_B5, rfl, layoutref29_Mirror_R5⟩, ⟨9, layoutref29_Mirror_A9, layoutref29_Mirror_B9, rfl, layoutref29_Mirror_R9⟩]
theorem layoutref29_Mirror_loops : LoopsOK layoutref29_Mirror_C layoutref29_Mirror_As (loopsIn (bodyOf Tryd.f51)) := loops_ok layoutref29_Mirror_P (by kernel_rfl) (by kernel_rfl)
theorem layoutref29_Mirror_cons : ∀ f site c, (layoutref29_Mirror_C).con f site = some c → c.Holds Tryd.prog (layoutref29_Mirror_C).glob f := by
  intro f site c h
  unfold layoutref29_Mirror_C at h
  dsimp only at h
  split at h
  · cases h; exact layoutref29_Valid_holds
  · cases h
theorem layoutref29_Mirror_holds : Con.Holds Tryd.prog glob 51 layoutref29_Mirror_c :=
  fn_holds (C := layoutref29_Mirror_C) (A := layoutref29_Mirror_As) (outs := [(.cell 2 25, true, (.prod I (.prod (.slice (.prod I (.prod I .unit))) (.prod (.slice (.slice I)) .unit))))]) seat_ok layoutref29_Mirror_cons (by kernel_rfl) (by kernel_rfl) layoutref29_Mirror_loops (by kernel_rfl) (by kernel_rfl) layoutref29_Mirror_eq

def layoutref39_Exchange_P : List (LoopPf layoutref39_Exchange_C layoutref39_Exchange_As (bodyOf Tryd.f52)) := [⟨3, layoutref39_Exchange_A3, layoutref39_Exchange_B3, rfl, layoutref39_Exchange_R3⟩]
theorem layoutref39_Exchange_loops : LoopsOK layoutref39_Exchange_C layoutref39_Exchange_As (loopsIn (bodyOf Tryd.f52)) := loops_ok layoutref39_Exchange_P (by kernel_rfl) (by kernel_rfl)
theorem layoutref39_Exchange_cons : ∀ f site c, (layoutref39_Exchange_C).con f site = some c → c.Holds Tryd.prog (layoutref39_Exchange_C).glob f := by
  intro f site c h
  unfold layoutref39_Exchange_C at h
  dsimp only at h
  split at h
  · cases h; exact layoutref39_exchange_holds
  · cases h
theorem layoutref39_Exchange_holds : Con.Holds Tryd.prog glob 52 layoutref39_Exchange_c :=
  fn_holds (C := layoutref39_Exchange_C) (A := layoutref39_Exchange_As) (outs := [(.tmp 2, true, .str)]) seat_ok layoutref39_Exchange_cons (by kernel_rfl) (by kernel_rfl) layoutref39_Exchange_loops (by kernel_rfl) (by kernel_rfl) layoutref39_Exchange_eq

def layoutref39_Mirror_P : List (LoopPf layoutref39_Mirror_C layoutref39_Mirror_As (bodyOf Tryd.f24)) := [⟨6, layoutref39_Mirror_A6, layoutref39_Mirror_B6, rfl, layoutref39_Mirror_R6⟩, ⟨10, layoutref39_Mirror_A10, layoutref39_Mirror_B10, rfl, layoutref39_Mirror_R10⟩, ⟨14, layoutref39_Mirror_A14, layoutref39_Mirror_B14, rfl, layoutref39_Mirror_R14⟩]
theorem layoutref39_Mirror_loops : LoopsOK layoutref39_Mirror_C layoutref39_Mirror_As (loopsIn (bodyOf Tryd.f24)) := loops_ok layoutref39_Mirror_P (by kernel_rfl) (by kernel_rfl)
theorem layoutref39_Mirror_cons : ∀ f site c, (layoutref39_Mirror_C).con f site = some c → c.Holds Tryd.prog (layoutref39_Mirror_C).glob f := by
  intro f site c h
  unfold layoutref39_Mirror_C at h
  dsimp only at h
  split at h
  · cases h; exact layoutref39_Valid_holds
  · cases h; exact layoutref29_Mirror_holds
  · cases h; exact layoutref39_Exchange_holds
  · cases h
theorem layoutref39_Mirror_holds : Con.Holds Tryd.prog glob 24 layoutref39_Mirror_c :=
  fn_holds (C := layoutref39_Mirror_C) (A := layoutref39_Mirror_As) (outs := [(.cell 2 29, true, (.prod (.prod I (.prod (.slice (.prod I (.prod I .unit))) (.prod (.slice (.slice I)) .unit))) (.prod (.slice I) (.prod (.slice .str) (.prod I .unit)))))]) seat_ok layoutref39_Mirror_cons (by kernel_rfl) (by kernel_rfl) layoutref39_Mirror_loops (by kernel_rfl) (by kernel_rfl) layoutref39_Mirror_eq

def layoutref29_cyclic_P : List (LoopPf layoutref29_cyclic_C layoutref29_cyclic_As (bodyOf Tryd.f59)) := [⟨4, layoutref29_cyclic_A4, layoutref29_cyclic_B4, rfl, layoutref29_cyclic_R4⟩, ⟨8, layoutref29_cyclic_A8, layoutref29_cyclic_B8, rfl, layoutref29_cyclic_R8⟩]
theorem layoutref29_cyclic_loops : LoopsOK layoutref29_cyclic_C layoutref29_cyclic_As (loopsIn (bodyOf Tryd.f59)) := loops_ok layoutref29_cyclic_P (by kernel_rfl) (by kernel_rfl)
theorem layoutref29_cyclic_cons : ∀ f site c, (layoutref29_cyclic_C).con f site = some c → c.Holds Tryd.prog (layoutref29_cyclic_C).glob f := by
  intro f site c h; cases h
theorem layoutref29_cyclic_holds : Con.Holds Tryd.prog glob 59 layoutref29_cyclic_c :=
  fn_holds (C := layoutref29_cyclic_C) (A := layoutref29_cyclic_As) (outs := [(.tmp 4, true, .bool)]) seat_ok layoutref29_cyclic_cons (by kernel_rfl) (by kernel_rfl) layoutref29_cyclic_loops (by kernel_rfl) (by kernel_rfl) layoutref29_cyclic_eq

def layoutref29_Same_P : List (LoopPf layoutref29_Same_C layoutref29_Same_As (bodyOf Tryd.f33)) := [⟨4, layoutref29_Same_A4, layoutref29_Same_B4, rfl, layoutref29_Same_R4⟩, ⟨9, layoutref29_Same_A9, layoutref29_Same_B9, rfl, layoutref29_Same_R9⟩]
theorem layoutref29_Same_loops : LoopsOK layoutref29_Same_C layoutref29_Same_As (loopsIn (bodyOf Tryd.f33)) := loops_ok layoutref29_Same_P (by kernel_rfl) (by kernel_rfl)
theorem layoutref29_Same_cons : ∀ f site c, (layoutref29_Same_C).con f site = some c → c.Holds Tryd.prog (layoutref29_Same_C).glob f := by
  intro f site c h
  unfold layoutref29_Same_C at h
  dsimp only at h
  split at h
  · cases h; exact layoutref29_cyclic_holds
  · cases h
theorem layoutref29_Same_holds : Con.Holds Tryd.prog glob 33 layoutref29_Same_c :=
  fn_holds (C := layoutref29_Same_C) (A := layoutref29_Same_As) (outs := [(.tmp 4, true, .bool)]) seat_ok layoutref29_Same_cons (by kernel_rfl) (by kernel_rfl) layoutref29_Same_loops (by kernel_rfl) (by kernel_rfl) layoutref29_Same_eq

def layoutref39_Same_P : List (LoopPf layoutref39_Same_C layoutref39_Same_As (bodyOf Tryd.f22)) := [⟨4, layoutref39_Same_A4, layoutref39_Same_B4, rfl, layoutref39_Same_R4⟩, ⟨9, layoutref39_Same_A9, layoutref39_Same_B9, rfl, layoutref39_Same_R9⟩]
theorem layoutref39_Same_loops : LoopsOK layoutref39_Same_C layoutref39_Same_As (loopsIn (bodyOf Tryd.f22)) := loops_ok layoutref39_Same_P (by kernel_rfl) (by kernel_rfl)
theorem layoutref39_Same_cons : ∀ f site c, (layoutref39_Same_C).con f site = some c → c.Holds Tryd.prog (layoutref39_Same_C).glob f := by
  intro f site c h
  unfold layoutref39_Same_C at h
  dsimp only at h
  split at h
  · cases h; exact layoutref29_Same_holds
  · cases h
theorem layoutref39_Same_holds : Con.Holds Tryd.prog glob 22 layoutref39_Same_c :=
  fn_holds (C := layoutref39_Same_C) (A := layoutref39_Same_As) (outs := [(.tmp 4, true, .bool)]) seat_ok layoutref39_Same_cons (by kernel_rfl) (by kernel_rfl) layoutref39_Same_loops (by kernel_rfl) (by kernel_rfl) layoutref39_Same_eq

def layoutlaw39_ShapeMirrors_P : List (LoopPf layoutlaw39_ShapeMirrors_C layoutlaw39_ShapeMirrors_As (bodyOf Tryd.f5)) := []
theorem layoutlaw39_ShapeMirrors_loops : LoopsOK layoutlaw39_ShapeMirrors_C layoutlaw39_ShapeMirrors_As (loopsIn (bodyOf Tryd.f5)) := loops_ok layoutlaw39_ShapeMirrors_P (by kernel_rfl) (by kernel_rfl)
theorem layoutlaw39_ShapeMirrors_cons : ∀ f site c, (layoutlaw39_ShapeMirrors_C).con f site = some c → c.Holds Tryd.prog (layoutlaw39_ShapeMirrors_C).glob f := by
  intro f site c h
  unfold layoutlaw39_ShapeMirrors_C at h
  dsimp only at h
  split at h
  · cases h; exact layoutlaw39_small_holds
  · cases h; exact layoutlaw39_awake_holds
  · cases h; exact layoutref39_Same_holds
  · cases h; exact shape_Mirror_holds
  · cases h; exact layoutref39_Mirror_holds
  · cases h
theorem layoutlaw39_ShapeMirrors_holds : Con.Holds Tryd.prog glob 5 layoutlaw39_ShapeMirrors_c :=
  fn_holds (C := layoutlaw39_ShapeMirrors_C) (A := layoutlaw39_ShapeMirrors_As) (outs := [(.tmp 2, true, .bool)]) seat_ok layoutlaw39_ShapeMirrors_cons (by kernel_rfl) (by kernel_rfl) layoutlaw39_ShapeMirrors_loops (by kernel_rfl) (by kernel_rfl) layoutlaw39_ShapeMirrors_eq

def layoutlaw39_ShapeBack_P : List (LoopPf layoutlaw39_ShapeBack_C layoutlaw39_ShapeBack_As (bodyOf Tryd.f6)) := []
theorem layoutlaw39_ShapeBack_loops : LoopsOK layoutlaw39_ShapeBack_C layoutlaw39_ShapeBack_As (loopsIn (bodyOf Tryd.f6)) := loops_ok layoutlaw39_ShapeBack_P (by kernel_rfl) (by kernel_rfl)
theorem layoutlaw39_ShapeBack_cons : ∀ f site c, (layoutlaw39_ShapeBack_C).con f site = some c → c.Holds Tryd.prog (layoutlaw39_ShapeBack_C).glob f := by
  intro f site c h
  unfold layoutlaw39_ShapeBack_C at h
  dsimp only at h
  split at h
  · cases h; exact layoutlaw39_small_holds
  · cases h; exact layoutlaw39_awake_holds
  · cases h; exact layoutref39_Valid_holds
  · cases h; exact shape_Bends_holds
  · cases h; exact layoutref39_Same_holds
  · cases h; exact shape_Mirror_holds
  · cases h
theorem layoutlaw39_ShapeBack_holds : Con.Holds Tryd.prog glob 6 layoutlaw39_ShapeBack_c :=
  fn_holds (C := layoutlaw39_ShapeBack_C) (A := layoutlaw39_ShapeBack_As) (outs := [(.tmp 2, true, .bool)]) seat_ok layoutlaw39_ShapeBack_cons (by kernel_rfl) (by kernel_rfl) layoutlaw39_ShapeBack_loops (by kernel_rfl) (by kernel_rfl) layoutlaw39_ShapeBack_eq

def layoutlaw39_ShapeFaces_P : List (LoopPf layoutlaw39_ShapeFaces_C layoutlaw39_ShapeFaces_As (bodyOf Tryd.f7)) := [⟨4, layoutlaw39_ShapeFaces_A4, layoutlaw39_ShapeFaces_B4, rfl, layoutlaw39_ShapeFaces_R4⟩, ⟨10, layoutlaw39_ShapeFaces_A10, layoutlaw39_ShapeFaces_B10, rfl, layoutlaw39_ShapeFaces_R10⟩]
theorem layoutlaw39_ShapeFaces_loops : LoopsOK layoutlaw39_ShapeFaces_C layoutlaw39_ShapeFaces_As (loopsIn (bodyOf Tryd.f7)) := loops_ok layoutlaw39_ShapeFaces_P (by kernel_rfl) (by kernel_rfl)
theorem layoutlaw39_ShapeFaces_cons : ∀ f site c, (layoutlaw39_ShapeFaces_C).con f site = some c → c.Holds Tryd.prog (layoutlaw39_ShapeFaces_C).glob f := by
  intro f site c h
  unfold layoutlaw39_ShapeFaces_C at h
  dsimp only at h
  split at h
  · cases h; exact layoutlaw39_small_holds
  · cases h; exact layoutlaw39_awake_holds
  · cases h; exact shape_Valid_holds
  · cases h; exact shape_Turns_holds
  · cases h
theorem layoutlaw39_ShapeFaces_holds : Con.Holds Tryd.prog glob 7 layoutlaw39_ShapeFaces_c :=
  fn_holds (C := layoutlaw39_ShapeFaces_C) (A := layoutlaw39_ShapeFaces_As) (outs := [(.tmp 2, true, .bool)]) seat_ok layoutlaw39_ShapeFaces_cons (by kernel_rfl) (by kernel_rfl) layoutlaw39_ShapeFaces_loops (by kernel_rfl) (by kernel_rfl) layoutlaw39_ShapeFaces_eq
end
end Go.Vm

/-
  Contracts of the functions that the law reaches.
-/
import Derived.Test.YtgeebcgkjcnneaaDoorD39R
import Derived.Test.YtgeebcgkjcnneaaDoorVmC
set_option linter.unusedVariables false
set_option linter.unusedSimpArgs false
namespace Go.Vm
open Go.Proofs
noncomputable section
set_option maxRecDepth 100000
theorem seat_ok : SeatOK Tryd.prog tab eqs := ⟨by kernel_rfl, by kernel_rfl, by kernel_rfl⟩
def layoutlaw39_square_P : List (LoopPf layoutlaw39_square_C layoutlaw39_square_As (bodyOf Tryd.f35)) := []
theorem layoutlaw39_square_loops : LoopsOK layoutlaw39_square_C layoutlaw39_square_As (loopsIn (bodyOf Tryd.f35)) := loops_ok layoutlaw39_square_P (by kernel_rfl) (by kernel_rfl)
theorem layoutlaw39_square_cons : ∀ f site c, (layoutlaw39_square_C).con f site = some c → c.Holds Tryd.prog (layoutlaw39_square_C).glob f := by
  intro f site c h; cases h
theorem layoutlaw39_square_holds : Con.Holds Tryd.prog glob 35 layoutlaw39_square_c :=
  fn_holds (C := layoutlaw39_square_C) (A := layoutlaw39_square_As) (outs := [(.cell 0 29, true, (.prod (.prod I (.prod (.slice (.prod I (.prod I .unit))) (.prod (.slice (.slice I)) .unit))) (.prod (.slice I) (.prod (.slice .str) (.prod I .unit)))))]) seat_ok layoutlaw39_square_cons (by kernel_rfl) (by kernel_rfl) layoutlaw39_square_loops (by kernel_rfl) (by kernel_rfl) layoutlaw39_square_eq

def rotation_tail_P : List (LoopPf rotation_tail_C rotation_tail_As (bodyOf Tryd.f86)) := []
theorem rotation_tail_loops : LoopsOK rotation_tail_C rotation_tail_As (loopsIn (bodyOf Tryd.f86)) := loops_ok rotation_tail_P (by kernel_rfl) (by kernel_rfl)
theorem rotation_tail_cons : ∀ f site c, (rotation_tail_C).con f site = some c → c.Holds Tryd.prog (rotation_tail_C).glob f := by
  intro f site c h; cases h
theorem rotation_tail_holds : Con.Holds Tryd.prog glob 86 rotation_tail_c :=
  fn_holds (C := rotation_tail_C) (A := rotation_tail_As) (outs := [(.tmp 4, true, I)]) seat_ok rotation_tail_cons (by kernel_rfl) (by kernel_rfl) rotation_tail_loops (by kernel_rfl) (by kernel_rfl) rotation_tail_eq

def rotation_Valid_P : List (LoopPf rotation_Valid_C rotation_Valid_As (bodyOf Tryd.f60)) := [⟨4, rotation_Valid_A4, rotation_Valid_B4, rfl, rotation_Valid_R4⟩, ⟨12, rotation_Valid_A12, rotation_Valid_B12, rfl, rotation_Valid_R12⟩, ⟨15, rotation_Valid_A15, rotation_Valid_B15, rfl, rotation_Valid_R15⟩]
theorem rotation_Valid_loops : LoopsOK rotation_Valid_C rotation_Valid_As (loopsIn (bodyOf Tryd.f60)) := loops_ok rotation_Valid_P (by kernel_rfl) (by kernel_rfl)
theorem rotation_Valid_cons : ∀ f site c, (rotation_Valid_C).con f site = some c → c.Holds Tryd.prog (rotation_Valid_C).glob f := by
  intro f site c h
  unfold rotation_Valid_C at h
  dsimp only at h
  split at h
  · cases h; exact rotation_tail_holds
  · cases h
theorem rotation_Valid_holds : Con.Holds Tryd.prog glob 60 rotation_Valid_c :=
  fn_holds (C := rotation_Valid_C) (A := rotation_Valid_As) (outs := [(.tmp 2, true, .bool)]) seat_ok rotation_Valid_cons (by kernel_rfl) (by kernel_rfl) rotation_Valid_loops (by kernel_rfl) (by kernel_rfl) rotation_Valid_eq

def rotation_Tail_P : List (LoopPf rotation_Tail_C rotation_Tail_As (bodyOf Tryd.f78)) := []
theorem rotation_Tail_loops : LoopsOK rotation_Tail_C rotation_Tail_As (loopsIn (bodyOf Tryd.f78)) := loops_ok rotation_Tail_P (by kernel_rfl) (by kernel_rfl)
theorem rotation_Tail_cons : ∀ f site c, (rotation_Tail_C).con f site = some c → c.Holds Tryd.prog (rotation_Tail_C).glob f := by
  intro f site c h
  unfold rotation_Tail_C at h
  dsimp only at h
  split at h
  · cases h; exact rotation_Valid_holds
  · cases h; exact rotation_tail_holds
  · cases h
theorem rotation_Tail_holds : Con.Holds Tryd.prog glob 78 rotation_Tail_c :=
  fn_holds (C := rotation_Tail_C) (A := rotation_Tail_As) (outs := [(.tmp 4, true, I)]) seat_ok rotation_Tail_cons (by kernel_rfl) (by kernel_rfl) rotation_Tail_loops (by kernel_rfl) (by kernel_rfl) rotation_Tail_eq

def shape_connected_P : List (LoopPf shape_connected_C shape_connected_As (bodyOf Tryd.f61)) := [⟨6, shape_connected_A6, shape_connected_B6, rfl, shape_connected_R6⟩, ⟨11, shape_connected_A11, shape_connected_B11, rfl, shape_connected_R11⟩]
theorem shape_connected_loops : LoopsOK shape_connected_C shape_connected_As (loopsIn (bodyOf Tryd.f61)) := loops_ok shape_connected_P (by kernel_rfl) (by kernel_rfl)
theorem shape_connected_cons : ∀ f site c, (shape_connected_C).con f site = some c → c.Holds Tryd.prog (shape_connected_C).glob f := by
  intro f site c h
  unfold shape_connected_C at h
  dsimp only at h
  split at h
  · cases h; exact rotation_Tail_holds
  · cases h
theorem shape_connected_holds : Con.Holds Tryd.prog glob 61 shape_connected_c :=
  fn_holds (C := shape_connected_C) (A := shape_connected_As) (outs := [(.tmp 2, true, .bool)]) seat_ok shape_connected_cons (by kernel_rfl) (by kernel_rfl) shape_connected_loops (by kernel_rfl) (by kernel_rfl) shape_connected_eq

def rotation_follow_P : List (LoopPf rotation_follow_C rotation_follow_As (bodyOf Tryd.f70)) := [⟨3, rotation_follow_A3, rotation_follow_B3, rfl, rotation_follow_R3⟩, ⟨6, rotation_follow_A6, rotation_follow_B6, rfl, rotation_follow_R6⟩]
theorem rotation_follow_loops : LoopsOK rotation_follow_C rotation_follow_As (loopsIn (bodyOf Tryd.f70)) := loops_ok rotation_follow_P (by kernel_rfl) (by kernel_rfl)
theorem rotation_follow_cons : ∀ f site c, (rotation_follow_C).con f site = some c → c.Holds Tryd.prog (rotation_follow_C).glob f := by
  intro f site c h; cases h
theorem rotation_follow_holds : Con.Holds Tryd.prog glob 70 rotation_follow_c :=
  fn_holds (C := rotation_follow_C) (A := rotation_follow_As) (outs := [(.tmp 2, true, (.slice I))]) seat_ok rotation_follow_cons (by kernel_rfl) (by kernel_rfl) rotation_follow_loops (by kernel_rfl) (by kernel_rfl) rotation_follow_eq

def rotation_Faces_P : List (LoopPf rotation_Faces_C rotation_Faces_As (bodyOf Tryd.f43)) := [⟨7, rotation_Faces_A7, rotation_Faces_B7, rfl, rotation_Faces_R7⟩, ⟨11, rotation_Faces_A11, rotation_Faces_B11, rfl, rotation_Faces_R11⟩]
theorem rotation_Faces_loops : LoopsOK rotation_Faces_C rotation_Faces_As (loopsIn (bodyOf Tryd.f43)) := loops_ok rotation_Faces_P (by kernel_rfl) (by kernel_rfl)
theorem rotation_Faces_cons : ∀ f site c, (rotation_Faces_C).con f site = some c → c.Holds Tryd.prog (rotation_Faces_C).glob f := by
  intro f site c h
  unfold rotation_Faces_C at h
  dsimp only at h
  split at h
  · cases h; exact rotation_Valid_holds
  · cases h; exact rotation_follow_holds
  · cases h
theorem rotation_Faces_holds : Con.Holds Tryd.prog glob 43 rotation_Faces_c :=
  fn_holds (C := rotation_Faces_C) (A := rotation_Faces_As) (outs := [(.tmp 2, true, (.slice (.slice I)))]) seat_ok rotation_Faces_cons (by kernel_rfl) (by kernel_rfl) rotation_Faces_loops (by kernel_rfl) (by kernel_rfl) rotation_Faces_eq

def rotation_components_P : List (LoopPf rotation_components_C rotation_components_As (bodyOf Tryd.f87)) := [⟨4, rotation_components_A4, rotation_components_B4, rfl, rotation_components_R4⟩, ⟨10, rotation_components_A10, rotation_components_B10, rfl, rotation_components_R10⟩, ⟨13, rotation_components_A13, rotation_components_B13, rfl, rotation_components_R13⟩]
theorem rotation_components_loops : LoopsOK rotation_components_C rotation_components_As (loopsIn (bodyOf Tryd.f87)) := loops_ok rotation_components_P (by kernel_rfl) (by kernel_rfl)
theorem rotation_components_cons : ∀ f site c, (rotation_components_C).con f site = some c → c.Holds Tryd.prog (rotation_components_C).glob f := by
  intro f site c h
  unfold rotation_components_C at h
  dsimp only at h
  split at h
  · cases h; exact rotation_tail_holds
  · cases h
theorem rotation_components_holds : Con.Holds Tryd.prog glob 87 rotation_components_c :=
  fn_holds (C := rotation_components_C) (A := rotation_components_As) (outs := [(.tmp 2, true, I)]) seat_ok rotation_components_cons (by kernel_rfl) (by kernel_rfl) rotation_components_loops (by kernel_rfl) (by kernel_rfl) rotation_components_eq

def rotation_Genus_P : List (LoopPf rotation_Genus_C rotation_Genus_As (bodyOf Tryd.f62)) := [⟨5, rotation_Genus_A5, rotation_Genus_B5, rfl, rotation_Genus_R5⟩]
theorem rotation_Genus_loops : LoopsOK rotation_Genus_C rotation_Genus_As (loopsIn (bodyOf Tryd.f62)) := loops_ok rotation_Genus_P (by kernel_rfl) (by kernel_rfl)
theorem rotation_Genus_cons : ∀ f site c, (rotation_Genus_C).con f site = some c → c.Holds Tryd.prog (rotation_Genus_C).glob f := by
  intro f site c h
  unfold rotation_Genus_C at h
  dsimp only at h
  split at h
  · cases h; exact rotation_Faces_holds
  · cases h; exact rotation_Valid_holds
  · cases h; exact rotation_components_holds
  · cases h
theorem rotation_Genus_holds : Con.Holds Tryd.prog glob 62 rotation_Genus_c :=
  fn_holds (C := rotation_Genus_C) (A := rotation_Genus_As) (outs := [(.tmp 2, true, I)]) seat_ok rotation_Genus_cons (by kernel_rfl) (by kernel_rfl) rotation_Genus_loops (by kernel_rfl) (by kernel_rfl) rotation_Genus_eq

def shape_angled_P : List (LoopPf shape_angled_C shape_angled_As (bodyOf Tryd.f63)) := [⟨2, shape_angled_A2, shape_angled_B2, rfl, shape_angled_R2⟩, ⟨6, shape_angled_A6, shape_angled_B6, rfl, shape_angled_R6⟩]
theorem shape_angled_loops : LoopsOK shape_angled_C shape_angled_As (loopsIn (bodyOf Tryd.f63)) := loops_ok shape_angled_P (by kernel_rfl) (by kernel_rfl)
theorem shape_angled_cons : ∀ f site c, (shape_angled_C).con f site = some c → c.Holds Tryd.prog (shape_angled_C).glob f := by
  intro f site c h; cases h
theorem shape_angled_holds : Con.Holds Tryd.prog glob 63 shape_angled_c :=
  fn_holds (C := shape_angled_C) (A := shape_angled_As) (outs := [(.tmp 2, true, .bool)]) seat_ok shape_angled_cons (by kernel_rfl) (by kernel_rfl) shape_angled_loops (by kernel_rfl) (by kernel_rfl) shape_angled_eq

def shape_swapped_P : List (LoopPf shape_swapped_C shape_swapped_As (bodyOf Tryd.f47)) := []
theorem shape_swapped_loops : LoopsOK shape_swapped_C shape_swapped_As (loopsIn (bodyOf Tryd.f47)) := loops_ok shape_swapped_P (by kernel_rfl) (by kernel_rfl)
theorem shape_swapped_cons : ∀ f site c, (shape_swapped_C).con f site = some c → c.Holds Tryd.prog (shape_swapped_C).glob f := by
  intro f site c h; cases h
theorem shape_swapped_holds : Con.Holds Tryd.prog glob 47 shape_swapped_c :=
  fn_holds (C := shape_swapped_C) (A := shape_swapped_As) (outs := [(.tmp 2, true, (.int .u8)), (.tmp 3, true, .bool)]) seat_ok shape_swapped_cons (by kernel_rfl) (by kernel_rfl) shape_swapped_loops (by kernel_rfl) (by kernel_rfl) shape_swapped_eq

def shape_bent_P : List (LoopPf shape_bent_C shape_bent_As (bodyOf Tryd.f64)) := [⟨4, shape_bent_A4, shape_bent_B4, rfl, shape_bent_R4⟩]
theorem shape_bent_loops : LoopsOK shape_bent_C shape_bent_As (loopsIn (bodyOf Tryd.f64)) := loops_ok shape_bent_P (by kernel_rfl) (by kernel_rfl)
theorem shape_bent_cons : ∀ f site c, (shape_bent_C).con f site = some c → c.Holds Tryd.prog (shape_bent_C).glob f := by
  intro f site c h
  unfold shape_bent_C at h
  dsimp only at h
  split at h
  · cases h; exact shape_swapped_holds
  · cases h
theorem shape_bent_holds : Con.Holds Tryd.prog glob 64 shape_bent_c :=
  fn_holds (C := shape_bent_C) (A := shape_bent_As) (outs := [(.tmp 2, true, .bool)]) seat_ok shape_bent_cons (by kernel_rfl) (by kernel_rfl) shape_bent_loops (by kernel_rfl) (by kernel_rfl) shape_bent_eq

def slices_Reverse_byte_P : List (LoopPf slices_Reverse_byte_C slices_Reverse_byte_As (bodyOf Tryd.f46)) := [⟨1, slices_Reverse_byte_A1, slices_Reverse_byte_B1, rfl, slices_Reverse_byte_R1⟩]
theorem slices_Reverse_byte_loops : LoopsOK slices_Reverse_byte_C slices_Reverse_byte_As (loopsIn (bodyOf Tryd.f46)) := loops_ok slices_Reverse_byte_P (by kernel_rfl) (by kernel_rfl)
theorem slices_Reverse_byte_cons : ∀ f site c, (slices_Reverse_byte_C).con f site = some c → c.Holds Tryd.prog (slices_Reverse_byte_C).glob f := by
  intro f site c h; cases h
theorem slices_Reverse_byte_holds : Con.Holds Tryd.prog glob 46 slices_Reverse_byte_c :=
  fn_holds (C := slices_Reverse_byte_C) (A := slices_Reverse_byte_As) (outs := []) seat_ok slices_Reverse_byte_cons (by kernel_rfl) (by kernel_rfl) slices_Reverse_byte_loops (by kernel_rfl) (by kernel_rfl) slices_Reverse_byte_eq

def shape_Reverse_P : List (LoopPf shape_Reverse_C shape_Reverse_As (bodyOf Tryd.f20)) := [⟨4, shape_Reverse_A4, shape_Reverse_B4, rfl, shape_Reverse_R4⟩]
theorem shape_Reverse_loops : LoopsOK shape_Reverse_C shape_Reverse_As (loopsIn (bodyOf Tryd.f20)) := loops_ok shape_Reverse_P (by kernel_rfl) (by kernel_rfl)
theorem shape_Reverse_cons : ∀ f site c, (shape_Reverse_C).con f site = some c → c.Holds Tryd.prog (shape_Reverse_C).glob f := by
  intro f site c h
  unfold shape_Reverse_C at h
  dsimp only at h
  split at h
  · cases h; exact slices_Reverse_byte_holds
  · cases h; exact shape_swapped_holds
  · cases h
theorem shape_Reverse_holds : Con.Holds Tryd.prog glob 20 shape_Reverse_c :=
  fn_holds (C := shape_Reverse_C) (A := shape_Reverse_As) (outs := [(.tmp 2, true, .str)]) seat_ok shape_Reverse_cons (by kernel_rfl) (by kernel_rfl) shape_Reverse_loops (by kernel_rfl) (by kernel_rfl) shape_Reverse_eq

def slices_Index_int_P : List (LoopPf slices_Index_int_C slices_Index_int_As (bodyOf Tryd.f71)) := [⟨2, slices_Index_int_A2, slices_Index_int_B2, rfl, slices_Index_int_R2⟩]
theorem slices_Index_int_loops : LoopsOK slices_Index_int_C slices_Index_int_As (loopsIn (bodyOf Tryd.f71)) := loops_ok slices_Index_int_P (by kernel_rfl) (by kernel_rfl)
theorem slices_Index_int_cons : ∀ f site c, (slices_Index_int_C).con f site = some c → c.Holds Tryd.prog (slices_Index_int_C).glob f := by
  intro f site c h; cases h
theorem slices_Index_int_holds : Con.Holds Tryd.prog glob 71 slices_Index_int_c :=
  fn_holds (C := slices_Index_int_C) (A := slices_Index_int_As) (outs := [(.tmp 4, true, I)]) seat_ok slices_Index_int_cons (by kernel_rfl) (by kernel_rfl) slices_Index_int_loops (by kernel_rfl) (by kernel_rfl) slices_Index_int_eq

def slices_Contains_int_P : List (LoopPf slices_Contains_int_C slices_Contains_int_As (bodyOf Tryd.f44)) := []
theorem slices_Contains_int_loops : LoopsOK slices_Contains_int_C slices_Contains_int_As (loopsIn (bodyOf Tryd.f44)) := loops_ok slices_Contains_int_P (by kernel_rfl) (by kernel_rfl)
theorem slices_Contains_int_cons : ∀ f site c, (slices_Contains_int_C).con f site = some c → c.Holds Tryd.prog (slices_Contains_int_C).glob f := by
  intro f site c h
  unfold slices_Contains_int_C at h
  dsimp only at h
  split at h
  · cases h; exact slices_Index_int_holds
  · cases h
theorem slices_Contains_int_holds : Con.Holds Tryd.prog glob 44 slices_Contains_int_c :=
  fn_holds (C := slices_Contains_int_C) (A := slices_Contains_int_As) (outs := [(.tmp 4, true, .bool)]) seat_ok slices_Contains_int_cons (by kernel_rfl) (by kernel_rfl) slices_Contains_int_loops (by kernel_rfl) (by kernel_rfl) slices_Contains_int_eq

def shape_turn_P : List (LoopPf shape_turn_C shape_turn_As (bodyOf Tryd.f72)) := [⟨3, shape_turn_A3, shape_turn_B3, rfl, shape_turn_R3⟩]
theorem shape_turn_loops : LoopsOK shape_turn_C shape_turn_As (loopsIn (bodyOf Tryd.f72)) := loops_ok shape_turn_P (by kernel_rfl) (by kernel_rfl)
theorem shape_turn_cons : ∀ f site c, (shape_turn_C).con f site = some c → c.Holds Tryd.prog (shape_turn_C).glob f := by
  intro f site c h; cases h
theorem shape_turn_holds : Con.Holds Tryd.prog glob 72 shape_turn_c :=
  fn_holds (C := shape_turn_C) (A := shape_turn_As) (outs := [(.tmp 4, true, I)]) seat_ok shape_turn_cons (by kernel_rfl) (by kernel_rfl) shape_turn_loops (by kernel_rfl) (by kernel_rfl) shape_turn_eq

def shape_turns_P : List (LoopPf shape_turns_C shape_turns_As (bodyOf Tryd.f45)) := [⟨3, shape_turns_A3, shape_turns_B3, rfl, shape_turns_R3⟩]
theorem shape_turns_loops : LoopsOK shape_turns_C shape_turns_As (loopsIn (bodyOf Tryd.f45)) := loops_ok shape_turns_P (by kernel_rfl) (by kernel_rfl)
theorem shape_turns_cons : ∀ f site c, (shape_turns_C).con f site = some c → c.Holds Tryd.prog (shape_turns_C).glob f := by
  intro f site c h
  unfold shape_turns_C at h
  dsimp only at h
  split at h
  · cases h; exact shape_turn_holds
  · cases h
theorem shape_turns_holds : Con.Holds Tryd.prog glob 45 shape_turns_c :=
  fn_holds (C := shape_turns_C) (A := shape_turns_As) (outs := [(.tmp 4, true, I)]) seat_ok shape_turns_cons (by kernel_rfl) (by kernel_rfl) shape_turns_loops (by kernel_rfl) (by kernel_rfl) shape_turns_eq

def shape_valid_P : List (LoopPf shape_valid_C shape_valid_As (bodyOf Tryd.f36)) := [⟨8, shape_valid_A8, shape_valid_B8, rfl, shape_valid_R8⟩, ⟨13, shape_valid_A13, shape_valid_B13, rfl, shape_valid_R13⟩]
theorem shape_valid_loops : LoopsOK shape_valid_C shape_valid_As (loopsIn (bodyOf Tryd.f36)) := loops_ok shape_valid_P (by kernel_rfl) (by kernel_rfl)
theorem shape_valid_cons : ∀ f site c, (shape_valid_C).con f site = some c → c.Holds Tryd.prog (shape_valid_C).glob f := by
  intro f site c h
  unfold shape_valid_C at h
  dsimp only at h
  split at h
  · cases h; exact shape_Reverse_holds
  · cases h; exact rotation_Faces_holds
  · cases h; exact slices_Contains_int_holds
  · cases h; exact shape_turns_holds
  · cases h; exact rotation_Valid_holds
  · cases h; exact shape_connected_holds
  · cases h; exact rotation_Genus_holds
  · cases h; exact shape_angled_holds
  · cases h; exact shape_bent_holds
  · cases h
theorem shape_valid_holds : Con.Holds Tryd.prog glob 36 shape_valid_c :=
  fn_holds (C := shape_valid_C) (A := shape_valid_As) (outs := [(.tmp 2, true, .bool)]) seat_ok shape_valid_cons (by kernel_rfl) (by kernel_rfl) shape_valid_loops (by kernel_rfl) (by kernel_rfl) shape_valid_eq

def shape_Valid_P : List (LoopPf shape_Valid_C shape_Valid_As (bodyOf Tryd.f14)) := []
theorem shape_Valid_loops : LoopsOK shape_Valid_C shape_Valid_As (loopsIn (bodyOf Tryd.f14)) := loops_ok shape_Valid_P (by kernel_rfl) (by kernel_rfl)
theorem shape_Valid_cons : ∀ f site c, (shape_Valid_C).con f site = some c → c.Holds Tryd.prog (shape_Valid_C).glob f := by
  intro f site c h
  unfold shape_Valid_C at h
  dsimp only at h
  split at h
  · cases h; exact shape_valid_holds
  · cases h
theorem shape_Valid_holds : Con.Holds Tryd.prog glob 14 shape_Valid_c :=
  fn_holds (C := shape_Valid_C) (A := shape_Valid_As) (outs := [(.tmp 2, true, I)]) seat_ok shape_Valid_cons (by kernel_rfl) (by kernel_rfl) shape_Valid_loops (by kernel_rfl) (by kernel_rfl) shape_Valid_eq

def shape_Turns_P : List (LoopPf shape_Turns_C shape_Turns_As (bodyOf Tryd.f18)) := [⟨4, shape_Turns_A4, shape_Turns_B4, rfl, shape_Turns_R4⟩]
theorem shape_Turns_loops : LoopsOK shape_Turns_C shape_Turns_As (loopsIn (bodyOf Tryd.f18)) := loops_ok shape_Turns_P (by kernel_rfl) (by kernel_rfl)
theorem shape_Turns_cons : ∀ f site c, (shape_Turns_C).con f site = some c → c.Holds Tryd.prog (shape_Turns_C).glob f := by
  intro f site c h
  unfold shape_Turns_C at h
  dsimp only at h
  split at h
  · cases h; exact shape_valid_holds
  · cases h; exact rotation_Faces_holds
  · cases h; exact slices_Contains_int_holds
  · cases h; exact shape_turns_holds
  · cases h
theorem shape_Turns_holds : Con.Holds Tryd.prog glob 18 shape_Turns_c :=
  fn_holds (C := shape_Turns_C) (A := shape_Turns_As) (outs := [(.tmp 4, true, I)]) seat_ok shape_Turns_cons (by kernel_rfl) (by kernel_rfl) shape_Turns_loops (by kernel_rfl) (by kernel_rfl) shape_Turns_eq

def shape_Bends_P : List (LoopPf shape_Bends_C shape_Bends_As (bodyOf Tryd.f16)) := [⟨5, shape_Bends_A5, shape_Bends_B5, rfl, shape_Bends_R5⟩]
theorem shape_Bends_loops : LoopsOK shape_Bends_C shape_Bends_As (loopsIn (bodyOf Tryd.f16)) := loops_ok shape_Bends_P (by kernel_rfl) (by kernel_rfl)
theorem shape_Bends_cons : ∀ f site c, (shape_Bends_C).con f site = some c → c.Holds Tryd.prog (shape_Bends_C).glob f := by
  intro f site c h
  unfold shape_Bends_C at h
  dsimp only at h
  split at h
  · cases h; exact shape_valid_holds
  · cases h
theorem shape_Bends_holds : Con.Holds Tryd.prog glob 16 shape_Bends_c :=
  fn_holds (C := shape_Bends_C) (A := shape_Bends_As) (outs := [(.tmp 2, true, I)]) seat_ok shape_Bends_cons (by kernel_rfl) (by kernel_rfl) shape_Bends_loops (by kernel_rfl) (by kernel_rfl) shape_Bends_eq

def slices_Clone_Arc_P : List (LoopPf slices_Clone_Arc_C slices_Clone_Arc_As (bodyOf Tryd.f73)) := []
theorem slices_Clone_Arc_loops : LoopsOK slices_Clone_Arc_C slices_Clone_Arc_As (loopsIn (bodyOf Tryd.f73)) := loops_ok slices_Clone_Arc_P (by kernel_rfl) (by kernel_rfl)
theorem slices_Clone_Arc_cons : ∀ f site c, (slices_Clone_Arc_C).con f site = some c → c.Holds Tryd.prog (slices_Clone_Arc_C).glob f := by
  intro f site c h; cases h
theorem slices_Clone_Arc_holds : Con.Holds Tryd.prog glob 73 slices_Clone_Arc_c :=
  fn_holds (C := slices_Clone_Arc_C) (A := slices_Clone_Arc_As) (outs := [(.tmp 2, true, (.slice (.prod I (.prod I .unit))))]) seat_ok slices_Clone_Arc_cons (by kernel_rfl) (by kernel_rfl) slices_Clone_Arc_loops (by kernel_rfl) (by kernel_rfl) slices_Clone_Arc_eq

def slices_Clone_int_P : List (LoopPf slices_Clone_int_C slices_Clone_int_As (bodyOf Tryd.f74)) := []
theorem slices_Clone_int_loops : LoopsOK slices_Clone_int_C slices_Clone_int_As (loopsIn (bodyOf Tryd.f74)) := loops_ok slices_Clone_int_P (by kernel_rfl) (by kernel_rfl)
theorem slices_Clone_int_cons : ∀ f site c, (slices_Clone_int_C).con f site = some c → c.Holds Tryd.prog (slices_Clone_int_C).glob f := by
  intro f site c h; cases h
theorem slices_Clone_int_holds : Con.Holds Tryd.prog glob 74 slices_Clone_int_c :=
  fn_holds (C := slices_Clone_int_C) (A := slices_Clone_int_As) (outs := [(.tmp 2, true, (.slice I))]) seat_ok slices_Clone_int_cons (by kernel_rfl) (by kernel_rfl) slices_Clone_int_loops (by kernel_rfl) (by kernel_rfl) slices_Clone_int_eq

def slices_Reverse_int_P : List (LoopPf slices_Reverse_int_C slices_Reverse_int_As (bodyOf Tryd.f75)) := [⟨1, slices_Reverse_int_A1, slices_Reverse_int_B1, rfl, slices_Reverse_int_R1⟩]
theorem slices_Reverse_int_loops : LoopsOK slices_Reverse_int_C slices_Reverse_int_As (loopsIn (bodyOf Tryd.f75)) := loops_ok slices_Reverse_int_P (by kernel_rfl) (by kernel_rfl)
theorem slices_Reverse_int_cons : ∀ f site c, (slices_Reverse_int_C).con f site = some c → c.Holds Tryd.prog (slices_Reverse_int_C).glob f := by
  intro f site c h; cases h
theorem slices_Reverse_int_holds : Con.Holds Tryd.prog glob 75 slices_Reverse_int_c :=
  fn_holds (C := slices_Reverse_int_C) (A := slices_Reverse_int_As) (outs := []) seat_ok slices_Reverse_int_cons (by kernel_rfl) (by kernel_rfl) slices_Reverse_int_loops (by kernel_rfl) (by kernel_rfl) slices_Reverse_int_eq

def rotation_Mirror_P : List (LoopPf rotation_Mirror_C rotation_Mirror_As (bodyOf Tryd.f49)) := [⟨5, rotation_Mirror_A5, rotation_Mirror_B5, rfl, rotation_Mirror_R5⟩]
theorem rotation_Mirror_loops : LoopsOK rotation_Mirror_C rotation_Mirror_As (loopsIn (bodyOf Tryd.f49)) := loops_ok rotation_Mirror_P (by kernel_rfl) (by kernel_rfl)
theorem rotation_Mirror_cons : ∀ f site c, (rotation_Mirror_C).con f site = some c → c.Holds Tryd.prog (rotation_Mirror_C).glob f := by
  intro f site c h
  unfold rotation_Mirror_C at h
  dsimp only at h
  split at h
  · cases h; exact rotation_Valid_holds
  · cases h; exact slices_Clone_Arc_holds
  · cases h; exact slices_Clone_int_holds
  · cases h; exact slices_Reverse_int_holds
  · cases h
theorem rotation_Mirror_holds : Con.Holds Tryd.prog glob 49 rotation_Mirror_c :=
  fn_holds (C := rotation_Mirror_C) (A := rotation_Mirror_As) (outs := [(.cell 2 25, true, (.prod I (.prod (.slice (.prod I (.prod I .unit))) (.prod (.slice (.slice I)) .unit))))]) seat_ok rotation_Mirror_cons (by kernel_rfl) (by kernel_rfl) rotation_Mirror_loops (by kernel_rfl) (by kernel_rfl) rotation_Mirror_eq

def shape_exchanged_P : List (LoopPf shape_exchanged_C shape_exchanged_As (bodyOf Tryd.f50)) := [⟨3, shape_exchanged_A3, shape_exchanged_B3, rfl, shape_exchanged_R3⟩]
theorem shape_exchanged_loops : LoopsOK shape_exchanged_C shape_exchanged_As (loopsIn (bodyOf Tryd.f50)) := loops_ok shape_exchanged_P (by kernel_rfl) (by kernel_rfl)
theorem shape_exchanged_cons : ∀ f site c, (shape_exchanged_C).con f site = some c → c.Holds Tryd.prog (shape_exchanged_C).glob f := by
  intro f site c h
  unfold shape_exchanged_C at h
  dsimp only at h
  split at h
  · cases h; exact shape_swapped_holds
  · cases h
theorem shape_exchanged_holds : Con.Holds Tryd.prog glob 50 shape_exchanged_c :=
  fn_holds (C := shape_exchanged_C) (A := shape_exchanged_As) (outs := [(.tmp 2, true, .str)]) seat_ok shape_exchanged_cons (by kernel_rfl) (by kernel_rfl) shape_exchanged_loops (by kernel_rfl) (by kernel_rfl) shape_exchanged_eq

def shape_Mirror_P : List (LoopPf shape_Mirror_C shape_Mirror_As (bodyOf Tryd.f23)) := [⟨5, shape_Mirror_A5, shape_Mirror_B5, rfl, shape_Mirror_R5⟩, ⟨8, shape_Mirror_A8, shape_Mirror_B8, rfl, shape_Mirror_R8⟩, ⟨14, shape_Mirror_A14, shape_Mirror_B14, rfl, shape_Mirror_R14⟩]
theorem shape_Mirror_loops : LoopsOK shape_Mirror_C shape_Mirror_As (loopsIn (bodyOf Tryd.f23)) := loops_ok shape_Mirror_P (by kernel_rfl) (by kernel_rfl)
theorem shape_Mirror_cons : ∀ f site c, (shape_Mirror_C).con f site = some c → c.Holds Tryd.prog (shape_Mirror_C).glob f := by
  intro f site c h
  unfold shape_Mirror_C at h
  dsimp only at h
  split at h
  · cases h; exact shape_valid_holds
  · cases h; exact rotation_Mirror_holds
  · cases h; exact shape_exchanged_holds
  · cases h
theorem shape_Mirror_holds : Con.Holds Tryd.prog glob 23 shape_Mirror_c :=
  fn_holds (C := shape_Mirror_C) (A := shape_Mirror_As) (outs := [(.cell 2 29, true, (.prod (.prod I (.prod (.slice (.prod I (.prod I .unit))) (.prod (.slice (.slice I)) .unit))) (.prod (.slice I) (.prod (.slice .str) (.prod I .unit)))))]) seat_ok shape_Mirror_cons (by kernel_rfl) (by kernel_rfl) shape_Mirror_loops (by kernel_rfl) (by kernel_rfl) shape_Mirror_eq

def layoutlaw39_awake_P : List (LoopPf layoutlaw39_awake_C layoutlaw39_awake_As (bodyOf Tryd.f13)) := []
theorem layoutlaw39_awake_loops : LoopsOK layoutlaw39_awake_C layoutlaw39_awake_As (loopsIn (bodyOf Tryd.f13)) := loops_ok layoutlaw39_awake_P (by kernel_rfl) (by kernel_rfl)
theorem layoutlaw39_awake_cons : ∀ f site c, (layoutlaw39_awake_C).con f site = some c → c.Holds Tryd.prog (layoutlaw39_awake_C).glob f := by
  intro f site c h
  unfold layoutlaw39_awake_C at h
  dsimp only at h
  split at h
  · cases h; exact shape_Valid_holds
  · cases h; exact shape_Bends_holds
  · cases h; exact shape_Turns_holds
  · cases h; exact shape_Reverse_holds
  · cases h; exact shape_Mirror_holds
  · cases h; exact layoutlaw39_square_holds
  · cases h
theorem layoutlaw39_awake_holds : Con.Holds Tryd.prog glob 13 layoutlaw39_awake_c :=
  fn_holds (C := layoutlaw39_awake_C) (A := layoutlaw39_awake_As) (outs := [(.tmp 0, true, .bool)]) seat_ok layoutlaw39_awake_cons (by kernel_rfl) (by kernel_rfl) layoutlaw39_awake_loops (by kernel_rfl) (by kernel_rfl) layoutlaw39_awake_eq

def layoutref39_exchange_P : List (LoopPf layoutref39_exchange_C layoutref39_exchange_As (bodyOf Tryd.f48)) := []
theorem layoutref39_exchange_loops : LoopsOK layoutref39_exchange_C layoutref39_exchange_As (loopsIn (bodyOf Tryd.f48)) := loops_ok layoutref39_exchange_P (by kernel_rfl) (by kernel_rfl)
theorem layoutref39_exchange_cons : ∀ f site c, (layoutref39_exchange_C).con f site = some c → c.Holds Tryd.prog (layoutref39_exchange_C).glob f := by
  intro f site c h; cases h
theorem layoutref39_exchange_holds : Con.Holds Tryd.prog glob 48 layoutref39_exchange_c :=
  fn_holds (C := layoutref39_exchange_C) (A := layoutref39_exchange_As) (outs := [(.tmp 2, true, (.int .u8))]) seat_ok layoutref39_exchange_cons (by kernel_rfl) (by kernel_rfl) layoutref39_exchange_loops (by kernel_rfl) (by kernel_rfl) layoutref39_exchange_eq

def layoutref39_Reverse_P : List (LoopPf layoutref39_Reverse_C layoutref39_Reverse_As (bodyOf Tryd.f21)) := [⟨3, layoutref39_Reverse_A3, layoutref39_Reverse_B3, rfl, layoutref39_Reverse_R3⟩]
theorem layoutref39_Reverse_loops : LoopsOK layoutref39_Reverse_C layoutref39_Reverse_As (loopsIn (bodyOf Tryd.f21)) := loops_ok layoutref39_Reverse_P (by kernel_rfl) (by kernel_rfl)
theorem layoutref39_Reverse_cons : ∀ f site c, (layoutref39_Reverse_C).con f site = some c → c.Holds Tryd.prog (layoutref39_Reverse_C).glob f := by
  intro f site c h
  unfold layoutref39_Reverse_C at h
  dsimp only at h
  split at h
  · cases h; exact layoutref39_exchange_holds
  · cases h
theorem layoutref39_Reverse_holds : Con.Holds Tryd.prog glob 21 layoutref39_Reverse_c :=
  fn_holds (C := layoutref39_Reverse_C) (A := layoutref39_Reverse_As) (outs := [(.tmp 2, true, .str)]) seat_ok layoutref39_Reverse_cons (by kernel_rfl) (by kernel_rfl) layoutref39_Reverse_loops (by kernel_rfl) (by kernel_rfl) layoutref39_Reverse_eq

def layoutlaw39_ShapeReverse_P : List (LoopPf layoutlaw39_ShapeReverse_C layoutlaw39_ShapeReverse_As (bodyOf Tryd.f4)) := []
theorem layoutlaw39_ShapeReverse_loops : LoopsOK layoutlaw39_ShapeReverse_C layoutlaw39_ShapeReverse_As (loopsIn (bodyOf Tryd.f4)) := loops_ok layoutlaw39_ShapeReverse_P (by kernel_rfl) (by kernel_rfl)
theorem layoutlaw39_ShapeReverse_cons : ∀ f site c, (layoutlaw39_ShapeReverse_C).con f site = some c → c.Holds Tryd.prog (layoutlaw39_ShapeReverse_C).glob f := by
  intro f site c h
  unfold layoutlaw39_ShapeReverse_C at h
  dsimp only at h
  split at h
  · cases h; exact layoutlaw39_awake_holds
  · cases h; exact shape_Reverse_holds
  · cases h; exact layoutref39_Reverse_holds
  · cases h
theorem layoutlaw39_ShapeReverse_holds : Con.Holds Tryd.prog glob 4 layoutlaw39_ShapeReverse_c :=
  fn_holds (C := layoutlaw39_ShapeReverse_C) (A := layoutlaw39_ShapeReverse_As) (outs := [(.tmp 2, true, .bool)]) seat_ok layoutlaw39_ShapeReverse_cons (by kernel_rfl) (by kernel_rfl) layoutlaw39_ShapeReverse_loops (by kernel_rfl) (by kernel_rfl) layoutlaw39_ShapeReverse_eq
end
end Go.Vm

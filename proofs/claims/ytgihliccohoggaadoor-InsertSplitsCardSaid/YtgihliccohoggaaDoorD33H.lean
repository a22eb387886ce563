/-
  Contracts of the functions that the law reaches.
-/
import Derived.Test.YtgihliccohoggaaDoorD33
import Derived.Test.YtgihliccohoggaaDoorVmD
import Derived.Test.YtgihliccohoggaaDoorS33
set_option linter.unusedVariables false
set_option linter.unusedSimpArgs false
namespace Go.Vm
open Go.Proofs
noncomputable section
set_option maxRecDepth 100000
theorem seat_ok : SeatOK Tryd.prog tab eqs := ⟨by kernel_rfl, by kernel_rfl, by kernel_rfl⟩
def layoutlaw33_small_P : List (LoopPf layoutlaw33_small_C layoutlaw33_small_As (bodyOf Tryd.f12)) := []
theorem layoutlaw33_small_loops : LoopsOK layoutlaw33_small_C layoutlaw33_small_As (loopsIn (bodyOf Tryd.f12)) := loops_ok layoutlaw33_small_P (by kernel_rfl) (by kernel_rfl)
theorem layoutlaw33_small_cons : ∀ f site c, (layoutlaw33_small_C).con f site = some c → c.Holds Tryd.prog (layoutlaw33_small_C).glob f := by
  intro f site c h; cases h
theorem layoutlaw33_small_holds : Con.Holds Tryd.prog glob 12 layoutlaw33_small_c :=
  fn_holds (C := layoutlaw33_small_C) (A := layoutlaw33_small_As) (outs := [(.tmp 6, true, .bool)]) seat_ok layoutlaw33_small_cons (by kernel_rfl) (by kernel_rfl) layoutlaw33_small_loops (by kernel_rfl) (by kernel_rfl) layoutlaw33_small_eq

def layoutlaw33_square_P : List (LoopPf layoutlaw33_square_C layoutlaw33_square_As (bodyOf Tryd.f37)) := []
theorem layoutlaw33_square_loops : LoopsOK layoutlaw33_square_C layoutlaw33_square_As (loopsIn (bodyOf Tryd.f37)) := loops_ok layoutlaw33_square_P (by kernel_rfl) (by kernel_rfl)
theorem layoutlaw33_square_cons : ∀ f site c, (layoutlaw33_square_C).con f site = some c → c.Holds Tryd.prog (layoutlaw33_square_C).glob f := by
  intro f site c h; cases h
theorem layoutlaw33_square_holds : Con.Holds Tryd.prog glob 37 layoutlaw33_square_c :=
  fn_holds (C := layoutlaw33_square_C) (A := layoutlaw33_square_As) (outs := [(.cell 0 25, true, (.prod I (.prod (.slice (.prod I (.prod I .unit))) (.prod (.slice (.slice I)) .unit))))]) seat_ok layoutlaw33_square_cons (by kernel_rfl) (by kernel_rfl) layoutlaw33_square_loops (by kernel_rfl) (by kernel_rfl) layoutlaw33_square_eq

def rotation_tail_P : List (LoopPf rotation_tail_C rotation_tail_As (bodyOf Tryd.f62)) := []
theorem rotation_tail_loops : LoopsOK rotation_tail_C rotation_tail_As (loopsIn (bodyOf Tryd.f62)) := loops_ok rotation_tail_P (by kernel_rfl) (by kernel_rfl)
theorem rotation_tail_cons : ∀ f site c, (rotation_tail_C).con f site = some c → c.Holds Tryd.prog (rotation_tail_C).glob f := by
  intro f site c h; cases h
theorem rotation_tail_holds : Con.Holds Tryd.prog glob 62 rotation_tail_c :=
  fn_holds (C := rotation_tail_C) (A := rotation_tail_As) (outs := [(.tmp 4, true, I)]) seat_ok rotation_tail_cons (by kernel_rfl) (by kernel_rfl) rotation_tail_loops (by kernel_rfl) (by kernel_rfl) rotation_tail_eq

def rotation_Valid_P : List (LoopPf rotation_Valid_C rotation_Valid_As (bodyOf Tryd.f38)) := [⟨4, rotation_Valid_A4, rotation_Valid_B4, rfl, rotation_Valid_R4⟩, ⟨12, rotation_Valid_A12, rotation_Valid_B12, rfl, rotation_Valid_R12⟩, ⟨15, rotation_Valid_A15, rotation_Valid_B15, rfl, rotation_Valid_R15⟩]
theorem rotation_Valid_loops : LoopsOK rotation_Valid_C rotation_Valid_As (loopsIn (bodyOf Tryd.f38)) := loops_ok rotation_Valid_P (by kernel_rfl) (by kernel_rfl)
theorem rotation_Valid_cons : ∀ f site c, (rotation_Valid_C).con f site = some c → c.Holds Tryd.prog (rotation_Valid_C).glob f := by
  intro f site c h
  unfold rotation_Valid_C at h
  dsimp only at h
  split at h
  · cases h; exact rotation_tail_holds
  · cases h
theorem rotation_Valid_holds : Con.Holds Tryd.prog glob 38 rotation_Valid_c :=
  fn_holds (C := rotation_Valid_C) (A := rotation_Valid_As) (outs := [(.tmp 2, true, .bool)]) seat_ok rotation_Valid_cons (by kernel_rfl) (by kernel_rfl) rotation_Valid_loops (by kernel_rfl) (by kernel_rfl) rotation_Valid_eq

def rotation_follow_P : List (LoopPf rotation_follow_C rotation_follow_As (bodyOf Tryd.f89)) := [⟨3, rotation_follow_A3, rotation_follow_B3, rfl, rotation_follow_R3⟩, ⟨6, rotation_follow_A6, rotation_follow_B6, rfl, rotation_follow_R6⟩]
theorem rotation_follow_loops : LoopsOK rotation_follow_C rotation_follow_As (loopsIn (bodyOf Tryd.f89)) := loops_ok rotation_follow_P (by kernel_rfl) (by kernel_rfl)
theorem rotation_follow_cons : ∀ f site c, (rotation_follow_C).con f site = some c → c.Holds Tryd.prog (rotation_follow_C).glob f := by
  intro f site c h; cases h
theorem rotation_follow_holds : Con.Holds Tryd.prog glob 89 rotation_follow_c :=
  fn_holds (C := rotation_follow_C) (A := rotation_follow_As) (outs := [(.tmp 2, true, (.slice I))]) seat_ok rotation_follow_cons (by kernel_rfl) (by kernel_rfl) rotation_follow_loops (by kernel_rfl) (by kernel_rfl) rotation_follow_eq

def rotation_Faces_P : List (LoopPf rotation_Faces_C rotation_Faces_As (bodyOf Tryd.f58)) := [⟨7, rotation_Faces_A7, rotation_Faces_B7, rfl, rotation_Faces_R7⟩, ⟨11, rotation_Faces_A11, rotation_Faces_B11, rfl, rotation_Faces_R11⟩]
theorem rotation_Faces_loops : LoopsOK rotation_Faces_C rotation_Faces_As (loopsIn (bodyOf Tryd.f58)) := loops_ok rotation_Faces_P (by kernel_rfl) (by kernel_rfl)
theorem rotation_Faces_cons : ∀ f site c, (rotation_Faces_C).con f site = some c → c.Holds Tryd.prog (rotation_Faces_C).glob f := by
  intro f site c h
  unfold rotation_Faces_C at h
  dsimp only at h
  split at h
  · cases h; exact rotation_Valid_holds
  · cases h; exact rotation_follow_holds
  · cases h
theorem rotation_Faces_holds : Con.Holds Tryd.prog glob 58 rotation_Faces_c :=
  fn_holds (C := rotation_Faces_C) (A := rotation_Faces_As) (outs := [(.tmp 2, true, (.slice (.slice I)))]) seat_ok rotation_Faces_cons (by kernel_rfl) (by kernel_rfl) rotation_Faces_loops (by kernel_rfl) (by kernel_rfl) rotation_Faces_eq

def rotation_components_P : List (LoopPf rotation_components_C rotation_components_As (bodyOf Tryd.f103)) := [⟨4, rotation_components_A4, rotation_components_B4, rfl, rotation_components_R4⟩, ⟨10, rotation_components_A10, rotation_components_B10, rfl, rotation_components_R10⟩, ⟨13, rotation_components_A13, rotation_components_B13, rfl, rotation_components_R13⟩]
theorem rotation_components_loops : LoopsOK rotation_components_C rotation_components_As (loopsIn (bodyOf Tryd.f103)) := loops_ok rotation_components_P (by kernel_rfl) (by kernel_rfl)
theorem rotation_components_cons : ∀ f site c, (rotation_components_C).con f site = some c → c.Holds Tryd.prog (rotation_components_C).glob f := by
  intro f site c h
  unfold rotation_components_C at h
  dsimp only at h
  split at h
  · cases h; exact rotation_tail_holds
  · cases h
theorem rotation_components_holds : Con.Holds Tryd.prog glob 103 rotation_components_c :=
  fn_holds (C := rotation_components_C) (A := rotation_components_As) (outs := [(.tmp 2, true, I)]) seat_ok rotation_components_cons (by kernel_rfl) (by kernel_rfl) rotation_components_loops (by kernel_rfl) (by kernel_rfl) rotation_components_eq

def rotation_Genus_P : List (LoopPf rotation_Genus_C rotation_Genus_As (bodyOf Tryd.f85)) := [⟨5, rotation_Genus_A5, rotation_Genus_B5, rfl, rotation_Genus_R5⟩]
theorem rotation_Genus_loops : LoopsOK rotation_Genus_C rotation_Genus_As (loopsIn (bodyOf Tryd.f85)) := loops_ok rotation_Genus_P (by kernel_rfl) (by kernel_rfl)
theorem rotation_Genus_cons : ∀ f site c, (rotation_Genus_C).con f site = some c → c.Holds Tryd.prog (rotation_Genus_C).glob f := by
  intro f site c h
  unfold rotation_Genus_C at h
  dsimp only at h
  split at h
  · cases h; exact rotation_Valid_holds
  · cases h; exact rotation_Faces_holds
  · cases h; exact rotation_components_holds
  · cases h
theorem rotation_Genus_holds : Con.Holds Tryd.prog glob 85 rotation_Genus_c :=
  fn_holds (C := rotation_Genus_C) (A := rotation_Genus_As) (outs := [(.tmp 2, true, I)]) seat_ok rotation_Genus_cons (by kernel_rfl) (by kernel_rfl) rotation_Genus_loops (by kernel_rfl) (by kernel_rfl) rotation_Genus_eq

def dual_connected_P : List (LoopPf dual_connected_C dual_connected_As (bodyOf Tryd.f96)) := [⟨7, dual_connected_A7, dual_connected_B7, rfl, dual_connected_R7⟩, ⟨10, dual_connected_A10, dual_connected_B10, rfl, dual_connected_R10⟩]
theorem dual_connected_loops : LoopsOK dual_connected_C dual_connected_As (loopsIn (bodyOf Tryd.f96)) := loops_ok dual_connected_P (by kernel_rfl) (by kernel_rfl)
theorem dual_connected_cons : ∀ f site c, (dual_connected_C).con f site = some c → c.Holds Tryd.prog (dual_connected_C).glob f := by
  intro f site c h; cases h
theorem dual_connected_holds : Con.Holds Tryd.prog glob 96 dual_connected_c :=
  fn_holds (C := dual_connected_C) (A := dual_connected_As) (outs := [(.tmp 2, true, .bool)]) seat_ok dual_connected_cons (by kernel_rfl) (by kernel_rfl) dual_connected_loops (by kernel_rfl) (by kernel_rfl) dual_connected_eq

def dual_check_P : List (LoopPf dual_check_C dual_check_As (bodyOf Tryd.f68)) := []
theorem dual_check_loops : LoopsOK dual_check_C dual_check_As (loopsIn (bodyOf Tryd.f68)) := loops_ok dual_check_P (by kernel_rfl) (by kernel_rfl)
theorem dual_check_cons : ∀ f site c, (dual_check_C).con f site = some c → c.Holds Tryd.prog (dual_check_C).glob f := by
  intro f site c h
  unfold dual_check_C at h
  dsimp only at h
  split at h
  · cases h; exact rotation_Valid_holds
  · cases h; exact rotation_Genus_holds
  · cases h; exact dual_connected_holds
  · cases h
theorem dual_check_holds : Con.Holds Tryd.prog glob 68 dual_check_c :=
  fn_holds (C := dual_check_C) (A := dual_check_As) (outs := [(.tmp 2, true, I)]) seat_ok dual_check_cons (by kernel_rfl) (by kernel_rfl) dual_check_loops (by kernel_rfl) (by kernel_rfl) dual_check_eq

def dual_numbers_P : List (LoopPf dual_numbers_C dual_numbers_As (bodyOf Tryd.f69)) := [⟨4, dual_numbers_A4, dual_numbers_B4, rfl, dual_numbers_R4⟩, ⟨7, dual_numbers_A7, dual_numbers_B7, rfl, dual_numbers_R7⟩]
theorem dual_numbers_loops : LoopsOK dual_numbers_C dual_numbers_As (loopsIn (bodyOf Tryd.f69)) := loops_ok dual_numbers_P (by kernel_rfl) (by kernel_rfl)
theorem dual_numbers_cons : ∀ f site c, (dual_numbers_C).con f site = some c → c.Holds Tryd.prog (dual_numbers_C).glob f := by
  intro f site c h
  unfold dual_numbers_C at h
  dsimp only at h
  split at h
  · cases h; exact rotation_Faces_holds
  · cases h
theorem dual_numbers_holds : Con.Holds Tryd.prog glob 69 dual_numbers_c :=
  fn_holds (C := dual_numbers_C) (A := dual_numbers_As) (outs := [(.tmp 2, true, (.slice I)), (.tmp 3, true, I)]) seat_ok dual_numbers_cons (by kernel_rfl) (by kernel_rfl) dual_numbers_loops (by kernel_rfl) (by kernel_rfl) dual_numbers_eq

theorem slices_Sort_int_holds : Con.Holds Tryd.prog glob 97 slices_Sort_int_c := sort_at

theorem slices_Compact_int_holds : Con.Holds Tryd.prog glob 98 slices_Compact_int_c := compact_at

def dual_around_P : List (LoopPf dual_around_C dual_around_As (bodyOf Tryd.f71)) := [⟨3, dual_around_A3, dual_around_B3, rfl, dual_around_R3⟩]
theorem dual_around_loops : LoopsOK dual_around_C dual_around_As (loopsIn (bodyOf Tryd.f71)) := loops_ok dual_around_P (by kernel_rfl) (by kernel_rfl)
theorem dual_around_cons : ∀ f site c, (dual_around_C).con f site = some c → c.Holds Tryd.prog (dual_around_C).glob f := by
  intro f site c h
  unfold dual_around_C at h
  dsimp only at h
  split at h
  · cases h; exact slices_Sort_int_holds
  · cases h; exact slices_Compact_int_holds
  · cases h
theorem dual_around_holds : Con.Holds Tryd.prog glob 71 dual_around_c :=
  fn_holds (C := dual_around_C) (A := dual_around_As) (outs := [(.tmp 6, true, (.slice I))]) seat_ok dual_around_cons (by kernel_rfl) (by kernel_rfl) dual_around_loops (by kernel_rfl) (by kernel_rfl) dual_around_eq

def slices_Clone_int_P : List (LoopPf slices_Clone_int_C slices_Clone_int_As (bodyOf Tryd.f64)) := []
theorem slices_Clone_int_loops : LoopsOK slices_Clone_int_C slices_Clone_int_As (loopsIn (bodyOf Tryd.f64)) := loops_ok slices_Clone_int_P (by kernel_rfl) (by kernel_rfl)
theorem slices_Clone_int_cons : ∀ f site c, (slices_Clone_int_C).con f site = some c → c.Holds Tryd.prog (slices_Clone_int_C).glob f := by
  intro f site c h; cases h
theorem slices_Clone_int_holds : Con.Holds Tryd.prog glob 64 slices_Clone_int_c :=
  fn_holds (C := slices_Clone_int_C) (A := slices_Clone_int_As) (outs := [(.tmp 2, true, (.slice I))]) seat_ok slices_Clone_int_cons (by kernel_rfl) (by kernel_rfl) slices_Clone_int_loops (by kernel_rfl) (by kernel_rfl) slices_Clone_int_eq

def dual_distances_P : List (LoopPf dual_distances_C dual_distances_As (bodyOf Tryd.f70)) := [⟨3, dual_distances_A3, dual_distances_B3, rfl, dual_distances_R3⟩, ⟨9, dual_distances_A9, dual_distances_B9, rfl, dual_distances_R9⟩, ⟨13, dual_distances_A13, dual_distances_B13, rfl, dual_distances_R13⟩, ⟨17, dual_distances_A17, dual_distances_B17, rfl, dual_distances_R17⟩, ⟨20, dual_distances_A20, dual_distances_B20, rfl, dual_distances_R20⟩]
theorem dual_distances_loops : LoopsOK dual_distances_C dual_distances_As (loopsIn (bodyOf Tryd.f70)) := loops_ok dual_distances_P (by kernel_rfl) (by kernel_rfl)
theorem dual_distances_cons : ∀ f site c, (dual_distances_C).con f site = some c → c.Holds Tryd.prog (dual_distances_C).glob f := by
  intro f site c h
  unfold dual_distances_C at h
  dsimp only at h
  split at h
  · cases h; exact slices_Clone_int_holds
  · cases h
theorem dual_distances_holds : Con.Holds Tryd.prog glob 70 dual_distances_c :=
  fn_holds (C := dual_distances_C) (A := dual_distances_As) (outs := [(.tmp 8, true, (.slice I))]) seat_ok dual_distances_cons (by kernel_rfl) (by kernel_rfl) dual_distances_loops (by kernel_rfl) (by kernel_rfl) dual_distances_eq

def dual_Route_1_P : List (LoopPf dual_Route_1_C dual_Route_1_As (bodyOf Tryd.f73)) := []
theorem dual_Route_1_loops : LoopsOK dual_Route_1_C dual_Route_1_As (loopsIn (bodyOf Tryd.f73)) := loops_ok dual_Route_1_P (by kernel_rfl) (by kernel_rfl)
theorem dual_Route_1_cons : ∀ f site c, (dual_Route_1_C).con f site = some c → c.Holds Tryd.prog (dual_Route_1_C).glob f := by
  intro f site c h; cases h
theorem dual_Route_1_holds : Con.Holds Tryd.prog glob 73 dual_Route_1_c :=
  fn_holds (C := dual_Route_1_C) (A := dual_Route_1_As) (outs := [(.tmp 5, true, I)]) seat_ok dual_Route_1_cons (by kernel_rfl) (by kernel_rfl) dual_Route_1_loops (by kernel_rfl) (by kernel_rfl) dual_Route_1_eq

def slices_MinFunc_int_of_dual_Route_1_P : List (LoopPf slices_MinFunc_int_of_dual_Route_1_C slices_MinFunc_int_of_dual_Route_1_As (bodyOf Tryd.f72)) := [⟨5, slices_MinFunc_int_of_dual_Route_1_A5, slices_MinFunc_int_of_dual_Route_1_B5, rfl, slices_MinFunc_int_of_dual_Route_1_R5⟩]
theorem slices_MinFunc_int_of_dual_Route_1_loops : LoopsOK slices_MinFunc_int_of_dual_Route_1_C slices_MinFunc_int_of_dual_Route_1_As (loopsIn (bodyOf Tryd.f72)) := loops_ok slices_MinFunc_int_of_dual_Route_1_P (by kernel_rfl) (by kernel_rfl)
theorem slices_MinFunc_int_of_dual_Route_1_cons : ∀ f site c, (slices_MinFunc_int_of_dual_Route_1_C).con f site = some c → c.Holds Tryd.prog (slices_MinFunc_int_of_dual_Route_1_C).glob f := by
  intro f site c h
  unfold slices_MinFunc_int_of_dual_Route_1_C at h
  dsimp only at h
  split at h
  · cases h; exact dual_Route_1_holds
  · cases h
theorem slices_MinFunc_int_of_dual_Route_1_holds : Con.Holds Tryd.prog glob 72 slices_MinFunc_int_of_dual_Route_1_c :=
  fn_holds (C := slices_MinFunc_int_of_dual_Route_1_C) (A := slices_MinFunc_int_of_dual_Route_1_As) (outs := [(.tmp 4, true, I)]) seat_ok slices_MinFunc_int_of_dual_Route_1_cons (by kernel_rfl) (by kernel_rfl) slices_MinFunc_int_of_dual_Route_1_loops (by kernel_rfl) (by kernel_rfl) slices_MinFunc_int_of_dual_Route_1_eq

def dual_Route_2_P : List (LoopPf dual_Route_2_C dual_Route_2_As (bodyOf Tryd.f75)) := []
theorem dual_Route_2_loops : LoopsOK dual_Route_2_C dual_Route_2_As (loopsIn (bodyOf Tryd.f75)) := loops_ok dual_Route_2_P (by kernel_rfl) (by kernel_rfl)
theorem dual_Route_2_cons : ∀ f site c, (dual_Route_2_C).con f site = some c → c.Holds Tryd.prog (dual_Route_2_C).glob f := by
  intro f site c h; cases h
theorem dual_Route_2_holds : Con.Holds Tryd.prog glob 75 dual_Route_2_c :=
  fn_holds (C := dual_Route_2_C) (A := dual_Route_2_As) (outs := [(.tmp 4, true, .bool)]) seat_ok dual_Route_2_cons (by kernel_rfl) (by kernel_rfl) dual_Route_2_loops (by kernel_rfl) (by kernel_rfl) dual_Route_2_eq

def slices_IndexFunc_int_of_dual_Route_2_P : List (LoopPf slices_IndexFunc_int_of_dual_Route_2_C slices_IndexFunc_int_of_dual_Route_2_As (bodyOf Tryd.f99)) := [⟨2, slices_IndexFunc_int_of_dual_Route_2_A2, slices_IndexFunc_int_of_dual_Route_2_B2, rfl, slices_IndexFunc_int_of_dual_Route_2_R2⟩]
theorem slices_IndexFunc_int_of_dual_Route_2_loops : LoopsOK slices_IndexFunc_int_of_dual_Route_2_C slices_IndexFunc_int_of_dual_Route_2_As (loopsIn (bodyOf Tryd.f99)) := loops_ok slices_IndexFunc_int_of_dual_Route_2_P (by kernel_rfl) (by kernel_rfl)
theorem slices_IndexFunc_int_of_dual_Route_2_cons : ∀ f site c, (slices_IndexFunc_int_of_dual_Route_2_C).con f site = some c → c.Holds Tryd.prog (slices_IndexFunc_int_of_dual_Route_2_C).glob f := by
  intro f site c h
  unfold slices_IndexFunc_int_of_dual_Route_2_C at h
  dsimp only at h
  split at h
  · cases h; exact dual_Route_2_holds
  · cases h
theorem slices_IndexFunc_int_of_dual_Route_2_holds : Con.Holds Tryd.prog glob 99 slices_IndexFunc_int_of_dual_Route_2_c :=
  fn_holds (C := slices_IndexFunc_int_of_dual_Route_2_C) (A := slices_IndexFunc_int_of_dual_Route_2_As) (outs := [(.tmp 4, true, I)]) seat_ok slices_IndexFunc_int_of_dual_Route_2_cons (by kernel_rfl) (by kernel_rfl) slices_IndexFunc_int_of_dual_Route_2_loops (by kernel_rfl) (by kernel_rfl) slices_IndexFunc_int_of_dual_Route_2_eq

def slices_DeleteFunc_int_of_dual_Route_2_P : List (LoopPf slices_DeleteFunc_int_of_dual_Route_2_C slices_DeleteFunc_int_of_dual_Route_2_As (bodyOf Tryd.f74)) := [⟨5, slices_DeleteFunc_int_of_dual_Route_2_A5, slices_DeleteFunc_int_of_dual_Route_2_B5, rfl, slices_DeleteFunc_int_of_dual_Route_2_R5⟩]
theorem slices_DeleteFunc_int_of_dual_Route_2_loops : LoopsOK slices_DeleteFunc_int_of_dual_Route_2_C slices_DeleteFunc_int_of_dual_Route_2_As (loopsIn (bodyOf Tryd.f74)) := loops_ok slices_DeleteFunc_int_of_dual_Route_2_P (by kernel_rfl) (by kernel_rfl)
theorem slices_DeleteFunc_int_of_dual_Route_2_cons : ∀ f site c, (slices_DeleteFunc_int_of_dual_Route_2_C).con f site = some c → c.Holds Tryd.prog (slices_DeleteFunc_int_of_dual_Route_2_C).glob f := by
  intro f site c h
  unfold slices_DeleteFunc_int_of_dual_Route_2_C at h
  dsimp only at h
  split at h
  · cases h; exact dual_Route_2_holds
  · cases h; exact slices_IndexFunc_int_of_dual_Route_2_holds
  · cases h
theorem slices_DeleteFunc_int_of_dual_Route_2_holds : Con.Holds Tryd.prog glob 74 slices_DeleteFunc_int_of_dual_Route_2_c :=
  fn_holds (C := slices_DeleteFunc_int_of_dual_Route_2_C) (A := slices_DeleteFunc_int_of_dual_Route_2_As) (outs := [(.tmp 4, true, (.slice I))]) seat_ok slices_DeleteFunc_int_of_dual_Route_2_cons (by kernel_rfl) (by kernel_rfl) slices_DeleteFunc_int_of_dual_Route_2_loops (by kernel_rfl) (by kernel_rfl) slices_DeleteFunc_int_of_dual_Route_2_eq

def slices_Index_int_P : List (LoopPf slices_Index_int_C slices_Index_int_As (bodyOf Tryd.f46)) := [⟨2, slices_Index_int_A2, slices_Index_int_B2, rfl, slices_Index_int_R2⟩]
theorem slices_Index_int_loops : LoopsOK slices_Index_int_C slices_Index_int_As (loopsIn (bodyOf Tryd.f46)) := loops_ok slices_Index_int_P (by kernel_rfl) (by kernel_rfl)
theorem slices_Index_int_cons : ∀ f site c, (slices_Index_int_C).con f site = some c → c.Holds Tryd.prog (slices_Index_int_C).glob f := by
  intro f site c h; cases h
theorem slices_Index_int_holds : Con.Holds Tryd.prog glob 46 slices_Index_int_c :=
  fn_holds (C := slices_Index_int_C) (A := slices_Index_int_As) (outs := [(.tmp 4, true, I)]) seat_ok slices_Index_int_cons (by kernel_rfl) (by kernel_rfl) slices_Index_int_loops (by kernel_rfl) (by kernel_rfl) slices_Index_int_eq

def slices_Contains_int_P : List (LoopPf slices_Contains_int_C slices_Contains_int_As (bodyOf Tryd.f100)) := []
theorem slices_Contains_int_loops : LoopsOK slices_Contains_int_C slices_Contains_int_As (loopsIn (bodyOf Tryd.f100)) := loops_ok slices_Contains_int_P (by kernel_rfl) (by kernel_rfl)
theorem slices_Contains_int_cons : ∀ f site c, (slices_Contains_int_C).con f site = some c → c.Holds Tryd.prog (slices_Contains_int_C).glob f := by
  intro f site c h
  unfold slices_Contains_int_C at h
  dsimp only at h
  split at h
  · cases h; exact slices_Index_int_holds
  · cases h
theorem slices_Contains_int_holds : Con.Holds Tryd.prog glob 100 slices_Contains_int_c :=
  fn_holds (C := slices_Contains_int_C) (A := slices_Contains_int_As) (outs := [(.tmp 4, true, .bool)]) seat_ok slices_Contains_int_cons (by kernel_rfl) (by kernel_rfl) slices_Contains_int_loops (by kernel_rfl) (by kernel_rfl) slices_Contains_int_eq

def dual_step_P : List (LoopPf dual_step_C dual_step_As (bodyOf Tryd.f76)) := [⟨2, dual_step_A2, dual_step_B2, rfl, dual_step_R2⟩, ⟨5, dual_step_A5, dual_step_B5, rfl, dual_step_R5⟩]
theorem dual_step_loops : LoopsOK dual_step_C dual_step_As (loopsIn (bodyOf Tryd.f76)) := loops_ok dual_step_P (by kernel_rfl) (by kernel_rfl)
theorem dual_step_cons : ∀ f site c, (dual_step_C).con f site = some c → c.Holds Tryd.prog (dual_step_C).glob f := by
  intro f site c h
  unfold dual_step_C at h
  dsimp only at h
  split at h
  · cases h; exact slices_Contains_int_holds
  · cases h
theorem dual_step_holds : Con.Holds Tryd.prog glob 76 dual_step_c :=
  fn_holds (C := dual_step_C) (A := dual_step_As) (outs := [(.tmp 10, true, I), (.tmp 11, true, I)]) seat_ok dual_step_cons (by kernel_rfl) (by kernel_rfl) dual_step_loops (by kernel_rfl) (by kernel_rfl) dual_step_eq

def dual_Route_P : List (LoopPf dual_Route_C dual_Route_As (bodyOf Tryd.f50)) := [⟨14, dual_Route_A14, dual_Route_B14, rfl, dual_Route_R14⟩]
theorem dual_Route_loops : LoopsOK dual_Route_C dual_Route_As (loopsIn (bodyOf Tryd.f50)) := loops_ok dual_Route_P (by kernel_rfl) (by kernel_rfl)
theorem dual_Route_cons : ∀ f site c, (dual_Route_C).con f site = some c → c.Holds Tryd.prog (dual_Route_C).glob f := by
  intro f site c h
  unfold dual_Route_C at h
  dsimp only at h
  split at h
  · cases h; exact dual_check_holds
  · cases h; exact dual_numbers_holds
  · cases h; exact dual_distances_holds
  · cases h; exact dual_around_holds
  · cases h; exact slices_MinFunc_int_of_dual_Route_1_holds
  · cases h; exact slices_DeleteFunc_int_of_dual_Route_2_holds
  · cases h; exact dual_step_holds
  · cases h
theorem dual_Route_holds : Con.Holds Tryd.prog glob 50 dual_Route_c :=
  fn_holds (C := dual_Route_C) (A := dual_Route_As) (outs := [(.tmp 6, true, (.slice I)), (.tmp 7, true, I)]) seat_ok dual_Route_cons (by kernel_rfl) (by kernel_rfl) dual_Route_loops (by kernel_rfl) (by kernel_rfl) dual_Route_eq

def slices_Clone_Arc_P : List (LoopPf slices_Clone_Arc_C slices_Clone_Arc_As (bodyOf Tryd.f63)) := []
theorem slices_Clone_Arc_loops : LoopsOK slices_Clone_Arc_C slices_Clone_Arc_As (loopsIn (bodyOf Tryd.f63)) := loops_ok slices_Clone_Arc_P (by kernel_rfl) (by kernel_rfl)
theorem slices_Clone_Arc_cons : ∀ f site c, (slices_Clone_Arc_C).con f site = some c → c.Holds Tryd.prog (slices_Clone_Arc_C).glob f := by
  intro f site c h; cases h
theorem slices_Clone_Arc_holds : Con.Holds Tryd.prog glob 63 slices_Clone_Arc_c :=
  fn_holds (C := slices_Clone_Arc_C) (A := slices_Clone_Arc_As) (outs := [(.tmp 2, true, (.slice (.prod I (.prod I .unit))))]) seat_ok slices_Clone_Arc_cons (by kernel_rfl) (by kernel_rfl) slices_Clone_Arc_loops (by kernel_rfl) (by kernel_rfl) slices_Clone_Arc_eq

def insert_copied_P : List (LoopPf insert_copied_C insert_copied_As (bodyOf Tryd.f41)) := [⟨3, insert_copied_A3, insert_copied_B3, rfl, insert_copied_R3⟩]
theorem insert_copied_loops : LoopsOK insert_copied_C insert_copied_As (loopsIn (bodyOf Tryd.f41)) := loops_ok insert_copied_P (by kernel_rfl) (by kernel_rfl)
theorem insert_copied_cons : ∀ f site c, (insert_copied_C).con f site = some c → c.Holds Tryd.prog (insert_copied_C).glob f := by
  intro f site c h
  unfold insert_copied_C at h
  dsimp only at h
  split at h
  · cases h; exact slices_Clone_Arc_holds
  · cases h; exact slices_Clone_int_holds
  · cases h
theorem insert_copied_holds : Con.Holds Tryd.prog glob 41 insert_copied_c :=
  fn_holds (C := insert_copied_C) (A := insert_copied_As) (outs := [(.cell 2 25, true, (.prod I (.prod (.slice (.prod I (.prod I .unit))) (.prod (.slice (.slice I)) .unit))))]) seat_ok insert_copied_cons (by kernel_rfl) (by kernel_rfl) insert_copied_loops (by kernel_rfl) (by kernel_rfl) insert_copied_eq

def insert_Split_P : List (LoopPf insert_Split_C insert_Split_As (bodyOf Tryd.f18)) := []
theorem insert_Split_loops : LoopsOK insert_Split_C insert_Split_As (loopsIn (bodyOf Tryd.f18)) := loops_ok insert_Split_P (by kernel_rfl) (by kernel_rfl)
theorem insert_Split_cons : ∀ f site c, (insert_Split_C).con f site = some c → c.Holds Tryd.prog (insert_Split_C).glob f := by
  intro f site c h
  unfold insert_Split_C at h
  dsimp only at h
  split at h
  · cases h; exact rotation_Valid_holds
  · cases h; exact insert_copied_holds
  · cases h; exact slices_Index_int_holds
  · cases h
theorem insert_Split_holds : Con.Holds Tryd.prog glob 18 insert_Split_c :=
  fn_holds (C := insert_Split_C) (A := insert_Split_As) (outs := [(.cell 4 25, true, (.prod I (.prod (.slice (.prod I (.prod I .unit))) (.prod (.slice (.slice I)) .unit)))), (.tmp 5, true, I)]) seat_ok insert_Split_cons (by kernel_rfl) (by kernel_rfl) insert_Split_loops (by kernel_rfl) (by kernel_rfl) insert_Split_eq

def insert_faces_P : List (LoopPf insert_faces_C insert_faces_As (bodyOf Tryd.f40)) := [⟨3, insert_faces_A3, insert_faces_B3, rfl, insert_faces_R3⟩, ⟨6, insert_faces_A6, insert_faces_B6, rfl, insert_faces_R6⟩]
theorem insert_faces_loops : LoopsOK insert_faces_C insert_faces_As (loopsIn (bodyOf Tryd.f40)) := loops_ok insert_faces_P (by kernel_rfl) (by kernel_rfl)
theorem insert_faces_cons : ∀ f site c, (insert_faces_C).con f site = some c → c.Holds Tryd.prog (insert_faces_C).glob f := by
  intro f site c h
  unfold insert_faces_C at h
  dsimp only at h
  split at h
  · cases h; exact rotation_Faces_holds
  · cases h
theorem insert_faces_holds : Con.Holds Tryd.prog glob 40 insert_faces_c :=
  fn_holds (C := insert_faces_C) (A := insert_faces_As) (outs := [(.tmp 2, true, (.slice I))]) seat_ok insert_faces_cons (by kernel_rfl) (by kernel_rfl) insert_faces_loops (by kernel_rfl) (by kernel_rfl) insert_faces_eq

def insert_join_1_1_P : List (LoopPf insert_join_1_1_C insert_join_1_1_As (bodyOf Tryd.f80)) := []
theorem insert_join_1_1_loops : LoopsOK insert_join_1_1_C insert_join_1_1_As (loopsIn (bodyOf Tryd.f80)) := loops_ok insert_join_1_1_P (by kernel_rfl) (by kernel_rfl)
theorem insert_join_1_1_cons : ∀ f site c, (insert_join_1_1_C).con f site = some c → c.Holds Tryd.prog (insert_join_1_1_C).glob f := by
  intro f site c h; cases h
theorem insert_join_1_1_holds : Con.Holds Tryd.prog glob 80 insert_join_1_1_c :=
  fn_holds (C := insert_join_1_1_C) (A := insert_join_1_1_As) (outs := [(.tmp 4, true, .bool)]) seat_ok insert_join_1_1_cons (by kernel_rfl) (by kernel_rfl) insert_join_1_1_loops (by kernel_rfl) (by kernel_rfl) insert_join_1_1_eq

def slices_IndexFunc_int_of_insert_join_1_1_P : List (LoopPf slices_IndexFunc_int_of_insert_join_1_1_C slices_IndexFunc_int_of_insert_join_1_1_As (bodyOf Tryd.f99)) := [⟨2, slices_IndexFunc_int_of_insert_join_1_1_A2, slices_IndexFunc_int_of_insert_join_1_1_B2, rfl, slices_IndexFunc_int_of_insert_join_1_1_R2⟩]
theorem slices_IndexFunc_int_of_insert_join_1_1_loops : LoopsOK slices_IndexFunc_int_of_insert_join_1_1_C slices_IndexFunc_int_of_insert_join_1_1_As (loopsIn (bodyOf Tryd.f99)) := loops_ok slices_IndexFunc_int_of_insert_join_1_1_P (by kernel_rfl) (by kernel_rfl)
theorem slices_IndexFunc_int_of_insert_join_1_1_cons : ∀ f site c, (slices_IndexFunc_int_of_insert_join_1_1_C).con f site = some c → c.Holds Tryd.prog (slices_IndexFunc_int_of_insert_join_1_1_C).glob f := by
  intro f site c h
  unfold slices_IndexFunc_int_of_insert_join_1_1_C at h
  dsimp only at h
  split at h
  · cases h; exact insert_join_1_1_holds
  · cases h
theorem slices_IndexFunc_int_of_insert_join_1_1_holds : Con.Holds Tryd.prog glob 99 slices_IndexFunc_int_of_insert_join_1_1_c :=
  fn_holds (C := slices_IndexFunc_int_of_insert_join_1_1_C) (A := slices_IndexFunc_int_of_insert_join_1_1_As) (outs := [(.tmp 4, true, I)]) seat_ok slices_IndexFunc_int_of_insert_join_1_1_cons (by kernel_rfl) (by kernel_rfl) slices_IndexFunc_int_of_insert_join_1_1_loops (by kernel_rfl) (by kernel_rfl) slices_IndexFunc_int_of_insert_join_1_1_eq

def slices_ContainsFunc_int_of_insert_join_1_1_P : List (LoopPf slices_ContainsFunc_int_of_insert_join_1_1_C slices_ContainsFunc_int_of_insert_join_1_1_As (bodyOf Tryd.f79)) := []
theorem slices_ContainsFunc_int_of_insert_join_1_1_loops : LoopsOK slices_ContainsFunc_int_of_insert_join_1_1_C slices_ContainsFunc_int_of_insert_join_1_1_As (loopsIn (bodyOf Tryd.f79)) := loops_ok slices_ContainsFunc_int_of_insert_join_1_1_P (by kernel_rfl) (by kernel_rfl)
theorem slices_ContainsFunc_int_of_insert_join_1_1_cons : ∀ f site c, (slices_ContainsFunc_int_of_insert_join_1_1_C).con f site = some c → c.Holds Tryd.prog (slices_ContainsFunc_int_of_insert_join_1_1_C).glob f := by
  intro f site c h
  unfold slices_ContainsFunc_int_of_insert_join_1_1_C at h
  dsimp only at h
  split at h
  · cases h; exact slices_IndexFunc_int_of_insert_join_1_1_holds
  · cases h
theorem slices_ContainsFunc_int_of_insert_join_1_1_holds : Con.Holds Tryd.prog glob 79 slices_ContainsFunc_int_of_insert_join_1_1_c :=
  fn_holds (C := slices_ContainsFunc_int_of_insert_join_1_1_C) (A := slices_ContainsFunc_int_of_insert_join_1_1_As) (outs := [(.tmp 4, true, .bool)]) seat_ok slices_ContainsFunc_int_of_insert_join_1_1_cons (by kernel_rfl) (by kernel_rfl) slices_ContainsFunc_int_of_insert_join_1_1_loops (by kernel_rfl) (by kernel_rfl) slices_ContainsFunc_int_of_insert_join_1_1_eq

def insert_join_1_P : List (LoopPf insert_join_1_C insert_join_1_As (bodyOf Tryd.f78)) := []
theorem insert_join_1_loops : LoopsOK insert_join_1_C insert_join_1_As (loopsIn (bodyOf Tryd.f78)) := loops_ok insert_join_1_P (by kernel_rfl) (by kernel_rfl)
theorem insert_join_1_cons : ∀ f site c, (insert_join_1_C).con f site = some c → c.Holds Tryd.prog (insert_join_1_C).glob f := by
  intro f site c h
  unfold insert_join_1_C at h
  dsimp only at h
  split at h
  · cases h; exact slices_ContainsFunc_int_of_insert_join_1_1_holds
  · cases h
theorem insert_join_1_holds : Con.Holds Tryd.prog glob 78 insert_join_1_c :=
  fn_holds (C := insert_join_1_C) (A := insert_join_1_As) (outs := [(.tmp 5, true, .bool)]) seat_ok insert_join_1_cons (by kernel_rfl) (by kernel_rfl) insert_join_1_loops (by kernel_rfl) (by kernel_rfl) insert_join_1_eq

def insert_least_of_insert_join_1_P : List (LoopPf insert_least_of_insert_join_1_C insert_least_of_insert_join_1_As (bodyOf Tryd.f77)) := [⟨3, insert_least_of_insert_join_1_A3, insert_least_of_insert_join_1_B3, rfl, insert_least_of_insert_join_1_R3⟩]
theorem insert_least_of_insert_join_1_loops : LoopsOK insert_least_of_insert_join_1_C insert_least_of_insert_join_1_As (loopsIn (bodyOf Tryd.f77)) := loops_ok insert_least_of_insert_join_1_P (by kernel_rfl) (by kernel_rfl)
theorem insert_least_of_insert_join_1_cons : ∀ f site c, (insert_least_of_insert_join_1_C).con f site = some c → c.Holds Tryd.prog (insert_least_of_insert_join_1_C).glob f := by
  intro f site c h
  unfold insert_least_of_insert_join_1_C at h
  dsimp only at h
  split at h
  · cases h; exact insert_join_1_holds
  · cases h
theorem insert_least_of_insert_join_1_holds : Con.Holds Tryd.prog glob 77 insert_least_of_insert_join_1_c :=
  fn_holds (C := insert_least_of_insert_join_1_C) (A := insert_least_of_insert_join_1_As) (outs := [(.tmp 4, true, I)]) seat_ok insert_least_of_insert_join_1_cons (by kernel_rfl) (by kernel_rfl) insert_least_of_insert_join_1_loops (by kernel_rfl) (by kernel_rfl) insert_least_of_insert_join_1_eq

def insert_join_2_P : List (LoopPf insert_join_2_C insert_join_2_As (bodyOf Tryd.f81)) := []
theorem insert_join_2_loops : LoopsOK insert_join_2_C insert_join_2_As (loopsIn (bodyOf Tryd.f81)) := loops_ok insert_join_2_P (by kernel_rfl) (by kernel_rfl)
theorem insert_join_2_cons : ∀ f site c, (insert_join_2_C).con f site = some c → c.Holds Tryd.prog (insert_join_2_C).glob f := by
  intro f site c h; cases h
theorem insert_join_2_holds : Con.Holds Tryd.prog glob 81 insert_join_2_c :=
  fn_holds (C := insert_join_2_C) (A := insert_join_2_As) (outs := [(.tmp 4, true, .bool)]) seat_ok insert_join_2_cons (by kernel_rfl) (by kernel_rfl) insert_join_2_loops (by kernel_rfl) (by kernel_rfl) insert_join_2_eq

def insert_least_of_insert_join_2_P : List (LoopPf insert_least_of_insert_join_2_C insert_least_of_insert_join_2_As (bodyOf Tryd.f77)) := [⟨3, insert_least_of_insert_join_2_A3, insert_least_of_insert_join_2_B3, rfl, insert_least_of_insert_join_2_R3⟩]
theorem insert_least_of_insert_join_2_loops : LoopsOK insert_least_of_insert_join_2_C insert_least_of_insert_join_2_As (loopsIn (bodyOf Tryd.f77)) := loops_ok insert_least_of_insert_join_2_P (by kernel_rfl) (by kernel_rfl)
theorem insert_least_of_insert_join_2_cons : ∀ f site c, (insert_least_of_insert_join_2_C).con f site = some c → c.Holds Tryd.prog (insert_least_of_insert_join_2_C).glob f := by
  intro f site c h
  unfold insert_least_of_insert_join_2_C at h
  dsimp only at h
  split at h
  · cases h; exact insert_join_2_holds
  · cases h
theorem insert_least_of_insert_join_2_holds : Con.Holds Tryd.prog glob 77 insert_least_of_insert_join_2_c :=
  fn_holds (C := insert_least_of_insert_join_2_C) (A := insert_least_of_insert_join_2_As) (outs := [(.tmp 4, true, I)]) seat_ok insert_least_of_insert_join_2_cons (by kernel_rfl) (by kernel_rfl) insert_least_of_insert_join_2_loops (by kernel_rfl) (by kernel_rfl) insert_least_of_insert_join_2_eq

def rotation_Tail_P : List (LoopPf rotation_Tail_C rotation_Tail_As (bodyOf Tryd.f39)) := []
theorem rotation_Tail_loops : LoopsOK rotation_Tail_C rotation_Tail_As (loopsIn (bodyOf Tryd.f39)) := loops_ok rotation_Tail_P (by kernel_rfl) (by kernel_rfl)
theorem rotation_Tail_cons : ∀ f site c, (rotation_Tail_C).con f site = some c → c.Holds Tryd.prog (rotation_Tail_C).glob f := by
  intro f site c h
  unfold rotation_Tail_C at h
  dsimp only at h
  split at h
  · cases h; exact rotation_Valid_holds
  · cases h; exact rotation_tail_holds
  · cases h
theorem rotation_Tail_holds : Con.Holds Tryd.prog glob 39 rotation_Tail_c :=
  fn_holds (C := rotation_Tail_C) (A := rotation_Tail_As) (outs := [(.tmp 4, true, I)]) seat_ok rotation_Tail_cons (by kernel_rfl) (by kernel_rfl) rotation_Tail_loops (by kernel_rfl) (by kernel_rfl) rotation_Tail_eq

theorem slices_Insert_int_holds : Con.Holds Tryd.prog glob 65 slices_Insert_int_c := insert_at

def insert_before_P : List (LoopPf insert_before_C insert_before_As (bodyOf Tryd.f42)) := []
theorem insert_before_loops : LoopsOK insert_before_C insert_before_As (loopsIn (bodyOf Tryd.f42)) := loops_ok insert_before_P (by kernel_rfl) (by kernel_rfl)
theorem insert_before_cons : ∀ f site c, (insert_before_C).con f site = some c → c.Holds Tryd.prog (insert_before_C).glob f := by
  intro f site c h
  unfold insert_before_C at h
  dsimp only at h
  split at h
  · cases h; exact slices_Index_int_holds
  · cases h; exact slices_Insert_int_holds
  · cases h
theorem insert_before_holds : Con.Holds Tryd.prog glob 42 insert_before_c :=
  fn_holds (C := insert_before_C) (A := insert_before_As) (outs := [(.tmp 6, true, (.slice I))]) seat_ok insert_before_cons (by kernel_rfl) (by kernel_rfl) insert_before_loops (by kernel_rfl) (by kernel_rfl) insert_before_eq

def insert_Edge_P : List (LoopPf insert_Edge_C insert_Edge_As (bodyOf Tryd.f14)) := []
theorem insert_Edge_loops : LoopsOK insert_Edge_C insert_Edge_As (loopsIn (bodyOf Tryd.f14)) := loops_ok insert_Edge_P (by kernel_rfl) (by kernel_rfl)
theorem insert_Edge_cons : ∀ f site c, (insert_Edge_C).con f site = some c → c.Holds Tryd.prog (insert_Edge_C).glob f := by
  intro f site c h
  unfold insert_Edge_C at h
  dsimp only at h
  split at h
  · cases h; exact rotation_Valid_holds
  · cases h; exact rotation_Tail_holds
  · cases h; exact insert_faces_holds
  · cases h; exact insert_copied_holds
  · cases h; exact insert_before_holds
  · cases h
theorem insert_Edge_holds : Con.Holds Tryd.prog glob 14 insert_Edge_c :=
  fn_holds (C := insert_Edge_C) (A := insert_Edge_As) (outs := [(.cell 6 25, false, (.prod I (.prod (.slice (.prod I (.prod I .unit))) (.prod (.slice (.slice I)) .unit)))), (.tmp 7, true, I)]) seat_ok insert_Edge_cons (by kernel_rfl) (by kernel_rfl) insert_Edge_loops (by kernel_rfl) (by kernel_rfl) insert_Edge_eq

def insert_join_P : List (LoopPf insert_join_C insert_join_As (bodyOf Tryd.f51)) := []
theorem insert_join_loops : LoopsOK insert_join_C insert_join_As (loopsIn (bodyOf Tryd.f51)) := loops_ok insert_join_P (by kernel_rfl) (by kernel_rfl)
theorem insert_join_cons : ∀ f site c, (insert_join_C).con f site = some c → c.Holds Tryd.prog (insert_join_C).glob f := by
  intro f site c h
  unfold insert_join_C at h
  dsimp only at h
  split at h
  · cases h; exact insert_Edge_holds
  · cases h; exact insert_faces_holds
  · cases h; exact insert_least_of_insert_join_1_holds
  · cases h; exact insert_least_of_insert_join_2_holds
  · cases h
theorem insert_join_holds : Con.Holds Tryd.prog glob 51 insert_join_c :=
  fn_holds (C := insert_join_C) (A := insert_join_As) (outs := [(.cell 6 25, false, (.prod I (.prod (.slice (.prod I (.prod I .unit))) (.prod (.slice (.slice I)) .unit)))), (.tmp 7, true, I)]) seat_ok insert_join_cons (by kernel_rfl) (by kernel_rfl) insert_join_loops (by kernel_rfl) (by kernel_rfl) insert_join_eq

def insert_Path_P : List (LoopPf insert_Path_C insert_Path_As (bodyOf Tryd.f22)) := [⟨9, insert_Path_A9, insert_Path_B9, rfl, insert_Path_R9⟩, ⟨19, insert_Path_A19, insert_Path_B19, rfl, insert_Path_R19⟩]
theorem insert_Path_loops : LoopsOK insert_Path_C insert_Path_As (loopsIn (bodyOf Tryd.f22)) := loops_ok insert_Path_P (by kernel_rfl) (by kernel_rfl)
theorem insert_Path_cons : ∀ f site c, (insert_Path_C).con f site = some c → c.Holds Tryd.prog (insert_Path_C).glob f := by
  intro f site c h
  unfold insert_Path_C at h
  dsimp only at h
  split at h
  · cases h; exact insert_Split_holds
  · cases h; exact dual_Route_holds
  · cases h; exact insert_join_holds
  · cases h
theorem insert_Path_holds : Con.Holds Tryd.prog glob 22 insert_Path_c :=
  fn_holds (C := insert_Path_C) (A := insert_Path_As) (outs := [(.cell 6 25, false, (.prod I (.prod (.slice (.prod I (.prod I .unit))) (.prod (.slice (.slice I)) .unit)))), (.tmp 7, false, (.slice I)), (.tmp 8, true, I), (.tmp 9, true, I)]) seat_ok insert_Path_cons (by kernel_rfl) (by kernel_rfl) insert_Path_loops (by kernel_rfl) (by kernel_rfl) insert_Path_eq

def layoutref14_SameInts_P : List (LoopPf layoutref14_SameInts_C layoutref14_SameInts_As (bodyOf Tryd.f24)) := [⟨4, layoutref14_SameInts_A4, layoutref14_SameInts_B4, rfl, layoutref14_SameInts_R4⟩]
theorem layoutref14_SameInts_loops : LoopsOK layoutref14_SameInts_C layoutref14_SameInts_As (loopsIn (bodyOf Tryd.f24)) := loops_ok layoutref14_SameInts_P (by kernel_rfl) (by kernel_rfl)
theorem layoutref14_SameInts_cons : ∀ f site c, (layoutref14_SameInts_C).con f site = some c → c.Holds Tryd.prog (layoutref14_SameInts_C).glob f := by
  intro f site c h; cases h
theorem layoutref14_SameInts_holds : Con.Holds Tryd.prog glob 24 layoutref14_SameInts_c :=
  fn_holds (C := layoutref14_SameInts_C) (A := layoutref14_SameInts_As) (outs := [(.tmp 4, true, .bool)]) seat_ok layoutref14_SameInts_cons (by kernel_rfl) (by kernel_rfl) layoutref14_SameInts_loops (by kernel_rfl) (by kernel_rfl) layoutref14_SameInts_eq

def layoutref29_Tails_P : List (LoopPf layoutref29_Tails_C layoutref29_Tails_As (bodyOf Tryd.f54)) := [⟨3, layoutref29_Tails_A3, layoutref29_Tails_B3, rfl, layoutref29_Tails_R3⟩]
theorem layoutref29_Tails_loops : LoopsOK layoutref29_Tails_C layoutref29_Tails_As (loopsIn (bodyOf Tryd.f54)) := loops_ok layoutref29_Tails_P (by kernel_rfl) (by kernel_rfl)
theorem layoutref29_Tails_cons : ∀ f site c, (layoutref29_Tails_C).con f site = some c → c.Holds Tryd.prog (layoutref29_Tails_C).glob f := by
  intro f site c h; cases h
theorem layoutref29_Tails_holds : Con.Holds Tryd.prog glob 54 layoutref29_Tails_c :=
  fn_holds (C := layoutref29_Tails_C) (A := layoutref29_Tails_As) (outs := [(.tmp 2, true, (.slice I))]) seat_ok layoutref29_Tails_cons (by kernel_rfl) (by kernel_rfl) layoutref29_Tails_loops (by kernel_rfl) (by kernel_rfl) layoutref29_Tails_eq

def layoutref29_Valid_P : List (LoopPf layoutref29_Valid_C layoutref29_Valid_As (bodyOf Tryd.f26)) := [⟨4, layoutref29_Valid_A4, layoutref29_Valid_B4, rfl, layoutref29_Valid_R4⟩, ⟨13, layoutref29_Valid_A13, layoutref29_Valid_B13, rfl, layoutref29_Valid_R13⟩, ⟨16, layoutref29_Valid_A16, layoutref29_Valid_B16, rfl, layoutref29_Valid_R16⟩]
theorem layoutref29_Valid_loops : LoopsOK layoutref29_Valid_C layoutref29_Valid_As (loopsIn (bodyOf Tryd.f26)) := loops_ok layoutref29_Valid_P (by kernel_rfl) (by kernel_rfl)
theorem layoutref29_Valid_cons : ∀ f site c, (layoutref29_Valid_C).con f site = some c → c.Holds Tryd.prog (layoutref29_Valid_C).glob f := by
  intro f site c h
  unfold layoutref29_Valid_C at h
  dsimp only at h
  split at h
  · cases h; exact layoutref29_Tails_holds
  · cases h
theorem layoutref29_Valid_holds : Con.Holds Tryd.prog glob 26 layoutref29_Valid_c :=
  fn_holds (C := layoutref29_Valid_C) (A := layoutref29_Valid_As) (outs := [(.tmp 2, true, .bool)]) seat_ok layoutref29_Valid_cons (by kernel_rfl) (by kernel_rfl) layoutref29_Valid_loops (by kernel_rfl) (by kernel_rfl) layoutref29_Valid_eq

def layoutref29_Follow_P : List (LoopPf layoutref29_Follow_C layoutref29_Follow_As (bodyOf Tryd.f47)) := [⟨3, layoutref29_Follow_A3, layoutref29_Follow_B3, rfl, layoutref29_Follow_R3⟩, ⟨7, layoutref29_Follow_A7, layoutref29_Follow_B7, rfl, layoutref29_Follow_R7⟩]
theorem layoutref29_Follow_loops : LoopsOK layoutref29_Follow_C layoutref29_Follow_As (loopsIn (bodyOf Tryd.f47)) := loops_ok layoutref29_Follow_P (by kernel_rfl) (by kernel_rfl)
theorem layoutref29_Follow_cons : ∀ f site c, (layoutref29_Follow_C).con f site = some c → c.Holds Tryd.prog (layoutref29_Follow_C).glob f := by
  intro f site c h; cases h
theorem layoutref29_Follow_holds : Con.Holds Tryd.prog glob 47 layoutref29_Follow_c :=
  fn_holds (C := layoutref29_Follow_C) (A := layoutref29_Follow_As) (outs := [(.tmp 2, true, (.slice I))]) seat_ok layoutref29_Follow_cons (by kernel_rfl) (by kernel_rfl) layoutref29_Follow_loops (by kernel_rfl) (by kernel_rfl) layoutref29_Follow_eq

def layoutref29_Other_P : List (LoopPf layoutref29_Other_C layoutref29_Other_As (bodyOf Tryd.f48)) := []
theorem layoutref29_Other_loops : LoopsOK layoutref29_Other_C layoutref29_Other_As (loopsIn (bodyOf Tryd.f48)) := loops_ok layoutref29_Other_P (by kernel_rfl) (by kernel_rfl)
theorem layoutref29_Other_cons : ∀ f site c, (layoutref29_Other_C).con f site = some c → c.Holds Tryd.prog (layoutref29_Other_C).glob f := by
  intro f site c h; cases h
theorem layoutref29_Other_holds : Con.Holds Tryd.prog glob 48 layoutref29_Other_c :=
  fn_holds (C := layoutref29_Other_C) (A := layoutref29_Other_As) (outs := [(.tmp 2, true, I)]) seat_ok layoutref29_Other_cons (by kernel_rfl) (by kernel_rfl) layoutref29_Other_loops (by kernel_rfl) (by kernel_rfl) layoutref29_Other_eq

def layoutref29_Faces_P : List (LoopPf layoutref29_Faces_C layoutref29_Faces_As (bodyOf Tryd.f20)) := [⟨7, layoutref29_Faces_A7, layoutref29_Faces_B7, rfl, layoutref29_Faces_R7⟩, ⟨12, layoutref29_Faces_A12, layoutref29_Faces_B12, rfl, layoutref29_Faces_R12⟩]
theorem layoutref29_Faces_loops : LoopsOK layoutref29_Faces_C layoutref29_Faces_As (loopsIn (bodyOf Tryd.f20)) := loops_ok layoutref29_Faces_P (by kernel_rfl) (by kernel_rfl)
theorem layoutref29_Faces_cons : ∀ f site c, (layoutref29_Faces_C).con f site = some c → c.Holds Tryd.prog (layoutref29_Faces_C).glob f := by
  intro f site c h
  unfold layoutref29_Faces_C at h
  dsimp only at h
  split at h
  · cases h; exact layoutref29_Valid_holds
  · cases h; exact layoutref29_Follow_holds
  · cases h; exact layoutref29_Other_holds
  · cases h
theorem layoutref29_Faces_holds : Con.Holds Tryd.prog glob 20 layoutref29_Faces_c :=
  fn_holds (C := layoutref29_Faces_C) (A := layoutref29_Faces_As) (outs := [(.tmp 2, true, (.slice (.slice I)))]) seat_ok layoutref29_Faces_cons (by kernel_rfl) (by kernel_rfl) layoutref29_Faces_loops (by kernel_rfl) (by kernel_rfl) layoutref29_Faces_eq

def layoutref29_root_P : List (LoopPf layoutref29_root_C layoutref29_root_As (bodyOf Tryd.f67)) := [⟨1, layoutref29_root_A1, layoutref29_root_B1, rfl, layoutref29_root_R1⟩]
theorem layoutref29_root_loops : LoopsOK layoutref29_root_C layoutref29_root_As (loopsIn (bodyOf Tryd.f67)) := loops_ok layoutref29_root_P (by kernel_rfl) (by kernel_rfl)
theorem layoutref29_root_cons : ∀ f site c, (layoutref29_root_C).con f site = some c → c.Holds Tryd.prog (layoutref29_root_C).glob f := by
  intro f site c h; cases h
theorem layoutref29_root_holds : Con.Holds Tryd.prog glob 67 layoutref29_root_c :=
  fn_holds (C := layoutref29_root_C) (A := layoutref29_root_As) (outs := [(.tmp 4, true, I)]) seat_ok layoutref29_root_cons (by kernel_rfl) (by kernel_rfl) layoutref29_root_loops (by kernel_rfl) (by kernel_rfl) layoutref29_root_eq

def layoutref29_Components_P : List (LoopPf layoutref29_Components_C layoutref29_Components_As (bodyOf Tryd.f49)) := [⟨3, layoutref29_Components_A3, layoutref29_Components_B3, rfl, layoutref29_Components_R3⟩, ⟨8, layoutref29_Components_A8, layoutref29_Components_B8, rfl, layoutref29_Components_R8⟩]
theorem layoutref29_Components_loops : LoopsOK layoutref29_Components_C layoutref29_Components_As (loopsIn (bodyOf Tryd.f49)) := loops_ok layoutref29_Components_P (by kernel_rfl) (by kernel_rfl)
theorem layoutref29_Components_cons : ∀ f site c, (layoutref29_Components_C).con f site = some c → c.Holds Tryd.prog (layoutref29_Components_C).glob f := by
  intro f site c h
  unfold layoutref29_Components_C at h
  dsimp only at h
  split at h
  · cases h; exact layoutref29_root_holds
  · cases h
theorem layoutref29_Components_holds : Con.Holds Tryd.prog glob 49 layoutref29_Components_c :=
  fn_holds (C := layoutref29_Components_C) (A := layoutref29_Components_As) (outs := [(.tmp 2, true, I)]) seat_ok layoutref29_Components_cons (by kernel_rfl) (by kernel_rfl) layoutref29_Components_loops (by kernel_rfl) (by kernel_rfl) layoutref29_Components_eq

def layoutref29_Genus_P : List (LoopPf layoutref29_Genus_C layoutref29_Genus_As (bodyOf Tryd.f21)) := [⟨5, layoutref29_Genus_A5, layoutref29_Genus_B5, rfl, layoutref29_Genus_R5⟩]
theorem layoutref29_Genus_loops : LoopsOK layoutref29_Genus_C layoutref29_Genus_As (loopsIn (bodyOf Tryd.f21)) := loops_ok layoutref29_Genus_P (by kernel_rfl) (by kernel_rfl)
theorem layoutref29_Genus_cons : ∀ f site c, (layoutref29_Genus_C).con f site = some c → c.Holds Tryd.prog (layoutref29_Genus_C).glob f := by
  intro f site c h
  unfold layoutref29_Genus_C at h
  dsimp only at h
  split at h
  · cases h; exact layoutref29_Faces_holds
  · cases h; exact layoutref29_Valid_holds
  · cases h; exact layoutref29_Components_holds
  · cases h
theorem layoutref29_Genus_holds : Con.Holds Tryd.prog glob 21 layoutref29_Genus_c :=
  fn_holds (C := layoutref29_Genus_C) (A := layoutref29_Genus_As) (outs := [(.tmp 2, true, I)]) seat_ok layoutref29_Genus_cons (by kernel_rfl) (by kernel_rfl) layoutref29_Genus_loops (by kernel_rfl) (by kernel_rfl) layoutref29_Genus_eq

def layoutlaw33_awake_P : List (LoopPf layoutlaw33_awake_C layoutlaw33_awake_As (bodyOf Tryd.f13)) := []
theorem layoutlaw33_awake_loops : LoopsOK layoutlaw33_awake_C layoutlaw33_awake_As (loopsIn (bodyOf Tryd.f13)) := loops_ok layoutlaw33_awake_P (by kernel_rfl) (by kernel_rfl)
theorem layoutlaw33_awake_cons : ∀ f site c, (layoutlaw33_awake_C).con f site = some c → c.Holds Tryd.prog (layoutlaw33_awake_C).glob f := by
  intro f site c h
  unfold layoutlaw33_awake_C at h
  dsimp only at h
  split at h
  · cases h; exact insert_Edge_holds
  · cases h; exact insert_Split_holds
  · cases h; exact layoutref29_Faces_holds
  · cases h; exact layoutref29_Genus_holds
  · cases h; exact insert_Path_holds
  · cases h; exact layoutref14_SameInts_holds
  · cases h; exact layoutref29_Valid_holds
  · cases h; exact layoutlaw33_square_holds
  · cases h
theorem layoutlaw33_awake_holds : Con.Holds Tryd.prog glob 13 layoutlaw33_awake_c :=
  fn_holds (C := layoutlaw33_awake_C) (A := layoutlaw33_awake_As) (outs := [(.tmp 0, true, .bool)]) seat_ok layoutlaw33_awake_cons (by kernel_rfl) (by kernel_rfl) layoutlaw33_awake_loops (by kernel_rfl) (by kernel_rfl) layoutlaw33_awake_eq

def layoutref33_Split_P : List (LoopPf layoutref33_Split_C layoutref33_Split_As (bodyOf Tryd.f19)) := [⟨16, layoutref33_Split_A16, layoutref33_Split_B16, rfl, layoutref33_Split_R16⟩]
theorem layoutref33_Split_loops : LoopsOK layoutref33_Split_C layoutref33_Split_As (loopsIn (bodyOf Tryd.f19)) := loops_ok layoutref33_Split_P (by kernel_rfl) (by kernel_rfl)
theorem layoutref33_Split_cons : ∀ f site c, (layoutref33_Split_C).con f site = some c → c.Holds Tryd.prog (layoutref33_Split_C).glob f := by
  intro f site c h
  unfold layoutref33_Split_C at h
  dsimp only at h
  split at h
  · cases h; exact layoutref29_Valid_holds
  · cases h
theorem layoutref33_Split_holds : Con.Holds Tryd.prog glob 19 layoutref33_Split_c :=
  fn_holds (C := layoutref33_Split_C) (A := layoutref33_Split_As) (outs := [(.cell 4 25, true, (.prod I (.prod (.slice (.prod I (.prod I .unit))) (.prod (.slice (.slice I)) .unit)))), (.tmp 5, true, I)]) seat_ok layoutref33_Split_cons (by kernel_rfl) (by kernel_rfl) layoutref33_Split_loops (by kernel_rfl) (by kernel_rfl) layoutref33_Split_eq

def layoutlaw33_empty_P : List (LoopPf layoutlaw33_empty_C layoutlaw33_empty_As (bodyOf Tryd.f17)) := []
theorem layoutlaw33_empty_loops : LoopsOK layoutlaw33_empty_C layoutlaw33_empty_As (loopsIn (bodyOf Tryd.f17)) := loops_ok layoutlaw33_empty_P (by kernel_rfl) (by kernel_rfl)
theorem layoutlaw33_empty_cons : ∀ f site c, (layoutlaw33_empty_C).con f site = some c → c.Holds Tryd.prog (layoutlaw33_empty_C).glob f := by
  intro f site c h; cases h
theorem layoutlaw33_empty_holds : Con.Holds Tryd.prog glob 17 layoutlaw33_empty_c :=
  fn_holds (C := layoutlaw33_empty_C) (A := layoutlaw33_empty_As) (outs := [(.tmp 2, true, .bool)]) seat_ok layoutlaw33_empty_cons (by kernel_rfl) (by kernel_rfl) layoutlaw33_empty_loops (by kernel_rfl) (by kernel_rfl) layoutlaw33_empty_eq

def layoutref29_cyclic_P : List (LoopPf layoutref29_cyclic_C layoutref29_cyclic_As (bodyOf Tryd.f45)) := [⟨4, layoutref29_cyclic_A4, layoutref29_cyclic_B4, rfl, layoutref29_cyclic_R4⟩, ⟨8, layoutref29_cyclic_A8, layoutref29_cyclic_B8, rfl, layoutref29_cyclic_R8⟩]
theorem layoutref29_cyclic_loops : LoopsOK layoutref29_cyclic_C layoutref29_cyclic_As (loopsIn (bodyOf Tryd.f45)) := loops_ok layoutref29_cyclic_P (by kernel_rfl) (by kernel_rfl)
theorem layoutref29_cyclic_cons : ∀ f site c, (layoutref29_cyclic_C).con f site = some c → c.Holds Tryd.prog (layoutref29_cyclic_C).glob f := by
  intro f site c h; cases h
theorem layoutref29_cyclic_holds : Con.Holds Tryd.prog glob 45 layoutref29_cyclic_c :=
  fn_holds (C := layoutref29_cyclic_C) (A := layoutref29_cyclic_As) (outs := [(.tmp 4, true, .bool)]) seat_ok layoutref29_cyclic_cons (by kernel_rfl) (by kernel_rfl) layoutref29_cyclic_loops (by kernel_rfl) (by kernel_rfl) layoutref29_cyclic_eq

def layoutref29_Same_P : List (LoopPf layoutref29_Same_C layoutref29_Same_As (bodyOf Tryd.f16)) := [⟨4, layoutref29_Same_A4, layoutref29_Same_B4, rfl, layoutref29_Same_R4⟩, ⟨9, layoutref29_Same_A9, layoutref29_Same_B9, rfl, layoutref29_Same_R9⟩]
theorem layoutref29_Same_loops : LoopsOK layoutref29_Same_C layoutref29_Same_As (loopsIn (bodyOf Tryd.f16)) := loops_ok layoutref29_Same_P (by kernel_rfl) (by kernel_rfl)
theorem layoutref29_Same_cons : ∀ f site c, (layoutref29_Same_C).con f site = some c → c.Holds Tryd.prog (layoutref29_Same_C).glob f := by
  intro f site c h
  unfold layoutref29_Same_C at h
  dsimp only at h
  split at h
  · cases h; exact layoutref29_cyclic_holds
  · cases h
theorem layoutref29_Same_holds : Con.Holds Tryd.prog glob 16 layoutref29_Same_c :=
  fn_holds (C := layoutref29_Same_C) (A := layoutref29_Same_As) (outs := [(.tmp 4, true, .bool)]) seat_ok layoutref29_Same_cons (by kernel_rfl) (by kernel_rfl) layoutref29_Same_loops (by kernel_rfl) (by kernel_rfl) layoutref29_Same_eq

def layoutlaw33_InsertSplits_P : List (LoopPf layoutlaw33_InsertSplits_C layoutlaw33_InsertSplits_As (bodyOf Tryd.f4)) := []
theorem layoutlaw33_InsertSplits_loops : LoopsOK layoutlaw33_InsertSplits_C layoutlaw33_InsertSplits_As (loopsIn (bodyOf Tryd.f4)) := loops_ok layoutlaw33_InsertSplits_P (by kernel_rfl) (by kernel_rfl)
theorem layoutlaw33_InsertSplits_cons : ∀ f site c, (layoutlaw33_InsertSplits_C).con f site = some c → c.Holds Tryd.prog (layoutlaw33_InsertSplits_C).glob f := by
  intro f site c h
  unfold layoutlaw33_InsertSplits_C at h
  dsimp only at h
  split at h
  · cases h; exact layoutlaw33_small_holds
  · cases h; exact layoutlaw33_awake_holds
  · cases h; exact layoutref29_Same_holds
  · cases h; exact layoutlaw33_empty_holds
  · cases h; exact insert_Split_holds
  · cases h; exact layoutref33_Split_holds
  · cases h; exact layoutref29_Faces_holds
  · cases h; exact layoutref29_Genus_holds
  · cases h
theorem layoutlaw33_InsertSplits_holds : Con.Holds Tryd.prog glob 4 layoutlaw33_InsertSplits_c :=
  fn_holds (C := layoutlaw33_InsertSplits_C) (A := layoutlaw33_InsertSplits_As) (outs := [(.tmp 4, true, .bool)]) seat_ok layoutlaw33_InsertSplits_cons (by kernel_rfl) (by kernel_rfl) layoutlaw33_InsertSplits_loops (by kernel_rfl) (by kernel_rfl) layoutlaw33_InsertSplits_eq
end
end Go.Vm

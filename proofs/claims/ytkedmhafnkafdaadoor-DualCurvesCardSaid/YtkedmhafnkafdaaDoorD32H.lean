/-
  Contracts of the functions that the laws reach.
-/
import Derived.Test.YtkedmhafnkafdaaDoorD32
import Derived.Test.YtkedmhafnkafdaaDoorVmC
import Derived.Test.YtkedmhafnkafdaaDoorS32
set_option linter.unusedVariables false
set_option linter.unusedSimpArgs false
namespace Go.Vm
open Go.Proofs
noncomputable section
set_option maxRecDepth 100000
theorem seat_ok : SeatOK Tryd.prog tab eqs := ⟨by kernel_rfl, by kernel_rfl, by kernel_rfl⟩
def layoutlaw29_Few_P : List (LoopPf layoutlaw29_Few_C layoutlaw29_Few_As (bodyOf Tryd.f12)) := [⟨4, layoutlaw29_Few_A4, layoutlaw29_Few_B4, rfl, layoutlaw29_Few_R4⟩]
theorem layoutlaw29_Few_loops : LoopsOK layoutlaw29_Few_C layoutlaw29_Few_As (loopsIn (bodyOf Tryd.f12)) := loops_ok layoutlaw29_Few_P (by kernel_rfl) (by kernel_rfl)
theorem layoutlaw29_Few_cons : ∀ f site c, (layoutlaw29_Few_C).con f site = some c → c.Holds Tryd.prog (layoutlaw29_Few_C).glob f := by
  intro f site c h; cases h
theorem layoutlaw29_Few_holds : Con.Holds Tryd.prog glob 12 layoutlaw29_Few_c :=
  fn_holds (C := layoutlaw29_Few_C) (A := layoutlaw29_Few_As) (outs := [(.tmp 2, true, .bool)]) seat_ok layoutlaw29_Few_cons (by kernel_rfl) (by kernel_rfl) layoutlaw29_Few_loops (by kernel_rfl) (by kernel_rfl) layoutlaw29_Few_eq

def rotation_tail_P : List (LoopPf rotation_tail_C rotation_tail_As (bodyOf Tryd.f86)) := []
theorem rotation_tail_loops : LoopsOK rotation_tail_C rotation_tail_As (loopsIn (bodyOf Tryd.f86)) := loops_ok rotation_tail_P (by kernel_rfl) (by kernel_rfl)
theorem rotation_tail_cons : ∀ f site c, (rotation_tail_C).con f site = some c → c.Holds Tryd.prog (rotation_tail_C).glob f := by
  intro f site c h; cases h
theorem rotation_tail_holds : Con.Holds Tryd.prog glob 86 rotation_tail_c :=
  fn_holds (C := rotation_tail_C) (A := rotation_tail_As) (outs := [(.tmp 4, true, I)]) seat_ok rotation_tail_cons (by kernel_rfl) (by kernel_rfl) rotation_tail_loops (by kernel_rfl) (by kernel_rfl) rotation_tail_eq

def rotation_Valid_P : List (LoopPf rotation_Valid_C rotation_Valid_As (bodyOf Tryd.f63)) := [⟨4, rotation_Valid_A4, rotation_Valid_B4, rfl, rotation_Valid_R4⟩, ⟨12, rotation_Valid_A12, rotation_Valid_B12, rfl, rotation_Valid_R12⟩, ⟨15, rotation_Valid_A15, rotation_Valid_B15, rfl, rotation_Valid_R15⟩]
theorem rotation_Valid_loops : LoopsOK rotation_Valid_C rotation_Valid_As (loopsIn (bodyOf Tryd.f63)) := loops_ok rotation_Valid_P (by kernel_rfl) (by kernel_rfl)
theorem rotation_Valid_cons : ∀ f site c, (rotation_Valid_C).con f site = some c → c.Holds Tryd.prog (rotation_Valid_C).glob f := by
  intro f site c h
  unfold rotation_Valid_C at h
  dsimp only at h
  split at h
  · cases h; exact rotation_tail_holds
  · cases h
theorem rotation_Valid_holds : Con.Holds Tryd.prog glob 63 rotation_Valid_c :=
  fn_holds (C := rotation_Valid_C) (A := rotation_Valid_As) (outs := [(.tmp 2, true, .bool)]) seat_ok rotation_Valid_cons (by kernel_rfl) (by kernel_rfl) rotation_Valid_loops (by kernel_rfl) (by kernel_rfl) rotation_Valid_eq

def rotation_follow_P : List (LoopPf rotation_follow_C rotation_follow_As (bodyOf Tryd.f80)) := [⟨3, rotation_follow_A3, rotation_follow_B3, rfl, rotation_follow_R3⟩, ⟨6, rotation_follow_A6, rotation_follow_B6, rfl, rotation_follow_R6⟩]
theorem rotation_follow_loops : LoopsOK rotation_follow_C rotation_follow_As (loopsIn (bodyOf Tryd.f80)) := loops_ok rotation_follow_P (by kernel_rfl) (by kernel_rfl)
theorem rotation_follow_cons : ∀ f site c, (rotation_follow_C).con f site = some c → c.Holds Tryd.prog (rotation_follow_C).glob f := by
  intro f site c h; cases h
theorem rotation_follow_holds : Con.Holds Tryd.prog glob 80 rotation_follow_c :=
  fn_holds (C := rotation_follow_C) (A := rotation_follow_As) (outs := [(.tmp 2, true, (.slice I))]) seat_ok rotation_follow_cons (by kernel_rfl) (by kernel_rfl) rotation_follow_loops (by kernel_rfl) (by kernel_rfl) rotation_follow_eq

def rotation_Faces_P : List (LoopPf rotation_Faces_C rotation_Faces_As (bodyOf Tryd.f49)) := [⟨7, rotation_Faces_A7, rotation_Faces_B7, rfl, rotation_Faces_R7⟩, ⟨11, rotation_Faces_A11, rotation_Faces_B11, rfl, rotation_Faces_R11⟩]
theorem rotation_Faces_loops : LoopsOK rotation_Faces_C rotation_Faces_As (loopsIn (bodyOf Tryd.f49)) := loops_ok rotation_Faces_P (by kernel_rfl) (by kernel_rfl)
theorem rotation_Faces_cons : ∀ f site c, (rotation_Faces_C).con f site = some c → c.Holds Tryd.prog (rotation_Faces_C).glob f := by
  intro f site c h
  unfold rotation_Faces_C at h
  dsimp only at h
  split at h
  · cases h; exact rotation_Valid_holds
  · cases h; exact rotation_follow_holds
  · cases h
theorem rotation_Faces_holds : Con.Holds Tryd.prog glob 49 rotation_Faces_c :=
  fn_holds (C := rotation_Faces_C) (A := rotation_Faces_As) (outs := [(.tmp 2, true, (.slice (.slice I)))]) seat_ok rotation_Faces_cons (by kernel_rfl) (by kernel_rfl) rotation_Faces_loops (by kernel_rfl) (by kernel_rfl) rotation_Faces_eq

def rotation_components_P : List (LoopPf rotation_components_C rotation_components_As (bodyOf Tryd.f95)) := [⟨4, rotation_components_A4, rotation_components_B4, rfl, rotation_components_R4⟩, ⟨10, rotation_components_A10, rotation_components_B10, rfl, rotation_components_R10⟩, ⟨13, rotation_components_A13, rotation_components_B13, rfl, rotation_components_R13⟩]
theorem rotation_components_loops : LoopsOK rotation_components_C rotation_components_As (loopsIn (bodyOf Tryd.f95)) := loops_ok rotation_components_P (by kernel_rfl) (by kernel_rfl)
theorem rotation_components_cons : ∀ f site c, (rotation_components_C).con f site = some c → c.Holds Tryd.prog (rotation_components_C).glob f := by
  intro f site c h
  unfold rotation_components_C at h
  dsimp only at h
  split at h
  · cases h; exact rotation_tail_holds
  · cases h
theorem rotation_components_holds : Con.Holds Tryd.prog glob 95 rotation_components_c :=
  fn_holds (C := rotation_components_C) (A := rotation_components_As) (outs := [(.tmp 2, true, I)]) seat_ok rotation_components_cons (by kernel_rfl) (by kernel_rfl) rotation_components_loops (by kernel_rfl) (by kernel_rfl) rotation_components_eq

def rotation_Genus_P : List (LoopPf rotation_Genus_C rotation_Genus_As (bodyOf Tryd.f78)) := [⟨5, rotation_Genus_A5, rotation_Genus_B5, rfl, rotation_Genus_R5⟩]
theorem rotation_Genus_loops : LoopsOK rotation_Genus_C rotation_Genus_As (loopsIn (bodyOf Tryd.f78)) := loops_ok rotation_Genus_P (by kernel_rfl) (by kernel_rfl)
theorem rotation_Genus_cons : ∀ f site c, (rotation_Genus_C).con f site = some c → c.Holds Tryd.prog (rotation_Genus_C).glob f := by
  intro f site c h
  unfold rotation_Genus_C at h
  dsimp only at h
  split at h
  · cases h; exact rotation_Faces_holds
  · cases h; exact rotation_Valid_holds
  · cases h; exact rotation_components_holds
  · cases h
theorem rotation_Genus_holds : Con.Holds Tryd.prog glob 78 rotation_Genus_c :=
  fn_holds (C := rotation_Genus_C) (A := rotation_Genus_As) (outs := [(.tmp 2, true, I)]) seat_ok rotation_Genus_cons (by kernel_rfl) (by kernel_rfl) rotation_Genus_loops (by kernel_rfl) (by kernel_rfl) rotation_Genus_eq

def dual_connected_P : List (LoopPf dual_connected_C dual_connected_As (bodyOf Tryd.f79)) := [⟨7, dual_connected_A7, dual_connected_B7, rfl, dual_connected_R7⟩, ⟨10, dual_connected_A10, dual_connected_B10, rfl, dual_connected_R10⟩]
theorem dual_connected_loops : LoopsOK dual_connected_C dual_connected_As (loopsIn (bodyOf Tryd.f79)) := loops_ok dual_connected_P (by kernel_rfl) (by kernel_rfl)
theorem dual_connected_cons : ∀ f site c, (dual_connected_C).con f site = some c → c.Holds Tryd.prog (dual_connected_C).glob f := by
  intro f site c h; cases h
theorem dual_connected_holds : Con.Holds Tryd.prog glob 79 dual_connected_c :=
  fn_holds (C := dual_connected_C) (A := dual_connected_As) (outs := [(.tmp 2, true, .bool)]) seat_ok dual_connected_cons (by kernel_rfl) (by kernel_rfl) dual_connected_loops (by kernel_rfl) (by kernel_rfl) dual_connected_eq

def dual_check_P : List (LoopPf dual_check_C dual_check_As (bodyOf Tryd.f44)) := []
theorem dual_check_loops : LoopsOK dual_check_C dual_check_As (loopsIn (bodyOf Tryd.f44)) := loops_ok dual_check_P (by kernel_rfl) (by kernel_rfl)
theorem dual_check_cons : ∀ f site c, (dual_check_C).con f site = some c → c.Holds Tryd.prog (dual_check_C).glob f := by
  intro f site c h
  unfold dual_check_C at h
  dsimp only at h
  split at h
  · cases h; exact rotation_Valid_holds
  · cases h; exact rotation_Genus_holds
  · cases h; exact dual_connected_holds
  · cases h
theorem dual_check_holds : Con.Holds Tryd.prog glob 44 dual_check_c :=
  fn_holds (C := dual_check_C) (A := dual_check_As) (outs := [(.tmp 2, true, I)]) seat_ok dual_check_cons (by kernel_rfl) (by kernel_rfl) dual_check_loops (by kernel_rfl) (by kernel_rfl) dual_check_eq

def dual_numbers_P : List (LoopPf dual_numbers_C dual_numbers_As (bodyOf Tryd.f45)) := [⟨4, dual_numbers_A4, dual_numbers_B4, rfl, dual_numbers_R4⟩, ⟨7, dual_numbers_A7, dual_numbers_B7, rfl, dual_numbers_R7⟩]
theorem dual_numbers_loops : LoopsOK dual_numbers_C dual_numbers_As (loopsIn (bodyOf Tryd.f45)) := loops_ok dual_numbers_P (by kernel_rfl) (by kernel_rfl)
theorem dual_numbers_cons : ∀ f site c, (dual_numbers_C).con f site = some c → c.Holds Tryd.prog (dual_numbers_C).glob f := by
  intro f site c h
  unfold dual_numbers_C at h
  dsimp only at h
  split at h
  · cases h; exact rotation_Faces_holds
  · cases h
theorem dual_numbers_holds : Con.Holds Tryd.prog glob 45 dual_numbers_c :=
  fn_holds (C := dual_numbers_C) (A := dual_numbers_As) (outs := [(.tmp 2, true, (.slice I)), (.tmp 3, true, I)]) seat_ok dual_numbers_cons (by kernel_rfl) (by kernel_rfl) dual_numbers_loops (by kernel_rfl) (by kernel_rfl) dual_numbers_eq

def dual_Build_P : List (LoopPf dual_Build_C dual_Build_As (bodyOf Tryd.f14)) := [⟨7, dual_Build_A7, dual_Build_B7, rfl, dual_Build_R7⟩]
theorem dual_Build_loops : LoopsOK dual_Build_C dual_Build_As (loopsIn (bodyOf Tryd.f14)) := loops_ok dual_Build_P (by kernel_rfl) (by kernel_rfl)
theorem dual_Build_cons : ∀ f site c, (dual_Build_C).con f site = some c → c.Holds Tryd.prog (dual_Build_C).glob f := by
  intro f site c h
  unfold dual_Build_C at h
  dsimp only at h
  split at h
  · cases h; exact dual_check_holds
  · cases h; exact dual_numbers_holds
  · cases h
theorem dual_Build_holds : Con.Holds Tryd.prog glob 14 dual_Build_c :=
  fn_holds (C := dual_Build_C) (A := dual_Build_As) (outs := [(.cell 2 29, true, (.prod I (.prod (.slice (.prod I (.prod I .unit))) .unit))), (.tmp 3, true, I)]) seat_ok dual_Build_cons (by kernel_rfl) (by kernel_rfl) dual_Build_loops (by kernel_rfl) (by kernel_rfl) dual_Build_eq

theorem slices_Sort_int_holds : Con.Holds Tryd.prog glob 81 slices_Sort_int_c := sort_at

theorem slices_Compact_int_holds : Con.Holds Tryd.prog glob 82 slices_Compact_int_c := compact_at

def dual_around_P : List (LoopPf dual_around_C dual_around_As (bodyOf Tryd.f52)) := [⟨3, dual_around_A3, dual_around_B3, rfl, dual_around_R3⟩]
theorem dual_around_loops : LoopsOK dual_around_C dual_around_As (loopsIn (bodyOf Tryd.f52)) := loops_ok dual_around_P (by kernel_rfl) (by kernel_rfl)
theorem dual_around_cons : ∀ f site c, (dual_around_C).con f site = some c → c.Holds Tryd.prog (dual_around_C).glob f := by
  intro f site c h
  unfold dual_around_C at h
  dsimp only at h
  split at h
  · cases h; exact slices_Sort_int_holds
  · cases h; exact slices_Compact_int_holds
  · cases h
theorem dual_around_holds : Con.Holds Tryd.prog glob 52 dual_around_c :=
  fn_holds (C := dual_around_C) (A := dual_around_As) (outs := [(.tmp 6, true, (.slice I))]) seat_ok dual_around_cons (by kernel_rfl) (by kernel_rfl) dual_around_loops (by kernel_rfl) (by kernel_rfl) dual_around_eq

def slices_Clone_int_P : List (LoopPf slices_Clone_int_C slices_Clone_int_As (bodyOf Tryd.f83)) := []
theorem slices_Clone_int_loops : LoopsOK slices_Clone_int_C slices_Clone_int_As (loopsIn (bodyOf Tryd.f83)) := loops_ok slices_Clone_int_P (by kernel_rfl) (by kernel_rfl)
theorem slices_Clone_int_cons : ∀ f site c, (slices_Clone_int_C).con f site = some c → c.Holds Tryd.prog (slices_Clone_int_C).glob f := by
  intro f site c h; cases h
theorem slices_Clone_int_holds : Con.Holds Tryd.prog glob 83 slices_Clone_int_c :=
  fn_holds (C := slices_Clone_int_C) (A := slices_Clone_int_As) (outs := [(.tmp 2, true, (.slice I))]) seat_ok slices_Clone_int_cons (by kernel_rfl) (by kernel_rfl) slices_Clone_int_loops (by kernel_rfl) (by kernel_rfl) slices_Clone_int_eq

def dual_distances_P : List (LoopPf dual_distances_C dual_distances_As (bodyOf Tryd.f54)) := [⟨3, dual_distances_A3, dual_distances_B3, rfl, dual_distances_R3⟩, ⟨9, dual_distances_A9, dual_distances_B9, rfl, dual_distances_R9⟩, ⟨13, dual_distances_A13, dual_distances_B13, rfl, dual_distances_R13⟩, ⟨17, dual_distances_A17, dual_distances_B17, rfl, dual_distances_R17⟩, ⟨20, dual_distances_A20, dual_distances_B20, rfl, dual_distances_R20⟩]
theorem dual_distances_loops : LoopsOK dual_distances_C dual_distances_As (loopsIn (bodyOf Tryd.f54)) := loops_ok dual_distances_P (by kernel_rfl) (by kernel_rfl)
theorem dual_distances_cons : ∀ f site c, (dual_distances_C).con f site = some c → c.Holds Tryd.prog (dual_distances_C).glob f := by
  intro f site c h
  unfold dual_distances_C at h
  dsimp only at h
  split at h
  · cases h; exact slices_Clone_int_holds
  · cases h
theorem dual_distances_holds : Con.Holds Tryd.prog glob 54 dual_distances_c :=
  fn_holds (C := dual_distances_C) (A := dual_distances_As) (outs := [(.tmp 8, true, (.slice I))]) seat_ok dual_distances_cons (by kernel_rfl) (by kernel_rfl) dual_distances_loops (by kernel_rfl) (by kernel_rfl) dual_distances_eq

def dual_Route_1_P : List (LoopPf dual_Route_1_C dual_Route_1_As (bodyOf Tryd.f56)) := []
theorem dual_Route_1_loops : LoopsOK dual_Route_1_C dual_Route_1_As (loopsIn (bodyOf Tryd.f56)) := loops_ok dual_Route_1_P (by kernel_rfl) (by kernel_rfl)
theorem dual_Route_1_cons : ∀ f site c, (dual_Route_1_C).con f site = some c → c.Holds Tryd.prog (dual_Route_1_C).glob f := by
  intro f site c h; cases h
theorem dual_Route_1_holds : Con.Holds Tryd.prog glob 56 dual_Route_1_c :=
  fn_holds (C := dual_Route_1_C) (A := dual_Route_1_As) (outs := [(.tmp 5, true, I)]) seat_ok dual_Route_1_cons (by kernel_rfl) (by kernel_rfl) dual_Route_1_loops (by kernel_rfl) (by kernel_rfl) dual_Route_1_eq

def slices_MinFunc_int_of_dual_Route_1_P : List (LoopPf slices_MinFunc_int_of_dual_Route_1_C slices_MinFunc_int_of_dual_Route_1_As (bodyOf Tryd.f55)) := [⟨5, slices_MinFunc_int_of_dual_Route_1_A5, slices_MinFunc_int_of_dual_Route_1_B5, rfl, slices_MinFunc_int_of_dual_Route_1_R5⟩]
theorem slices_MinFunc_int_of_dual_Route_1_loops : LoopsOK slices_MinFunc_int_of_dual_Route_1_C slices_MinFunc_int_of_dual_Route_1_As (loopsIn (bodyOf Tryd.f55)) := loops_ok slices_MinFunc_int_of_dual_Route_1_P (by kernel_rfl) (by kernel_rfl)
theorem slices_MinFunc_int_of_dual_Route_1_cons : ∀ f site c, (slices_MinFunc_int_of_dual_Route_1_C).con f site = some c → c.Holds Tryd.prog (slices_MinFunc_int_of_dual_Route_1_C).glob f := by
  intro f site c h
  unfold slices_MinFunc_int_of_dual_Route_1_C at h
  dsimp only at h
  split at h
  · cases h; exact dual_Route_1_holds
  · cases h
theorem slices_MinFunc_int_of_dual_Route_1_holds : Con.Holds Tryd.prog glob 55 slices_MinFunc_int_of_dual_Route_1_c :=
  fn_holds (C := slices_MinFunc_int_of_dual_Route_1_C) (A := slices_MinFunc_int_of_dual_Route_1_As) (outs := [(.tmp 4, true, I)]) seat_ok slices_MinFunc_int_of_dual_Route_1_cons (by kernel_rfl) (by kernel_rfl) slices_MinFunc_int_of_dual_Route_1_loops (by kernel_rfl) (by kernel_rfl) slices_MinFunc_int_of_dual_Route_1_eq

def dual_Route_2_P : List (LoopPf dual_Route_2_C dual_Route_2_As (bodyOf Tryd.f58)) := []
theorem dual_Route_2_loops : LoopsOK dual_Route_2_C dual_Route_2_As (loopsIn (bodyOf Tryd.f58)) := loops_ok dual_Route_2_P (by kernel_rfl) (by kernel_rfl)
theorem dual_Route_2_cons : ∀ f site c, (dual_Route_2_C).con f site = some c → c.Holds Tryd.prog (dual_Route_2_C).glob f := by
  intro f site c h; cases h
theorem dual_Route_2_holds : Con.Holds Tryd.prog glob 58 dual_Route_2_c :=
  fn_holds (C := dual_Route_2_C) (A := dual_Route_2_As) (outs := [(.tmp 4, true, .bool)]) seat_ok dual_Route_2_cons (by kernel_rfl) (by kernel_rfl) dual_Route_2_loops (by kernel_rfl) (by kernel_rfl) dual_Route_2_eq

def slices_IndexFunc_int_of_dual_Route_2_P : List (LoopPf slices_IndexFunc_int_of_dual_Route_2_C slices_IndexFunc_int_of_dual_Route_2_As (bodyOf Tryd.f84)) := [⟨2, slices_IndexFunc_int_of_dual_Route_2_A2, slices_IndexFunc_int_of_dual_Route_2_B2, rfl, slices_IndexFunc_int_of_dual_Route_2_R2⟩]
theorem slices_IndexFunc_int_of_dual_Route_2_loops : LoopsOK slices_IndexFunc_int_of_dual_Route_2_C slices_IndexFunc_int_of_dual_Route_2_As (loopsIn (bodyOf Tryd.f84)) := loops_ok slices_IndexFunc_int_of_dual_Route_2_P (by kernel_rfl) (by kernel_rfl)
theorem slices_IndexFunc_int_of_dual_Route_2_cons : ∀ f site c, (slices_IndexFunc_int_of_dual_Route_2_C).con f site = some c → c.Holds Tryd.prog (slices_IndexFunc_int_of_dual_Route_2_C).glob f := by
  intro f site c h
  unfold slices_IndexFunc_int_of_dual_Route_2_C at h
  dsimp only at h
  split at h
  · cases h; exact dual_Route_2_holds
  · cases h
theorem slices_IndexFunc_int_of_dual_Route_2_holds : Con.Holds Tryd.prog glob 84 slices_IndexFunc_int_of_dual_Route_2_c :=
  fn_holds (C := slices_IndexFunc_int_of_dual_Route_2_C) (A := slices_IndexFunc_int_of_dual_Route_2_As) (outs := [(.tmp 4, true, I)]) seat_ok slices_IndexFunc_int_of_dual_Route_2_cons (by kernel_rfl) (by kernel_rfl) slices_IndexFunc_int_of_dual_Route_2_loops (by kernel_rfl) (by kernel_rfl) slices_IndexFunc_int_of_dual_Route_2_eq

def slices_DeleteFunc_int_of_dual_Route_2_P : List (LoopPf slices_DeleteFunc_int_of_dual_Route_2_C slices_DeleteFunc_int_of_dual_Route_2_As (bodyOf Tryd.f57)) := [⟨5, slices_DeleteFunc_int_of_dual_Route_2_A5, slices_DeleteFunc_int_of_dual_Route_2_B5, rfl, slices_DeleteFunc_int_of_dual_Route_2_R5⟩]
theorem slices_DeleteFunc_int_of_dual_Route_2_loops : LoopsOK slices_DeleteFunc_int_of_dual_Route_2_C slices_DeleteFunc_int_of_dual_Route_2_As (loopsIn (bodyOf Tryd.f57)) := loops_ok slices_DeleteFunc_int_of_dual_Route_2_P (by kernel_rfl) (by kernel_rfl)
theorem slices_DeleteFunc_int_of_dual_Route_2_cons : ∀ f site c, (slices_DeleteFunc_int_of_dual_Route_2_C).con f site = some c → c.Holds Tryd.prog (slices_DeleteFunc_int_of_dual_Route_2_C).glob f := by
  intro f site c h
  unfold slices_DeleteFunc_int_of_dual_Route_2_C at h
  dsimp only at h
  split at h
  · cases h; exact dual_Route_2_holds
  · cases h; exact slices_IndexFunc_int_of_dual_Route_2_holds
  · cases h
theorem slices_DeleteFunc_int_of_dual_Route_2_holds : Con.Holds Tryd.prog glob 57 slices_DeleteFunc_int_of_dual_Route_2_c :=
  fn_holds (C := slices_DeleteFunc_int_of_dual_Route_2_C) (A := slices_DeleteFunc_int_of_dual_Route_2_As) (outs := [(.tmp 4, true, (.slice I))]) seat_ok slices_DeleteFunc_int_of_dual_Route_2_cons (by kernel_rfl) (by kernel_rfl) slices_DeleteFunc_int_of_dual_Route_2_loops (by kernel_rfl) (by kernel_rfl) slices_DeleteFunc_int_of_dual_Route_2_eq

def slices_Index_int_P : List (LoopPf slices_Index_int_C slices_Index_int_As (bodyOf Tryd.f71)) := [⟨2, slices_Index_int_A2, slices_Index_int_B2, rfl, slices_Index_int_R2⟩]
theorem slices_Index_int_loops : LoopsOK slices_Index_int_C slices_Index_int_As (loopsIn (bodyOf Tryd.f71)) := loops_ok slices_Index_int_P (by kernel_rfl) (by kernel_rfl)
theorem slices_Index_int_cons : ∀ f site c, (slices_Index_int_C).con f site = some c → c.Holds Tryd.prog (slices_Index_int_C).glob f := by
  intro f site c h; cases h
theorem slices_Index_int_holds : Con.Holds Tryd.prog glob 71 slices_Index_int_c :=
  fn_holds (C := slices_Index_int_C) (A := slices_Index_int_As) (outs := [(.tmp 4, true, I)]) seat_ok slices_Index_int_cons (by kernel_rfl) (by kernel_rfl) slices_Index_int_loops (by kernel_rfl) (by kernel_rfl) slices_Index_int_eq

def slices_Contains_int_P : List (LoopPf slices_Contains_int_C slices_Contains_int_As (bodyOf Tryd.f51)) := []
theorem slices_Contains_int_loops : LoopsOK slices_Contains_int_C slices_Contains_int_As (loopsIn (bodyOf Tryd.f51)) := loops_ok slices_Contains_int_P (by kernel_rfl) (by kernel_rfl)
theorem slices_Contains_int_cons : ∀ f site c, (slices_Contains_int_C).con f site = some c → c.Holds Tryd.prog (slices_Contains_int_C).glob f := by
  intro f site c h
  unfold slices_Contains_int_C at h
  dsimp only at h
  split at h
  · cases h; exact slices_Index_int_holds
  · cases h
theorem slices_Contains_int_holds : Con.Holds Tryd.prog glob 51 slices_Contains_int_c :=
  fn_holds (C := slices_Contains_int_C) (A := slices_Contains_int_As) (outs := [(.tmp 4, true, .bool)]) seat_ok slices_Contains_int_cons (by kernel_rfl) (by kernel_rfl) slices_Contains_int_loops (by kernel_rfl) (by kernel_rfl) slices_Contains_int_eq

def dual_step_P : List (LoopPf dual_step_C dual_step_As (bodyOf Tryd.f59)) := [⟨2, dual_step_A2, dual_step_B2, rfl, dual_step_R2⟩, ⟨5, dual_step_A5, dual_step_B5, rfl, dual_step_R5⟩]
theorem dual_step_loops : LoopsOK dual_step_C dual_step_As (loopsIn (bodyOf Tryd.f59)) := loops_ok dual_step_P (by kernel_rfl) (by kernel_rfl)
theorem dual_step_cons : ∀ f site c, (dual_step_C).con f site = some c → c.Holds Tryd.prog (dual_step_C).glob f := by
  intro f site c h
  unfold dual_step_C at h
  dsimp only at h
  split at h
  · cases h; exact slices_Contains_int_holds
  · cases h
theorem dual_step_holds : Con.Holds Tryd.prog glob 59 dual_step_c :=
  fn_holds (C := dual_step_C) (A := dual_step_As) (outs := [(.tmp 10, true, I), (.tmp 11, true, I)]) seat_ok dual_step_cons (by kernel_rfl) (by kernel_rfl) dual_step_loops (by kernel_rfl) (by kernel_rfl) dual_step_eq

def dual_Route_P : List (LoopPf dual_Route_C dual_Route_As (bodyOf Tryd.f22)) := [⟨14, dual_Route_A14, dual_Route_B14, rfl, dual_Route_R14⟩]
theorem dual_Route_loops : LoopsOK dual_Route_C dual_Route_As (loopsIn (bodyOf Tryd.f22)) := loops_ok dual_Route_P (by kernel_rfl) (by kernel_rfl)
theorem dual_Route_cons : ∀ f site c, (dual_Route_C).con f site = some c → c.Holds Tryd.prog (dual_Route_C).glob f := by
  intro f site c h
  unfold dual_Route_C at h
  dsimp only at h
  split at h
  · cases h; exact dual_check_holds
  · cases h; exact dual_numbers_holds
  · cases h; exact dual_around_holds
  · cases h; exact dual_distances_holds
  · cases h; exact slices_MinFunc_int_of_dual_Route_1_holds
  · cases h; exact slices_DeleteFunc_int_of_dual_Route_2_holds
  · cases h; exact dual_step_holds
  · cases h
theorem dual_Route_holds : Con.Holds Tryd.prog glob 22 dual_Route_c :=
  fn_holds (C := dual_Route_C) (A := dual_Route_As) (outs := [(.tmp 6, true, (.slice I)), (.tmp 7, true, I)]) seat_ok dual_Route_cons (by kernel_rfl) (by kernel_rfl) dual_Route_loops (by kernel_rfl) (by kernel_rfl) dual_Route_eq

def dual_Distance_P : List (LoopPf dual_Distance_C dual_Distance_As (bodyOf Tryd.f21)) := []
theorem dual_Distance_loops : LoopsOK dual_Distance_C dual_Distance_As (loopsIn (bodyOf Tryd.f21)) := loops_ok dual_Distance_P (by kernel_rfl) (by kernel_rfl)
theorem dual_Distance_cons : ∀ f site c, (dual_Distance_C).con f site = some c → c.Holds Tryd.prog (dual_Distance_C).glob f := by
  intro f site c h
  unfold dual_Distance_C at h
  dsimp only at h
  split at h
  · cases h; exact dual_Route_holds
  · cases h
theorem dual_Distance_holds : Con.Holds Tryd.prog glob 21 dual_Distance_c :=
  fn_holds (C := dual_Distance_C) (A := dual_Distance_As) (outs := [(.tmp 6, true, I), (.tmp 7, true, I)]) seat_ok dual_Distance_cons (by kernel_rfl) (by kernel_rfl) dual_Distance_loops (by kernel_rfl) (by kernel_rfl) dual_Distance_eq

def dual_Face_1_P : List (LoopPf dual_Face_1_C dual_Face_1_As (bodyOf Tryd.f50)) := []
theorem dual_Face_1_loops : LoopsOK dual_Face_1_C dual_Face_1_As (loopsIn (bodyOf Tryd.f50)) := loops_ok dual_Face_1_P (by kernel_rfl) (by kernel_rfl)
theorem dual_Face_1_cons : ∀ f site c, (dual_Face_1_C).con f site = some c → c.Holds Tryd.prog (dual_Face_1_C).glob f := by
  intro f site c h
  unfold dual_Face_1_C at h
  dsimp only at h
  split at h
  · cases h; exact slices_Contains_int_holds
  · cases h
theorem dual_Face_1_holds : Con.Holds Tryd.prog glob 50 dual_Face_1_c :=
  fn_holds (C := dual_Face_1_C) (A := dual_Face_1_As) (outs := [(.tmp 3, true, .bool)]) seat_ok dual_Face_1_cons (by kernel_rfl) (by kernel_rfl) dual_Face_1_loops (by kernel_rfl) (by kernel_rfl) dual_Face_1_eq

def slices_IndexFunc__int_int_of_dual_Face_1_P : List (LoopPf slices_IndexFunc__int_int_of_dual_Face_1_C slices_IndexFunc__int_int_of_dual_Face_1_As (bodyOf Tryd.f48)) := [⟨2, slices_IndexFunc__int_int_of_dual_Face_1_A2, slices_IndexFunc__int_int_of_dual_Face_1_B2, rfl, slices_IndexFunc__int_int_of_dual_Face_1_R2⟩]
theorem slices_IndexFunc__int_int_of_dual_Face_1_loops : LoopsOK slices_IndexFunc__int_int_of_dual_Face_1_C slices_IndexFunc__int_int_of_dual_Face_1_As (loopsIn (bodyOf Tryd.f48)) := loops_ok slices_IndexFunc__int_int_of_dual_Face_1_P (by kernel_rfl) (by kernel_rfl)
theorem slices_IndexFunc__int_int_of_dual_Face_1_cons : ∀ f site c, (slices_IndexFunc__int_int_of_dual_Face_1_C).con f site = some c → c.Holds Tryd.prog (slices_IndexFunc__int_int_of_dual_Face_1_C).glob f := by
  intro f site c h
  unfold slices_IndexFunc__int_int_of_dual_Face_1_C at h
  dsimp only at h
  split at h
  · cases h; exact dual_Face_1_holds
  · cases h
theorem slices_IndexFunc__int_int_of_dual_Face_1_holds : Con.Holds Tryd.prog glob 48 slices_IndexFunc__int_int_of_dual_Face_1_c :=
  fn_holds (C := slices_IndexFunc__int_int_of_dual_Face_1_C) (A := slices_IndexFunc__int_int_of_dual_Face_1_As) (outs := [(.tmp 4, true, I)]) seat_ok slices_IndexFunc__int_int_of_dual_Face_1_cons (by kernel_rfl) (by kernel_rfl) slices_IndexFunc__int_int_of_dual_Face_1_loops (by kernel_rfl) (by kernel_rfl) slices_IndexFunc__int_int_of_dual_Face_1_eq

def dual_Face_P : List (LoopPf dual_Face_C dual_Face_As (bodyOf Tryd.f16)) := []
theorem dual_Face_loops : LoopsOK dual_Face_C dual_Face_As (loopsIn (bodyOf Tryd.f16)) := loops_ok dual_Face_P (by kernel_rfl) (by kernel_rfl)
theorem dual_Face_cons : ∀ f site c, (dual_Face_C).con f site = some c → c.Holds Tryd.prog (dual_Face_C).glob f := by
  intro f site c h
  unfold dual_Face_C at h
  dsimp only at h
  split at h
  · cases h; exact slices_IndexFunc__int_int_of_dual_Face_1_holds
  · cases h; exact rotation_Faces_holds
  · cases h
theorem dual_Face_holds : Con.Holds Tryd.prog glob 16 dual_Face_c :=
  fn_holds (C := dual_Face_C) (A := dual_Face_As) (outs := [(.tmp 4, true, I)]) seat_ok dual_Face_cons (by kernel_rfl) (by kernel_rfl) dual_Face_loops (by kernel_rfl) (by kernel_rfl) dual_Face_eq

def dual_At_P : List (LoopPf dual_At_C dual_At_As (bodyOf Tryd.f19)) := []
theorem dual_At_loops : LoopsOK dual_At_C dual_At_As (loopsIn (bodyOf Tryd.f19)) := loops_ok dual_At_P (by kernel_rfl) (by kernel_rfl)
theorem dual_At_cons : ∀ f site c, (dual_At_C).con f site = some c → c.Holds Tryd.prog (dual_At_C).glob f := by
  intro f site c h
  unfold dual_At_C at h
  dsimp only at h
  split at h
  · cases h; exact dual_check_holds
  · cases h; exact dual_numbers_holds
  · cases h; exact dual_around_holds
  · cases h
theorem dual_At_holds : Con.Holds Tryd.prog glob 19 dual_At_c :=
  fn_holds (C := dual_At_C) (A := dual_At_As) (outs := [(.tmp 4, true, (.slice I))]) seat_ok dual_At_cons (by kernel_rfl) (by kernel_rfl) dual_At_loops (by kernel_rfl) (by kernel_rfl) dual_At_eq

def layoutlaw32_same_P : List (LoopPf layoutlaw32_same_C layoutlaw32_same_As (bodyOf Tryd.f18)) := [⟨4, layoutlaw32_same_A4, layoutlaw32_same_B4, rfl, layoutlaw32_same_R4⟩]
theorem layoutlaw32_same_loops : LoopsOK layoutlaw32_same_C layoutlaw32_same_As (loopsIn (bodyOf Tryd.f18)) := loops_ok layoutlaw32_same_P (by kernel_rfl) (by kernel_rfl)
theorem layoutlaw32_same_cons : ∀ f site c, (layoutlaw32_same_C).con f site = some c → c.Holds Tryd.prog (layoutlaw32_same_C).glob f := by
  intro f site c h; cases h
theorem layoutlaw32_same_holds : Con.Holds Tryd.prog glob 18 layoutlaw32_same_c :=
  fn_holds (C := layoutlaw32_same_C) (A := layoutlaw32_same_As) (outs := [(.tmp 4, true, .bool)]) seat_ok layoutlaw32_same_cons (by kernel_rfl) (by kernel_rfl) layoutlaw32_same_loops (by kernel_rfl) (by kernel_rfl) layoutlaw32_same_eq

def layoutlaw32_awake_P : List (LoopPf layoutlaw32_awake_C layoutlaw32_awake_As (bodyOf Tryd.f13)) := []
theorem layoutlaw32_awake_loops : LoopsOK layoutlaw32_awake_C layoutlaw32_awake_As (loopsIn (bodyOf Tryd.f13)) := loops_ok layoutlaw32_awake_P (by kernel_rfl) (by kernel_rfl)
theorem layoutlaw32_awake_cons : ∀ f site c, (layoutlaw32_awake_C).con f site = some c → c.Holds Tryd.prog (layoutlaw32_awake_C).glob f := by
  intro f site c h
  unfold layoutlaw32_awake_C at h
  dsimp only at h
  split at h
  · cases h; exact dual_Build_holds
  · cases h; exact dual_Face_holds
  · cases h; exact layoutlaw32_same_holds
  · cases h; exact dual_At_holds
  · cases h; exact dual_Distance_holds
  · cases h
theorem layoutlaw32_awake_holds : Con.Holds Tryd.prog glob 13 layoutlaw32_awake_c :=
  fn_holds (C := layoutlaw32_awake_C) (A := layoutlaw32_awake_As) (outs := [(.tmp 0, true, .bool)]) seat_ok layoutlaw32_awake_cons (by kernel_rfl) (by kernel_rfl) layoutlaw32_awake_loops (by kernel_rfl) (by kernel_rfl) layoutlaw32_awake_eq

def layoutref29_Tails_P : List (LoopPf layoutref29_Tails_C layoutref29_Tails_As (bodyOf Tryd.f76)) := [⟨3, layoutref29_Tails_A3, layoutref29_Tails_B3, rfl, layoutref29_Tails_R3⟩]
theorem layoutref29_Tails_loops : LoopsOK layoutref29_Tails_C layoutref29_Tails_As (loopsIn (bodyOf Tryd.f76)) := loops_ok layoutref29_Tails_P (by kernel_rfl) (by kernel_rfl)
theorem layoutref29_Tails_cons : ∀ f site c, (layoutref29_Tails_C).con f site = some c → c.Holds Tryd.prog (layoutref29_Tails_C).glob f := by
  intro f site c h; cases h
theorem layoutref29_Tails_holds : Con.Holds Tryd.prog glob 76 layoutref29_Tails_c :=
  fn_holds (C := layoutref29_Tails_C) (A := layoutref29_Tails_As) (outs := [(.tmp 2, true, (.slice I))]) seat_ok layoutref29_Tails_cons (by kernel_rfl) (by kernel_rfl) layoutref29_Tails_loops (by kernel_rfl) (by kernel_rfl) layoutref29_Tails_eq

def layoutref29_Valid_P : List (LoopPf layoutref29_Valid_C layoutref29_Valid_As (bodyOf Tryd.f40)) := [⟨4, layoutref29_Valid_A4, layoutref29_Valid_B4, rfl, layoutref29_Valid_R4⟩, ⟨13, layoutref29_Valid_A13, layoutref29_Valid_B13, rfl, layoutref29_Valid_R13⟩, ⟨16, layoutref29_Valid_A16, layoutref29_Valid_B16, rfl, layoutref29_Valid_R16⟩]
theorem layoutref29_Valid_loops : LoopsOK layoutref29_Valid_C layoutref29_Valid_As (loopsIn (bodyOf Tryd.f40)) := loops_ok layoutref29_Valid_P (by kernel_rfl) (by kernel_rfl)
theorem layoutref29_Valid_cons : ∀ f site c, (layoutref29_Valid_C).con f site = some c → c.Holds Tryd.prog (layoutref29_Valid_C).glob f := by
  intro f site c h
  unfold layoutref29_Valid_C at h
  dsimp only at h
  split at h
  · cases h; exact layoutref29_Tails_holds
  · cases h
theorem layoutref29_Valid_holds : Con.Holds Tryd.prog glob 40 layoutref29_Valid_c :=
  fn_holds (C := layoutref29_Valid_C) (A := layoutref29_Valid_As) (outs := [(.tmp 2, true, .bool)]) seat_ok layoutref29_Valid_cons (by kernel_rfl) (by kernel_rfl) layoutref29_Valid_loops (by kernel_rfl) (by kernel_rfl) layoutref29_Valid_eq

def layoutref29_Follow_P : List (LoopPf layoutref29_Follow_C layoutref29_Follow_As (bodyOf Tryd.f72)) := [⟨3, layoutref29_Follow_A3, layoutref29_Follow_B3, rfl, layoutref29_Follow_R3⟩, ⟨7, layoutref29_Follow_A7, layoutref29_Follow_B7, rfl, layoutref29_Follow_R7⟩]
theorem layoutref29_Follow_loops : LoopsOK layoutref29_Follow_C layoutref29_Follow_As (loopsIn (bodyOf Tryd.f72)) := loops_ok layoutref29_Follow_P (by kernel_rfl) (by kernel_rfl)
theorem layoutref29_Follow_cons : ∀ f site c, (layoutref29_Follow_C).con f site = some c → c.Holds Tryd.prog (layoutref29_Follow_C).glob f := by
  intro f site c h; cases h
theorem layoutref29_Follow_holds : Con.Holds Tryd.prog glob 72 layoutref29_Follow_c :=
  fn_holds (C := layoutref29_Follow_C) (A := layoutref29_Follow_As) (outs := [(.tmp 2, true, (.slice I))]) seat_ok layoutref29_Follow_cons (by kernel_rfl) (by kernel_rfl) layoutref29_Follow_loops (by kernel_rfl) (by kernel_rfl) layoutref29_Follow_eq

def layoutref29_Other_P : List (LoopPf layoutref29_Other_C layoutref29_Other_As (bodyOf Tryd.f73)) := []
theorem layoutref29_Other_loops : LoopsOK layoutref29_Other_C layoutref29_Other_As (loopsIn (bodyOf Tryd.f73)) := loops_ok layoutref29_Other_P (by kernel_rfl) (by kernel_rfl)
theorem layoutref29_Other_cons : ∀ f site c, (layoutref29_Other_C).con f site = some c → c.Holds Tryd.prog (layoutref29_Other_C).glob f := by
  intro f site c h; cases h
theorem layoutref29_Other_holds : Con.Holds Tryd.prog glob 73 layoutref29_Other_c :=
  fn_holds (C := layoutref29_Other_C) (A := layoutref29_Other_As) (outs := [(.tmp 2, true, I)]) seat_ok layoutref29_Other_cons (by kernel_rfl) (by kernel_rfl) layoutref29_Other_loops (by kernel_rfl) (by kernel_rfl) layoutref29_Other_eq

def layoutref29_Faces_P : List (LoopPf layoutref29_Faces_C layoutref29_Faces_As (bodyOf Tryd.f34)) := [⟨7, layoutref29_Faces_A7, layoutref29_Faces_B7, rfl, layoutref29_Faces_R7⟩, ⟨12, layoutref29_Faces_A12, layoutref29_Faces_B12, rfl, layoutref29_Faces_R12⟩]
theorem layoutref29_Faces_loops : LoopsOK layoutref29_Faces_C layoutref29_Faces_As (loopsIn (bodyOf Tryd.f34)) := loops_ok layoutref29_Faces_P (by kernel_rfl) (by kernel_rfl)
theorem layoutref29_Faces_cons : ∀ f site c, (layoutref29_Faces_C).con f site = some c → c.Holds Tryd.prog (layoutref29_Faces_C).glob f := by
  intro f site c h
  unfold layoutref29_Faces_C at h
  dsimp only at h
  split at h
  · cases h; exact layoutref29_Valid_holds
  · cases h; exact layoutref29_Follow_holds
  · cases h; exact layoutref29_Other_holds
  · cases h
theorem layoutref29_Faces_holds : Con.Holds Tryd.prog glob 34 layoutref29_Faces_c :=
  fn_holds (C := layoutref29_Faces_C) (A := layoutref29_Faces_As) (outs := [(.tmp 2, true, (.slice (.slice I)))]) seat_ok layoutref29_Faces_cons (by kernel_rfl) (by kernel_rfl) layoutref29_Faces_loops (by kernel_rfl) (by kernel_rfl) layoutref29_Faces_eq

def layoutref29_root_P : List (LoopPf layoutref29_root_C layoutref29_root_As (bodyOf Tryd.f85)) := [⟨1, layoutref29_root_A1, layoutref29_root_B1, rfl, layoutref29_root_R1⟩]
theorem layoutref29_root_loops : LoopsOK layoutref29_root_C layoutref29_root_As (loopsIn (bodyOf Tryd.f85)) := loops_ok layoutref29_root_P (by kernel_rfl) (by kernel_rfl)
theorem layoutref29_root_cons : ∀ f site c, (layoutref29_root_C).con f site = some c → c.Holds Tryd.prog (layoutref29_root_C).glob f := by
  intro f site c h; cases h
theorem layoutref29_root_holds : Con.Holds Tryd.prog glob 85 layoutref29_root_c :=
  fn_holds (C := layoutref29_root_C) (A := layoutref29_root_As) (outs := [(.tmp 4, true, I)]) seat_ok layoutref29_root_cons (by kernel_rfl) (by kernel_rfl) layoutref29_root_loops (by kernel_rfl) (by kernel_rfl) layoutref29_root_eq

def layoutref29_Components_P : List (LoopPf layoutref29_Components_C layoutref29_Components_As (bodyOf Tryd.f61)) := [⟨3, layoutref29_Components_A3, layoutref29_Components_B3, rfl, layoutref29_Components_R3⟩, ⟨8, layoutref29_Components_A8, layoutref29_Components_B8, rfl, layoutref29_Components_R8⟩]
theorem layoutref29_Components_loops : LoopsOK layoutref29_Components_C layoutref29_Components_As (loopsIn (bodyOf Tryd.f61)) := loops_ok layoutref29_Components_P (by kernel_rfl) (by kernel_rfl)
theorem layoutref29_Components_cons : ∀ f site c, (layoutref29_Components_C).con f site = some c → c.Holds Tryd.prog (layoutref29_Components_C).glob f := by
  intro f site c h
  unfold layoutref29_Components_C at h
  dsimp only at h
  split at h
  · cases h; exact layoutref29_root_holds
  · cases h
theorem layoutref29_Components_holds : Con.Holds Tryd.prog glob 61 layoutref29_Components_c :=
  fn_holds (C := layoutref29_Components_C) (A := layoutref29_Components_As) (outs := [(.tmp 2, true, I)]) seat_ok layoutref29_Components_cons (by kernel_rfl) (by kernel_rfl) layoutref29_Components_loops (by kernel_rfl) (by kernel_rfl) layoutref29_Components_eq

def layoutref29_Genus_P : List (LoopPf layoutref29_Genus_C layoutref29_Genus_As (bodyOf Tryd.f35)) := [⟨5, layoutref29_Genus_A5, layoutref29_Genus_B5, rfl, layoutref29_Genus_R5⟩]
theorem layoutref29_Genus_loops : LoopsOK layoutref29_Genus_C layoutref29_Genus_As (loopsIn (bodyOf Tryd.f35)) := loops_ok layoutref29_Genus_P (by kernel_rfl) (by kernel_rfl)
theorem layoutref29_Genus_cons : ∀ f site c, (layoutref29_Genus_C).con f site = some c → c.Holds Tryd.prog (layoutref29_Genus_C).glob f := by
  intro f site c h
  unfold layoutref29_Genus_C at h
  dsimp only at h
  split at h
  · cases h; exact layoutref29_Faces_holds
  · cases h; exact layoutref29_Valid_holds
  · cases h; exact layoutref29_Components_holds
  · cases h
theorem layoutref29_Genus_holds : Con.Holds Tryd.prog glob 35 layoutref29_Genus_c :=
  fn_holds (C := layoutref29_Genus_C) (A := layoutref29_Genus_As) (outs := [(.tmp 2, true, I)]) seat_ok layoutref29_Genus_cons (by kernel_rfl) (by kernel_rfl) layoutref29_Genus_loops (by kernel_rfl) (by kernel_rfl) layoutref29_Genus_eq

def layoutref32_check_P : List (LoopPf layoutref32_check_C layoutref32_check_As (bodyOf Tryd.f46)) := []
theorem layoutref32_check_loops : LoopsOK layoutref32_check_C layoutref32_check_As (loopsIn (bodyOf Tryd.f46)) := loops_ok layoutref32_check_P (by kernel_rfl) (by kernel_rfl)
theorem layoutref32_check_cons : ∀ f site c, (layoutref32_check_C).con f site = some c → c.Holds Tryd.prog (layoutref32_check_C).glob f := by
  intro f site c h
  unfold layoutref32_check_C at h
  dsimp only at h
  split at h
  · cases h; exact layoutref29_Genus_holds
  · cases h; exact layoutref29_Components_holds
  · cases h
theorem layoutref32_check_holds : Con.Holds Tryd.prog glob 46 layoutref32_check_c :=
  fn_holds (C := layoutref32_check_C) (A := layoutref32_check_As) (outs := [(.tmp 2, true, I)]) seat_ok layoutref32_check_cons (by kernel_rfl) (by kernel_rfl) layoutref32_check_loops (by kernel_rfl) (by kernel_rfl) layoutref32_check_eq

def layoutref32_Marks_P : List (LoopPf layoutref32_Marks_C layoutref32_Marks_As (bodyOf Tryd.f47)) := [⟨4, layoutref32_Marks_A4, layoutref32_Marks_B4, rfl, layoutref32_Marks_R4⟩, ⟨7, layoutref32_Marks_A7, layoutref32_Marks_B7, rfl, layoutref32_Marks_R7⟩]
theorem layoutref32_Marks_loops : LoopsOK layoutref32_Marks_C layoutref32_Marks_As (loopsIn (bodyOf Tryd.f47)) := loops_ok layoutref32_Marks_P (by kernel_rfl) (by kernel_rfl)
theorem layoutref32_Marks_cons : ∀ f site c, (layoutref32_Marks_C).con f site = some c → c.Holds Tryd.prog (layoutref32_Marks_C).glob f := by
  intro f site c h
  unfold layoutref32_Marks_C at h
  dsimp only at h
  split at h
  · cases h; exact layoutref29_Faces_holds
  · cases h
theorem layoutref32_Marks_holds : Con.Holds Tryd.prog glob 47 layoutref32_Marks_c :=
  fn_holds (C := layoutref32_Marks_C) (A := layoutref32_Marks_As) (outs := [(.tmp 2, true, (.slice I))]) seat_ok layoutref32_Marks_cons (by kernel_rfl) (by kernel_rfl) layoutref32_Marks_loops (by kernel_rfl) (by kernel_rfl) layoutref32_Marks_eq

def layoutref32_Build_P : List (LoopPf layoutref32_Build_C layoutref32_Build_As (bodyOf Tryd.f15)) := [⟨7, layoutref32_Build_A7, layoutref32_Build_B7, rfl, layoutref32_Build_R7⟩]
theorem layoutref32_Build_loops : LoopsOK layoutref32_Build_C layoutref32_Build_As (loopsIn (bodyOf Tryd.f15)) := loops_ok layoutref32_Build_P (by kernel_rfl) (by kernel_rfl)
theorem layoutref32_Build_cons : ∀ f site c, (layoutref32_Build_C).con f site = some c → c.Holds Tryd.prog (layoutref32_Build_C).glob f := by
  intro f site c h
  unfold layoutref32_Build_C at h
  dsimp only at h
  split at h
  · cases h; exact layoutref29_Faces_holds
  · cases h; exact layoutref32_check_holds
  · cases h; exact layoutref32_Marks_holds
  · cases h
theorem layoutref32_Build_holds : Con.Holds Tryd.prog glob 15 layoutref32_Build_c :=
  fn_holds (C := layoutref32_Build_C) (A := layoutref32_Build_As) (outs := [(.cell 2 29, true, (.prod I (.prod (.slice (.prod I (.prod I .unit))) .unit))), (.tmp 3, true, I)]) seat_ok layoutref32_Build_cons (by kernel_rfl) (by kernel_rfl) layoutref32_Build_loops (by kernel_rfl) (by kernel_rfl) layoutref32_Build_eq

def layoutref32_Face_P : List (LoopPf layoutref32_Face_C layoutref32_Face_As (bodyOf Tryd.f17)) := []
theorem layoutref32_Face_loops : LoopsOK layoutref32_Face_C layoutref32_Face_As (loopsIn (bodyOf Tryd.f17)) := loops_ok layoutref32_Face_P (by kernel_rfl) (by kernel_rfl)
theorem layoutref32_Face_cons : ∀ f site c, (layoutref32_Face_C).con f site = some c → c.Holds Tryd.prog (layoutref32_Face_C).glob f := by
  intro f site c h
  unfold layoutref32_Face_C at h
  dsimp only at h
  split at h
  · cases h; exact layoutref29_Valid_holds
  · cases h; exact layoutref32_Marks_holds
  · cases h
theorem layoutref32_Face_holds : Con.Holds Tryd.prog glob 17 layoutref32_Face_c :=
  fn_holds (C := layoutref32_Face_C) (A := layoutref32_Face_As) (outs := [(.tmp 4, true, I)]) seat_ok layoutref32_Face_cons (by kernel_rfl) (by kernel_rfl) layoutref32_Face_loops (by kernel_rfl) (by kernel_rfl) layoutref32_Face_eq

def layoutref32_around_P : List (LoopPf layoutref32_around_C layoutref32_around_As (bodyOf Tryd.f53)) := [⟨5, layoutref32_around_A5, layoutref32_around_B5, rfl, layoutref32_around_R5⟩]
theorem layoutref32_around_loops : LoopsOK layoutref32_around_C layoutref32_around_As (loopsIn (bodyOf Tryd.f53)) := loops_ok layoutref32_around_P (by kernel_rfl) (by kernel_rfl)
theorem layoutref32_around_cons : ∀ f site c, (layoutref32_around_C).con f site = some c → c.Holds Tryd.prog (layoutref32_around_C).glob f := by
  intro f site c h
  unfold layoutref32_around_C at h
  dsimp only at h
  split at h
  · cases h; exact layoutref32_Marks_holds
  · cases h
theorem layoutref32_around_holds : Con.Holds Tryd.prog glob 53 layoutref32_around_c :=
  fn_holds (C := layoutref32_around_C) (A := layoutref32_around_As) (outs := [(.tmp 6, true, (.slice .bool))]) seat_ok layoutref32_around_cons (by kernel_rfl) (by kernel_rfl) layoutref32_around_loops (by kernel_rfl) (by kernel_rfl) layoutref32_around_eq

def layoutref32_At_P : List (LoopPf layoutref32_At_C layoutref32_At_As (bodyOf Tryd.f20)) := [⟨7, layoutref32_At_A7, layoutref32_At_B7, rfl, layoutref32_At_R7⟩]
theorem layoutref32_At_loops : LoopsOK layoutref32_At_C layoutref32_At_As (loopsIn (bodyOf Tryd.f20)) := loops_ok layoutref32_At_P (by kernel_rfl) (by kernel_rfl)
theorem layoutref32_At_cons : ∀ f site c, (layoutref32_At_C).con f site = some c → c.Holds Tryd.prog (layoutref32_At_C).glob f := by
  intro f site c h
  unfold layoutref32_At_C at h
  dsimp only at h
  split at h
  · cases h; exact layoutref32_Build_holds
  · cases h; exact layoutref32_around_holds
  · cases h
theorem layoutref32_At_holds : Con.Holds Tryd.prog glob 20 layoutref32_At_c :=
  fn_holds (C := layoutref32_At_C) (A := layoutref32_At_As) (outs := [(.tmp 4, true, (.slice I))]) seat_ok layoutref32_At_cons (by kernel_rfl) (by kernel_rfl) layoutref32_At_loops (by kernel_rfl) (by kernel_rfl) layoutref32_At_eq

def layoutlaw32_DualFaces_P : List (LoopPf layoutlaw32_DualFaces_C layoutlaw32_DualFaces_As (bodyOf Tryd.f3)) := [⟨8, layoutlaw32_DualFaces_A8, layoutlaw32_DualFaces_B8, rfl, layoutlaw32_DualFaces_R8⟩]
theorem layoutlaw32_DualFaces_loops : LoopsOK layoutlaw32_DualFaces_C layoutlaw32_DualFaces_As (loopsIn (bodyOf Tryd.f3)) := loops_ok layoutlaw32_DualFaces_P (by kernel_rfl) (by kernel_rfl)
theorem layoutlaw32_DualFaces_cons : ∀ f site c, (layoutlaw32_DualFaces_C).con f site = some c → c.Holds Tryd.prog (layoutlaw32_DualFaces_C).glob f := by
  intro f site c h
  unfold layoutlaw32_DualFaces_C at h
  dsimp only at h
  split at h
  · cases h; exact layoutlaw29_Few_holds
  · cases h; exact layoutlaw32_awake_holds
  · cases h; exact dual_Build_holds
  · cases h; exact layoutref32_Build_holds
  · cases h; exact dual_Face_holds
  · cases h; exact layoutref32_Face_holds
  · cases h; exact layoutlaw32_same_holds
  · cases h; exact dual_At_holds
  · cases h; exact layoutref32_At_holds
  · cases h
theorem layoutlaw32_DualFaces_holds : Con.Holds Tryd.prog glob 3 layoutlaw32_DualFaces_c :=
  fn_holds (C := layoutlaw32_DualFaces_C) (A := layoutlaw32_DualFaces_As) (outs := [(.tmp 4, true, .bool)]) seat_ok layoutlaw32_DualFaces_cons (by kernel_rfl) (by kernel_rfl) layoutlaw32_DualFaces_loops (by kernel_rfl) (by kernel_rfl) layoutlaw32_DualFaces_eq

def layoutref32_far_P : List (LoopPf layoutref32_far_C layoutref32_far_As (bodyOf Tryd.f60)) := [⟨3, layoutref32_far_A3, layoutref32_far_B3, rfl, layoutref32_far_R3⟩, ⟨9, layoutref32_far_A9, layoutref32_far_B9, rfl, layoutref32_far_R9⟩, ⟨12, layoutref32_far_A12, layoutref32_far_B12, rfl, layoutref32_far_R12⟩]
theorem layoutref32_far_loops : LoopsOK layoutref32_far_C layoutref32_far_As (loopsIn (bodyOf Tryd.f60)) := loops_ok layoutref32_far_P (by kernel_rfl) (by kernel_rfl)
theorem layoutref32_far_cons : ∀ f site c, (layoutref32_far_C).con f site = some c → c.Holds Tryd.prog (layoutref32_far_C).glob f := by
  intro f site c h; cases h
theorem layoutref32_far_holds : Con.Holds Tryd.prog glob 60 layoutref32_far_c :=
  fn_holds (C := layoutref32_far_C) (A := layoutref32_far_As) (outs := [(.tmp 4, true, (.slice I))]) seat_ok layoutref32_far_cons (by kernel_rfl) (by kernel_rfl) layoutref32_far_loops (by kernel_rfl) (by kernel_rfl) layoutref32_far_eq

def layoutref32_Route_P : List (LoopPf layoutref32_Route_C layoutref32_Route_As (bodyOf Tryd.f23)) := [⟨13, layoutref32_Route_A13, layoutref32_Route_B13, rfl, layoutref32_Route_R13⟩, ⟨17, layoutref32_Route_A17, layoutref32_Route_B17, rfl, layoutref32_Route_R17⟩, ⟨21, layoutref32_Route_A21, layoutref32_Route_B21, rfl, layoutref32_Route_R21⟩]
theorem layoutref32_Route_loops : LoopsOK layoutref32_Route_C layoutref32_Route_As (loopsIn (bodyOf Tryd.f23)) := loops_ok layoutref32_Route_P (by kernel_rfl) (by kernel_rfl)
theorem layoutref32_Route_cons : ∀ f site c, (layoutref32_Route_C).con f site = some c → c.Holds Tryd.prog (layoutref32_Route_C).glob f := by
  intro f site c h
  unfold layoutref32_Route_C at h
  dsimp only at h
  split at h
  · cases h; exact layoutref32_Build_holds
  · cases h; exact layoutref32_around_holds
  · cases h; exact layoutref32_far_holds
  · cases h
theorem layoutref32_Route_holds : Con.Holds Tryd.prog glob 23 layoutref32_Route_c :=
  fn_holds (C := layoutref32_Route_C) (A := layoutref32_Route_As) (outs := [(.tmp 6, true, (.slice I)), (.tmp 7, true, I)]) seat_ok layoutref32_Route_cons (by kernel_rfl) (by kernel_rfl) layoutref32_Route_loops (by kernel_rfl) (by kernel_rfl) layoutref32_Route_eq

def layoutlaw32_DualRoutes_P : List (LoopPf layoutlaw32_DualRoutes_C layoutlaw32_DualRoutes_As (bodyOf Tryd.f4)) := []
theorem layoutlaw32_DualRoutes_loops : LoopsOK layoutlaw32_DualRoutes_C layoutlaw32_DualRoutes_As (loopsIn (bodyOf Tryd.f4)) := loops_ok layoutlaw32_DualRoutes_P (by kernel_rfl) (by kernel_rfl)
theorem layoutlaw32_DualRoutes_cons : ∀ f site c, (layoutlaw32_DualRoutes_C).con f site = some c → c.Holds Tryd.prog (layoutlaw32_DualRoutes_C).glob f := by
  intro f site c h
  unfold layoutlaw32_DualRoutes_C at h
  dsimp only at h
  split at h
  · cases h; exact layoutlaw29_Few_holds
  · cases h; exact layoutlaw32_awake_holds
  · cases h; exact layoutlaw32_same_holds
  · cases h; exact dual_Distance_holds
  · cases h; exact dual_Route_holds
  · cases h; exact layoutref32_Route_holds
  · cases h
theorem layoutlaw32_DualRoutes_holds : Con.Holds Tryd.prog glob 4 layoutlaw32_DualRoutes_c :=
  fn_holds (C := layoutlaw32_DualRoutes_C) (A := layoutlaw32_DualRoutes_As) (outs := [(.tmp 6, true, .bool)]) seat_ok layoutlaw32_DualRoutes_cons (by kernel_rfl) (by kernel_rfl) layoutlaw32_DualRoutes_loops (by kernel_rfl) (by kernel_rfl) layoutlaw32_DualRoutes_eq

def layoutref29_Planar_P : List (LoopPf layoutref29_Planar_C layoutref29_Planar_As (bodyOf Tryd.f24)) := []
theorem layoutref29_Planar_loops : LoopsOK layoutref29_Planar_C layoutref29_Planar_As (loopsIn (bodyOf Tryd.f24)) := loops_ok layoutref29_Planar_P (by kernel_rfl) (by kernel_rfl)
theorem layoutref29_Planar_cons : ∀ f site c, (layoutref29_Planar_C).con f site = some c → c.Holds Tryd.prog (layoutref29_Planar_C).glob f := by
  intro f site c h
  unfold layoutref29_Planar_C at h
  dsimp only at h
  split at h
  · cases h; exact layoutref29_Genus_holds
  · cases h; exact layoutref29_Components_holds
  · cases h
theorem layoutref29_Planar_holds : Con.Holds Tryd.prog glob 24 layoutref29_Planar_c :=
  fn_holds (C := layoutref29_Planar_C) (A := layoutref29_Planar_As) (outs := [(.tmp 2, true, .bool)]) seat_ok layoutref29_Planar_cons (by kernel_rfl) (by kernel_rfl) layoutref29_Planar_loops (by kernel_rfl) (by kernel_rfl) layoutref29_Planar_eq

def layoutlaw32_meets_P : List (LoopPf layoutlaw32_meets_C layoutlaw32_meets_As (bodyOf Tryd.f25)) := [⟨2, layoutlaw32_meets_A2, layoutlaw32_meets_B2, rfl, layoutlaw32_meets_R2⟩, ⟨5, layoutlaw32_meets_A5, layoutlaw32_meets_B5, rfl, layoutlaw32_meets_R5⟩]
theorem layoutlaw32_meets_loops : LoopsOK layoutlaw32_meets_C layoutlaw32_meets_As (loopsIn (bodyOf Tryd.f25)) := loops_ok layoutlaw32_meets_P (by kernel_rfl) (by kernel_rfl)
theorem layoutlaw32_meets_cons : ∀ f site c, (layoutlaw32_meets_C).con f site = some c → c.Holds Tryd.prog (layoutlaw32_meets_C).glob f := by
  intro f site c h; cases h
theorem layoutlaw32_meets_holds : Con.Holds Tryd.prog glob 25 layoutlaw32_meets_c :=
  fn_holds (C := layoutlaw32_meets_C) (A := layoutlaw32_meets_As) (outs := [(.tmp 4, true, .bool)]) seat_ok layoutlaw32_meets_cons (by kernel_rfl) (by kernel_rfl) layoutlaw32_meets_loops (by kernel_rfl) (by kernel_rfl) layoutlaw32_meets_eq

def layoutlaw32_DualCurves_P : List (LoopPf layoutlaw32_DualCurves_C layoutlaw32_DualCurves_As (bodyOf Tryd.f5)) := [⟨10, layoutlaw32_DualCurves_A10, layoutlaw32_DualCurves_B10, rfl, layoutlaw32_DualCurves_R10⟩]
theorem layoutlaw32_DualCurves_loops : LoopsOK layoutlaw32_DualCurves_C layoutlaw32_DualCurves_As (loopsIn (bodyOf Tryd.f5)) := loops_ok layoutlaw32_DualCurves_P (by kernel_rfl) (by kernel_rfl)
theorem layoutlaw32_DualCurves_cons : ∀ f site c, (layoutlaw32_DualCurves_C).con f site = some c → c.Holds Tryd.prog (layoutlaw32_DualCurves_C).glob f := by
  intro f site c h
  unfold layoutlaw32_DualCurves_C at h
  dsimp only at h
  split at h
  · cases h; exact layoutlaw29_Few_holds
  · cases h; exact layoutlaw32_awake_holds
  · cases h; exact dual_Face_holds
  · cases h; exact dual_At_holds
  · cases h; exact dual_Distance_holds
  · cases h; exact dual_Route_holds
  · cases h; exact layoutref29_Planar_holds
  · cases h; exact layoutlaw32_meets_holds
  · cases h
theorem layoutlaw32_DualCurves_holds : Con.Holds Tryd.prog glob 5 layoutlaw32_DualCurves_c :=
  fn_holds (C := layoutlaw32_DualCurves_C) (A := layoutlaw32_DualCurves_As) (outs := [(.tmp 6, true, .bool)]) seat_ok layoutlaw32_DualCurves_cons (by kernel_rfl) (by kernel_rfl) layoutlaw32_DualCurves_loops (by kernel_rfl) (by kernel_rfl) layoutlaw32_DualCurves_eq

def layoutlaw32_DualBetween_P : List (LoopPf layoutlaw32_DualBetween_C layoutlaw32_DualBetween_As (bodyOf Tryd.f6)) := []
theorem layoutlaw32_DualBetween_loops : LoopsOK layoutlaw32_DualBetween_C layoutlaw32_DualBetween_As (loopsIn (bodyOf Tryd.f6)) := loops_ok layoutlaw32_DualBetween_P (by kernel_rfl) (by kernel_rfl)
theorem layoutlaw32_DualBetween_cons : ∀ f site c, (layoutlaw32_DualBetween_C).con f site = some c → c.Holds Tryd.prog (layoutlaw32_DualBetween_C).glob f := by
  intro f site c h
  unfold layoutlaw32_DualBetween_C at h
  dsimp only at h
  split at h
  · cases h; exact layoutlaw29_Few_holds
  · cases h; exact layoutlaw32_awake_holds
  · cases h; exact dual_Distance_holds
  · cases h; exact layoutref29_Planar_holds
  · cases h
theorem layoutlaw32_DualBetween_holds : Con.Holds Tryd.prog glob 6 layoutlaw32_DualBetween_c :=
  fn_holds (C := layoutlaw32_DualBetween_C) (A := layoutlaw32_DualBetween_As) (outs := [(.tmp 6, true, .bool)]) seat_ok layoutlaw32_DualBetween_cons (by kernel_rfl) (by kernel_rfl) layoutlaw32_DualBetween_loops (by kernel_rfl) (by kernel_rfl) layoutlaw32_DualBetween_eq
end
end Go.Vm

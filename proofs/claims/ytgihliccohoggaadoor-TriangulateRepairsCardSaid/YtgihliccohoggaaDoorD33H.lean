/-
  Contracts of the functions that the law reaches.
-/
import Derived.Test.YtgihliccohoggaaDoorD33
import Derived.Test.YtgihliccohoggaaDoorVmD
import Derived.Test.YtgihliccohoggaaDoorS33T
set_option linter.unusedVariables false
set_option linter.unusedSimpArgs false
namespace Go.Vm
open Go.Proofs
noncomputable section
set_option maxRecDepth 100000
theorem seat_ok : SeatOK Tryd.prog tab eqs := ⟨by kernel_rfl, by kernel_rfl, by kernel_rfl⟩
def layoutlaw29_Few_P : List (LoopPf layoutlaw29_Few_C layoutlaw29_Few_As (bodyOf Tryd.f30)) := [⟨4, layoutlaw29_Few_A4, layoutlaw29_Few_B4, rfl, layoutlaw29_Few_R4⟩]
theorem layoutlaw29_Few_loops : LoopsOK layoutlaw29_Few_C layoutlaw29_Few_As (loopsIn (bodyOf Tryd.f30)) := loops_ok layoutlaw29_Few_P (by kernel_rfl) (by kernel_rfl)
theorem layoutlaw29_Few_cons : ∀ f site c, (layoutlaw29_Few_C).con f site = some c → c.Holds Tryd.prog (layoutlaw29_Few_C).glob f := by
  intro f site c h; cases h
theorem layoutlaw29_Few_holds : Con.Holds Tryd.prog glob 30 layoutlaw29_Few_c :=
  fn_holds (C := layoutlaw29_Few_C) (A := layoutlaw29_Few_As) (outs := [(.tmp 2, true, .bool)]) seat_ok layoutlaw29_Few_cons (by kernel_rfl) (by kernel_rfl) layoutlaw29_Few_loops (by kernel_rfl) (by kernel_rfl) layoutlaw29_Few_eq
def rotation_tail_P : List (LoopPf rotation_tail_C rotation_tail_As (bodyOf Tryd.f62)) := []
theorem rotation_tail_loops : LoopsOK rotation_tail_C rotation_tail_As (loopsIn (bodyOf Tryd.f62)) := loops_ok rotation_tail_P (by kernel_rfl) (by kernel_rfl)
theorem rotation_tail_cons : ∀ f site c, (rotation_tail_C).con f site = some c → c.Holds Tryd.prog (rotation_tail_C).glob f := by
  intro f site c h; cases h
theorem rotation_tail_holds : Con.Holds Tryd.prog glob 62 rotation_tail_c :=
  fn_holds (C := rotation_tail_C) (A := rotation_tail_As) (outs := [(.tmp 4, true, I)]) seat_ok rotation_tail_cons (by kernel_rfl) (by kernel_rfl) rotation_tail_loops (by kernel_rfl) (by kernel_rfl) rotation_tail_eq
def rotation_Valid_P : List (LoopPf rotation_Valid_C rotation_Valid_As (bodyOf Tryd.f38)) := [⟨4, rotation_Valid_A4, rotation_Valid_B4, rfl, rotation_Valid_R4⟩, ⟨12, rotation_Valid_A12, rotation_Valid_B12, rfl, rotation_Valid_R12⟩, ⟨15, rotation_Valid_A15, rotation_Valid_B15, rfl, rotation_Valid_R15⟩]
theorem rotation_Valid_loops : LoopsOK rotation_Valid_C rotation_Valid_As (loopsIn (bodyOf Tryd.f38)) := loops_ok rotation_Valid_P (by kernel_rfl) (by kernel_rfl)
theorem rotation_Valid_cons : ∀ f site c, (rotation_Valid_C).con f site = some c → c.Holds Tryd.prog (rotation_Valid_C).glob f := by
  intro f site c h
  unfold rotation_Valid_C at h
  dsimp only at h
  split at h
  · cases h; exact rotation_tail_holds
  · cases h
theorem rotation_Valid_holds : Con.Holds Tryd.prog glob 38 rotation_Valid_c :=
  fn_holds (C := rotation_Valid_C) (A := rotation_Valid_As) (outs := [(.tmp 2, true, .bool)]) seat_ok rotation_Valid_cons (by kernel_rfl) (by kernel_rfl) rotation_Valid_loops (by kernel_rfl) (by kernel_rfl) rotation_Valid_eq
def rotation_follow_P : List (LoopPf rotation_follow_C rotation_follow_As (bodyOf Tryd.f89)) := [⟨3, rotation_follow_A3, rotation_follow_B3, rfl, rotation_follow_R3⟩, ⟨6, rotation_follow_A6, rotation_follow_B6, rfl, rotation_follow_R6⟩]
theorem rotation_follow_loops : LoopsOK rotation_follow_C rotation_follow_As (loopsIn (bodyOf Tryd.f89)) := loops_ok rotation_follow_P (by kernel_rfl) (by kernel_rfl)
theorem rotation_follow_cons : ∀ f site c, (rotation_follow_C).con f site = some c → c.Holds Tryd.prog (rotation_follow_C).glob f := by
  intro f site c h; cases h
theorem rotation_follow_holds : Con.Holds Tryd.prog glob 89 rotation_follow_c :=
  fn_holds (C := rotation_follow_C) (A := rotation_follow_As) (outs := [(.tmp 2, true, (.slice I))]) seat_ok rotation_follow_cons (by kernel_rfl) (by kernel_rfl) rotation_follow_loops (by kernel_rfl) (by kernel_rfl) rotation_follow_eq
def rotation_Faces_P : List (LoopPf rotation_Faces_C rotation_Faces_As (bodyOf Tryd.f58)) := [⟨7, rotation_Faces_A7, rotation_Faces_B7, rfl, rotation_Faces_R7⟩, ⟨11, rotation_Faces_A11, rotation_Faces_B11, rfl, rotation_Faces_R11⟩]
theorem rotation_Faces_loops : LoopsOK rotation_Faces_C rotation_Faces_As (loopsIn (bodyOf Tryd.f58)) := loops_ok rotation_Faces_P (by kernel_rfl) (by kernel_rfl)
theorem rotation_Faces_cons : ∀ f site c, (rotation_Faces_C).con f site = some c → c.Holds Tryd.prog (rotation_Faces_C).glob f := by
  intro f site c h
  unfold rotation_Faces_C at h
  dsimp only at h
  split at h
  · cases h; exact rotation_Valid_holds
  · cases h; exact rotation_follow_holds
  · cases h
theorem rotation_Faces_holds : Con.Holds Tryd.prog glob 58 rotation_Faces_c :=
  fn_holds (C := rotation_Faces_C) (A := rotation_Faces_As) (outs := [(.tmp 2, true, (.slice (.slice I)))]) seat_ok rotation_Faces_cons (by kernel_rfl) (by kernel_rfl) rotation_Faces_loops (by kernel_rfl) (by kernel_rfl) rotation_Faces_eq
def rotation_components_P : List (LoopPf rotation_components_C rotation_components_As (bodyOf Tryd.f103)) := [⟨4, rotation_components_A4, rotation_components_B4, rfl, rotation_components_R4⟩, ⟨10, rotation_components_A10, rotation_components_B10, rfl, rotation_components_R10⟩, ⟨13, rotation_components_A13, rotation_components_B13, rfl, rotation_components_R13⟩]
theorem rotation_components_loops : LoopsOK rotation_components_C rotation_components_As (loopsIn (bodyOf Tryd.f103)) := loops_ok rotation_components_P (by kernel_rfl) (by kernel_rfl)
theorem rotation_components_cons : ∀ f site c, (rotation_components_C).con f site = some c → c.Holds Tryd.prog (rotation_components_C).glob f := by
  intro f site c h
  unfold rotation_components_C at h
  dsimp only at h
  split at h
  · cases h; exact rotation_tail_holds
  · cases h
theorem rotation_components_holds : Con.Holds Tryd.prog glob 103 rotation_components_c :=
  fn_holds (C := rotation_components_C) (A := rotation_components_As) (outs := [(.tmp 2, true, I)]) seat_ok rotation_components_cons (by kernel_rfl) (by kernel_rfl) rotation_components_loops (by kernel_rfl) (by kernel_rfl) rotation_components_eq
def rotation_Genus_P : List (LoopPf rotation_Genus_C rotation_Genus_As (bodyOf Tryd.f85)) := [⟨5, rotation_Genus_A5, rotation_Genus_B5, rfl, rotation_Genus_R5⟩]
theorem rotation_Genus_loops : LoopsOK rotation_Genus_C rotation_Genus_As (loopsIn (bodyOf Tryd.f85)) := loops_ok rotation_Genus_P (by kernel_rfl) (by kernel_rfl)
theorem rotation_Genus_cons : ∀ f site c, (rotation_Genus_C).con f site = some c → c.Holds Tryd.prog (rotation_Genus_C).glob f := by
  intro f site c h
  unfold rotation_Genus_C at h
  dsimp only at h
  split at h
  · cases h; exact rotation_Valid_holds
  · cases h; exact rotation_Faces_holds
  · cases h; exact rotation_components_holds
  · cases h
theorem rotation_Genus_holds : Con.Holds Tryd.prog glob 85 rotation_Genus_c :=
  fn_holds (C := rotation_Genus_C) (A := rotation_Genus_As) (outs := [(.tmp 2, true, I)]) seat_ok rotation_Genus_cons (by kernel_rfl) (by kernel_rfl) rotation_Genus_loops (by kernel_rfl) (by kernel_rfl) rotation_Genus_eq
def triangulate_connected_P : List (LoopPf triangulate_connected_C triangulate_connected_As (bodyOf Tryd.f86)) := [⟨7, triangulate_connected_A7, triangulate_connected_B7, rfl, triangulate_connected_R7⟩, ⟨10, triangulate_connected_A10, triangulate_connected_B10, rfl, triangulate_connected_R10⟩]
theorem triangulate_connected_loops : LoopsOK triangulate_connected_C triangulate_connected_As (loopsIn (bodyOf Tryd.f86)) := loops_ok triangulate_connected_P (by kernel_rfl) (by kernel_rfl)
theorem triangulate_connected_cons : ∀ f site c, (triangulate_connected_C).con f site = some c → c.Holds Tryd.prog (triangulate_connected_C).glob f := by
  intro f site c h; cases h
theorem triangulate_connected_holds : Con.Holds Tryd.prog glob 86 triangulate_connected_c :=
  fn_holds (C := triangulate_connected_C) (A := triangulate_connected_As) (outs := [(.tmp 2, true, .bool)]) seat_ok triangulate_connected_cons (by kernel_rfl) (by kernel_rfl) triangulate_connected_loops (by kernel_rfl) (by kernel_rfl) triangulate_connected_eq
def triangulate_simple_P : List (LoopPf triangulate_simple_C triangulate_simple_As (bodyOf Tryd.f87)) := [⟨3, triangulate_simple_A3, triangulate_simple_B3, rfl, triangulate_simple_R3⟩]
theorem triangulate_simple_loops : LoopsOK triangulate_simple_C triangulate_simple_As (loopsIn (bodyOf Tryd.f87)) := loops_ok triangulate_simple_P (by kernel_rfl) (by kernel_rfl)
theorem triangulate_simple_cons : ∀ f site c, (triangulate_simple_C).con f site = some c → c.Holds Tryd.prog (triangulate_simple_C).glob f := by
  intro f site c h; cases h
theorem triangulate_simple_holds : Con.Holds Tryd.prog glob 87 triangulate_simple_c :=
  fn_holds (C := triangulate_simple_C) (A := triangulate_simple_As) (outs := [(.tmp 2, true, .bool)]) seat_ok triangulate_simple_cons (by kernel_rfl) (by kernel_rfl) triangulate_simple_loops (by kernel_rfl) (by kernel_rfl) triangulate_simple_eq
def triangulate_check_P : List (LoopPf triangulate_check_C triangulate_check_As (bodyOf Tryd.f56)) := []
theorem triangulate_check_loops : LoopsOK triangulate_check_C triangulate_check_As (loopsIn (bodyOf Tryd.f56)) := loops_ok triangulate_check_P (by kernel_rfl) (by kernel_rfl)
theorem triangulate_check_cons : ∀ f site c, (triangulate_check_C).con f site = some c → c.Holds Tryd.prog (triangulate_check_C).glob f := by
  intro f site c h
  unfold triangulate_check_C at h
  dsimp only at h
  split at h
  · cases h; exact rotation_Valid_holds
  · cases h; exact rotation_Genus_holds
  · cases h; exact triangulate_connected_holds
  · cases h; exact triangulate_simple_holds
  · cases h
theorem triangulate_check_holds : Con.Holds Tryd.prog glob 56 triangulate_check_c :=
  fn_holds (C := triangulate_check_C) (A := triangulate_check_As) (outs := [(.tmp 2, true, I)]) seat_ok triangulate_check_cons (by kernel_rfl) (by kernel_rfl) triangulate_check_loops (by kernel_rfl) (by kernel_rfl) triangulate_check_eq
def slices_Clone_Arc_P : List (LoopPf slices_Clone_Arc_C slices_Clone_Arc_As (bodyOf Tryd.f63)) := []
theorem slices_Clone_Arc_loops : LoopsOK slices_Clone_Arc_C slices_Clone_Arc_As (loopsIn (bodyOf Tryd.f63)) := loops_ok slices_Clone_Arc_P (by kernel_rfl) (by kernel_rfl)
theorem slices_Clone_Arc_cons : ∀ f site c, (slices_Clone_Arc_C).con f site = some c → c.Holds Tryd.prog (slices_Clone_Arc_C).glob f := by
  intro f site c h; cases h
theorem slices_Clone_Arc_holds : Con.Holds Tryd.prog glob 63 slices_Clone_Arc_c :=
  fn_holds (C := slices_Clone_Arc_C) (A := slices_Clone_Arc_As) (outs := [(.tmp 2, true, (.slice (.prod I (.prod I .unit))))]) seat_ok slices_Clone_Arc_cons (by kernel_rfl) (by kernel_rfl) slices_Clone_Arc_loops (by kernel_rfl) (by kernel_rfl) slices_Clone_Arc_eq
def slices_Clone_int_P : List (LoopPf slices_Clone_int_C slices_Clone_int_As (bodyOf Tryd.f64)) := []
theorem slices_Clone_int_loops : LoopsOK slices_Clone_int_C slices_Clone_int_As (loopsIn (bodyOf Tryd.f64)) := loops_ok slices_Clone_int_P (by kernel_rfl) (by kernel_rfl)
theorem slices_Clone_int_cons : ∀ f site c, (slices_Clone_int_C).con f site = some c → c.Holds Tryd.prog (slices_Clone_int_C).glob f := by
  intro f site c h; cases h
theorem slices_Clone_int_holds : Con.Holds Tryd.prog glob 64 slices_Clone_int_c :=
  fn_holds (C := slices_Clone_int_C) (A := slices_Clone_int_As) (outs := [(.tmp 2, true, (.slice I))]) seat_ok slices_Clone_int_cons (by kernel_rfl) (by kernel_rfl) slices_Clone_int_loops (by kernel_rfl) (by kernel_rfl) slices_Clone_int_eq
def slices_Reverse_int_P : List (LoopPf slices_Reverse_int_C slices_Reverse_int_As (bodyOf Tryd.f88)) := [⟨1, slices_Reverse_int_A1, slices_Reverse_int_B1, rfl, slices_Reverse_int_R1⟩]
theorem slices_Reverse_int_loops : LoopsOK slices_Reverse_int_C slices_Reverse_int_As (loopsIn (bodyOf Tryd.f88)) := loops_ok slices_Reverse_int_P (by kernel_rfl) (by kernel_rfl)
theorem slices_Reverse_int_cons : ∀ f site c, (slices_Reverse_int_C).con f site = some c → c.Holds Tryd.prog (slices_Reverse_int_C).glob f := by
  intro f site c h; cases h
theorem slices_Reverse_int_holds : Con.Holds Tryd.prog glob 88 slices_Reverse_int_c :=
  fn_holds (C := slices_Reverse_int_C) (A := slices_Reverse_int_As) (outs := []) seat_ok slices_Reverse_int_cons (by kernel_rfl) (by kernel_rfl) slices_Reverse_int_loops (by kernel_rfl) (by kernel_rfl) slices_Reverse_int_eq
def rotation_Mirror_P : List (LoopPf rotation_Mirror_C rotation_Mirror_As (bodyOf Tryd.f57)) := [⟨5, rotation_Mirror_A5, rotation_Mirror_B5, rfl, rotation_Mirror_R5⟩]
theorem rotation_Mirror_loops : LoopsOK rotation_Mirror_C rotation_Mirror_As (loopsIn (bodyOf Tryd.f57)) := loops_ok rotation_Mirror_P (by kernel_rfl) (by kernel_rfl)
theorem rotation_Mirror_cons : ∀ f site c, (rotation_Mirror_C).con f site = some c → c.Holds Tryd.prog (rotation_Mirror_C).glob f := by
  intro f site c h
  unfold rotation_Mirror_C at h
  dsimp only at h
  split at h
  · cases h; exact rotation_Valid_holds
  · cases h; exact slices_Clone_Arc_holds
  · cases h; exact slices_Clone_int_holds
  · cases h; exact slices_Reverse_int_holds
  · cases h
theorem rotation_Mirror_holds : Con.Holds Tryd.prog glob 57 rotation_Mirror_c :=
  fn_holds (C := rotation_Mirror_C) (A := rotation_Mirror_As) (outs := [(.cell 2 25, true, (.prod I (.prod (.slice (.prod I (.prod I .unit))) (.prod (.slice (.slice I)) .unit))))]) seat_ok rotation_Mirror_cons (by kernel_rfl) (by kernel_rfl) rotation_Mirror_loops (by kernel_rfl) (by kernel_rfl) rotation_Mirror_eq
def rotation_Tail_P : List (LoopPf rotation_Tail_C rotation_Tail_As (bodyOf Tryd.f39)) := []
theorem rotation_Tail_loops : LoopsOK rotation_Tail_C rotation_Tail_As (loopsIn (bodyOf Tryd.f39)) := loops_ok rotation_Tail_P (by kernel_rfl) (by kernel_rfl)
theorem rotation_Tail_cons : ∀ f site c, (rotation_Tail_C).con f site = some c → c.Holds Tryd.prog (rotation_Tail_C).glob f := by
  intro f site c h
  unfold rotation_Tail_C at h
  dsimp only at h
  split at h
  · cases h; exact rotation_Valid_holds
  · cases h; exact rotation_tail_holds
  · cases h
theorem rotation_Tail_holds : Con.Holds Tryd.prog glob 39 rotation_Tail_c :=
  fn_holds (C := rotation_Tail_C) (A := rotation_Tail_As) (outs := [(.tmp 4, true, I)]) seat_ok rotation_Tail_cons (by kernel_rfl) (by kernel_rfl) rotation_Tail_loops (by kernel_rfl) (by kernel_rfl) rotation_Tail_eq
def triangulate_joined_P : List (LoopPf triangulate_joined_C triangulate_joined_As (bodyOf Tryd.f90)) := [⟨2, triangulate_joined_A2, triangulate_joined_B2, rfl, triangulate_joined_R2⟩]
theorem triangulate_joined_loops : LoopsOK triangulate_joined_C triangulate_joined_As (loopsIn (bodyOf Tryd.f90)) := loops_ok triangulate_joined_P (by kernel_rfl) (by kernel_rfl)
theorem triangulate_joined_cons : ∀ f site c, (triangulate_joined_C).con f site = some c → c.Holds Tryd.prog (triangulate_joined_C).glob f := by
  intro f site c h; cases h
theorem triangulate_joined_holds : Con.Holds Tryd.prog glob 90 triangulate_joined_c :=
  fn_holds (C := triangulate_joined_C) (A := triangulate_joined_As) (outs := [(.tmp 6, true, .bool)]) seat_ok triangulate_joined_cons (by kernel_rfl) (by kernel_rfl) triangulate_joined_loops (by kernel_rfl) (by kernel_rfl) triangulate_joined_eq
def triangulate_corner_P : List (LoopPf triangulate_corner_C triangulate_corner_As (bodyOf Tryd.f59)) := [⟨4, triangulate_corner_A4, triangulate_corner_B4, rfl, triangulate_corner_R4⟩]
theorem triangulate_corner_loops : LoopsOK triangulate_corner_C triangulate_corner_As (loopsIn (bodyOf Tryd.f59)) := loops_ok triangulate_corner_P (by kernel_rfl) (by kernel_rfl)
theorem triangulate_corner_cons : ∀ f site c, (triangulate_corner_C).con f site = some c → c.Holds Tryd.prog (triangulate_corner_C).glob f := by
  intro f site c h
  unfold triangulate_corner_C at h
  dsimp only at h
  split at h
  · cases h; exact rotation_Tail_holds
  · cases h; exact triangulate_joined_holds
  · cases h
theorem triangulate_corner_holds : Con.Holds Tryd.prog glob 59 triangulate_corner_c :=
  fn_holds (C := triangulate_corner_C) (A := triangulate_corner_As) (outs := [(.tmp 4, true, I)]) seat_ok triangulate_corner_cons (by kernel_rfl) (by kernel_rfl) triangulate_corner_loops (by kernel_rfl) (by kernel_rfl) triangulate_corner_eq
def insert_faces_P : List (LoopPf insert_faces_C insert_faces_As (bodyOf Tryd.f40)) := [⟨3, insert_faces_A3, insert_faces_B3, rfl, insert_faces_R3⟩, ⟨6, insert_faces_A6, insert_faces_B6, rfl, insert_faces_R6⟩]
theorem insert_faces_loops : LoopsOK insert_faces_C insert_faces_As (loopsIn (bodyOf Tryd.f40)) := loops_ok insert_faces_P (by kernel_rfl) (by kernel_rfl)
theorem insert_faces_cons : ∀ f site c, (insert_faces_C).con f site = some c → c.Holds Tryd.prog (insert_faces_C).glob f := by
  intro f site c h
  unfold insert_faces_C at h
  dsimp only at h
  split at h
  · cases h; exact rotation_Faces_holds
  · cases h
theorem insert_faces_holds : Con.Holds Tryd.prog glob 40 insert_faces_c :=
  fn_holds (C := insert_faces_C) (A := insert_faces_As) (outs := [(.tmp 2, true, (.slice I))]) seat_ok insert_faces_cons (by kernel_rfl) (by kernel_rfl) insert_faces_loops (by kernel_rfl) (by kernel_rfl) insert_faces_eq
def insert_copied_P : List (LoopPf insert_copied_C insert_copied_As (bodyOf Tryd.f41)) := [⟨3, insert_copied_A3, insert_copied_B3, rfl, insert_copied_R3⟩]
theorem insert_copied_loops : LoopsOK insert_copied_C insert_copied_As (loopsIn (bodyOf Tryd.f41)) := loops_ok insert_copied_P (by kernel_rfl) (by kernel_rfl)
theorem insert_copied_cons : ∀ f site c, (insert_copied_C).con f site = some c → c.Holds Tryd.prog (insert_copied_C).glob f := by
  intro f site c h
  unfold insert_copied_C at h
  dsimp only at h
  split at h
  · cases h; exact slices_Clone_Arc_holds
  · cases h; exact slices_Clone_int_holds
  · cases h
theorem insert_copied_holds : Con.Holds Tryd.prog glob 41 insert_copied_c :=
  fn_holds (C := insert_copied_C) (A := insert_copied_As) (outs := [(.cell 2 25, true, (.prod I (.prod (.slice (.prod I (.prod I .unit))) (.prod (.slice (.slice I)) .unit))))]) seat_ok insert_copied_cons (by kernel_rfl) (by kernel_rfl) insert_copied_loops (by kernel_rfl) (by kernel_rfl) insert_copied_eq
def slices_Index_int_P : List (LoopPf slices_Index_int_C slices_Index_int_As (bodyOf Tryd.f46)) := [⟨2, slices_Index_int_A2, slices_Index_int_B2, rfl, slices_Index_int_R2⟩]
theorem slices_Index_int_loops : LoopsOK slices_Index_int_C slices_Index_int_As (loopsIn (bodyOf Tryd.f46)) := loops_ok slices_Index_int_P (by kernel_rfl) (by kernel_rfl)
theorem slices_Index_int_cons : ∀ f site c, (slices_Index_int_C).con f site = some c → c.Holds Tryd.prog (slices_Index_int_C).glob f := by
  intro f site c h; cases h
theorem slices_Index_int_holds : Con.Holds Tryd.prog glob 46 slices_Index_int_c :=
  fn_holds (C := slices_Index_int_C) (A := slices_Index_int_As) (outs := [(.tmp 4, true, I)]) seat_ok slices_Index_int_cons (by kernel_rfl) (by kernel_rfl) slices_Index_int_loops (by kernel_rfl) (by kernel_rfl) slices_Index_int_eq
theorem slices_Insert_int_holds : Con.Holds Tryd.prog glob 65 slices_Insert_int_c := insert_at
def insert_before_P : List (LoopPf insert_before_C insert_before_As (bodyOf Tryd.f42)) := []
theorem insert_before_loops : LoopsOK insert_before_C insert_before_As (loopsIn (bodyOf Tryd.f42)) := loops_ok insert_before_P (by kernel_rfl) (by kernel_rfl)
theorem insert_before_cons : ∀ f site c, (insert_before_C).con f site = some c → c.Holds Tryd.prog (insert_before_C).glob f := by
  intro f site c h
  unfold insert_before_C at h
  dsimp only at h
  split at h
  · cases h; exact slices_Index_int_holds
  · cases h; exact slices_Insert_int_holds
  · cases h
theorem insert_before_holds : Con.Holds Tryd.prog glob 42 insert_before_c :=
  fn_holds (C := insert_before_C) (A := insert_before_As) (outs := [(.tmp 6, true, (.slice I))]) seat_ok insert_before_cons (by kernel_rfl) (by kernel_rfl) insert_before_loops (by kernel_rfl) (by kernel_rfl) insert_before_eq
def insert_Edge_P : List (LoopPf insert_Edge_C insert_Edge_As (bodyOf Tryd.f14)) := []
theorem insert_Edge_loops : LoopsOK insert_Edge_C insert_Edge_As (loopsIn (bodyOf Tryd.f14)) := loops_ok insert_Edge_P (by kernel_rfl) (by kernel_rfl)
theorem insert_Edge_cons : ∀ f site c, (insert_Edge_C).con f site = some c → c.Holds Tryd.prog (insert_Edge_C).glob f := by
  intro f site c h
  unfold insert_Edge_C at h
  dsimp only at h
  split at h
  · cases h; exact rotation_Valid_holds
  · cases h; exact rotation_Tail_holds
  · cases h; exact insert_faces_holds
  · cases h; exact insert_copied_holds
  · cases h; exact insert_before_holds
  · cases h
theorem insert_Edge_holds : Con.Holds Tryd.prog glob 14 insert_Edge_c :=
  fn_holds (C := insert_Edge_C) (A := insert_Edge_As) (outs := [(.cell 6 25, false, (.prod I (.prod (.slice (.prod I (.prod I .unit))) (.prod (.slice (.slice I)) .unit)))), (.tmp 7, true, I)]) seat_ok insert_Edge_cons (by kernel_rfl) (by kernel_rfl) insert_Edge_loops (by kernel_rfl) (by kernel_rfl) insert_Edge_eq
def triangulate_Run_P : List (LoopPf triangulate_Run_C triangulate_Run_As (bodyOf Tryd.f32)) := [⟨7, triangulate_Run_A7, triangulate_Run_B7, rfl, triangulate_Run_R7⟩, ⟨10, triangulate_Run_A10, triangulate_Run_B10, rfl, triangulate_Run_R10⟩]
theorem triangulate_Run_loops : LoopsOK triangulate_Run_C triangulate_Run_As (loopsIn (bodyOf Tryd.f32)) := loops_ok triangulate_Run_P (by kernel_rfl) (by kernel_rfl)
theorem triangulate_Run_cons : ∀ f site c, (triangulate_Run_C).con f site = some c → c.Holds Tryd.prog (triangulate_Run_C).glob f := by
  intro f site c h
  unfold triangulate_Run_C at h
  dsimp only at h
  split at h
  · cases h; exact insert_Edge_holds
  · cases h; exact triangulate_check_holds
  · cases h; exact rotation_Mirror_holds
  · cases h; exact rotation_Faces_holds
  · cases h; exact triangulate_corner_holds
  · cases h
theorem triangulate_Run_holds : Con.Holds Tryd.prog glob 32 triangulate_Run_c :=
  fn_holds (C := triangulate_Run_C) (A := triangulate_Run_As) (outs := [(.cell 2 25, false, (.prod I (.prod (.slice (.prod I (.prod I .unit))) (.prod (.slice (.slice I)) .unit)))), (.tmp 3, false, (.slice I)), (.tmp 4, true, I)]) seat_ok triangulate_Run_cons (by kernel_rfl) (by kernel_rfl) triangulate_Run_loops (by kernel_rfl) (by kernel_rfl) triangulate_Run_eq
def triangulate_Triangulated_P : List (LoopPf triangulate_Triangulated_C triangulate_Triangulated_As (bodyOf Tryd.f34)) := [⟨4, triangulate_Triangulated_A4, triangulate_Triangulated_B4, rfl, triangulate_Triangulated_R4⟩]
theorem triangulate_Triangulated_loops : LoopsOK triangulate_Triangulated_C triangulate_Triangulated_As (loopsIn (bodyOf Tryd.f34)) := loops_ok triangulate_Triangulated_P (by kernel_rfl) (by kernel_rfl)
theorem triangulate_Triangulated_cons : ∀ f site c, (triangulate_Triangulated_C).con f site = some c → c.Holds Tryd.prog (triangulate_Triangulated_C).glob f := by
  intro f site c h
  unfold triangulate_Triangulated_C at h
  dsimp only at h
  split at h
  · cases h; exact triangulate_check_holds
  · cases h; exact rotation_Faces_holds
  · cases h
theorem triangulate_Triangulated_holds : Con.Holds Tryd.prog glob 34 triangulate_Triangulated_c :=
  fn_holds (C := triangulate_Triangulated_C) (A := triangulate_Triangulated_As) (outs := [(.tmp 2, true, .bool)]) seat_ok triangulate_Triangulated_cons (by kernel_rfl) (by kernel_rfl) triangulate_Triangulated_loops (by kernel_rfl) (by kernel_rfl) triangulate_Triangulated_eq
def layoutlaw35_awake_P : List (LoopPf layoutlaw35_awake_C layoutlaw35_awake_As (bodyOf Tryd.f31)) := []
theorem layoutlaw35_awake_loops : LoopsOK layoutlaw35_awake_C layoutlaw35_awake_As (loopsIn (bodyOf Tryd.f31)) := loops_ok layoutlaw35_awake_P (by kernel_rfl) (by kernel_rfl)
theorem layoutlaw35_awake_cons : ∀ f site c, (layoutlaw35_awake_C).con f site = some c → c.Holds Tryd.prog (layoutlaw35_awake_C).glob f := by
  intro f site c h
  unfold layoutlaw35_awake_C at h
  dsimp only at h
  split at h
  · cases h; exact triangulate_Run_holds
  · cases h; exact triangulate_Triangulated_holds
  · cases h
theorem layoutlaw35_awake_holds : Con.Holds Tryd.prog glob 31 layoutlaw35_awake_c :=
  fn_holds (C := layoutlaw35_awake_C) (A := layoutlaw35_awake_As) (outs := [(.tmp 0, true, .bool)]) seat_ok layoutlaw35_awake_cons (by kernel_rfl) (by kernel_rfl) layoutlaw35_awake_loops (by kernel_rfl) (by kernel_rfl) layoutlaw35_awake_eq
def layoutref29_Tails_P : List (LoopPf layoutref29_Tails_C layoutref29_Tails_As (bodyOf Tryd.f54)) := [⟨3, layoutref29_Tails_A3, layoutref29_Tails_B3, rfl, layoutref29_Tails_R3⟩]
theorem layoutref29_Tails_loops : LoopsOK layoutref29_Tails_C layoutref29_Tails_As (loopsIn (bodyOf Tryd.f54)) := loops_ok layoutref29_Tails_P (by kernel_rfl) (by kernel_rfl)
theorem layoutref29_Tails_cons : ∀ f site c, (layoutref29_Tails_C).con f site = some c → c.Holds Tryd.prog (layoutref29_Tails_C).glob f := by
  intro f site c h; cases h
theorem layoutref29_Tails_holds : Con.Holds Tryd.prog glob 54 layoutref29_Tails_c :=
  fn_holds (C := layoutref29_Tails_C) (A := layoutref29_Tails_As) (outs := [(.tmp 2, true, (.slice I))]) seat_ok layoutref29_Tails_cons (by kernel_rfl) (by kernel_rfl) layoutref29_Tails_loops (by kernel_rfl) (by kernel_rfl) layoutref29_Tails_eq
def layoutref29_Valid_P : List (LoopPf layoutref29_Valid_C layoutref29_Valid_As (bodyOf Tryd.f26)) := [⟨4, layoutref29_Valid_A4, layoutref29_Valid_B4, rfl, layoutref29_Valid_R4⟩, ⟨13, layoutref29_Valid_A13, layoutref29_Valid_B13, rfl, layoutref29_Valid_R13⟩, ⟨16, layoutref29_Valid_A16, layoutref29_Valid_B16, rfl, layoutref29_Valid_R16⟩]
theorem layoutref29_Valid_loops : LoopsOK layoutref29_Valid_C layoutref29_Valid_As (loopsIn (bodyOf Tryd.f26)) := loops_ok layoutref29_Valid_P (by kernel_rfl) (by kernel_rfl)
theorem layoutref29_Valid_cons : ∀ f site c, (layoutref29_Valid_C).con f site = some c → c.Holds Tryd.prog (layoutref29_Valid_C).glob f := by
  intro f site c h
  unfold layoutref29_Valid_C at h
  dsimp only at h
  split at h
  · cases h; exact layoutref29_Tails_holds
  · cases h
theorem layoutref29_Valid_holds : Con.Holds Tryd.prog glob 26 layoutref29_Valid_c :=
  fn_holds (C := layoutref29_Valid_C) (A := layoutref29_Valid_As) (outs := [(.tmp 2, true, .bool)]) seat_ok layoutref29_Valid_cons (by kernel_rfl) (by kernel_rfl) layoutref29_Valid_loops (by kernel_rfl) (by kernel_rfl) layoutref29_Valid_eq
def layoutref29_Follow_P : List (LoopPf layoutref29_Follow_C layoutref29_Follow_As (bodyOf Tryd.f47)) := [⟨3, layoutref29_Follow_A3, layoutref29_Follow_B3, rfl, layoutref29_Follow_R3⟩, ⟨7, layoutref29_Follow_A7, layoutref29_Follow_B7, rfl, layoutref29_Follow_R7⟩]
theorem layoutref29_Follow_loops : LoopsOK layoutref29_Follow_C layoutref29_Follow_As (loopsIn (bodyOf Tryd.f47)) := loops_ok layoutref29_Follow_P (by kernel_rfl) (by kernel_rfl)
theorem layoutref29_Follow_cons : ∀ f site c, (layoutref29_Follow_C).con f site = some c → c.Holds Tryd.prog (layoutref29_Follow_C).glob f := by
  intro f site c h; cases h
theorem layoutref29_Follow_holds : Con.Holds Tryd.prog glob 47 layoutref29_Follow_c :=
  fn_holds (C := layoutref29_Follow_C) (A := layoutref29_Follow_As) (outs := [(.tmp 2, true, (.slice I))]) seat_ok layoutref29_Follow_cons (by kernel_rfl) (by kernel_rfl) layoutref29_Follow_loops (by kernel_rfl) (by kernel_rfl) layoutref29_Follow_eq
def layoutref29_Other_P : List (LoopPf layoutref29_Other_C layoutref29_Other_As (bodyOf Tryd.f48)) := []
theorem layoutref29_Other_loops : LoopsOK layoutref29_Other_C layoutref29_Other_As (loopsIn (bodyOf Tryd.f48)) := loops_ok layoutref29_Other_P (by kernel_rfl) (by kernel_rfl)
theorem layoutref29_Other_cons : ∀ f site c, (layoutref29_Other_C).con f site = some c → c.Holds Tryd.prog (layoutref29_Other_C).glob f := by
  intro f site c h; cases h
theorem layoutref29_Other_holds : Con.Holds Tryd.prog glob 48 layoutref29_Other_c :=
  fn_holds (C := layoutref29_Other_C) (A := layoutref29_Other_As) (outs := [(.tmp 2, true, I)]) seat_ok layoutref29_Other_cons (by kernel_rfl) (by kernel_rfl) layoutref29_Other_loops (by kernel_rfl) (by kernel_rfl) layoutref29_Other_eq
def layoutref29_Faces_P : List (LoopPf layoutref29_Faces_C layoutref29_Faces_As (bodyOf Tryd.f20)) := [⟨7, layoutref29_Faces_A7, layoutref29_Faces_B7, rfl, layoutref29_Faces_R7⟩, ⟨12, layoutref29_Faces_A12, layoutref29_Faces_B12, rfl, layoutref29_Faces_R12⟩]
theorem layoutref29_Faces_loops : LoopsOK layoutref29_Faces_C layoutref29_Faces_As (loopsIn (bodyOf Tryd.f20)) := loops_ok layoutref29_Faces_P (by kernel_rfl) (by kernel_rfl)
theorem layoutref29_Faces_cons : ∀ f site c, (layoutref29_Faces_C).con f site = some c → c.Holds Tryd.prog (layoutref29_Faces_C).glob f := by
  intro f site c h
  unfold layoutref29_Faces_C at h
  dsimp only at h
  split at h
  · cases h; exact layoutref29_Valid_holds
  · cases h; exact layoutref29_Follow_holds
  · cases h; exact layoutref29_Other_holds
  · cases h
theorem layoutref29_Faces_holds : Con.Holds Tryd.prog glob 20 layoutref29_Faces_c :=
  fn_holds (C := layoutref29_Faces_C) (A := layoutref29_Faces_As) (outs := [(.tmp 2, true, (.slice (.slice I)))]) seat_ok layoutref29_Faces_cons (by kernel_rfl) (by kernel_rfl) layoutref29_Faces_loops (by kernel_rfl) (by kernel_rfl) layoutref29_Faces_eq
def layoutref29_root_P : List (LoopPf layoutref29_root_C layoutref29_root_As (bodyOf Tryd.f67)) := [⟨1, layoutref29_root_A1, layoutref29_root_B1, rfl, layoutref29_root_R1⟩]
theorem layoutref29_root_loops : LoopsOK layoutref29_root_C layoutref29_root_As (loopsIn (bodyOf Tryd.f67)) := loops_ok layoutref29_root_P (by kernel_rfl) (by kernel_rfl)
theorem layoutref29_root_cons : ∀ f site c, (layoutref29_root_C).con f site = some c → c.Holds Tryd.prog (layoutref29_root_C).glob f := by
  intro f site c h; cases h
theorem layoutref29_root_holds : Con.Holds Tryd.prog glob 67 layoutref29_root_c :=
  fn_holds (C := layoutref29_root_C) (A := layoutref29_root_As) (outs := [(.tmp 4, true, I)]) seat_ok layoutref29_root_cons (by kernel_rfl) (by kernel_rfl) layoutref29_root_loops (by kernel_rfl) (by kernel_rfl) layoutref29_root_eq
def layoutref29_Components_P : List (LoopPf layoutref29_Components_C layoutref29_Components_As (bodyOf Tryd.f49)) := [⟨3, layoutref29_Components_A3, layoutref29_Components_B3, rfl, layoutref29_Components_R3⟩, ⟨8, layoutref29_Components_A8, layoutref29_Components_B8, rfl, layoutref29_Components_R8⟩]
theorem layoutref29_Components_loops : LoopsOK layoutref29_Components_C layoutref29_Components_As (loopsIn (bodyOf Tryd.f49)) := loops_ok layoutref29_Components_P (by kernel_rfl) (by kernel_rfl)
theorem layoutref29_Components_cons : ∀ f site c, (layoutref29_Components_C).con f site = some c → c.Holds Tryd.prog (layoutref29_Components_C).glob f := by
  intro f site c h
  unfold layoutref29_Components_C at h
  dsimp only at h
  split at h
  · cases h; exact layoutref29_root_holds
  · cases h
theorem layoutref29_Components_holds : Con.Holds Tryd.prog glob 49 layoutref29_Components_c :=
  fn_holds (C := layoutref29_Components_C) (A := layoutref29_Components_As) (outs := [(.tmp 2, true, I)]) seat_ok layoutref29_Components_cons (by kernel_rfl) (by kernel_rfl) layoutref29_Components_loops (by kernel_rfl) (by kernel_rfl) layoutref29_Components_eq
def layoutref29_Genus_P : List (LoopPf layoutref29_Genus_C layoutref29_Genus_As (bodyOf Tryd.f21)) := [⟨5, layoutref29_Genus_A5, layoutref29_Genus_B5, rfl, layoutref29_Genus_R5⟩]
theorem layoutref29_Genus_loops : LoopsOK layoutref29_Genus_C layoutref29_Genus_As (loopsIn (bodyOf Tryd.f21)) := loops_ok layoutref29_Genus_P (by kernel_rfl) (by kernel_rfl)
theorem layoutref29_Genus_cons : ∀ f site c, (layoutref29_Genus_C).con f site = some c → c.Holds Tryd.prog (layoutref29_Genus_C).glob f := by
  intro f site c h
  unfold layoutref29_Genus_C at h
  dsimp only at h
  split at h
  · cases h; exact layoutref29_Faces_holds
  · cases h; exact layoutref29_Valid_holds
  · cases h; exact layoutref29_Components_holds
  · cases h
theorem layoutref29_Genus_holds : Con.Holds Tryd.prog glob 21 layoutref29_Genus_c :=
  fn_holds (C := layoutref29_Genus_C) (A := layoutref29_Genus_As) (outs := [(.tmp 2, true, I)]) seat_ok layoutref29_Genus_cons (by kernel_rfl) (by kernel_rfl) layoutref29_Genus_loops (by kernel_rfl) (by kernel_rfl) layoutref29_Genus_eq
def layoutref35_joined_P : List (LoopPf layoutref35_joined_C layoutref35_joined_As (bodyOf Tryd.f92)) := [⟨2, layoutref35_joined_A2, layoutref35_joined_B2, rfl, layoutref35_joined_R2⟩]
theorem layoutref35_joined_loops : LoopsOK layoutref35_joined_C layoutref35_joined_As (loopsIn (bodyOf Tryd.f92)) := loops_ok layoutref35_joined_P (by kernel_rfl) (by kernel_rfl)
theorem layoutref35_joined_cons : ∀ f site c, (layoutref35_joined_C).con f site = some c → c.Holds Tryd.prog (layoutref35_joined_C).glob f := by
  intro f site c h; cases h
theorem layoutref35_joined_holds : Con.Holds Tryd.prog glob 92 layoutref35_joined_c :=
  fn_holds (C := layoutref35_joined_C) (A := layoutref35_joined_As) (outs := [(.tmp 6, true, .bool)]) seat_ok layoutref35_joined_cons (by kernel_rfl) (by kernel_rfl) layoutref35_joined_loops (by kernel_rfl) (by kernel_rfl) layoutref35_joined_eq
def layoutref35_Simple_P : List (LoopPf layoutref35_Simple_C layoutref35_Simple_As (bodyOf Tryd.f91)) := [⟨2, layoutref35_Simple_A2, layoutref35_Simple_B2, rfl, layoutref35_Simple_R2⟩]
theorem layoutref35_Simple_loops : LoopsOK layoutref35_Simple_C layoutref35_Simple_As (loopsIn (bodyOf Tryd.f91)) := loops_ok layoutref35_Simple_P (by kernel_rfl) (by kernel_rfl)
theorem layoutref35_Simple_cons : ∀ f site c, (layoutref35_Simple_C).con f site = some c → c.Holds Tryd.prog (layoutref35_Simple_C).glob f := by
  intro f site c h
  unfold layoutref35_Simple_C at h
  dsimp only at h
  split at h
  · cases h; exact layoutref35_joined_holds
  · cases h
theorem layoutref35_Simple_holds : Con.Holds Tryd.prog glob 91 layoutref35_Simple_c :=
  fn_holds (C := layoutref35_Simple_C) (A := layoutref35_Simple_As) (outs := [(.tmp 2, true, .bool)]) seat_ok layoutref35_Simple_cons (by kernel_rfl) (by kernel_rfl) layoutref35_Simple_loops (by kernel_rfl) (by kernel_rfl) layoutref35_Simple_eq
def layoutref35_check_P : List (LoopPf layoutref35_check_C layoutref35_check_As (bodyOf Tryd.f60)) := []
theorem layoutref35_check_loops : LoopsOK layoutref35_check_C layoutref35_check_As (loopsIn (bodyOf Tryd.f60)) := loops_ok layoutref35_check_P (by kernel_rfl) (by kernel_rfl)
theorem layoutref35_check_cons : ∀ f site c, (layoutref35_check_C).con f site = some c → c.Holds Tryd.prog (layoutref35_check_C).glob f := by
  intro f site c h
  unfold layoutref35_check_C at h
  dsimp only at h
  split at h
  · cases h; exact layoutref29_Genus_holds
  · cases h; exact layoutref29_Components_holds
  · cases h; exact layoutref35_Simple_holds
  · cases h
theorem layoutref35_check_holds : Con.Holds Tryd.prog glob 60 layoutref35_check_c :=
  fn_holds (C := layoutref35_check_C) (A := layoutref35_check_As) (outs := [(.tmp 2, true, I)]) seat_ok layoutref35_check_cons (by kernel_rfl) (by kernel_rfl) layoutref35_check_loops (by kernel_rfl) (by kernel_rfl) layoutref35_check_eq
def layoutref35_Triangulated_P : List (LoopPf layoutref35_Triangulated_C layoutref35_Triangulated_As (bodyOf Tryd.f35)) := [⟨5, layoutref35_Triangulated_A5, layoutref35_Triangulated_B5, rfl, layoutref35_Triangulated_R5⟩]
theorem layoutref35_Triangulated_loops : LoopsOK layoutref35_Triangulated_C layoutref35_Triangulated_As (loopsIn (bodyOf Tryd.f35)) := loops_ok layoutref35_Triangulated_P (by kernel_rfl) (by kernel_rfl)
theorem layoutref35_Triangulated_cons : ∀ f site c, (layoutref35_Triangulated_C).con f site = some c → c.Holds Tryd.prog (layoutref35_Triangulated_C).glob f := by
  intro f site c h
  unfold layoutref35_Triangulated_C at h
  dsimp only at h
  split at h
  · cases h; exact layoutref29_Faces_holds
  · cases h; exact layoutref35_check_holds
  · cases h
theorem layoutref35_Triangulated_holds : Con.Holds Tryd.prog glob 35 layoutref35_Triangulated_c :=
  fn_holds (C := layoutref35_Triangulated_C) (A := layoutref35_Triangulated_As) (outs := [(.tmp 2, true, .bool)]) seat_ok layoutref35_Triangulated_cons (by kernel_rfl) (by kernel_rfl) layoutref35_Triangulated_loops (by kernel_rfl) (by kernel_rfl) layoutref35_Triangulated_eq
def layoutref29_cyclic_P : List (LoopPf layoutref29_cyclic_C layoutref29_cyclic_As (bodyOf Tryd.f45)) := [⟨4, layoutref29_cyclic_A4, layoutref29_cyclic_B4, rfl, layoutref29_cyclic_R4⟩, ⟨8, layoutref29_cyclic_A8, layoutref29_cyclic_B8, rfl, layoutref29_cyclic_R8⟩]
theorem layoutref29_cyclic_loops : LoopsOK layoutref29_cyclic_C layoutref29_cyclic_As (loopsIn (bodyOf Tryd.f45)) := loops_ok layoutref29_cyclic_P (by kernel_rfl) (by kernel_rfl)
theorem layoutref29_cyclic_cons : ∀ f site c, (layoutref29_cyclic_C).con f site = some c → c.Holds Tryd.prog (layoutref29_cyclic_C).glob f := by
  intro f site c h; cases h
theorem layoutref29_cyclic_holds : Con.Holds Tryd.prog glob 45 layoutref29_cyclic_c :=
  fn_holds (C := layoutref29_cyclic_C) (A := layoutref29_cyclic_As) (outs := [(.tmp 4, true, .bool)]) seat_ok layoutref29_cyclic_cons (by kernel_rfl) (by kernel_rfl) layoutref29_cyclic_loops (by kernel_rfl) (by kernel_rfl) layoutref29_cyclic_eq
def layoutref29_Same_P : List (LoopPf layoutref29_Same_C layoutref29_Same_As (bodyOf Tryd.f16)) := [⟨4, layoutref29_Same_A4, layoutref29_Same_B4, rfl, layoutref29_Same_R4⟩, ⟨9, layoutref29_Same_A9, layoutref29_Same_B9, rfl, layoutref29_Same_R9⟩]
theorem layoutref29_Same_loops : LoopsOK layoutref29_Same_C layoutref29_Same_As (loopsIn (bodyOf Tryd.f16)) := loops_ok layoutref29_Same_P (by kernel_rfl) (by kernel_rfl)
theorem layoutref29_Same_cons : ∀ f site c, (layoutref29_Same_C).con f site = some c → c.Holds Tryd.prog (layoutref29_Same_C).glob f := by
  intro f site c h
  unfold layoutref29_Same_C at h
  dsimp only at h
  split at h
  · cases h; exact layoutref29_cyclic_holds
  · cases h
theorem layoutref29_Same_holds : Con.Holds Tryd.prog glob 16 layoutref29_Same_c :=
  fn_holds (C := layoutref29_Same_C) (A := layoutref29_Same_As) (outs := [(.tmp 4, true, .bool)]) seat_ok layoutref29_Same_cons (by kernel_rfl) (by kernel_rfl) layoutref29_Same_loops (by kernel_rfl) (by kernel_rfl) layoutref29_Same_eq
def layoutref35_Extends_P : List (LoopPf layoutref35_Extends_C layoutref35_Extends_As (bodyOf Tryd.f36)) := [⟨5, layoutref35_Extends_A5, layoutref35_Extends_B5, rfl, layoutref35_Extends_R5⟩, ⟨9, layoutref35_Extends_A9, layoutref35_Extends_B9, rfl, layoutref35_Extends_R9⟩]
theorem layoutref35_Extends_loops : LoopsOK layoutref35_Extends_C layoutref35_Extends_As (loopsIn (bodyOf Tryd.f36)) := loops_ok layoutref35_Extends_P (by kernel_rfl) (by kernel_rfl)
theorem layoutref35_Extends_cons : ∀ f site c, (layoutref35_Extends_C).con f site = some c → c.Holds Tryd.prog (layoutref35_Extends_C).glob f := by
  intro f site c h
  unfold layoutref35_Extends_C at h
  dsimp only at h
  split at h
  · cases h; exact layoutref29_Same_holds
  · cases h
theorem layoutref35_Extends_holds : Con.Holds Tryd.prog glob 36 layoutref35_Extends_c :=
  fn_holds (C := layoutref35_Extends_C) (A := layoutref35_Extends_As) (outs := [(.tmp 4, true, .bool)]) seat_ok layoutref35_Extends_cons (by kernel_rfl) (by kernel_rfl) layoutref35_Extends_loops (by kernel_rfl) (by kernel_rfl) layoutref35_Extends_eq
def layoutlaw35_TriangulateExtends_P : List (LoopPf layoutlaw35_TriangulateExtends_C layoutlaw35_TriangulateExtends_As (bodyOf Tryd.f9)) := [⟨9, layoutlaw35_TriangulateExtends_A9, layoutlaw35_TriangulateExtends_B9, rfl, layoutlaw35_TriangulateExtends_R9⟩]
def layoutref29_Delete_P : List (LoopPf layoutref29_Delete_C layoutref29_Delete_As (bodyOf Tryd.f25)) := [⟨7, layoutref29_Delete_A7, layoutref29_Delete_B7, rfl, layoutref29_Delete_R7⟩, ⟨12, layoutref29_Delete_A12, layoutref29_Delete_B12, rfl, layoutref29_Delete_R12⟩, ⟨16, layoutref29_Delete_A16, layoutref29_Delete_B16, rfl, layoutref29_Delete_R16⟩]
theorem layoutref29_Delete_loops : LoopsOK layoutref29_Delete_C layoutref29_Delete_As (loopsIn (bodyOf Tryd.f25)) := loops_ok layoutref29_Delete_P (by kernel_rfl) (by kernel_rfl)
theorem layoutref29_Delete_cons : ∀ f site c, (layoutref29_Delete_C).con f site = some c → c.Holds Tryd.prog (layoutref29_Delete_C).glob f := by
  intro f site c h
  unfold layoutref29_Delete_C at h
  dsimp only at h
  split at h
  · cases h; exact layoutref29_Valid_holds
  · cases h
theorem layoutref29_Delete_holds : Con.Holds Tryd.prog glob 25 layoutref29_Delete_c :=
  fn_holds (C := layoutref29_Delete_C) (A := layoutref29_Delete_As) (outs := [(.cell 4 25, true, (.prod I (.prod (.slice (.prod I (.prod I .unit))) (.prod (.slice (.slice I)) .unit)))), (.tmp 5, true, I)]) seat_ok layoutref29_Delete_cons (by kernel_rfl) (by kernel_rfl) layoutref29_Delete_loops (by kernel_rfl) (by kernel_rfl) layoutref29_Delete_eq
def layoutlaw35_TriangulateRepairs_P : List (LoopPf layoutlaw35_TriangulateRepairs_C layoutlaw35_TriangulateRepairs_As (bodyOf Tryd.f11)) := []
theorem layoutlaw35_TriangulateRepairs_loops : LoopsOK layoutlaw35_TriangulateRepairs_C layoutlaw35_TriangulateRepairs_As (loopsIn (bodyOf Tryd.f11)) := loops_ok layoutlaw35_TriangulateRepairs_P (by kernel_rfl) (by kernel_rfl)
theorem layoutlaw35_TriangulateRepairs_cons : ∀ f site c, (layoutlaw35_TriangulateRepairs_C).con f site = some c → c.Holds Tryd.prog (layoutlaw35_TriangulateRepairs_C).glob f := by
  intro f site c h
  unfold layoutlaw35_TriangulateRepairs_C at h
  dsimp only at h
  split at h
  · cases h; exact layoutref29_Delete_holds
  · cases h; exact layoutlaw29_Few_holds
  · cases h; exact layoutlaw35_awake_holds
  · cases h; exact triangulate_Run_holds
  · cases h; exact layoutref35_Triangulated_holds
  · cases h; exact layoutref35_Extends_holds
  · cases h
theorem layoutlaw35_TriangulateRepairs_holds : Con.Holds Tryd.prog glob 11 layoutlaw35_TriangulateRepairs_c :=
  fn_holds (C := layoutlaw35_TriangulateRepairs_C) (A := layoutlaw35_TriangulateRepairs_As) (outs := [(.tmp 4, true, .bool)]) seat_ok layoutlaw35_TriangulateRepairs_cons (by kernel_rfl) (by kernel_rfl) layoutlaw35_TriangulateRepairs_loops (by kernel_rfl) (by kernel_rfl) layoutlaw35_TriangulateRepairs_eq
end
end Go.Vm

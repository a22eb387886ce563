/-
  Contracts of the functions that the laws reach.
-/
import Derived.Test.YtjhmefkkaenoaaaDoorD48
import Derived.Test.YtjhmefkkaenoaaaDoorVmC
import Derived.Test.YtjhmefkkaenoaaaDoorW48B
set_option linter.unusedVariables false
set_option linter.unusedSimpArgs false
namespace Go.Vm
open Go.Proofs
noncomputable section
set_option maxRecDepth 100000
theorem seat_ok : SeatOK Tryd.prog tab eqs := ⟨by kernel_rfl, by kernel_rfl, by kernel_rfl⟩
def text_Plain_1_P : List (LoopPf text_Plain_1_C text_Plain_1_As (bodyOf Tryd.f21)) := []
theorem text_Plain_1_loops : LoopsOK text_Plain_1_C text_Plain_1_As (loopsIn (bodyOf Tryd.f21)) := loops_ok text_Plain_1_P (by kernel_rfl) (by kernel_rfl)
theorem text_Plain_1_cons : ∀ f site c, (text_Plain_1_C).con f site = some c → c.Holds Tryd.prog (text_Plain_1_C).glob f := by
  intro f site c h; cases h
theorem text_Plain_1_holds : Con.Holds Tryd.prog glob 21 text_Plain_1_c :=
  fn_holds (C := text_Plain_1_C) (A := text_Plain_1_As) (outs := [(.tmp 2, true, .bool)]) seat_ok text_Plain_1_cons (by kernel_rfl) (by kernel_rfl) text_Plain_1_loops (by kernel_rfl) (by kernel_rfl) text_Plain_1_eq

def slices_IndexFunc_byte_of_text_Plain_1_P : List (LoopPf slices_IndexFunc_byte_of_text_Plain_1_C slices_IndexFunc_byte_of_text_Plain_1_As (bodyOf Tryd.f24)) := [⟨2, slices_IndexFunc_byte_of_text_Plain_1_A2, slices_IndexFunc_byte_of_text_Plain_1_B2, rfl, slices_IndexFunc_byte_of_text_Plain_1_R2⟩]
theorem slices_IndexFunc_byte_of_text_Plain_1_loops : LoopsOK slices_IndexFunc_byte_of_text_Plain_1_C slices_IndexFunc_byte_of_text_Plain_1_As (loopsIn (bodyOf Tryd.f24)) := loops_ok slices_IndexFunc_byte_of_text_Plain_1_P (by kernel_rfl) (by kernel_rfl)
theorem slices_IndexFunc_byte_of_text_Plain_1_cons : ∀ f site c, (slices_IndexFunc_byte_of_text_Plain_1_C).con f site = some c → c.Holds Tryd.prog (slices_IndexFunc_byte_of_text_Plain_1_C).glob f := by
  intro f site c h
  unfold slices_IndexFunc_byte_of_text_Plain_1_C at h
  dsimp only at h
  split at h
  · cases h; exact text_Plain_1_holds
  · cases h
theorem slices_IndexFunc_byte_of_text_Plain_1_holds : Con.Holds Tryd.prog glob 24 slices_IndexFunc_byte_of_text_Plain_1_c :=
  fn_holds (C := slices_IndexFunc_byte_of_text_Plain_1_C) (A := slices_IndexFunc_byte_of_text_Plain_1_As) (outs := [(.tmp 4, true, I)]) seat_ok slices_IndexFunc_byte_of_text_Plain_1_cons (by kernel_rfl) (by kernel_rfl) slices_IndexFunc_byte_of_text_Plain_1_loops (by kernel_rfl) (by kernel_rfl) slices_IndexFunc_byte_of_text_Plain_1_eq

def slices_ContainsFunc_byte_of_text_Plain_1_P : List (LoopPf slices_ContainsFunc_byte_of_text_Plain_1_C slices_ContainsFunc_byte_of_text_Plain_1_As (bodyOf Tryd.f20)) := []
theorem slices_ContainsFunc_byte_of_text_Plain_1_loops : LoopsOK slices_ContainsFunc_byte_of_text_Plain_1_C slices_ContainsFunc_byte_of_text_Plain_1_As (loopsIn (bodyOf Tryd.f20)) := loops_ok slices_ContainsFunc_byte_of_text_Plain_1_P (by kernel_rfl) (by kernel_rfl)
theorem slices_ContainsFunc_byte_of_text_Plain_1_cons : ∀ f site c, (slices_ContainsFunc_byte_of_text_Plain_1_C).con f site = some c → c.Holds Tryd.prog (slices_ContainsFunc_byte_of_text_Plain_1_C).glob f := by
  intro f site c h
  unfold slices_ContainsFunc_byte_of_text_Plain_1_C at h
  dsimp only at h
  split at h
  · cases h; exact slices_IndexFunc_byte_of_text_Plain_1_holds
  · cases h
theorem slices_ContainsFunc_byte_of_text_Plain_1_holds : Con.Holds Tryd.prog glob 20 slices_ContainsFunc_byte_of_text_Plain_1_c :=
  fn_holds (C := slices_ContainsFunc_byte_of_text_Plain_1_C) (A := slices_ContainsFunc_byte_of_text_Plain_1_As) (outs := [(.tmp 4, true, .bool)]) seat_ok slices_ContainsFunc_byte_of_text_Plain_1_cons (by kernel_rfl) (by kernel_rfl) slices_ContainsFunc_byte_of_text_Plain_1_loops (by kernel_rfl) (by kernel_rfl) slices_ContainsFunc_byte_of_text_Plain_1_eq

def text_Plain_P : List (LoopPf text_Plain_C text_Plain_As (bodyOf Tryd.f9)) := []
theorem text_Plain_loops : LoopsOK text_Plain_C text_Plain_As (loopsIn (bodyOf Tryd.f9)) := loops_ok text_Plain_P (by kernel_rfl) (by kernel_rfl)
theorem text_Plain_cons : ∀ f site c, (text_Plain_C).con f site = some c → c.Holds Tryd.prog (text_Plain_C).glob f := by
  intro f site c h
  unfold text_Plain_C at h
  dsimp only at h
  split at h
  · cases h; exact slices_ContainsFunc_byte_of_text_Plain_1_holds
  · cases h
theorem text_Plain_holds : Con.Holds Tryd.prog glob 9 text_Plain_c :=
  fn_holds (C := text_Plain_C) (A := text_Plain_As) (outs := [(.tmp 2, true, .bool)]) seat_ok text_Plain_cons (by kernel_rfl) (by kernel_rfl) text_Plain_loops (by kernel_rfl) (by kernel_rfl) text_Plain_eq

def text_Width_P : List (LoopPf text_Width_C text_Width_As (bodyOf Tryd.f11)) := []
theorem text_Width_loops : LoopsOK text_Width_C text_Width_As (loopsIn (bodyOf Tryd.f11)) := loops_ok text_Width_P (by kernel_rfl) (by kernel_rfl)
theorem text_Width_cons : ∀ f site c, (text_Width_C).con f site = some c → c.Holds Tryd.prog (text_Width_C).glob f := by
  intro f site c h
  unfold text_Width_C at h
  dsimp only at h
  split at h
  · cases h; exact text_Plain_holds
  · cases h
theorem text_Width_holds : Con.Holds Tryd.prog glob 11 text_Width_c :=
  fn_holds (C := text_Width_C) (A := text_Width_As) (outs := [(.tmp 2, true, I)]) seat_ok text_Width_cons (by kernel_rfl) (by kernel_rfl) text_Width_loops (by kernel_rfl) (by kernel_rfl) text_Width_eq

theorem strings_Split_holds : Con.Holds Tryd.prog glob 22 strings_Split_c := split_at

def slices_Index_string_P : List (LoopPf slices_Index_string_C slices_Index_string_As (bodyOf Tryd.f26)) := [⟨2, slices_Index_string_A2, slices_Index_string_B2, rfl, slices_Index_string_R2⟩]
theorem slices_Index_string_loops : LoopsOK slices_Index_string_C slices_Index_string_As (loopsIn (bodyOf Tryd.f26)) := loops_ok slices_Index_string_P (by kernel_rfl) (by kernel_rfl)
theorem slices_Index_string_cons : ∀ f site c, (slices_Index_string_C).con f site = some c → c.Holds Tryd.prog (slices_Index_string_C).glob f := by
  intro f site c h; cases h
theorem slices_Index_string_holds : Con.Holds Tryd.prog glob 26 slices_Index_string_c :=
  fn_holds (C := slices_Index_string_C) (A := slices_Index_string_As) (outs := [(.tmp 4, true, I)]) seat_ok slices_Index_string_cons (by kernel_rfl) (by kernel_rfl) slices_Index_string_loops (by kernel_rfl) (by kernel_rfl) slices_Index_string_eq

def slices_Contains_string_P : List (LoopPf slices_Contains_string_C slices_Contains_string_As (bodyOf Tryd.f23)) := []
theorem slices_Contains_string_loops : LoopsOK slices_Contains_string_C slices_Contains_string_As (loopsIn (bodyOf Tryd.f23)) := loops_ok slices_Contains_string_P (by kernel_rfl) (by kernel_rfl)
theorem slices_Contains_string_cons : ∀ f site c, (slices_Contains_string_C).con f site = some c → c.Holds Tryd.prog (slices_Contains_string_C).glob f := by
  intro f site c h
  unfold slices_Contains_string_C at h
  dsimp only at h
  split at h
  · cases h; exact slices_Index_string_holds
  · cases h
theorem slices_Contains_string_holds : Con.Holds Tryd.prog glob 23 slices_Contains_string_c :=
  fn_holds (C := slices_Contains_string_C) (A := slices_Contains_string_As) (outs := [(.tmp 4, true, .bool)]) seat_ok slices_Contains_string_cons (by kernel_rfl) (by kernel_rfl) slices_Contains_string_loops (by kernel_rfl) (by kernel_rfl) slices_Contains_string_eq

theorem text_Wrap_holds : Con.Holds Tryd.prog glob 13 text_Wrap_c := wrap_at text_Plain_holds text_Width_holds strings_Split_holds slices_Contains_string_holds

def layoutref48_Same_P : List (LoopPf layoutref48_Same_C layoutref48_Same_As (bodyOf Tryd.f15)) := [⟨4, layoutref48_Same_A4, layoutref48_Same_B4, rfl, layoutref48_Same_R4⟩]
theorem layoutref48_Same_loops : LoopsOK layoutref48_Same_C layoutref48_Same_As (loopsIn (bodyOf Tryd.f15)) := loops_ok layoutref48_Same_P (by kernel_rfl) (by kernel_rfl)
theorem layoutref48_Same_cons : ∀ f site c, (layoutref48_Same_C).con f site = some c → c.Holds Tryd.prog (layoutref48_Same_C).glob f := by
  intro f site c h; cases h
theorem layoutref48_Same_holds : Con.Holds Tryd.prog glob 15 layoutref48_Same_c :=
  fn_holds (C := layoutref48_Same_C) (A := layoutref48_Same_As) (outs := [(.tmp 4, true, .bool)]) seat_ok layoutref48_Same_cons (by kernel_rfl) (by kernel_rfl) layoutref48_Same_loops (by kernel_rfl) (by kernel_rfl) layoutref48_Same_eq

def layoutlaw48_awake_P : List (LoopPf layoutlaw48_awake_C layoutlaw48_awake_As (bodyOf Tryd.f8)) := []
theorem layoutlaw48_awake_loops : LoopsOK layoutlaw48_awake_C layoutlaw48_awake_As (loopsIn (bodyOf Tryd.f8)) := loops_ok layoutlaw48_awake_P (by kernel_rfl) (by kernel_rfl)
theorem layoutlaw48_awake_cons : ∀ f site c, (layoutlaw48_awake_C).con f site = some c → c.Holds Tryd.prog (layoutlaw48_awake_C).glob f := by
  intro f site c h
  unfold layoutlaw48_awake_C at h
  dsimp only at h
  split at h
  · cases h; exact text_Plain_holds
  · cases h; exact text_Width_holds
  · cases h; exact text_Wrap_holds
  · cases h; exact layoutref48_Same_holds
  · cases h
theorem layoutlaw48_awake_holds : Con.Holds Tryd.prog glob 8 layoutlaw48_awake_c :=
  fn_holds (C := layoutlaw48_awake_C) (A := layoutlaw48_awake_As) (outs := [(.tmp 0, true, .bool)]) seat_ok layoutlaw48_awake_cons (by kernel_rfl) (by kernel_rfl) layoutlaw48_awake_loops (by kernel_rfl) (by kernel_rfl) layoutlaw48_awake_eq

def layoutref48_Plain_P : List (LoopPf layoutref48_Plain_C layoutref48_Plain_As (bodyOf Tryd.f10)) := [⟨2, layoutref48_Plain_A2, layoutref48_Plain_B2, rfl, layoutref48_Plain_R2⟩]
theorem layoutref48_Plain_loops : LoopsOK layoutref48_Plain_C layoutref48_Plain_As (loopsIn (bodyOf Tryd.f10)) := loops_ok layoutref48_Plain_P (by kernel_rfl) (by kernel_rfl)
theorem layoutref48_Plain_cons : ∀ f site c, (layoutref48_Plain_C).con f site = some c → c.Holds Tryd.prog (layoutref48_Plain_C).glob f := by
  intro f site c h; cases h
theorem layoutref48_Plain_holds : Con.Holds Tryd.prog glob 10 layoutref48_Plain_c :=
  fn_holds (C := layoutref48_Plain_C) (A := layoutref48_Plain_As) (outs := [(.tmp 2, true, .bool)]) seat_ok layoutref48_Plain_cons (by kernel_rfl) (by kernel_rfl) layoutref48_Plain_loops (by kernel_rfl) (by kernel_rfl) layoutref48_Plain_eq

def layoutref48_Width_P : List (LoopPf layoutref48_Width_C layoutref48_Width_As (bodyOf Tryd.f12)) := []
theorem layoutref48_Width_loops : LoopsOK layoutref48_Width_C layoutref48_Width_As (loopsIn (bodyOf Tryd.f12)) := loops_ok layoutref48_Width_P (by kernel_rfl) (by kernel_rfl)
theorem layoutref48_Width_cons : ∀ f site c, (layoutref48_Width_C).con f site = some c → c.Holds Tryd.prog (layoutref48_Width_C).glob f := by
  intro f site c h
  unfold layoutref48_Width_C at h
  dsimp only at h
  split at h
  · cases h; exact layoutref48_Plain_holds
  · cases h
theorem layoutref48_Width_holds : Con.Holds Tryd.prog glob 12 layoutref48_Width_c :=
  fn_holds (C := layoutref48_Width_C) (A := layoutref48_Width_As) (outs := [(.tmp 2, true, I)]) seat_ok layoutref48_Width_cons (by kernel_rfl) (by kernel_rfl) layoutref48_Width_loops (by kernel_rfl) (by kernel_rfl) layoutref48_Width_eq

def layoutlaw48_TextMeasures_P : List (LoopPf layoutlaw48_TextMeasures_C layoutlaw48_TextMeasures_As (bodyOf Tryd.f3)) := []
theorem layoutlaw48_TextMeasures_loops : LoopsOK layoutlaw48_TextMeasures_C layoutlaw48_TextMeasures_As (loopsIn (bodyOf Tryd.f3)) := loops_ok layoutlaw48_TextMeasures_P (by kernel_rfl) (by kernel_rfl)
theorem layoutlaw48_TextMeasures_cons : ∀ f site c, (layoutlaw48_TextMeasures_C).con f site = some c → c.Holds Tryd.prog (layoutlaw48_TextMeasures_C).glob f := by
  intro f site c h
  unfold layoutlaw48_TextMeasures_C at h
  dsimp only at h
  split at h
  · cases h; exact layoutlaw48_awake_holds
  · cases h; exact text_Plain_holds
  · cases h; exact layoutref48_Plain_holds
  · cases h; exact text_Width_holds
  · cases h; exact layoutref48_Width_holds
  · cases h
theorem layoutlaw48_TextMeasures_holds : Con.Holds Tryd.prog glob 3 layoutlaw48_TextMeasures_c :=
  fn_holds (C := layoutlaw48_TextMeasures_C) (A := layoutlaw48_TextMeasures_As) (outs := [(.tmp 2, true, .bool)]) seat_ok layoutlaw48_TextMeasures_cons (by kernel_rfl) (by kernel_rfl) layoutlaw48_TextMeasures_loops (by kernel_rfl) (by kernel_rfl) layoutlaw48_TextMeasures_eq

def layoutref48_Words_P : List (LoopPf layoutref48_Words_C layoutref48_Words_As (bodyOf Tryd.f16)) := [⟨3, layoutref48_Words_A3, layoutref48_Words_B3, rfl, layoutref48_Words_R3⟩]
theorem layoutref48_Words_loops : LoopsOK layoutref48_Words_C layoutref48_Words_As (loopsIn (bodyOf Tryd.f16)) := loops_ok layoutref48_Words_P (by kernel_rfl) (by kernel_rfl)
theorem layoutref48_Words_cons : ∀ f site c, (layoutref48_Words_C).con f site = some c → c.Holds Tryd.prog (layoutref48_Words_C).glob f := by
  intro f site c h; cases h
theorem layoutref48_Words_holds : Con.Holds Tryd.prog glob 16 layoutref48_Words_c :=
  fn_holds (C := layoutref48_Words_C) (A := layoutref48_Words_As) (outs := [(.tmp 2, true, (.slice .str))]) seat_ok layoutref48_Words_cons (by kernel_rfl) (by kernel_rfl) layoutref48_Words_loops (by kernel_rfl) (by kernel_rfl) layoutref48_Words_eq

def layoutref48_Wrap_P : List (LoopPf layoutref48_Wrap_C layoutref48_Wrap_As (bodyOf Tryd.f14)) := [⟨7, layoutref48_Wrap_A7, layoutref48_Wrap_B7, rfl, layoutref48_Wrap_R7⟩, ⟨14, layoutref48_Wrap_A14, layoutref48_Wrap_B14, rfl, layoutref48_Wrap_R14⟩]
theorem layoutref48_Wrap_loops : LoopsOK layoutref48_Wrap_C layoutref48_Wrap_As (loopsIn (bodyOf Tryd.f14)) := loops_ok layoutref48_Wrap_P (by kernel_rfl) (by kernel_rfl)
theorem layoutref48_Wrap_cons : ∀ f site c, (layoutref48_Wrap_C).con f site = some c → c.Holds Tryd.prog (layoutref48_Wrap_C).glob f := by
  intro f site c h
  unfold layoutref48_Wrap_C at h
  dsimp only at h
  split at h
  · cases h; exact layoutref48_Plain_holds
  · cases h; exact layoutref48_Width_holds
  · cases h; exact layoutref48_Words_holds
  · cases h
theorem layoutref48_Wrap_holds : Con.Holds Tryd.prog glob 14 layoutref48_Wrap_c :=
  fn_holds (C := layoutref48_Wrap_C) (A := layoutref48_Wrap_As) (outs := [(.tmp 4, true, (.slice .str)), (.tmp 5, true, I)]) seat_ok layoutref48_Wrap_cons (by kernel_rfl) (by kernel_rfl) layoutref48_Wrap_loops (by kernel_rfl) (by kernel_rfl) layoutref48_Wrap_eq

def layoutlaw48_TextBreaks_P : List (LoopPf layoutlaw48_TextBreaks_C layoutlaw48_TextBreaks_As (bodyOf Tryd.f4)) := []
theorem layoutlaw48_TextBreaks_loops : LoopsOK layoutlaw48_TextBreaks_C layoutlaw48_TextBreaks_As (loopsIn (bodyOf Tryd.f4)) := loops_ok layoutlaw48_TextBreaks_P (by kernel_rfl) (by kernel_rfl)
theorem layoutlaw48_TextBreaks_cons : ∀ f site c, (layoutlaw48_TextBreaks_C).con f site = some c → c.Holds Tryd.prog (layoutlaw48_TextBreaks_C).glob f := by
  intro f site c h
  unfold layoutlaw48_TextBreaks_C at h
  dsimp only at h
  split at h
  · cases h; exact layoutlaw48_awake_holds
  · cases h; exact text_Wrap_holds
  · cases h; exact layoutref48_Wrap_holds
  · cases h; exact layoutref48_Same_holds
  · cases h
theorem layoutlaw48_TextBreaks_holds : Con.Holds Tryd.prog glob 4 layoutlaw48_TextBreaks_c :=
  fn_holds (C := layoutlaw48_TextBreaks_C) (A := layoutlaw48_TextBreaks_As) (outs := [(.tmp 4, true, .bool)]) seat_ok layoutlaw48_TextBreaks_cons (by kernel_rfl) (by kernel_rfl) layoutlaw48_TextBreaks_loops (by kernel_rfl) (by kernel_rfl) layoutlaw48_TextBreaks_eq

def layoutref48_Join_P : List (LoopPf layoutref48_Join_C layoutref48_Join_As (bodyOf Tryd.f17)) := [⟨3, layoutref48_Join_A3, layoutref48_Join_B3, rfl, layoutref48_Join_R3⟩]
theorem layoutref48_Join_loops : LoopsOK layoutref48_Join_C layoutref48_Join_As (loopsIn (bodyOf Tryd.f17)) := loops_ok layoutref48_Join_P (by kernel_rfl) (by kernel_rfl)
theorem layoutref48_Join_cons : ∀ f site c, (layoutref48_Join_C).con f site = some c → c.Holds Tryd.prog (layoutref48_Join_C).glob f := by
  intro f site c h; cases h
theorem layoutref48_Join_holds : Con.Holds Tryd.prog glob 17 layoutref48_Join_c :=
  fn_holds (C := layoutref48_Join_C) (A := layoutref48_Join_As) (outs := [(.tmp 2, true, .str)]) seat_ok layoutref48_Join_cons (by kernel_rfl) (by kernel_rfl) layoutref48_Join_loops (by kernel_rfl) (by kernel_rfl) layoutref48_Join_eq

def layoutlaw48_TextWraps_P : List (LoopPf layoutlaw48_TextWraps_C layoutlaw48_TextWraps_As (bodyOf Tryd.f5)) := [⟨7, layoutlaw48_TextWraps_A7, layoutlaw48_TextWraps_B7, rfl, layoutlaw48_TextWraps_R7⟩]
theorem layoutlaw48_TextWraps_loops : LoopsOK layoutlaw48_TextWraps_C layoutlaw48_TextWraps_As (loopsIn (bodyOf Tryd.f5)) := loops_ok layoutlaw48_TextWraps_P (by kernel_rfl) (by kernel_rfl)
theorem layoutlaw48_TextWraps_cons : ∀ f site c, (layoutlaw48_TextWraps_C).con f site = some c → c.Holds Tryd.prog (layoutlaw48_TextWraps_C).glob f := by
  intro f site c h
  unfold layoutlaw48_TextWraps_C at h
  dsimp only at h
  split at h
  · cases h; exact layoutlaw48_awake_holds
  · cases h; exact layoutref48_Width_holds
  · cases h; exact text_Wrap_holds
  · cases h; exact layoutref48_Words_holds
  · cases h; exact layoutref48_Join_holds
  · cases h
theorem layoutlaw48_TextWraps_holds : Con.Holds Tryd.prog glob 5 layoutlaw48_TextWraps_c :=
  fn_holds (C := layoutlaw48_TextWraps_C) (A := layoutlaw48_TextWraps_As) (outs := [(.tmp 4, true, .bool)]) seat_ok layoutlaw48_TextWraps_cons (by kernel_rfl) (by kernel_rfl) layoutlaw48_TextWraps_loops (by kernel_rfl) (by kernel_rfl) layoutlaw48_TextWraps_eq

def layoutlaw48_TextNarrows_P : List (LoopPf layoutlaw48_TextNarrows_C layoutlaw48_TextNarrows_As (bodyOf Tryd.f6)) := []
theorem layoutlaw48_TextNarrows_loops : LoopsOK layoutlaw48_TextNarrows_C layoutlaw48_TextNarrows_As (loopsIn (bodyOf Tryd.f6)) := loops_ok layoutlaw48_TextNarrows_P (by kernel_rfl) (by kernel_rfl)
theorem layoutlaw48_TextNarrows_cons : ∀ f site c, (layoutlaw48_TextNarrows_C).con f site = some c → c.Holds Tryd.prog (layoutlaw48_TextNarrows_C).glob f := by
  intro f site c h
  unfold layoutlaw48_TextNarrows_C at h
  dsimp only at h
  split at h
  · cases h; exact layoutlaw48_awake_holds
  · cases h; exact text_Wrap_holds
  · cases h; exact layoutref48_Same_holds
  · cases h
theorem layoutlaw48_TextNarrows_holds : Con.Holds Tryd.prog glob 6 layoutlaw48_TextNarrows_c :=
  fn_holds (C := layoutlaw48_TextNarrows_C) (A := layoutlaw48_TextNarrows_As) (outs := [(.tmp 4, true, .bool)]) seat_ok layoutlaw48_TextNarrows_cons (by kernel_rfl) (by kernel_rfl) layoutlaw48_TextNarrows_loops (by kernel_rfl) (by kernel_rfl) layoutlaw48_TextNarrows_eq

def text_Size_P : List (LoopPf text_Size_C text_Size_As (bodyOf Tryd.f18)) := [⟨3, text_Size_A3, text_Size_B3, rfl, text_Size_R3⟩]
theorem text_Size_loops : LoopsOK text_Size_C text_Size_As (loopsIn (bodyOf Tryd.f18)) := loops_ok text_Size_P (by kernel_rfl) (by kernel_rfl)
theorem text_Size_cons : ∀ f site c, (text_Size_C).con f site = some c → c.Holds Tryd.prog (text_Size_C).glob f := by
  intro f site c h
  unfold text_Size_C at h
  dsimp only at h
  split at h
  · cases h; exact text_Width_holds
  · cases h
theorem text_Size_holds : Con.Holds Tryd.prog glob 18 text_Size_c :=
  fn_holds (C := text_Size_C) (A := text_Size_As) (outs := [(.cell 2 36, true, (.prod I (.prod I .unit)))]) seat_ok text_Size_cons (by kernel_rfl) (by kernel_rfl) text_Size_loops (by kernel_rfl) (by kernel_rfl) text_Size_eq

def layoutref48_Size_P : List (LoopPf layoutref48_Size_C layoutref48_Size_As (bodyOf Tryd.f19)) := [⟨3, layoutref48_Size_A3, layoutref48_Size_B3, rfl, layoutref48_Size_R3⟩]
theorem layoutref48_Size_loops : LoopsOK layoutref48_Size_C layoutref48_Size_As (loopsIn (bodyOf Tryd.f19)) := loops_ok layoutref48_Size_P (by kernel_rfl) (by kernel_rfl)
theorem layoutref48_Size_cons : ∀ f site c, (layoutref48_Size_C).con f site = some c → c.Holds Tryd.prog (layoutref48_Size_C).glob f := by
  intro f site c h
  unfold layoutref48_Size_C at h
  dsimp only at h
  split at h
  · cases h; exact layoutref48_Width_holds
  · cases h
theorem layoutref48_Size_holds : Con.Holds Tryd.prog glob 19 layoutref48_Size_c :=
  fn_holds (C := layoutref48_Size_C) (A := layoutref48_Size_As) (outs := [(.cell 2 36, true, (.prod I (.prod I .unit)))]) seat_ok layoutref48_Size_cons (by kernel_rfl) (by kernel_rfl) layoutref48_Size_loops (by kernel_rfl) (by kernel_rfl) layoutref48_Size_eq

def layoutlaw48_TextSizes_P : List (LoopPf layoutlaw48_TextSizes_C layoutlaw48_TextSizes_As (bodyOf Tryd.f7)) := [⟨4, layoutlaw48_TextSizes_A4, layoutlaw48_TextSizes_B4, rfl, layoutlaw48_TextSizes_R4⟩]
theorem layoutlaw48_TextSizes_loops : LoopsOK layoutlaw48_TextSizes_C layoutlaw48_TextSizes_As (loopsIn (bodyOf Tryd.f7)) := loops_ok layoutlaw48_TextSizes_P (by kernel_rfl) (by kernel_rfl)
theorem layoutlaw48_TextSizes_cons : ∀ f site c, (layoutlaw48_TextSizes_C).con f site = some c → c.Holds Tryd.prog (layoutlaw48_TextSizes_C).glob f := by
  intro f site c h
  unfold layoutlaw48_TextSizes_C at h
  dsimp only at h
  split at h
  · cases h; exact layoutlaw48_awake_holds
  · cases h; exact text_Size_holds
  · cases h; exact layoutref48_Size_holds
  · cases h
theorem layoutlaw48_TextSizes_holds : Con.Holds Tryd.prog glob 7 layoutlaw48_TextSizes_c :=
  fn_holds (C := layoutlaw48_TextSizes_C) (A := layoutlaw48_TextSizes_As) (outs := [(.tmp 2, true, .bool)]) seat_ok layoutlaw48_TextSizes_cons (by kernel_rfl) (by kernel_rfl) layoutlaw48_TextSizes_loops (by kernel_rfl) (by kernel_rfl) layoutlaw48_TextSizes_eq
end
end Go.Vm

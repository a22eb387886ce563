/-
  The law InsertEdges on values.
-/
import Derived.Test.YtgihliccohoggaaDoorK33C
set_option linter.unusedVariables false
set_option linter.unusedSimpArgs false
namespace Go.Vm
open Go.Proofs
set_option maxRecDepth 100000
attribute [local irreducible] loopFix

theorem small33 (N : Int) (E : List Arc) (A : List (List Int)) (n m : Int) : ∃ b, layoutlaw33_small ((N, E, A, ()), n, m, ()) = some (b, ()) ∧ (b = true → N ≤ n ∧ (E.length : Int) ≤ m ∧ A.length ≤ 50) := by
  unfold layoutlaw33_small
  dsimp only
  by_cases h1 : N ≤ n
  · rw [leI_t h1, cond_true]
    by_cases h2 : (E.length : Int) ≤ m
    · rw [leI_t h2, cond_true]
      refine ⟨_, rfl, fun h => ⟨h1, h2, ?_⟩⟩
      simp [leI] at h; omega
    · have : leI (E.length : Nat) m = false := by simp [leI]; omega
      rw [this]; exact ⟨false, rfl, by simp⟩
  · have : leI N n = false := by simp [leI]; omega
    rw [this]; exact ⟨false, rfl, by simp⟩

theorem empty33 : layoutlaw33_empty ((0, [], [], ()), ()) = some (true, ()) := rfl

/-- The lists with a new edge, one by one. -/
theorem insA_len {A : List (List Int)} {u v m : Nat} {d f : Int} : (insA A u v m d f).length = A.length := by unfold insA; simp
theorem insA_get {A : List (List Int)} {u v m : Nat} {d f : Int} (huv : u ≠ v) (hu : u < A.length) (hv : v < A.length) (w : Nat) : (insA A u v m d f)[w]? = if w = v then some (bef (subL A v) (2 * m + 1 : Nat) f) else if w = u then some (bef (subL A u) (2 * m : Nat) d) else A[w]? := by
  unfold insA
  rw [List.getElem?_set]
  by_cases e1 : v = w
  · subst e1; simp [hv]
  · rw [if_neg e1, if_neg (Ne.symm e1), List.getElem?_set]
    by_cases e2 : u = w
    · subst e2; simp [hu]
    · rw [if_neg e2, if_neg (Ne.symm e2)]

section
variable {N : Nat} {E : List Arc} {A : List (List Int)} {d f u v : Nat}

theorem EdgeOK.al (h : EdgeOK N E A d f u v) : A.length = N := by have := h.rot.len; omega
theorem EdgeOK.mu (h : EdgeOK N E A d f u v) : (d : Int) ∈ subL A u := by
  have hu : u < A.length := by rw [h.al]; exact h.un
  rw [subL_eq hu]; exact h.rot.around h.d2 h.tu (List.getElem?_eq_getElem hu)
theorem EdgeOK.mv (h : EdgeOK N E A d f u v) : (f : Int) ∈ subL A v := by
  have hv : v < A.length := by rw [h.al]; exact h.vn
  rw [subL_eq hv]; exact h.rot.around h.f2 h.tv (List.getElem?_eq_getElem hv)
theorem EdgeOK.nu (h : EdgeOK N E A d f u v) {w : Nat} (hw : w < N) : (subL A w).Nodup := by
  have hw : w < A.length := by rw [h.al]; exact hw
  rw [subL_eq hw]; exact h.rot.list_nodup (List.getElem_mem hw)
theorem EdgeOK.ll (h : EdgeOK N E A d f u v) {w : Nat} (hw : w < N) : (subL A w).length ≤ 2 * E.length := by
  have hw : w < A.length := by rw [h.al]; exact hw
  rw [subL_eq hw]; exact h.rot.list_len (List.getElem_mem hw)

theorem count_one {l : List Int} {x : Int} (hn : l.Nodup) (hx : x ∈ l) : l.count x = 1 := by
  have h1 := List.nodup_iff_count.1 hn x
  have h2 := List.count_pos_iff.2 hx
  omega

theorem EdgeOK.list_len (h : EdgeOK N E A d f u v) : ∀ l ∈ insA A u v E.length d f, l.length ≤ 2 * E.length + 1 := by
  intro l hl
  obtain ⟨w, hw⟩ := List.mem_iff_getElem?.1 hl
  have hal := h.al
  rw [insA_get h.ne (by rw [hal]; exact h.un) (by rw [hal]; exact h.vn)] at hw
  split at hw
  · cases hw
    rw [bef_len, count_one (h.nu h.vn) h.mv]
    have := h.ll h.vn; omega
  · split at hw
    · cases hw
      rw [bef_len, count_one (h.nu h.un) h.mu]
      have := h.ll h.un; omega
    · have := h.rot.list_len (List.mem_of_getElem? hw); omega
end

theorem insertEdges_law (N : Int) (E : List Arc) (A : List (List Int)) (d f : Int) (hl : ∀ l ∈ A, l.length ≤ 9223372036854775807) : layoutlaw33_InsertEdges ((N, E, A, ()), d, f, ()) = some (true, ()) := by
  unfold layoutlaw33_InsertEdges
  simp only
  rw [awake33_true]
  obtain ⟨b, f1, f2⟩ := small33 N E A 20 30
  rw [f1, Option.bind_some]
  cases b with
  | false => rfl
  | true =>
    simp only [Bool.not_true, cond_false]
    rcases edge33 N E A d f hl with ⟨e, he, h1, h2⟩ | ⟨n, k, j, u, v, rfl, rfl, rfl, hok, h1, h2⟩
    · rw [h1, h2]
      simp only [Option.bind_some]
      rw [eqI_t rfl, cond_true, eqI_f he, cond_false, neI_t he, cond_true, empty33]
      rfl
    · rw [h1, h2]
      simp only [Option.bind_some]
      have hm1 := hok.rot.m1
      have hal := hok.al
      have hn1 := hok.rot.n1
      rw [eqI_t rfl, cond_true, cond_true, same29_refl _ _ _ (by simp; omega) (by rw [insA_len]; omega) (fun l hl' => by have := hok.list_len l hl'; omega)]
      rfl

theorem insertEdges_plain (x : (tupTy (layoutlaw33_InsertEdges_c.ins.map (·.2))).den) (h : WfIns layoutlaw33_InsertEdges_c.ins x) : layoutlaw33_InsertEdges x = some (true, ()) := by
  obtain ⟨⟨N, E, A, u1⟩, d, f, u2⟩ := x
  have hA : ∀ l ∈ A, l.length ≤ 9223372036854775807 := by
    intro l hl
    have h1 : Wf (.slice (.slice (.int .i64))) A := h.1.2.2.1
    exact (h1.2 l hl).1
  exact insertEdges_law N E A d f hA
end Go.Vm

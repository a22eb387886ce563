/-
  The lists with a new edge.
-/
import Derived.Test.YtgihliccohoggaaDoorK33N
set_option linter.unusedVariables false
set_option linter.unusedSimpArgs false
namespace Go.Vm
open Go.Proofs
set_option maxRecDepth 100000
attribute [local irreducible] loopFix
theorem insA_len {A : List (List Int)} {u v m : Nat} {d f : Int} : (insA A u v m d f).length = A.length := by unfold insA; simp
theorem insA_get {A : List (List Int)} {u v m : Nat} {d f : Int} (huv : u ≠ v) (hu : u < A.length) (hv : v < A.length) (w : Nat) : (insA A u v m d f)[w]? = if w = v then some (bef (subL A v) (2 * m + 1 : Nat) f) else if w = u then some (bef (subL A u) (2 * m : Nat) d) else A[w]? := by
  unfold insA
  rw [List.getElem?_set]
  by_cases e1 : v = w
  · subst e1; simp [hv]
  · rw [if_neg e1, if_neg (Ne.symm e1), List.getElem?_set]
    by_cases e2 : u = w
    · subst e2; simp [hu]
    · rw [if_neg e2, if_neg (Ne.symm e2)]
section
variable {N : Nat} {E : List Arc} {A : List (List Int)} {d f u v : Nat}
theorem EdgeOK.al (h : EdgeOK N E A d f u v) : A.length = N := by have := h.rot.len; omega
theorem EdgeOK.mu (h : EdgeOK N E A d f u v) : (d : Int) ∈ subL A u := by
  have hu : u < A.length := by rw [h.al]; exact h.un
  rw [subL_eq hu]; exact h.rot.around h.d2 h.tu (List.getElem?_eq_getElem hu)
theorem EdgeOK.mv (h : EdgeOK N E A d f u v) : (f : Int) ∈ subL A v := by
  have hv : v < A.length := by rw [h.al]; exact h.vn
  rw [subL_eq hv]; exact h.rot.around h.f2 h.tv (List.getElem?_eq_getElem hv)
theorem EdgeOK.nu (h : EdgeOK N E A d f u v) {w : Nat} (hw : w < N) : (subL A w).Nodup := by
  have hw : w < A.length := by rw [h.al]; exact hw
  rw [subL_eq hw]; exact h.rot.list_nodup (List.getElem_mem hw)
theorem EdgeOK.ll (h : EdgeOK N E A d f u v) {w : Nat} (hw : w < N) : (subL A w).length ≤ 2 * E.length := by
  have hw : w < A.length := by rw [h.al]; exact hw
  rw [subL_eq hw]; exact h.rot.list_len (List.getElem_mem hw)
theorem EdgeOK.list_len (h : EdgeOK N E A d f u v) : ∀ l ∈ insA A u v E.length d f, l.length ≤ 2 * E.length + 1 := by
  intro l hl
  obtain ⟨w, hw⟩ := List.mem_iff_getElem?.1 hl
  have hal := h.al
  rw [insA_get h.ne (by rw [hal]; exact h.un) (by rw [hal]; exact h.vn)] at hw
  split at hw
  · cases hw
    rw [bef_len, count_one (h.nu h.vn) h.mv]
    have := h.ll h.vn; omega
  · split at hw
    · cases hw
      rw [bef_len, count_one (h.nu h.un) h.mu]
      have := h.ll h.un; omega
    · have := h.rot.list_len (List.mem_of_getElem? hw); omega
end
end Go.Vm

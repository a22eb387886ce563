/-
  The law TriangulateChecks on values.
-/
import Derived.Test.YtgihliccohoggaaDoorK35E
set_option linter.unusedVariables false
set_option linter.unusedSimpArgs false
namespace Go.Vm
open Go.Proofs
set_option maxRecDepth 100000
theorem awake35_true : layoutlaw35_awake () = some (true, ()) := by kernel_rfl
attribute [local irreducible] loopFix

theorem triangulateChecks_law (N : Int) (E : List Arc) (A : List (List Int)) : layoutlaw35_TriangulateChecks ((N, E, A, ()), ()) = some (true, ()) := by
  unfold layoutlaw35_TriangulateChecks
  simp only
  rw [awake35_true]
  obtain ⟨b, f1, f2⟩ := few_eq N E A
  rw [f1, Option.bind_some]
  cases b with
  | false => rfl
  | true =>
    obtain ⟨hE, hA, hl⟩ := f2 rfl
    have hl' : ∀ l ∈ A, l.length ≤ 9223372036854775807 := fun l h => by have := hl l h; omega
    simp only [Bool.not_true, cond_false]
    obtain ⟨e, c1, c2, c3⟩ := check35 N E A hl'
    obtain ⟨t, t1, t2, _⟩ := tri_both N E A hl'
    have heq : eqB t t = true := by cases t <;> rfl
    rw [t1, t2]
    by_cases he : e = 0
    · subst he
      obtain ⟨n, rfl, h, h3, hc, hs, hg⟩ := c3 rfl
      have hT : Tri n E A := ⟨h, h3, hc, hs, hg⟩
      have hn : n ≤ 100 := by have := h.al; omega
      obtain ⟨E', A', r1, _⟩ := run_eq hn hT c1
      obtain ⟨s, l, r2⟩ := rrun_eq hn hT c2
      rw [r1, r2]
      simp only [Option.bind_some]
      rw [neI_f rfl]
      simp only [cond_false]
      rw [heq]; rfl
    · have r1 : triangulate_Run ((N, E, A, ()), ()) = some ((0, [], [], ()), [], e, ()) := by
        unfold triangulate_Run
        simp only
        rw [c1, Option.bind_some]
        simp only
        rw [neI_t he]; rfl
      have r2 : layoutref35_Run ((N, E, A, ()), ()) = some ((0, [], [], ()), [], e, ()) := by
        unfold layoutref35_Run
        simp only
        rw [c2, Option.bind_some]
        simp only
        rw [neI_t he]; rfl
      rw [r1, r2]
      simp only [Option.bind_some]
      rw [neI_f rfl, cond_false, neI_t he, cond_true, neI_f rfl, cond_false]
      simp only [List.length_nil]
      rw [heq]; rfl

theorem triangulateChecks_plain (x : (tupTy (layoutlaw35_TriangulateChecks_c.ins.map (·.2))).den) (h : WfIns layoutlaw35_TriangulateChecks_c.ins x) : layoutlaw35_TriangulateChecks x = some (true, ()) := triangulateChecks_law x.1.1 x.1.2.1 x.1.2.2.1
end Go.Vm

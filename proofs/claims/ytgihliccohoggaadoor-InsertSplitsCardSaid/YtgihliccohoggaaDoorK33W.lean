/-
  The example; small systems.
-/
import Derived.Test.YtgihliccohoggaaDoorK33P
set_option linter.unusedVariables false
set_option linter.unusedSimpArgs false
namespace Go.Vm
open Go.Proofs
set_option maxRecDepth 100000
theorem awake33_true : layoutlaw33_awake () = some (true, ()) := by kernel_rfl
attribute [local irreducible] loopFix

theorem small33 (N : Int) (E : List Arc) (A : List (List Int)) (n m : Int) : ∃ b, layoutlaw33_small ((N, E, A, ()), n, m, ()) = some (b, ()) ∧ (b = true → N ≤ n ∧ (E.length : Int) ≤ m ∧ A.length ≤ 50) := by
  unfold layoutlaw33_small
  dsimp only
  by_cases h1 : N ≤ n
  · rw [leI_t h1, cond_true]
    by_cases h2 : (E.length : Int) ≤ m
    · rw [leI_t h2, cond_true]
      refine ⟨_, rfl, fun h => ⟨h1, h2, ?_⟩⟩
      simp [leI] at h; omega
    · have : leI (E.length : Nat) m = false := by simp [leI]; omega
      rw [this]; exact ⟨false, rfl, by simp⟩
  · have : leI N n = false := by simp [leI]; omega
    rw [this]; exact ⟨false, rfl, by simp⟩

theorem empty33 : layoutlaw33_empty ((0, [], [], ()), ()) = some (true, ()) := rfl
end Go.Vm

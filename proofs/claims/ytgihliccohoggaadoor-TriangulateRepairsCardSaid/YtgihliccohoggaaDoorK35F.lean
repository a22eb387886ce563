/-
  Systems that are not great.
-/
import Derived.Test.YtgihliccohoggaaDoorK29I
set_option linter.unusedVariables false
set_option linter.unusedSimpArgs false
namespace Go.Vm
open Go.Proofs
set_option maxRecDepth 100000
attribute [local irreducible] loopFix
theorem few_eq (N : Int) (E : List Arc) (A : List (List Int)) : ∃ b, layoutlaw29_Few ((N, E, A, ()), ()) = some (b, ()) ∧ (b = true → E.length ≤ 100 ∧ A.length ≤ 100 ∧ ∀ l ∈ A, l.length ≤ 100) := by
  unfold layoutlaw29_Few
  dsimp only
  by_cases h1 : E.length ≤ 100
  · rw [gtI_f (by omega), cond_false]
    by_cases h2 : A.length ≤ 100
    · rw [gtI_f (by omega), cond_false]
      have h := scan (B := layoutlaw29_Few_B4) (fun (_ : Unit) i => (N, E, A, (i : Int), ())) (fun _ => .inr (.inl ())) (fun (_ : Unit) => .inl (false, ()))
        (fun _ (_ : Unit) (l : List Int) => some (cond (gtI (l.length : Nat) 100) (.inr ()) (.inl ()))) A (by
          intro _ i l hl
          have hi : i < A.length := (List.getElem?_eq_some_iff.1 hl).1
          unfold layoutlaw29_Few_B4
          simp only
          rw [ltI_t (by omega), cond_true, getI_of, hl, Option.bind_some, Option.bind_some]
          cases gtI (l.length : Nat) 100 with
          | true => rfl
          | false => rw [cond_false, add1 (by omega)]; rfl) (by
          intro _
          unfold layoutlaw29_Few_B4
          simp only
          rw [ltI_f (by omega)]; rfl) ()
      unfold layoutlaw29_Few_L4
      rw [show ((0 : Int)) = ((0 : Nat) : Int) from rfl, h]
      have hf : ∀ (A : List (List Int)) (i : Nat), foldE (fun _ (_ : Unit) (l : List Int) => some (cond (gtI (l.length : Nat) 100) (.inr ()) (.inl ()) : Unit ⊕ Unit)) i () A = some (cond (A.any fun l => gtI (l.length : Nat) 100) (.inr ()) (.inl ())) := by
        intro A
        induction A with
        | nil => intro i; rfl
        | cons l A ih =>
          intro i
          simp only [foldE, Option.bind_some, List.any_cons]
          cases gtI (l.length : Nat) 100 with
          | true => rfl
          | false => exact ih (i + 1)
      rw [hf]
      cases ha : A.any fun l => gtI (l.length : Nat) 100 with
      | true => exact ⟨false, rfl, by simp⟩
      | false =>
        refine ⟨true, rfl, fun _ => ⟨h1, h2, fun l hl => ?_⟩⟩
        rw [List.any_eq_false] at ha
        have := ha l hl
        unfold gtI at this
        simp at this
        omega
    · rw [gtI_t (by omega)]; exact ⟨false, rfl, by simp⟩
  · rw [gtI_t (by omega)]; exact ⟨false, rfl, by simp⟩
end Go.Vm

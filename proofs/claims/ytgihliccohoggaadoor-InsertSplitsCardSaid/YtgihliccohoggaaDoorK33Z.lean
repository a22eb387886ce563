/-
  The law InsertSplits on values.
-/
import Derived.Test.YtgihliccohoggaaDoorK33K
import Derived.Test.YtgihliccohoggaaDoorK33W
set_option linter.unusedVariables false
set_option linter.unusedSimpArgs false
namespace Go.Vm
open Go.Proofs
set_option maxRecDepth 100000
attribute [local irreducible] loopFix

theorem insertSplits_law (N : Int) (E : List Arc) (A : List (List Int)) (d : Int) (hl : ∀ l ∈ A, l.length ≤ 9223372036854775807) : layoutlaw33_InsertSplits ((N, E, A, ()), d, ()) = some (true, ()) := by
  unfold layoutlaw33_InsertSplits
  simp only
  rw [awake33_true]
  obtain ⟨b, f1, f2⟩ := small33 N E A 20 30
  rw [f1, Option.bind_some]
  cases b with
  | false => rfl
  | true =>
    simp only [Bool.not_true, cond_false]
    rcases split33 N E A d hl with ⟨e, he, h1, h2⟩ | ⟨n, e, x, y, rfl, rfl, hok, h1, h2⟩
    · rw [h1, h2]
      simp only [Option.bind_some]
      rw [neI_f rfl, cond_false, neI_t he, cond_true, empty33]; rfl
    · rw [h1, h2]
      simp only [Option.bind_some]
      have hr' := hok.rot'
      have hm := hok.m
      have hal := hok.al
      have hn16 := hok.rot.n16
      obtain ⟨nx, _, hn⟩ := follow_eq hok.rot ()
      obtain ⟨nx', _, hn'⟩ := follow_eq hr' ()
      have hF := hok.faces hn hn'
      rw [neI_f rfl, cond_false, cond_false, same29_refl _ _ _ (by rw [splE_len]; omega) (by rw [splA_len]; omega) (fun l hl' => by have := hr'.list_len hl'; rw [splE_len] at this; omega), Option.bind_some]
      simp only [cond_true]
      rw [(faces_val hr' hn').2, (faces_val hok.rot hn).2]
      simp only [Option.bind_some]
      rw [hF, eqI_t rfl, cond_true, (genus_val hr' hn').2, (genus_val hok.rot hn).2]
      simp only [Option.bind_some]
      rw [hok.genus hn hn', eqI_t rfl]; rfl

theorem insertSplits_plain (x : (tupTy (layoutlaw33_InsertSplits_c.ins.map (·.2))).den) (h : WfIns layoutlaw33_InsertSplits_c.ins x) : layoutlaw33_InsertSplits x = some (true, ()) := by
  obtain ⟨⟨N, E, A, u1⟩, d, u2⟩ := x
  have hA : ∀ l ∈ A, l.length ≤ 9223372036854775807 := by
    intro l hl
    have h1 : Wf (.slice (.slice (.int .i64))) A := h.1.2.2.1
    exact (h1.2 l hl).1
  exact insertSplits_law N E A d hA
end Go.Vm

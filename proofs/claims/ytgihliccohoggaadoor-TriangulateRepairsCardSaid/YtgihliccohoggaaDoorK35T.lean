/-
  Triangulated systems, in the program and in the reference.
-/
import Derived.Test.YtgihliccohoggaaDoorK35D
set_option linter.unusedVariables false
set_option linter.unusedSimpArgs false
namespace Go.Vm
open Go.Proofs
set_option maxRecDepth 100000
attribute [local irreducible] loopFix
section
variable {N : Nat} {E : List Arc} {A : List (List Int)} {nx : List Int}
theorem tri_both (N : Int) (E : List Arc) (A : List (List Int)) (hl : ∀ l ∈ A, l.length ≤ 9223372036854775807) : ∃ b, triangulate_Triangulated ((N, E, A, ()), ()) = some (b, ()) ∧ layoutref35_Triangulated ((N, E, A, ()), ()) = some (b, ()) ∧
    (b = true ↔ triangulate_check ((N, E, A, ()), ()) = some (0, ()) ∧ ∀ nx, Fol oth E A nx → ∀ f ∈ facesOf nx, f.length = 3) := by
  obtain ⟨e, c1, c2, c3⟩ := check35 N E A hl
  unfold triangulate_Triangulated layoutref35_Triangulated
  simp only
  rw [c1, c2, Option.bind_some, Option.bind_some]
  simp only
  by_cases he : e = 0
  · subst he
    obtain ⟨n, rfl, h, _⟩ := c3 rfl
    obtain ⟨nx, _, hn⟩ := follow_eq h ()
    have hnum := (facesOf_fs h hn).1.num
    have hm1 := h.m1
    rw [neI_f rfl, cond_false, cond_false, (faces_val h hn).1, (faces_val h hn).2, Option.bind_some, Option.bind_some]
    simp only
    have k1 := scan (B := triangulate_Triangulated_B4) (fun (_ : Unit) i => (facesOf nx, (((facesOf nx).length : Nat) : Int), (i : Int), ())) (fun _ => .inr (.inl ())) (fun (_ : Unit) => .inl (false, ()))
      (fun _ (_ : Unit) (f : List Int) => some (cond (neI (f.length : Nat) 3) (.inr ()) (.inl ()))) (facesOf nx) (by
        intro _ i f hf
        have hi : i < (facesOf nx).length := (List.getElem?_eq_some_iff.1 hf).1
        unfold triangulate_Triangulated_B4
        simp only
        rw [ltI_t (by omega), cond_true, idxI_of hi, Option.bind_some, hf, Option.bind_some, add1 (by omega)]
        cases neI (f.length : Nat) 3 <;> rfl) (by
        intro _
        unfold triangulate_Triangulated_B4
        simp only
        rw [ltI_f (by omega)]; rfl) ()
    have k2 := scan (B := layoutref35_Triangulated_B5) (fun (_ : Unit) i => (facesOf nx, (i : Int), ())) (fun _ => .inr (.inl ())) (fun (_ : Unit) => .inl (false, ()))
      (fun _ (_ : Unit) (f : List Int) => some (cond (neI (f.length : Nat) 3) (.inr ()) (.inl ()))) (facesOf nx) (by
        intro _ i f hf
        have hi : i < (facesOf nx).length := (List.getElem?_eq_some_iff.1 hf).1
        unfold layoutref35_Triangulated_B5
        simp only
        rw [ltI_t (by omega), cond_true, idxI_of hi, Option.bind_some, hf, Option.bind_some, add1 (by omega)]
        cases neI (f.length : Nat) 3 <;> rfl) (by
        intro _
        unfold layoutref35_Triangulated_B5
        simp only
        rw [ltI_f (by omega)]; rfl) ()
    rw [any_val] at k1 k2
    rw [show triangulate_Triangulated_L4 (facesOf nx, ((facesOf nx).length : Nat), 0, ()) = _ from k1, show layoutref35_Triangulated_L5 (facesOf nx, 0, ()) = _ from k2]
    cases ha : (facesOf nx).any fun f => neI (f.length : Nat) 3 with
    | true =>
      refine ⟨false, rfl, rfl, ?_⟩
      simp only [Bool.false_eq_true, false_iff]
      rintro ⟨_, h2⟩
      obtain ⟨f, hf, hb⟩ := List.any_eq_true.1 ha
      have := h2 nx hn f hf
      rw [neI_f (by omega)] at hb; cases hb
    | false =>
      refine ⟨true, rfl, rfl, ?_⟩
      simp only [true_iff]
      refine ⟨trivial, fun mx hmx f hf => ?_⟩
      rw [fol_uniq h hn hmx] at hf
      rw [List.any_eq_false] at ha
      have := ha f hf
      simp [neI] at this
      omega
  · rw [neI_t he]
    refine ⟨false, rfl, rfl, ?_⟩
    simp only [Bool.false_eq_true, false_iff]
    rintro ⟨h1, _⟩
    have := Option.some.inj h1
    exact he (by simpa using this)
end
end Go.Vm

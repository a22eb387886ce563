/-
  The law TriangulateAgain on values.
-/
import Derived.Test.YtgihliccohoggaaDoorK35L
import Derived.Test.YtgihliccohoggaaDoorK33I
set_option linter.unusedVariables false
set_option linter.unusedSimpArgs false
namespace Go.Vm
open Go.Proofs
set_option maxRecDepth 100000
theorem awake35a_true : layoutlaw35_awake () = some (true, ()) := by kernel_rfl
attribute [local irreducible] loopFix
section
variable {N : Nat} {E : List Arc} {A : List (List Int)} {nx : List Int}
theorem delL_list_len (e : Nat) : ∀ l ∈ A.map (delL e), ∀ n, (∀ l ∈ A, l.length ≤ n) → l.length ≤ n := by
  intro l hl n hn
  obtain ⟨l0, h0, rfl⟩ := List.mem_map.1 hl
  have := delL_len e l0
  have := hn l0 h0
  omega
theorem run_done (hN : N ≤ 100) (h : Tri N E A) (h3 : ∀ nx, Fol oth E A nx → ∀ f ∈ facesOf nx, Flat E f) : triangulate_Run (((N : Int), E, A, ()), ()) = some (((N : Int), E, A, ()), [], 0, ()) := by
  obtain ⟨nx, _, hn⟩ := follow_eq h.rot ()
  have hc := h.count hn (fun f hf => h.flat3 hn hf (h3 nx hn f hf))
  obtain ⟨E', A', r1, hT, hG, hF⟩ := run_eq hN h (check_ok h)
  obtain ⟨nx', _, hn'⟩ := follow_eq hT.rot ()
  have hc' := hT.count hn' (fun f hf => hT.flat3 hn' hf (hF nx' hn' f hf))
  obtain ⟨F, hFe⟩ := hG.edges
  have hl : F = [] := by
    have : E'.length = E.length + F.length := by rw [hFe]; simp
    exact List.length_eq_zero_iff.1 (by omega)
  have hE : E' = E := by rw [hFe, hl]; simp
  subst hE
  have hA : A' = A := by
    have := hG.lists
    rw [← this]
    conv => lhs; rw [← List.map_id A']
    exact List.map_congr_left fun l hl2 => (small_filter (hT.rot.small l hl2)).symm
  subst hA
  rw [r1]
  simp [nums]
end
theorem triangulateAgain_law (N : Int) (E : List Arc) (A : List (List Int)) (d : Int) : layoutlaw35_TriangulateAgain ((N, E, A, ()), d, ()) = some (true, ()) := by
  unfold layoutlaw35_TriangulateAgain
  simp only
  rw [awake35a_true]
  obtain ⟨b, f1, f2⟩ := few_eq N E A
  rw [f1, Option.bind_some]
  cases b with
  | false => rfl
  | true =>
    obtain ⟨hE, hA, hl⟩ := f2 rfl
    have hl' : ∀ l ∈ A, l.length ≤ 9223372036854775807 := fun l h => by have := hl l h; omega
    simp only [Bool.not_true, cond_false]
    by_cases h30 : 30 < N
    · rw [gtI_t h30]; rfl
    · have : gtI N 30 = false := by simp [gtI]; omega
      rw [this, cond_false]
      obtain ⟨e, c1, c2, c3⟩ := check35 N E A hl'
      by_cases he : e = 0
      · subst he
        obtain ⟨n, rfl, h, h3, hc, hs, hg⟩ := c3 rfl
        have hT : Tri n E A := ⟨h, h3, hc, hs, hg⟩
        have hn : n ≤ 100 := by omega
        obtain ⟨E', A', r1, hT', hG, hF⟩ := run_eq hn hT c1
        have hm1 := hT'.rot.m1
        have hal := hT'.rot.al
        have hn16 := hT'.rot.n16
        obtain ⟨nx', _, hn'⟩ := follow_eq hT'.rot ()
        have hcount := hT'.count hn' (fun f hf => hT'.flat3 hn' hf (hF nx' hn' f hf))
        rw [r1]
        simp only [Option.bind_some]
        rw [neI_f rfl, cond_false, run_done hn hT' hF]
        simp only [Option.bind_some]
        rw [neI_f rfl, cond_false, neI_f (by rfl), cond_false, same29_refl _ _ _ (by omega) (by omega) (fun l hl => by have := hT'.rot.list_len hl; omega)]
        simp only [Option.bind_some, Bool.not_true, cond_false]
        by_cases hd0 : d < 0
        · rw [ltI_t hd0]; rfl
        · rw [ltI_f (by omega), cond_false]
          by_cases hd1 : d < ((E'.length : Nat) : Int)
          · rw [geI_f hd1, cond_false]
            obtain ⟨k, rfl⟩ : ∃ k : Nat, d = (k : Int) := ⟨d.toNat, (Int.toNat_of_nonneg (by omega)).symm⟩
            rw [delete_eq hT'.rot (by omega)]
            simp only [Option.bind_some]
            rw [eqI_t rfl, cond_true]
            obtain ⟨t, t1, _, t3⟩ := tri_both (n : Int) (E'.eraseIdx k) (A'.map (delL k)) (fun l hl => delL_list_len k l hl _ hT'.rot.lists)
            have hlen : (E'.eraseIdx k).length = E'.length - 1 := List.length_eraseIdx_of_lt (by omega)
            have htf : t = false := by
              cases ht : t with
              | false => rfl
              | true =>
                obtain ⟨q1, q2⟩ := t3.1 ht
                obtain ⟨e2, d1, _, d3⟩ := check35 (n : Int) (E'.eraseIdx k) (A'.map (delL k)) (fun l hl => delL_list_len k l hl _ hT'.rot.lists)
                rw [q1] at d1
                have he2 : e2 = 0 := by have := Option.some.inj d1; simpa using this.symm
                obtain ⟨n2, en, p1, p2, p3, p4, p5⟩ := d3 he2
                have : n = n2 := by omega
                subst this
                have hT2 : Tri n (E'.eraseIdx k) (A'.map (delL k)) := ⟨p1, p2, p3, p4, p5⟩
                obtain ⟨mx, _, hmx⟩ := follow_eq hT2.rot ()
                have := hT2.count hmx (q2 mx hmx)
                omega
            subst htf
            rw [t1]
            rfl
          · rw [geI_t (by omega)]; rfl
      · have r1 : triangulate_Run ((N, E, A, ()), ()) = some ((0, [], [], ()), [], e, ()) := by
          unfold triangulate_Run
          simp only
          rw [c1, Option.bind_some]
          simp only
          rw [neI_t he]; rfl
        rw [r1]
        simp only [Option.bind_some]
        rw [neI_t he]; rfl
theorem triangulateAgain_plain (x : (tupTy (layoutlaw35_TriangulateAgain_c.ins.map (·.2))).den) (h : WfIns layoutlaw35_TriangulateAgain_c.ins x) : layoutlaw35_TriangulateAgain x = some (true, ()) := triangulateAgain_law x.1.1 x.1.2.1 x.1.2.2.1 x.2.1
end Go.Vm

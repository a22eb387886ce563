/-
  The law TriangulateRepairs on values.
-/
import Derived.Test.YtgihliccohoggaaDoorK35R
set_option linter.unusedVariables false
set_option linter.unusedSimpArgs false
namespace Go.Vm
open Go.Proofs
set_option maxRecDepth 100000
theorem awake35r_true : layoutlaw35_awake () = some (true, ()) := by kernel_rfl
attribute [local irreducible] loopFix
theorem nums_one {a : Nat} : nums a (a + 1) = [(a : Int)] := by
  unfold nums
  rw [show a + 1 - a = 1 by omega]
  rfl
theorem triangulateRepairs_law (N : Int) (E : List Arc) (A : List (List Int)) (d : Int) : layoutlaw35_TriangulateRepairs ((N, E, A, ()), d, ()) = some (true, ()) := by
  unfold layoutlaw35_TriangulateRepairs
  simp only
  rw [awake35r_true]
  obtain ⟨b, f1, f2⟩ := few_eq N E A
  rw [f1, Option.bind_some]
  cases b with
  | false => rfl
  | true =>
    obtain ⟨hE, hA, hl⟩ := f2 rfl
    have hl' : ∀ l ∈ A, l.length ≤ 9223372036854775807 := fun l h => by have := hl l h; omega
    simp only [Bool.not_true, cond_false]
    by_cases h30 : 30 < N
    · rw [gtI_t h30]; rfl
    · have : gtI N 30 = false := by simp [gtI]; omega
      rw [this, cond_false]
      by_cases h4 : N < 4
      · rw [ltI_t h4]; rfl
      rw [ltI_f (by omega), cond_false]
      obtain ⟨e, c1, c2, c3⟩ := check35 N E A hl'
      by_cases he : e = 0
      · subst he
        obtain ⟨n, rfl, h, h3, hc, hs, hg⟩ := c3 rfl
        have hT : Tri n E A := ⟨h, h3, hc, hs, hg⟩
        have hn : n ≤ 100 := by omega
        obtain ⟨E', A', r1, hT', hG, hF⟩ := run_eq hn hT c1
        have hm1 := hT'.rot.m1
        have hal := hT'.rot.al
        have hn16 := hT'.rot.n16
        obtain ⟨nx', _, hn'⟩ := follow_eq hT'.rot ()
        have h3' : ∀ nx, Fol oth E' A' nx → ∀ f ∈ facesOf nx, f.length = 3 := fun nx hn f hf => hT'.flat3 hn hf (hF nx hn f hf)
        have hcount := hT'.count hn' (h3' nx' hn')
        rw [r1]
        simp only [Option.bind_some]
        rw [neI_f rfl, cond_false]
        by_cases hd0 : d < 0
        · rw [ltI_t hd0]; rfl
        · rw [ltI_f (by omega), cond_false]
          by_cases hd1 : d < ((E'.length : Nat) : Int)
          · rw [geI_f hd1, cond_false]
            obtain ⟨k, rfl⟩ : ∃ k : Nat, d = (k : Int) := ⟨d.toNat, (Int.toNat_of_nonneg (by omega)).symm⟩
            have hk : k < E'.length := by omega
            rw [delete_eq hT'.rot (by omega)]
            simp only [Option.bind_some]
            have hlen : (E'.eraseIdx k).length = E'.length - 1 := List.length_eraseIdx_of_lt (by omega)
            have hL := hT'.del h3' hk
            obtain ⟨E2, A2, r2, hT2, hG2, hF2⟩ := run_eq hn hL (check_ok hL)
            obtain ⟨nx2, _, hn2⟩ := follow_eq hT2.rot ()
            have hcount2 := hT2.count hn2 (fun f hf => hT2.flat3 hn2 hf (hF2 nx2 hn2 f hf))
            rw [r2]
            simp only [Option.bind_some]
            have e2 : nums (E'.eraseIdx k).length E2.length = [((E'.length - 1 : Nat) : Int)] := by
              rw [hlen, show E2.length = (E'.length - 1) + 1 by omega, nums_one]
            rw [eqI_t rfl, cond_true, e2, extends_eq hL.rot hT2.rot hG2, (tri_true hT2 hF2).2]
            simp only [Option.bind_some]
            have e3 : getI [((E'.length - 1 : Nat) : Int)] 0 = some ((E'.length - 1 : Nat) : Int) := rfl
            rw [subI64 (by omega) (by omega), eqI_t (by simp), cond_true, e3, Option.bind_some, eqI_t (by omega)]
            rfl
          · rw [geI_t (by omega)]; rfl
      · have r1 : triangulate_Run ((N, E, A, ()), ()) = some ((0, [], [], ()), [], e, ()) := by
          unfold triangulate_Run
          simp only
          rw [c1, Option.bind_some]
          simp only
          rw [neI_t he]; rfl
        rw [r1]
        simp only [Option.bind_some]
        rw [neI_t he]; rfl
theorem triangulateRepairs_plain (x : (tupTy (layoutlaw35_TriangulateRepairs_c.ins.map (·.2))).den) (h : WfIns layoutlaw35_TriangulateRepairs_c.ins x) : layoutlaw35_TriangulateRepairs x = some (true, ()) := triangulateRepairs_law x.1.1 x.1.2.1 x.1.2.2.1 x.2.1
end Go.Vm

/-
  The law TriangulateExtends on values.
-/
import Derived.Test.YtgihliccohoggaaDoorK35L
set_option linter.unusedVariables false
set_option linter.unusedSimpArgs false
namespace Go.Vm
open Go.Proofs
set_option maxRecDepth 100000
theorem awake35e_true : layoutlaw35_awake () = some (true, ()) := by kernel_rfl
attribute [local irreducible] loopFix
theorem triangulateExtends_law (N : Int) (E : List Arc) (A : List (List Int)) : layoutlaw35_TriangulateExtends ((N, E, A, ()), ()) = some (true, ()) := by
  unfold layoutlaw35_TriangulateExtends
  simp only
  rw [awake35e_true]
  obtain ⟨b, f1, f2⟩ := few_eq N E A
  rw [f1, Option.bind_some]
  cases b with
  | false => rfl
  | true =>
    obtain ⟨hE, hA, hl⟩ := f2 rfl
    have hl' : ∀ l ∈ A, l.length ≤ 9223372036854775807 := fun l h => by have := hl l h; omega
    simp only [Bool.not_true, cond_false]
    obtain ⟨e, c1, c2, c3⟩ := check35 N E A hl'
    by_cases he : e = 0
    · subst he
      obtain ⟨n, rfl, h, h3, hc, hs, hg⟩ := c3 rfl
      have hT : Tri n E A := ⟨h, h3, hc, hs, hg⟩
      have hn : n ≤ 100 := by have := h.al; omega
      obtain ⟨E', A', r1, hT', hG, hF⟩ := run_eq hn hT c1
      obtain ⟨F, hFe⟩ := hG.edges
      have hle : E.length ≤ E'.length := by rw [hFe]; simp
      have hm1 := hT'.rot.m1
      obtain ⟨nx', _, hn'⟩ := follow_eq hT'.rot ()
      have hcount := hT'.count hn' (fun f hf => hT'.flat3 hn' hf (hF nx' hn' f hf))
      rw [r1]
      simp only [Option.bind_some]
      rw [neI_f rfl, cond_false, rvalid_eq ((n : Int), E', A', ()) hT'.rot.lists, hT'.rot.validB, Option.bind_some]
      simp only [Bool.not_true, cond_false]
      rw [(tri_true hT' hF).1, (tri_true hT' hF).2]
      simp only [Option.bind_some, Bool.not_true, cond_false]
      rw [extends_eq hT.rot hT'.rot hG]
      simp only [Option.bind_some, Bool.not_true, cond_false]
      rw [mulI64 (by omega) (by omega), subI64 (by omega) (by omega), neI_f (by omega), cond_false, nums_len, subI64 (by omega) (by omega), neI_f (by omega), cond_false, ext_loop _ _ _ _ (by omega) hle]
      rfl
    · have r1 : triangulate_Run ((N, E, A, ()), ()) = some ((0, [], [], ()), [], e, ()) := by
        unfold triangulate_Run
        simp only
        rw [c1, Option.bind_some]
        simp only
        rw [neI_t he]; rfl
      rw [r1]
      simp only [Option.bind_some]
      rw [neI_t he]; rfl
theorem triangulateExtends_plain (x : (tupTy (layoutlaw35_TriangulateExtends_c.ins.map (·.2))).den) (h : WfIns layoutlaw35_TriangulateExtends_c.ins x) : layoutlaw35_TriangulateExtends x = some (true, ()) := triangulateExtends_law x.1.1 x.1.2.1 x.1.2.2.1
end Go.Vm

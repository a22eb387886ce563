/-
  Systems that extend others.
-/
import Derived.Test.YtgihliccohoggaaDoorK35K
import Derived.Test.YtgihliccohoggaaDoorK35T
set_option linter.unusedVariables false
set_option linter.unusedSimpArgs false
namespace Go.Vm
open Go.Proofs
set_option maxRecDepth 100000
attribute [local irreducible] loopFix
section
variable {N : Nat} {E : List Arc} {A : List (List Int)} {nx : List Int}
theorem check_ok (h : Tri N E A) : triangulate_check (((N : Int), E, A, ()), ()) = some (0, ()) := by
  obtain ⟨nx, _, hn⟩ := follow_eq h.rot ()
  have h3 := h.three
  have hm1 := h.rot.m1
  unfold triangulate_check
  simp only
  rw [valid_eq ((N : Int), E, A, ()) h.rot.lists, h.rot.validB, Option.bind_some]
  simp only [Bool.not_true, cond_false]
  rw [(genus_val h.rot hn).1, h.plane nx hn, Option.bind_some]
  simp only
  rw [neI_f rfl, cond_false]
  obtain ⟨b, b1, b2⟩ := tconnected_eq h.rot
  have hb : b = true := b2.2 ⟨by omega, h.conn⟩
  subst hb
  rw [b1, Option.bind_some]
  simp only [Bool.not_true, cond_false]
  obtain ⟨s, s1, _, s3⟩ := simple_eq (N : Int) E A (by omega)
  have hs : s = true := s3.2 h.simp
  subst hs
  rw [s1, Option.bind_some]
  simp only [Bool.not_true, cond_false]
  rw [ltI_f (by omega)]; rfl
theorem tri_true (h : Tri N E A) (hf : ∀ nx, Fol oth E A nx → ∀ f ∈ facesOf nx, Flat E f) : triangulate_Triangulated (((N : Int), E, A, ()), ()) = some (true, ()) ∧ layoutref35_Triangulated (((N : Int), E, A, ()), ()) = some (true, ()) := by
  obtain ⟨b, t1, t2, t3⟩ := tri_both (N : Int) E A h.rot.lists
  have : b = true := t3.2 ⟨check_ok h, fun nx hn f hm => h.flat3 hn hm (hf nx hn f hm)⟩
  subst this
  exact ⟨t1, t2⟩
theorem ext_inner (N' : Int) (E' : List Arc) (A' : List (List Int)) (M : Int) (E : List Arc) (A : List (List Int)) (rN : Int) (rE : List Arc) (B : List (List Int)) (v : Nat) (l : List Int) (hl : A'[v]? = some l) (hlen : l.length ≤ 1000000) (hE : E.length ≤ 1000000) :
    layoutref35_Extends_L9 (N', E', A', M, E, A, rN, rE, [], B, (v : Int), 0, ()) = some (.inl (N', E', A', M, E, A, rN, rE, l.filter (fun d => decide (d < ((2 * E.length : Nat) : Int))), B, (v : Int), ())) := by
  have e1 : mulI .i64 2 (E.length : Nat) = ((2 * E.length : Nat) : Int) := by rw [mulI64 (by omega) (by omega)]; omega
  have h := scanI (B := layoutref35_Extends_B9) (fun i (s : List Int) => s.length ≤ i) (fun s i => (N', E', A', M, E, A, rN, rE, s, B, (v : Int), (i : Int), ())) (fun s => .inl (N', E', A', M, E, A, rN, rE, s, B, (v : Int), ())) (fun (e : Empty) => e.elim)
    (fun i s (x : Int) => some (.inl (cond (ltI x ((2 * E.length : Nat) : Int)) (s ++ [x]) s))) l (by
      intro s i x hs hx
      have hi : i < l.length := (List.getElem?_eq_some_iff.1 hx).1
      unfold layoutref35_Extends_B9
      simp only
      rw [getI_of, hl, Option.bind_some, ltI_t (by omega), cond_true, Option.bind_some, getI_of, hx, Option.bind_some, e1]
      cases ltI x ((2 * E.length : Nat) : Int) with
      | true => rw [cond_true, Option.bind_some, getI_of, hx, Option.bind_some, app_of (by simp; omega), Option.bind_some, add1 (by omega)]; rfl
      | false => rw [cond_false, add1 (by omega)]; rfl) (by
      intro s i x t hs hx ht
      simp only [Option.some.injEq, Sum.inl.injEq] at ht
      subst ht
      cases ltI x ((2 * E.length : Nat) : Int) <;> simp <;> omega) (by
      intro s _
      unfold layoutref35_Extends_B9
      simp only
      rw [getI_of, hl, Option.bind_some, ltI_f (by omega)]; rfl) [] (by simp)
  have hf : ∀ (l : List Int) (i : Nat) (s : List Int), foldE (fun (_ : Nat) s (x : Int) => (some (.inl (cond (ltI x ((2 * E.length : Nat) : Int)) (s ++ [x]) s)) : Option (List Int ⊕ Empty))) i s l = some (.inl (s ++ l.filter (fun d => decide (d < ((2 * E.length : Nat) : Int))))) := by
    intro l
    induction l with
    | nil => intro i s; simp [foldE]
    | cons a l ih =>
      intro i s
      simp only [foldE, Option.bind_some, Sum.elim_inl]
      rw [ih, List.filter_cons]
      by_cases c : a < ((2 * E.length : Nat) : Int)
      · rw [ltI_t c, cond_true, if_pos (by simpa using c)]; simp
      · rw [ltI_f (by omega), cond_false, if_neg (by simpa using c)]
  unfold layoutref35_Extends_L9
  rw [show ((N', E', A', M, E, A, rN, rE, [], B, (v : Int), 0, ()) : Int × List Arc × List (List Int) × Int × List Arc × List (List Int) × Int × List Arc × List Int × List (List Int) × Int × Int × Unit) = (N', E', A', M, E, A, rN, rE, [], B, (v : Int), ((0 : Nat) : Int), ()) from rfl, h, hf]
  rfl
theorem extends_eq {E' : List Arc} {A' : List (List Int)} (h : RotOK (N : Nat) E A) (h' : RotOK (N : Nat) E' A') (hg : Grown E A E' A') : layoutref35_Extends (((N : Int), E', A', ()), ((N : Int), E, A, ()), ()) = some (true, ()) := by
  obtain ⟨F, hF⟩ := hg.edges
  have hle : E.length ≤ E'.length := by rw [hF]; simp
  have hal := h.al
  have hal' := h'.al
  have hm1 := h'.m1
  have hn16 := h.n16
  unfold layoutref35_Extends
  simp only
  rw [neI_f rfl, cond_false, ltI_f (by omega), cond_false, neI_f (by omega), cond_false]
  have hs : sliceL E' 0 ((E.length : Nat) : Int) = some E := by
    unfold sliceL
    rw [if_pos ⟨by omega, by omega, by omega⟩]
    simp [hF]
  rw [hs, Option.bind_some]
  have k := scanI (B := layoutref35_Extends_B5) (fun i (s : List (List Int)) => s.length = i) (fun s i => ((N : Int), E', A', (N : Int), E, A, (N : Int), E, s, (i : Int), ())) (fun s => .inl ((N : Int), E, A, (N : Int), E, s, ())) (fun (e : Empty) => e.elim)
    (fun i s (l : List Int) => some (.inl (s ++ [l.filter (fun d => decide (d < ((2 * E.length : Nat) : Int)))]))) A' (by
      intro s i l hs hl
      have hi : i < A'.length := (List.getElem?_eq_some_iff.1 hl).1
      have hll := h'.list_len (List.mem_of_getElem? hl)
      unfold layoutref35_Extends_B5
      simp only
      rw [ltI_t (by omega), cond_true, ext_inner _ _ _ _ _ _ _ _ _ _ l hl (by omega) (by omega)]
      simp only [Option.bind_some, Sum.elim_inl]
      rw [app_of (by simp; omega), Option.bind_some, add1 (by omega)]) (by
      intro s i l t hs hl ht
      simp only [Option.some.injEq, Sum.inl.injEq] at ht
      subst ht
      simp [hs]) (by
      intro s _
      unfold layoutref35_Extends_B5
      simp only
      rw [ltI_f (by omega)]; rfl) [] rfl
  rw [fold_app, List.nil_append, hg.lists] at k
  rw [show layoutref35_Extends_L5 ((N : Int), E', A', (N : Int), E, A, (N : Int), E, [], 0, ()) = _ from k]
  simp only [Option.bind_some, Sum.elim_inl]
  rw [same29_refl _ _ _ (by omega) (by omega) (fun l hl => by have := h.list_len hl; omega)]
  rfl
end
end Go.Vm

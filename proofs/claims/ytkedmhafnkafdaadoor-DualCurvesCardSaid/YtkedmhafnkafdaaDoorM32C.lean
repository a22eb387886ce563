/-
  Build and Face, in the program and in the reference.
-/
import Derived.Test.YtkedmhafnkafdaaDoorM32B
set_option linter.unusedVariables false
set_option linter.unusedSimpArgs false
namespace Go.Vm
open Go.Proofs
set_option maxRecDepth 100000
attribute [local irreducible] loopFix

/-! ### Build -/

def mk2 (m : List Int) (k : Nat) : Int := (m[k]?).getD 0
def arcsFrom (m : List Int) (i n : Nat) : List Arc := (List.range' i n).map fun e => (mk2 m (2 * e), mk2 m (2 * e + 1), ())
theorem arcs_fold (m : List Int) : ∀ (l : List Arc) (i : Nat) (out : List Arc), foldE (fun i out (_ : Arc) => some (.inl (out ++ [(mk2 m (2 * i), mk2 m (2 * i + 1), ())]) : List Arc ⊕ Empty)) i out l = some (.inl (out ++ arcsFrom m i l.length))
  | [], i, out => by simp [foldE, arcsFrom]
  | a :: l, i, out => by
    simp only [foldE, Option.bind_some, Sum.elim_inl]
    rw [arcs_fold m l (i + 1)]
    simp [arcsFrom, List.range'_succ]

section
variable {N : Nat} {E : List Arc} {A : List (List Int)}

theorem build_loop (m : List Int) (hm : m.length = 2 * E.length) (hE : E.length ≤ 100) (z n : Int) :
    dual_Build_L7 (z, m, n, [], (E.length : Nat), 0, ()) = some (.inl (z, n, arcsFrom m 0 E.length, ())) := by
  have := scanI (B := dual_Build_B7) (fun i (s : List Arc) => s.length = i) (fun s j => (z, m, n, s, ((E.length : Nat) : Int), (j : Int), ())) (fun s => .inl (z, n, s, ())) (fun (e : Empty) => e.elim)
    (fun i s (_ : Arc) => some (.inl (s ++ [(mk2 m (2 * i), mk2 m (2 * i + 1), ())]))) E (by
      intro s j a hs ha
      have hj : j < E.length := (List.getElem?_eq_some_iff.1 ha).1
      have h1 : 2 * j < m.length := by omega
      have h2 : 2 * j + 1 < m.length := by omega
      have e1 : mulI .i64 2 (j : Int) = ((2 * j : Nat) : Int) := by rw [mulI64 (by omega) (by omega)]; omega
      unfold dual_Build_B7
      simp only
      rw [ltI_t (by omega), cond_true, e1, add1 (by omega), add1 (by omega), idxI_of h1, Option.bind_some, List.getElem?_eq_getElem h1, Option.bind_some, idxI_of h2, Option.bind_some, List.getElem?_eq_getElem h2, Option.bind_some, app_of (by simp; omega)]
      simp [mk2, h1, h2]) (by
      intro s j a t hs _ ht
      simp only [Option.some.injEq, Sum.inl.injEq] at ht
      subst ht
      simp [hs]) (by
      intro s _
      unfold dual_Build_B7
      simp only
      rw [ltI_f (by omega)]; rfl) [] rfl
  unfold dual_Build_L7
  rw [show ((z, m, n, [], ((E.length : Nat) : Int), 0, ()) : Int × List Int × Int × List Arc × Int × Int × Unit) = (z, m, n, [], ((E.length : Nat) : Int), ((0 : Nat) : Int), ()) from rfl, this, arcs_fold]
  simp

theorem rbuild_loop (m : List Int) (hm : m.length = 2 * E.length) (hE : E.length ≤ 100) (z n : Int) :
    layoutref32_Build_L7 ((N : Int), E, A, z, m, n, [], 0, ()) = some (.inl (z, n, arcsFrom m 0 E.length, ())) := by
  have := scanI (B := layoutref32_Build_B7) (fun i (s : List Arc) => s.length = i) (fun s j => ((N : Int), E, A, z, m, n, s, (j : Int), ())) (fun s => .inl (z, n, s, ())) (fun (e : Empty) => e.elim)
    (fun i s (_ : Arc) => some (.inl (s ++ [(mk2 m (2 * i), mk2 m (2 * i + 1), ())]))) E (by
      intro s j a hs ha
      have hj : j < E.length := (List.getElem?_eq_some_iff.1 ha).1
      have h1 : 2 * j < m.length := by omega
      have h2 : 2 * j + 1 < m.length := by omega
      have e1 : mulI .i64 2 (j : Int) = ((2 * j : Nat) : Int) := by rw [mulI64 (by omega) (by omega)]; omega
      unfold layoutref32_Build_B7
      simp only
      rw [ltI_t (by omega), cond_true, e1, add1 (by omega), add1 (by omega), idxI_of h1, Option.bind_some, List.getElem?_eq_getElem h1, Option.bind_some, idxI_of h2, Option.bind_some, List.getElem?_eq_getElem h2, Option.bind_some, app_of (by simp; omega)]
      simp [mk2, h1, h2]) (by
      intro s j a t hs _ ht
      simp only [Option.some.injEq, Sum.inl.injEq] at ht
      subst ht
      simp [hs]) (by
      intro s _
      unfold layoutref32_Build_B7
      simp only
      rw [ltI_f (by omega)]; rfl) [] rfl
  unfold layoutref32_Build_L7
  rw [show (((N : Int), E, A, z, m, n, [], 0, ()) : Int × List Arc × List (List Int) × Int × List Int × Int × List Arc × Int × Unit) = ((N : Int), E, A, z, m, n, [], ((0 : Nat) : Int), ()) from rfl, this, arcs_fold]
  simp
end

/-- What Build gives, in the program and in the reference. -/
theorem build32 (N : Int) (E : List Arc) (A : List (List Int)) (hE : E.length ≤ 100) (hl : ∀ l ∈ A, l.length ≤ 9223372036854775807) :
    (∃ e, e ≠ 0 ∧ dual_check ((N, E, A, ()), ()) = some (e, ()) ∧ dual_Build ((N, E, A, ()), ()) = some ((0, [], ()), e, ()) ∧ layoutref32_Build ((N, E, A, ()), ()) = some ((0, [], ()), e, ())) ∨
    ∃ (n : Nat) (fs : List (List Int)), N = (n : Int) ∧ RotOK (n : Int) E A ∧ validB ((n : Int), E, A, ()) = true ∧ 0 < n ∧ Conn n E ∧ FsOK (2 * E.length) fs ∧ (∃ nx, Fol oth E A nx ∧ fs = facesOf nx ∧ NxOK nx nx.length) ∧
      dual_check ((N, E, A, ()), ()) = some (0, ()) ∧ rotation_Faces ((N, E, A, ()), ()) = some (fs, ()) ∧ layoutref29_Faces ((N, E, A, ()), ()) = some (fs, ()) ∧
      dual_numbers ((N, E, A, ()), ()) = some (marksOf (2 * E.length) fs, maxI 1 (fs.length : Nat), ()) ∧ layoutref32_Marks ((N, E, A, ()), ()) = some (marksOf (2 * E.length) fs, ()) ∧
      dual_Build ((N, E, A, ()), ()) = some ((maxI 1 (fs.length : Nat), arcsFrom (marksOf (2 * E.length) fs) 0 E.length, ()), 0, ()) ∧
      layoutref32_Build ((N, E, A, ()), ()) = some ((maxI 1 (fs.length : Nat), arcsFrom (marksOf (2 * E.length) fs) 0 E.length, ()), 0, ()) := by
  obtain ⟨e, c1, c2, c3⟩ := check32 N E A hl
  by_cases he : e = 0
  · right
    subst he
    obtain ⟨n, rfl, h, hv, hn, hc⟩ := c3 rfl
    obtain ⟨fs, hf, r1, r2, hnx⟩ := faces32 h hv hl
    have k1 := numbers_eq (A := A) (N := n) fs hf hE r1
    have k2 := rmarks_eq (A := A) (N := n) fs hf hE r2
    refine ⟨n, fs, rfl, h, hv, hn, hc, hf, hnx, c1, r1, r2, k1, k2, ?_, ?_⟩
    · unfold dual_Build
      simp only
      rw [c1, Option.bind_some]
      simp only
      rw [neI_f (by rfl), cond_false, k1, Option.bind_some]
      simp only
      rw [build_loop _ marksOf_len hE]
      rfl
    · unfold layoutref32_Build
      simp only
      rw [c2, Option.bind_some]
      simp only
      rw [neI_f (by rfl), cond_false, k2, Option.bind_some, r2, Option.bind_some]
      simp only
      rw [rbuild_loop _ marksOf_len hE]
      rfl
  · left
    refine ⟨e, he, c1, ?_, ?_⟩
    · unfold dual_Build
      simp only
      rw [c1, Option.bind_some]
      simp only
      rw [neI_t he]; rfl
    · unfold layoutref32_Build
      simp only
      rw [c2, Option.bind_some]
      simp only
      rw [neI_t he]; rfl

/-! ### Face -/

theorem fold_find {α : Type} (p : α → Bool) : ∀ (l : List α) (i : Nat), (foldE (fun i (_ : Unit) a => some (cond (p a) (.inr (i : Nat)) (.inl ()))) i () l = some (.inl ()) ∧ ∀ a ∈ l, p a = false) ∨
    ∃ k a, l[k]? = some a ∧ p a = true ∧ foldE (fun i (_ : Unit) a => some (cond (p a) (.inr (i : Nat)) (.inl ()))) i () l = some (.inr (i + k))
  | [], i => .inl ⟨rfl, by simp⟩
  | a :: l, i => by
    simp only [foldE, Option.bind_some]
    cases h : p a with
    | true => exact .inr ⟨0, a, rfl, h, rfl⟩
    | false =>
      simp only [cond_false, Sum.elim_inl]
      rcases fold_find p l (i + 1) with ⟨h1, h2⟩ | ⟨k, b, h1, h2, h3⟩
      · exact .inl ⟨h1, fun b hb => by
          rcases List.mem_cons.1 hb with rfl | hb
          · exact h
          · exact h2 b hb⟩
      · exact .inr ⟨k + 1, b, by simpa using h1, h2, by rw [h3]; congr 2; omega⟩

theorem contains_int (l : List Int) (v : Int) (hl : l.length ≤ 68719476736) : ∃ b, slices_Contains_int (l, v, ()) = some (b, ()) ∧ (b = true ↔ v ∈ l) := by
  unfold slices_Contains_int slices_Index_int
  dsimp only
  have h := scan (B := slices_Index_int_B2) (fun (_ : Unit) i => (l, v, ((l.length : Nat) : Int), (i : Int), ()))
    (fun _ => .inr (.inl ())) (fun (k : Nat) => .inl ((k : Int), ())) (fun i (_ : Unit) a => some (cond (eqI v a) (.inr i) (.inl ()))) l (by
      intro _ i a ha
      have hi : i < l.length := (List.getElem?_eq_some_iff.1 ha).1
      unfold slices_Index_int_B2
      simp only
      rw [ltI_t (by omega), cond_true, getI_of, ha, Option.bind_some, Option.bind_some]
      cases eqI v a with
      | true => rfl
      | false => rw [cond_false, add1 (by omega)]; rfl) (by
      intro _
      unfold slices_Index_int_B2
      simp only
      rw [ltI_f (by omega)]; rfl) ()
  unfold slices_Index_int_L2
  rw [show ((0 : Int)) = ((0 : Nat) : Int) from rfl, h]
  rcases fold_find (fun a => eqI v a) l 0 with ⟨h1, h2⟩ | ⟨k, a, h1, h2, h3⟩
  · rw [h1]
    refine ⟨false, ?_, ?_⟩
    · simp only [Option.bind_some, Sum.elim_inr, Sum.elim_inl]
      rw [geI_f (by omega)]
    · simp only [Bool.false_eq_true, false_iff]
      intro hm
      have := h2 v hm
      simp [eqI] at this
  · rw [h3]
    refine ⟨true, ?_, ?_⟩
    · simp only [Option.bind_some, Sum.elim_inr, Sum.elim_inl]
      rw [geI_t (by omega)]
    · simp only [true_iff]
      have : v = a := by simpa [eqI] using h2
      rw [this]
      exact List.mem_of_getElem? h1

theorem index_faces (fs : List (List Int)) (d : Int) (h1 : fs.length ≤ 68719476736) (h2 : ∀ f ∈ fs, f.length ≤ 68719476736) :
    (slices_IndexFunc__int_int_of_dual_Face_1 (fs, (d, ()), ()) = some (-1, ()) ∧ ∀ f ∈ fs, d ∉ f) ∨ ∃ (k : Nat) (f : List Int), fs[k]? = some f ∧ d ∈ f ∧ slices_IndexFunc__int_int_of_dual_Face_1 (fs, (d, ()), ()) = some ((k : Int), ()) := by
  unfold slices_IndexFunc__int_int_of_dual_Face_1
  dsimp only
  have h := scan (B := slices_IndexFunc__int_int_of_dual_Face_1_B2) (fun (_ : Unit) i => (fs, (d, ()), ((fs.length : Nat) : Int), (i : Int), ()))
    (fun _ => .inr (.inl ())) (fun (k : Nat) => .inl ((k : Int), ())) (fun i (_ : Unit) (f : List Int) => some (cond (decide (d ∈ f)) (.inr i) (.inl ()))) fs (by
      intro _ i f hf
      have hi : i < fs.length := (List.getElem?_eq_some_iff.1 hf).1
      obtain ⟨b, b1, b2⟩ := contains_int f d (h2 f (List.mem_of_getElem? hf))
      unfold slices_IndexFunc__int_int_of_dual_Face_1_B2 dual_Face_1
      simp only
      rw [ltI_t (by omega), cond_true, getI_of, hf, Option.bind_some, b1, Option.bind_some, Option.bind_some, Option.bind_some]
      have hb : decide (d ∈ f) = b := by
        cases b with
        | true => simpa using b2
        | false => simpa using b2
      rw [hb]
      cases b with
      | true => rfl
      | false => simp only [cond_false]; rw [add1 (by omega)]; rfl) (by
      intro _
      unfold slices_IndexFunc__int_int_of_dual_Face_1_B2
      simp only
      rw [ltI_f (by omega)]; rfl) ()
  unfold slices_IndexFunc__int_int_of_dual_Face_1_L2
  rw [show ((0 : Int)) = ((0 : Nat) : Int) from rfl, h]
  rcases fold_find (fun f : List Int => decide (d ∈ f)) fs 0 with ⟨q1, q2⟩ | ⟨k, f, q1, q2, q3⟩
  · rw [q1]
    exact .inl ⟨rfl, fun f hf => by simpa using q2 f hf⟩
  · rw [q3]
    refine .inr ⟨k, f, q1, by simpa using q2, ?_⟩
    simp

theorem face32 (N : Int) (E : List Arc) (A : List (List Int)) (d : Int) (hE : E.length ≤ 100) (hl : ∀ l ∈ A, l.length ≤ 9223372036854775807) :
    ∃ x, dual_Face ((N, E, A, ()), d, ()) = some (x, ()) ∧ layoutref32_Face ((N, E, A, ()), d, ()) = some (x, ()) := by
  unfold dual_Face layoutref32_Face
  simp only
  cases hv : validB (N, E, A, ()) with
  | false =>
    have e1 : rotation_Faces ((N, E, A, ()), ()) = some ([], ()) := by
      unfold rotation_Faces
      simp only
      rw [valid_eq (N, E, A, ()) hl, hv, Option.bind_some]; rfl
    refine ⟨-1, ?_, ?_⟩
    · rw [e1, Option.bind_some]
      rcases index_faces [] d (by simp) (by simp) with ⟨h1, _⟩ | ⟨k, f, h1, _⟩
      · rw [h1]; rfl
      · simp at h1
    · rw [rvalid_eq (N, E, A, ()) hl, hv, Option.bind_some]; rfl
  | true =>
    have h := valid_ok hv
    obtain ⟨n, rfl⟩ : ∃ n : Nat, N = (n : Int) := ⟨N.toNat, by have := h.n0; omega⟩
    obtain ⟨fs, hf, r1, r2, _⟩ := faces32 h hv hl
    have hfl := hf.flen (by omega)
    have hnum := hf.num
    have k2 := rmarks_eq (A := A) (N := n) fs hf hE r2
    have e2 : mulI .i64 2 (E.length : Nat) = ((2 * E.length : Nat) : Int) := by rw [mulI64 (by omega) (by omega)]; omega
    rw [r1, Option.bind_some, rvalid_eq ((n : Int), E, A, ()) hl, hv, Option.bind_some]
    simp only [Bool.not_true, cond_false]
    rw [e2]
    have hout : (d < 0 ∨ (2 * E.length : Nat) ≤ d) → ∀ f ∈ fs, d ∉ f := by
      intro hd f hfm hdf
      obtain ⟨k, rfl, hk⟩ := (hf.elem f hfm).2 d hdf
      omega
    rcases index_faces fs d (by omega) (fun f hfm => by have := hfl f hfm; omega) with ⟨q1, q2⟩ | ⟨k, f, q1, q2, q3⟩
    · refine ⟨-1, by rw [q1]; rfl, ?_⟩
      by_cases h0 : d < 0
      · rw [ltI_t h0]; rfl
      · rw [ltI_f (by omega), cond_false]
        by_cases h1 : ((2 * E.length : Nat) : Int) ≤ d
        · rw [geI_t h1]; rfl
        · exfalso
          obtain ⟨x, rfl⟩ : ∃ x : Nat, d = (x : Int) := ⟨d.toNat, by omega⟩
          obtain ⟨j, f, w1, w2, _⟩ := hf.face (k := x) (by omega)
          exact q2 f (List.mem_of_getElem? w1) w2
    · have hfm := List.mem_of_getElem? q1
      obtain ⟨x, rfl, hx⟩ := (hf.elem f hfm).2 d q2
      refine ⟨(k : Int), by rw [q3]; rfl, ?_⟩
      rw [ltI_f (by omega), cond_false, geI_f (by omega), cond_false, k2, Option.bind_some]
      simp only
      have hlen : x < (marksOf (2 * E.length) fs).length := by rw [marksOf_len]; exact hx
      rw [idxI_of hlen, Option.bind_some, marksOf_at hf q1 q2]
      rfl
end Go.Vm

/-
  Mirrored rotation systems, exchanged letters.
-/
import Derived.Test.YtgeebcgkjcnneaaDoorL39V
set_option linter.unusedVariables false
set_option linter.unusedSimpArgs false
namespace Go.Vm
open Go.Proofs
set_option maxRecDepth 100000
attribute [local irreducible] loopFix

theorem fold_app {α β : Type} (f : α → β) : ∀ (l : List α) (i : Nat) (acc : List β), foldE (ε := Empty) (fun (_ : Nat) (acc : List β) a => some (.inl (acc ++ [f a]))) i acc l = some (.inl (acc ++ l.map f))
  | [], i, acc => by simp [foldE]
  | a :: l, i, acc => by
    simp only [foldE, Option.bind_some, Sum.elim_inl, fold_app f l (i + 1)]
    simp

theorem clone_int (l : List Int) (h : l.length ≤ 68719476736) : slices_Clone_int (l, ()) = some (l, ()) := by
  unfold slices_Clone_int
  simp only
  rw [app_of (by simpa using h)]
  cases l with
  | nil => simp [both]
  | cons a l => simp
theorem clone_arc (l : List Arc) (h : l.length ≤ 68719476736) : slices_Clone_Arc (l, ()) = some (l, ()) := by
  unfold slices_Clone_Arc
  simp only
  rw [app_of (by simpa using h)]
  cases l with
  | nil => simp [both]
  | cons a l => simp
theorem reverse_int (l : List Int) (h : l.length ≤ 68719476736) : slices_Reverse_int (l, ()) = some (l.reverse, ()) := by
  unfold slices_Reverse_int
  simp only
  have := rev_all l h
  rw [show slices_Reverse_int_L1 (l, (0, ((subI .i64 (l.length : Nat) 1), ()))) = some (.inl (l.reverse, ())) from this]
  rfl

section
variable {E : List Arc} {A : List (List Int)} {N : Nat}

theorem rot_mirror (h : RotOK (N : Nat) E A) (hv : validB ((N : Int), E, A, ()) = true) (hA : ∀ l ∈ A, l.length ≤ 9223372036854775807) :
    rotation_Mirror (((N : Int), E, A, ()), ()) = some (((N : Int), E, A.map List.reverse, ()), ()) := by
  have hm1 := h.m1
  have hn1 := h.n1
  have hlen := h.len
  unfold rotation_Mirror
  simp only
  rw [valid_eq ((N : Int), E, A, ()) hA, hv, Option.bind_some]
  simp only [Bool.not_true, cond_false]
  rw [clone_arc E (by omega), Option.bind_some]
  simp only
  have key := scanI (B := rotation_Mirror_B5) (ε := Empty) (fun i (acc : List (List Int)) => acc.length = i) (fun acc i => (0, (N : Int), E, acc, A, ((A.length : Nat) : Int), (i : Int), ())) (fun acc => .inl (0, (N : Int), E, acc, ())) (fun e => nomatch e)
    (fun _ acc l => some (.inl (acc ++ [l.reverse]))) A (by
      intro acc i l hI hd'
      have hi : i < A.length := (List.getElem?_eq_some_iff.1 hd').1
      have hll := h.list_len (List.mem_of_getElem? hd')
      simp only [rotation_Mirror_B5]
      rw [ltI_t (by omega), cond_true, getI_of, hd', Option.bind_some, clone_int l (by omega), Option.bind_some]
      simp only
      rw [reverse_int l (by omega), Option.bind_some]
      simp only
      rw [app_of (by simp; omega), Option.bind_some, add1 (by omega)]
      rfl) (by
      intro acc i l t hI _ hg
      cases hg
      simp [hI]) (by
      intro acc _
      simp only [rotation_Mirror_B5]
      rw [ltI_f (by omega)]; rfl) [] rfl
  rw [show rotation_Mirror_L5 (0, (N : Int), E, [], A, ((A.length : Nat) : Int), 0, ()) = _ from key, fold_app]
  rfl

theorem rmir_inner (N' : Int) (E E' : List Arc) (A : List (List Int)) (x3 x4 : Int) (out : List (List Int)) (i : Nat) (l : List Int) (hl : A[i]? = some l) (hll : l.length ≤ 65536) : ∀ (k : Nat) (acc : List Int), k ≤ l.length → acc.length + k ≤ l.length →
    layoutref29_Mirror_L9 (N', E, A, x3, x4, acc, E', out, (i : Int), (k : Int) - 1, ()) = some (.inl (N', E, A, x3, x4, acc ++ (l.take k).reverse, E', out, (i : Int), ())) := by
  intro k
  induction k with
  | zero =>
    intro acc _ _
    refine loop_done ?_
    simp only [layoutref29_Mirror_B9]
    rw [geI_f (by omega)]; simp
  | succ k ih =>
    intro acc hk ha
    obtain ⟨c, hc⟩ : ∃ c, l[k]? = some c := ⟨_, List.getElem?_eq_getElem hk⟩
    have := ih (acc ++ [c]) (by omega) (by simp; omega)
    refine (loop_step (t := (N', E, A, x3, x4, acc ++ [c], E', out, (i : Int), (k : Int) - 1, ())) ?_).trans (this.trans ?_)
    · simp only [layoutref29_Mirror_B9]
      rw [show (((k + 1 : Nat) : Int) - 1) = (k : Int) by omega, geI_t (by omega), cond_true, getI_of, hl, Option.bind_some, getI_of, hc, Option.bind_some, app_of (by simp; omega), Option.bind_some, sub1 (by omega)]
    · rw [List.take_add_one, hc]; simp

theorem rrot_mirror (h : RotOK (N : Nat) E A) (hv : validB ((N : Int), E, A, ()) = true) (hA : ∀ l ∈ A, l.length ≤ 9223372036854775807) :
    layoutref29_Mirror (((N : Int), E, A, ()), ()) = some (((N : Int), E, A.map List.reverse, ()), ()) := by
  have hm1 := h.m1
  have hn1 := h.n1
  have hlen := h.len
  have hN : (N : Int) = ((A.length : Nat) : Int) := by omega
  unfold layoutref29_Mirror
  simp only
  rw [rvalid_eq ((N : Int), E, A, ()) hA, hv, Option.bind_some]
  simp only [Bool.not_true, cond_false]
  rw [app_of (by simp; omega), Option.bind_some]
  have key := scanI (B := layoutref29_Mirror_B5) (ε := Empty) (fun i (acc : List (List Int)) => acc.length = i) (fun acc i => ((N : Int), E, A, 0, (N : Int), E, acc, (i : Int), ())) (fun acc => .inl (0, (N : Int), E, acc, ())) (fun e => nomatch e)
    (fun _ acc l => some (.inl (acc ++ [l.reverse]))) A (by
      intro acc i l hI hd'
      have hi : i < A.length := (List.getElem?_eq_some_iff.1 hd').1
      have hll := h.list_len (List.mem_of_getElem? hd')
      simp only [layoutref29_Mirror_B5]
      rw [ltI_t (by omega), cond_true, getI_of, hd', Option.bind_some, sub1 (by omega), rmir_inner (N : Int) E E A 0 (N : Int) acc i l hd' (by omega) l.length [] (Nat.le_refl _) (by simp), Option.bind_some]
      simp only [Sum.elim_inl, List.take_length, List.nil_append]
      rw [app_of (by simp; omega), Option.bind_some, add1 (by omega)]
      rfl) (by
      intro acc i l t hI _ hg
      cases hg
      simp [hI]) (by
      intro acc _
      simp only [layoutref29_Mirror_B5]
      rw [ltI_f (by omega)]; rfl) [] rfl
  rw [List.nil_append, show layoutref29_Mirror_L5 ((N : Int), E, A, 0, (N : Int), E, [], 0, ()) = _ from key, fold_app]
  rfl
end

/-! ### Bends, exchanged -/

def exch (s : ByteArray) : ByteArray := ofBytes ((bytesOf s).map sw)

theorem exch_loop : ∀ (q p : List Int), (p ++ q).length ≤ 68719476736 → shape_exchanged_L3 (p ++ q, (((p ++ q).length : Nat), ((p.length : Nat), ()))) = some (.inl (p ++ q.map sw, ()))
  | [], p, h => by
    refine loop_done ?_
    simp only [shape_exchanged_B3]
    rw [ltI_f (by simp)]
    simp
  | c :: q, p, h => by
    have h' : p.length + q.length + 1 ≤ 68719476736 := by simp at h; omega
    have hs : shape_exchanged_B3 (p ++ c :: q, (((p ++ c :: q).length : Nat), ((p.length : Nat), ()))) = some (.inl ((p ++ [sw c]) ++ q, ((((p ++ [sw c]) ++ q).length : Nat), (((p ++ [sw c]).length : Nat), ())))) := by
      simp only [shape_exchanged_B3]
      obtain ⟨b, hb⟩ := swapped_eq c
      rw [ltI_t (by simp; omega), cond_true, idxI_of (by simp), Option.bind_some]
      have g : (p ++ c :: q)[p.length]? = some c := by simp
      rw [g, Option.bind_some, hb, Option.bind_some, Option.bind_some]
      simp only [g, Option.bind_some]
      rw [add1 (by omega)]
      simp
    have := exch_loop q (p ++ [sw c]) (by simp; omega)
    refine (loop_step hs).trans (this.trans ?_)
    simp

theorem exch_eq (s : ByteArray) (h : s.size ≤ 68719476736) : shape_exchanged (s, ()) = some (exch s, ()) := by
  have hl := bytesOf_length s
  unfold shape_exchanged
  simp only
  have := exch_loop (bytesOf s) [] (by simp; omega)
  simp only [List.nil_append, List.length_nil] at this
  rw [show ((0 : Nat) : Int) = 0 from rfl] at this
  rw [this]
  rfl

theorem rexch_loop (s : ByteArray) (hs : s.size ≤ 68719476736) : ∀ (k i : Nat), i + k = s.size →
    layoutref39_Exchange_L3 (((bytesOf s).take i).map sw, s, (i : Int), ()) = some (.inl ((bytesOf s).map sw, ())) := by
  have hl := bytesOf_length s
  intro k
  induction k with
  | zero =>
    intro i hi
    refine loop_done ?_
    simp only [layoutref39_Exchange_B3]
    rw [ltI_f (by omega), List.take_of_length_le (by omega)]; rfl
  | succ k ih =>
    intro i hi
    obtain ⟨c, hc⟩ : ∃ c, s.data.toList[i]? = some c := ⟨_, List.getElem?_eq_getElem (by rw [Array.length_toList]; show i < s.size; omega)⟩
    have hb := byte_at s i
    rw [hc] at hb
    refine (loop_step ?_).trans (ih (i + 1) (by omega))
    simp only [layoutref39_Exchange_B3]
    rw [ltI_t (by omega), cond_true, getI_of, hc, Option.bind_some, exchange_eq, Option.bind_some, app_of (by simp; omega), Option.bind_some, add1 (by omega), List.take_add_one, ← hb]
    simp

theorem rexch_eq (s : ByteArray) (h : s.size ≤ 68719476736) : layoutref39_Exchange (s, ()) = some (exch s, ()) := by
  unfold layoutref39_Exchange
  simp only
  have := rexch_loop s h s.size 0 (by omega)
  simp only [List.take_zero, List.map_nil] at this
  rw [show layoutref39_Exchange_L3 ([], s, 0, ()) = _ from this]
  rfl
end Go.Vm

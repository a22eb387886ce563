/-
  Parts of the insertion of an edge.
-/
import Derived.Test.YtgihliccohoggaaDoorK33S
set_option linter.unusedVariables false
set_option linter.unusedSimpArgs false
namespace Go.Vm
open Go.Proofs
set_option maxRecDepth 100000
attribute [local irreducible] loopFix

/-! ### Numbers in a list -/

theorem index_int (l : List Int) (v : Int) (hl : l.length ≤ 68719476736) : (slices_Index_int (l, v, ()) = some (-1, ()) ∧ v ∉ l) ∨
    ∃ k : Nat, l[k]? = some v ∧ slices_Index_int (l, v, ()) = some ((k : Int), ()) := by
  have h := scan (B := slices_Index_int_B2) (fun (_ : Unit) i => (l, v, ((l.length : Nat) : Int), (i : Int), ()))
    (fun _ => .inr (.inl ())) (fun (k : Nat) => .inl ((k : Int), ())) (fun i (_ : Unit) a => some (cond (eqI v a) (.inr i) (.inl ()))) l (by
      intro _ i a ha
      have hi : i < l.length := (List.getElem?_eq_some_iff.1 ha).1
      unfold slices_Index_int_B2
      simp only
      rw [ltI_t (by omega), cond_true, getI_of, ha, Option.bind_some, Option.bind_some]
      cases eqI v a with
      | true => rfl
      | false => rw [cond_false, add1 (by omega)]; rfl) (by
      intro _
      unfold slices_Index_int_B2
      simp only
      rw [ltI_f (by omega)]; rfl) ()
  unfold slices_Index_int slices_Index_int_L2
  dsimp only
  rw [show ((0 : Int)) = ((0 : Nat) : Int) from rfl, h]
  rcases fold_find (fun a => eqI v a) l 0 with ⟨h1, h2⟩ | ⟨k, a, h1, h2, h3⟩
  · rw [h1]
    refine .inl ⟨rfl, fun hm => ?_⟩
    have := h2 v hm
    simp [eqI] at this
  · rw [h3]
    have : v = a := by simpa [eqI] using h2
    subst this
    exact .inr ⟨k, h1, by simp only [Option.bind_some, Sum.elim_inr, Sum.elim_inl, Nat.zero_add]⟩

/-- A list with one more directly before one of its own. -/
def bef (l : List Int) (d f : Int) : List Int := l.flatMap fun x => if x = f then [d, x] else [x]

theorem bef_not (d f : Int) : ∀ (l : List Int), f ∉ l → bef l d f = l
  | [], _ => rfl
  | x :: l, h => by
    have hx : x ≠ f := fun e => h (by simp [e])
    have := bef_not d f l (fun hm => h (by simp [hm]))
    unfold bef at this ⊢
    rw [List.flatMap_cons, if_neg hx, this]; rfl
theorem bef_split (d f : Int) (a b : List Int) (ha : f ∉ a) (hb : f ∉ b) : bef (a ++ f :: b) d f = a ++ d :: f :: b := by
  have h1 := bef_not d f a ha
  have h2 := bef_not d f b hb
  unfold bef at h1 h2 ⊢
  rw [List.flatMap_append, List.flatMap_cons, if_pos rfl, h1, h2]; rfl

theorem nodup_split {l : List Int} (hn : l.Nodup) {k : Nat} {f : Int} (hk : l[k]? = some f) : l = l.take k ++ f :: l.drop (k + 1) ∧ f ∉ l.take k ∧ f ∉ l.drop (k + 1) := by
  have hlt : k < l.length := (List.getElem?_eq_some_iff.1 hk).1
  have hf : l[k] = f := (List.getElem?_eq_some_iff.1 hk).2
  have e : l = l.take k ++ f :: l.drop (k + 1) := by
    rw [← hf, ← List.drop_eq_getElem_cons hlt, List.take_append_drop]
  have h2 := hn
  rw [e, List.nodup_append, List.nodup_cons] at h2
  exact ⟨e, fun hm => h2.2.2 f hm f (by simp) rfl, h2.2.1.1⟩

theorem before_eq (l : List Int) (d f : Int) (hn : l.Nodup) (hf : f ∈ l) (hl : l.length ≤ 1000000) : insert_before (l, d, f, ()) = some (bef l d f, ()) := by
  unfold insert_before
  dsimp only
  rcases index_int l f (by omega) with ⟨_, h⟩ | ⟨k, h1, h2⟩
  · exact absurd hf h
  · obtain ⟨e, n1, n2⟩ := nodup_split hn h1
    have hlt : k < l.length := (List.getElem?_eq_some_iff.1 h1).1
    rw [h2, Option.bind_some]
    have : slices_Insert_int (l, ((k : Int), ()).1, [d], ()) = some (bef l d f, ()) := by
      show ins1 l (k : Int) [d] = _
      unfold ins1
      rw [if_pos ⟨by omega, by simp; omega, by simp, by rw [lim_val]; simp; omega⟩]
      rw [show bef l d f = l.take k ++ d :: f :: l.drop (k + 1) by rw [show bef l d f = bef (l.take k ++ f :: l.drop (k + 1)) d f by rw [← e]]; exact bef_split d f _ _ n1 n2]
      congr 2
      rw [Int.toNat_natCast, List.append_assoc]
      congr 1
      rw [List.drop_eq_getElem_cons hlt, (List.getElem?_eq_some_iff.1 h1).2]; rfl
    rw [this]; rfl

theorem rbefore_eq (l : List Int) (d f : Int) (hl : l.length ≤ 1000000) : layoutref33_Before (l, d, f, ()) = some (bef l d f, ()) := by
  have h := scanI (B := layoutref33_Before_B3) (fun i (s : List Int) => s.length ≤ 2 * i) (fun s i => (s, l, d, f, (i : Int), ())) (fun s => .inl (s, ())) (fun (e : Empty) => e.elim)
    (fun _ s (x : Int) => some (.inl (s ++ if x = f then [d, x] else [x]))) l (by
      intro s i x hs hx
      have hi : i < l.length := (List.getElem?_eq_some_iff.1 hx).1
      unfold layoutref33_Before_B3
      simp only
      rw [ltI_t (by omega), cond_true, getI_of, hx]
      simp only [Option.bind_some]
      by_cases e : x = f
      · rw [eqI_t e, cond_true, app_of (by simp; omega)]
        simp only [Option.bind_some]
        rw [app_of (by simp; omega), Option.bind_some, add1 (by omega), if_pos e]
        simp
      · rw [eqI_f e, cond_false, app_of (by simp; omega), Option.bind_some, add1 (by omega), if_neg e]
        rfl) (by
      intro s i x t hs hx ht
      simp only [Option.some.injEq, Sum.inl.injEq] at ht
      subst ht
      split <;> simp <;> omega) (by
      intro s _
      unfold layoutref33_Before_B3
      simp only
      rw [ltI_f (by omega)]; rfl) [] (by simp)
  have hf : ∀ (l : List Int) (i : Nat) (s : List Int), foldE (fun (_ : Nat) s (x : Int) => (some (.inl (s ++ if x = f then [d, x] else [x])) : Option (List Int ⊕ Empty))) i s l = some (.inl (s ++ bef l d f)) := by
    intro l
    induction l with
    | nil => intro i s; simp [foldE, bef]
    | cons x l ih =>
      intro i s
      simp only [foldE, Option.bind_some, Sum.elim_inl]
      rw [ih]
      simp [bef, List.flatMap_cons]
  unfold layoutref33_Before layoutref33_Before_L3
  dsimp only
  rw [show ((0 : Int)) = ((0 : Nat) : Int) from rfl, h, hf]
  rfl

theorem bef_mem {l : List Int} {d f x : Int} : x ∈ bef l d f ↔ x ∈ l ∨ (x = d ∧ f ∈ l) := by
  unfold bef
  rw [List.mem_flatMap]
  constructor
  · rintro ⟨y, hy, hx⟩
    split at hx
    · rename_i e
      subst e
      rcases List.mem_cons.1 hx with h | h
      · exact .inr ⟨h, hy⟩
      · rw [List.mem_singleton] at h; subst h; exact .inl hy
    · rw [List.mem_singleton] at hx; subst hx; exact .inl hy
  · rintro (h | ⟨rfl, h⟩)
    · refine ⟨x, h, ?_⟩
      split <;> simp
    · exact ⟨f, h, by simp⟩
theorem bef_len {l : List Int} {d f : Int} : (bef l d f).length = l.length + l.count f := by
  induction l with
  | nil => rfl
  | cons x l ih =>
    unfold bef at ih ⊢
    rw [List.flatMap_cons, List.length_append, ih, List.count_cons]
    by_cases e : x = f
    · rw [if_pos e]; simp [e]; omega
    · rw [if_neg e]; simp [e]; omega

/-! ### A system in new memory -/

theorem clone_int (l : List Int) (hl : l.length ≤ 68719476736) : slices_Clone_int (l, ()) = some (l, ()) := by
  unfold slices_Clone_int
  dsimp only
  rw [app_of (by simpa using hl), Option.bind_some, List.nil_append]
  cases l with
  | nil => simp [both]
  | cons a l => rfl
theorem clone_arc (l : List Arc) (hl : l.length ≤ 68719476736) : slices_Clone_Arc (l, ()) = some (l, ()) := by
  unfold slices_Clone_Arc
  dsimp only
  rw [app_of (by simpa using hl), Option.bind_some, List.nil_append]
  cases l with
  | nil => simp [both]
  | cons a l => rfl

theorem copied_eq (N : Int) (E : List Arc) (A : List (List Int)) (hE : E.length ≤ 1000000) (hA : A.length ≤ 1000000) (hl : ∀ l ∈ A, l.length ≤ 1000000) : insert_copied ((N, E, A, ()), ()) = some ((N, E, A, ()), ()) := by
  have h := scanI (B := insert_copied_B3) (fun i (s : List (List Int)) => s = A.take i) (fun s i => (0, N, E, s, A, ((A.length : Nat) : Int), (i : Int), ())) (fun s => .inl (0, N, E, s, ())) (fun (e : Empty) => e.elim)
    (fun _ s (l : List Int) => some (.inl (s ++ [l]))) A (by
      intro s i l hs hl'
      have hi : i < A.length := (List.getElem?_eq_some_iff.1 hl').1
      unfold insert_copied_B3
      simp only
      rw [ltI_t (by omega), cond_true, getI_of, hl', Option.bind_some, clone_int l (by have := hl l (List.mem_of_getElem? hl'); omega), Option.bind_some, app_of (by rw [hs]; simp; omega), Option.bind_some, add1 (by omega)]
      rfl) (by
      intro s i l t hs hl' ht
      simp only [Option.some.injEq, Sum.inl.injEq] at ht
      subst ht
      rw [hs, List.take_add_one, hl']; rfl) (by
      intro s _
      unfold insert_copied_B3
      simp only
      rw [ltI_f (by omega)]; rfl) [] (by simp)
  have hf : ∀ (l : List (List Int)) (i : Nat) (s : List (List Int)), foldE (fun (_ : Nat) s (x : List Int) => (some (.inl (s ++ [x])) : Option (List (List Int) ⊕ Empty))) i s l = some (.inl (s ++ l)) := by
    intro l
    induction l with
    | nil => intro i s; simp [foldE]
    | cons x l ih =>
      intro i s
      simp only [foldE, Option.bind_some, Sum.elim_inl]
      rw [ih]
      simp
  unfold insert_copied
  dsimp only
  rw [clone_arc E (by omega), Option.bind_some]
  unfold insert_copied_L3
  rw [show ((0, N, E, [], A, ((A.length : Nat) : Int), 0, ()) : Int × Int × List Arc × List (List Int) × List (List Int) × Int × Int × Unit) = (0, N, E, [], A, ((A.length : Nat) : Int), ((0 : Nat) : Int), ()) from rfl, h, hf]
  rfl

/-! ### The faces of the darts -/

theorem ifaces_inner (fs : List (List Int)) (a b i : Int) (f out : List Int) (hf : ∀ d ∈ f, ∃ k : Nat, d = (k : Int) ∧ k < out.length) (hl : f.length ≤ 1000000) :
    insert_faces_L6 (out, fs, i, a, b, f, (f.length : Nat), 0, ()) = some (.inl (setAll out f i, fs, a, b, ())) := by
  have := scanI (B := insert_faces_B6) (fun _ (s : List Int) => s.length = out.length) (fun s j => (s, fs, i, a, b, f, ((f.length : Nat) : Int), (j : Int), ())) (fun s => .inl (s, fs, a, b, ())) (fun (e : Empty) => e.elim)
    (fun _ s (d : Int) => some (.inl (s.set d.toNat i))) f (by
      intro s j d hs hd
      have hj : j < f.length := (List.getElem?_eq_some_iff.1 hd).1
      obtain ⟨k, rfl, hk⟩ := hf d (List.mem_of_getElem? hd)
      have hk2 : k < s.length := by omega
      unfold insert_faces_B6
      simp only
      rw [ltI_t (by omega), cond_true, getI_of, hd, Option.bind_some, idxI_of hk2, Option.bind_some, List.getElem?_eq_getElem hk2, Option.bind_some, add1 (by omega)]
      rfl) (by
      intro s j d t hs hd ht
      simp only [Option.some.injEq, Sum.inl.injEq] at ht
      subst ht
      simpa using hs) (by
      intro s _
      unfold insert_faces_B6
      simp only
      rw [ltI_f (by omega)]; rfl) out rfl
  unfold insert_faces_L6
  rw [show ((out, fs, i, a, b, f, ((f.length : Nat) : Int), 0, ()) : List Int × List (List Int) × Int × Int × Int × List Int × Int × Int × Unit) = (out, fs, i, a, b, f, ((f.length : Nat) : Int), ((0 : Nat) : Int), ()) from rfl, this, set_fold]
  rfl

theorem ifaces_eq {N : Int} {E : List Arc} {A : List (List Int)} (fs : List (List Int)) (h : FsOK (2 * E.length) fs) (hE : E.length ≤ 32768) (r1 : rotation_Faces ((N, E, A, ()), ()) = some (fs, ())) :
    insert_faces ((N, E, A, ()), ()) = some (marksOf (2 * E.length) fs, ()) := by
  have hnum := h.num
  have hfl := h.flen (by omega)
  unfold insert_faces
  simp only
  have e2 : mulI .i64 2 (E.length : Nat) = ((2 * E.length : Nat) : Int) := by rw [mulI64 (by omega) (by omega)]; omega
  rw [e2, makeL_of (Nat.le_refl _) (by omega), Option.bind_some, r1, Option.bind_some]
  simp only
  have := scanI (B := insert_faces_B3) (fun _ (s : List Int) => s.length = 2 * E.length) (fun s j => (s, fs, ((fs.length : Nat) : Int), (j : Int), ())) (fun s => .inl (s, ())) (fun (e : Empty) => e.elim)
    (fun i s (f : List Int) => some (.inl (setAll s f (i : Int)))) fs (by
      intro s j f hs hf
      have hj : j < fs.length := (List.getElem?_eq_some_iff.1 hf).1
      have hfm := List.mem_of_getElem? hf
      have := hfl f hfm
      unfold insert_faces_B3
      simp only
      rw [ltI_t (by omega), cond_true, idxI_of hj, Option.bind_some, hf, Option.bind_some, ifaces_inner fs _ _ _ f s (fun d hd => by rw [hs]; exact (h.elem f hfm).2 d hd) (by omega)]
      simp only [Option.bind_some, Sum.elim_inl]
      rw [add1 (by omega)]) (by
      intro s j d t hs hd ht
      simp only [Option.some.injEq, Sum.inl.injEq] at ht
      subst ht
      rw [setAll_len]; exact hs) (by
      intro s _
      unfold insert_faces_B3
      simp only
      rw [ltI_f (by omega)]; rfl) (List.replicate (2 * E.length) (zeroVal I)) (by simp)
  unfold insert_faces_L3
  rw [show ((List.replicate (2 * E.length) (zeroVal I), fs, ((fs.length : Nat) : Int), 0, ()) : List Int × List (List Int) × Int × Int × Unit) = (List.replicate (2 * E.length) (zeroVal I), fs, ((fs.length : Nat) : Int), ((0 : Nat) : Int), ()) from rfl, this, mark_fold]
  rfl
end Go.Vm

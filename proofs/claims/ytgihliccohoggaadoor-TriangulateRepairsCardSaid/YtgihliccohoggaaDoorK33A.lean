/-
  Parts of the insertion of an edge.
-/
import Derived.Test.YtgihliccohoggaaDoorK33Q
set_option linter.unusedVariables false
set_option linter.unusedSimpArgs false
namespace Go.Vm
open Go.Proofs
set_option maxRecDepth 100000
attribute [local irreducible] loopFix
def bef (l : List Int) (d f : Int) : List Int := l.flatMap fun x => if x = f then [d, x] else [x]
theorem bef_not (d f : Int) : ∀ (l : List Int), f ∉ l → bef l d f = l
  | [], _ => rfl
  | x :: l, h => by
    have hx : x ≠ f := fun e => h (by simp [e])
    have := bef_not d f l (fun hm => h (by simp [hm]))
    unfold bef at this ⊢
    rw [List.flatMap_cons, if_neg hx, this]; rfl
theorem bef_split (d f : Int) (a b : List Int) (ha : f ∉ a) (hb : f ∉ b) : bef (a ++ f :: b) d f = a ++ d :: f :: b := by
  have h1 := bef_not d f a ha
  have h2 := bef_not d f b hb
  unfold bef at h1 h2 ⊢
  rw [List.flatMap_append, List.flatMap_cons, if_pos rfl, h1, h2]; rfl
theorem before_eq (l : List Int) (d f : Int) (hn : l.Nodup) (hf : f ∈ l) (hl : l.length ≤ 1000000) : insert_before (l, d, f, ()) = some (bef l d f, ()) := by
  unfold insert_before
  dsimp only
  rcases index_int l f (by omega) with ⟨_, h⟩ | ⟨k, h1, h2⟩
  · exact absurd hf h
  · obtain ⟨e, n1, n2⟩ := nodup_split hn h1
    have hlt : k < l.length := (List.getElem?_eq_some_iff.1 h1).1
    rw [h2, Option.bind_some]
    have : slices_Insert_int (l, ((k : Int), ()).1, [d], ()) = some (bef l d f, ()) := by
      show ins1 l (k : Int) [d] = _
      unfold ins1
      rw [if_pos ⟨by omega, by simp; omega, by simp, by rw [lim_val]; simp; omega⟩]
      rw [show bef l d f = l.take k ++ d :: f :: l.drop (k + 1) by rw [show bef l d f = bef (l.take k ++ f :: l.drop (k + 1)) d f by rw [← e]]; exact bef_split d f _ _ n1 n2]
      congr 2
      rw [Int.toNat_natCast, List.append_assoc]
      congr 1
      rw [List.drop_eq_getElem_cons hlt, (List.getElem?_eq_some_iff.1 h1).2]; rfl
    rw [this]; rfl
theorem bef_mem {l : List Int} {d f x : Int} : x ∈ bef l d f ↔ x ∈ l ∨ (x = d ∧ f ∈ l) := by
  unfold bef
  rw [List.mem_flatMap]
  constructor
  · rintro ⟨y, hy, hx⟩
    split at hx
    · rename_i e
      subst e
      rcases List.mem_cons.1 hx with h | h
      · exact .inr ⟨h, hy⟩
      · rw [List.mem_singleton] at h; subst h; exact .inl hy
    · rw [List.mem_singleton] at hx; subst hx; exact .inl hy
  · rintro (h | ⟨rfl, h⟩)
    · refine ⟨x, h, ?_⟩
      split <;> simp
    · exact ⟨f, h, by simp⟩
theorem bef_len {l : List Int} {d f : Int} : (bef l d f).length = l.length + l.count f := by
  induction l with
  | nil => rfl
  | cons x l ih =>
    unfold bef at ih ⊢
    rw [List.flatMap_cons, List.length_append, ih, List.count_cons]
    by_cases e : x = f
    · rw [if_pos e]; simp [e]; omega
    · rw [if_neg e]; simp [e]; omega
theorem ifaces_inner (fs : List (List Int)) (a b i : Int) (f out : List Int) (hf : ∀ d ∈ f, ∃ k : Nat, d = (k : Int) ∧ k < out.length) (hl : f.length ≤ 1000000) :
    insert_faces_L6 (out, fs, i, a, b, f, (f.length : Nat), 0, ()) = some (.inl (setAll out f i, fs, a, b, ())) := by
  have := scanI (B := insert_faces_B6) (fun _ (s : List Int) => s.length = out.length) (fun s j => (s, fs, i, a, b, f, ((f.length : Nat) : Int), (j : Int), ())) (fun s => .inl (s, fs, a, b, ())) (fun (e : Empty) => e.elim)
    (fun _ s (d : Int) => some (.inl (s.set d.toNat i))) f (by
      intro s j d hs hd
      have hj : j < f.length := (List.getElem?_eq_some_iff.1 hd).1
      obtain ⟨k, rfl, hk⟩ := hf d (List.mem_of_getElem? hd)
      have hk2 : k < s.length := by omega
      unfold insert_faces_B6
      simp only
      rw [ltI_t (by omega), cond_true, getI_of, hd, Option.bind_some, idxI_of hk2, Option.bind_some, List.getElem?_eq_getElem hk2, Option.bind_some, add1 (by omega)]
      rfl) (by
      intro s j d t hs hd ht
      simp only [Option.some.injEq, Sum.inl.injEq] at ht
      subst ht
      simpa using hs) (by
      intro s _
      unfold insert_faces_B6
      simp only
      rw [ltI_f (by omega)]; rfl) out rfl
  unfold insert_faces_L6
  rw [show ((out, fs, i, a, b, f, ((f.length : Nat) : Int), 0, ()) : List Int × List (List Int) × Int × Int × Int × List Int × Int × Int × Unit) = (out, fs, i, a, b, f, ((f.length : Nat) : Int), ((0 : Nat) : Int), ()) from rfl, this, set_fold]
  rfl
theorem ifaces_eq {N : Int} {E : List Arc} {A : List (List Int)} (fs : List (List Int)) (h : FsOK (2 * E.length) fs) (hE : E.length ≤ 32768) (r1 : rotation_Faces ((N, E, A, ()), ()) = some (fs, ())) :
    insert_faces ((N, E, A, ()), ()) = some (marksOf (2 * E.length) fs, ()) := by
  have hnum := h.num
  have hfl := h.flen (by omega)
  unfold insert_faces
  simp only
  have e2 : mulI .i64 2 (E.length : Nat) = ((2 * E.length : Nat) : Int) := by rw [mulI64 (by omega) (by omega)]; omega
  rw [e2, makeL_of (Nat.le_refl _) (by omega), Option.bind_some, r1, Option.bind_some]
  simp only
  have := scanI (B := insert_faces_B3) (fun _ (s : List Int) => s.length = 2 * E.length) (fun s j => (s, fs, ((fs.length : Nat) : Int), (j : Int), ())) (fun s => .inl (s, ())) (fun (e : Empty) => e.elim)
    (fun i s (f : List Int) => some (.inl (setAll s f (i : Int)))) fs (by
      intro s j f hs hf
      have hj : j < fs.length := (List.getElem?_eq_some_iff.1 hf).1
      have hfm := List.mem_of_getElem? hf
      have := hfl f hfm
      unfold insert_faces_B3
      simp only
      rw [ltI_t (by omega), cond_true, idxI_of hj, Option.bind_some, hf, Option.bind_some, ifaces_inner fs _ _ _ f s (fun d hd => by rw [hs]; exact (h.elem f hfm).2 d hd) (by omega)]
      simp only [Option.bind_some, Sum.elim_inl]
      rw [add1 (by omega)]) (by
      intro s j d t hs hd ht
      simp only [Option.some.injEq, Sum.inl.injEq] at ht
      subst ht
      rw [setAll_len]; exact hs) (by
      intro s _
      unfold insert_faces_B3
      simp only
      rw [ltI_f (by omega)]; rfl) (List.replicate (2 * E.length) (zeroVal I)) (by simp)
  unfold insert_faces_L3
  rw [show ((List.replicate (2 * E.length) (zeroVal I), fs, ((fs.length : Nat) : Int), 0, ()) : List Int × List (List Int) × Int × Int × Unit) = (List.replicate (2 * E.length) (zeroVal I), fs, ((fs.length : Nat) : Int), ((0 : Nat) : Int), ()) from rfl, this, mark_fold]
  rfl
end Go.Vm

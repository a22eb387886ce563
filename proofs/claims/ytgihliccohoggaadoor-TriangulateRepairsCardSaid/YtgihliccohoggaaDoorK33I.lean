/-
  A system without an edge.
-/
import Derived.Test.YtgihliccohoggaaDoorK33H
set_option linter.unusedVariables false
set_option linter.unusedSimpArgs false
namespace Go.Vm
open Go.Proofs
set_option maxRecDepth 100000
attribute [local irreducible] loopFix
def delD (e : Nat) (d : Int) : List Int := if d > 2 * e + 1 then [d - 2] else if d < 2 * e then [d] else []
def delL (e : Nat) (l : List Int) : List Int := l.flatMap (delD e)
section
variable {N : Nat} {E : List Arc} {A : List (List Int)}
theorem del_edges (N : Int) (E : List Arc) (A : List (List Int)) (z n : Int) (e : Nat) (hE : E.length ≤ 1000000) : layoutref29_Delete_L7 (N, E, A, z, n, [], (e : Int), 0, ()) = some (.inl (N, E, A, z, n, E.eraseIdx e, (e : Int), ())) := by
  have h := scanI (B := layoutref29_Delete_B7) (fun i (s : List Arc) => s.length ≤ i) (fun s i => (N, E, A, z, n, s, (e : Int), (i : Int), ())) (fun s => .inl (N, E, A, z, n, s, (e : Int), ())) (fun (e : Empty) => e.elim)
    (fun i s (a : Arc) => some (.inl (cond (neI (i : Nat) (e : Nat)) (s ++ [a]) s))) E (by
      intro s i a hs ha
      have hi : i < E.length := (List.getElem?_eq_some_iff.1 ha).1
      unfold layoutref29_Delete_B7
      simp only
      rw [ltI_t (by omega), cond_true]
      cases neI (i : Nat) (e : Nat) with
      | true => rw [cond_true, getI_of, ha, Option.bind_some, app_of (by simp; omega), Option.bind_some, add1 (by omega)]; rfl
      | false => rw [cond_false, add1 (by omega)]; rfl) (by
      intro s i a t hs ha ht
      simp only [Option.some.injEq, Sum.inl.injEq] at ht
      subst ht
      cases neI (i : Nat) (e : Nat) <;> simp <;> omega) (by
      intro s _
      unfold layoutref29_Delete_B7
      simp only
      rw [ltI_f (by omega)]; rfl) [] (by simp)
  have hf : ∀ (l : List Arc) (i : Nat) (s : List Arc), foldE (fun i s (a : Arc) => (some (.inl (cond (neI (i : Nat) (e : Nat)) (s ++ [a]) s)) : Option (List Arc ⊕ Empty))) i s l = some (.inl (s ++ if i ≤ e then l.eraseIdx (e - i) else l)) := by
    intro l
    induction l with
    | nil => intro i s; simp [foldE]
    | cons a l ih =>
      intro i s
      simp only [foldE, Option.bind_some, Sum.elim_inl]
      rw [ih]
      by_cases h1 : i = e
      · subst h1
        rw [neI_f rfl, cond_false, if_neg (by omega), if_pos (Nat.le_refl _)]
        simp
      · rw [neI_t (by omega), cond_true]
        by_cases h2 : i < e
        · rw [if_pos (by omega), if_pos (by omega), show e - i = (e - (i + 1)) + 1 by omega, List.eraseIdx_cons_succ]
          simp
        · rw [if_neg (by omega), if_neg (by omega)]
          simp
  unfold layoutref29_Delete_L7
  rw [show ((N, E, A, z, n, [], (e : Int), 0, ()) : Int × List Arc × List (List Int) × Int × Int × List Arc × Int × Int × Unit) = (N, E, A, z, n, [], (e : Int), ((0 : Nat) : Int), ()) from rfl, h, hf, if_pos (Nat.zero_le _)]
  simp only [Option.bind_some, Sum.elim_inl, List.nil_append, Nat.sub_zero]
theorem del_inner (N : Int) (E : List Arc) (A : List (List Int)) (z n : Int) (F : List Arc) (B : List (List Int)) (e v : Nat) (l : List Int) (hl : A[v]? = some l) (hlen : l.length ≤ 1000000) (he : e ≤ 1000000) (hr : ∀ d ∈ l, ∃ k : Nat, d = (k : Int) ∧ k ≤ 10000000) :
    layoutref29_Delete_L16 (N, E, A, z, n, [], F, B, (e : Int), (v : Int), 0, ()) = some (.inl (N, E, A, z, n, delL e l, F, B, (e : Int), (v : Int), ())) := by
  have e1 : mulI .i64 2 (e : Int) = ((2 * e : Nat) : Int) := by rw [mulI64 (by omega) (by omega)]; omega
  have e2 : addI .i64 ((2 * e : Nat) : Int) 1 = ((2 * e + 1 : Nat) : Int) := by rw [addI64 (by omega) (by omega)]; omega
  have h := scanI (B := layoutref29_Delete_B16) (fun i (s : List Int) => s.length ≤ i) (fun s i => (N, E, A, z, n, s, F, B, (e : Int), (v : Int), (i : Int), ())) (fun s => .inl (N, E, A, z, n, s, F, B, (e : Int), (v : Int), ())) (fun (e : Empty) => e.elim)
    (fun i s (d : Int) => some (.inl (s ++ delD e d))) l (by
      intro s i d hs hd
      have hi : i < l.length := (List.getElem?_eq_some_iff.1 hd).1
      obtain ⟨k, rfl, hk⟩ := hr d (List.mem_of_getElem? hd)
      unfold layoutref29_Delete_B16
      simp only
      rw [getI_of, hl, Option.bind_some, ltI_t (by omega), cond_true, Option.bind_some, getI_of, hd, Option.bind_some, e1, e2]
      unfold delD
      by_cases c1 : 2 * e + 1 < k
      · rw [gtI_t (by omega), cond_true, subI64 (by omega) (by omega), app_of (by simp; omega), Option.bind_some, add1 (by omega), if_pos (by omega)]; rfl
      · have : gtI (k : Int) ((2 * e + 1 : Nat) : Int) = false := by simp [gtI]; omega
        rw [this, cond_false, if_neg (by omega)]
        by_cases c2 : k < 2 * e
        · rw [ltI_t (by omega), cond_true, app_of (by simp; omega), Option.bind_some, add1 (by omega), if_pos (by omega)]; rfl
        · rw [ltI_f (by omega), cond_false, add1 (by omega), if_neg (by omega), List.append_nil]; rfl) (by
      intro s i d t hs hd ht
      simp only [Option.some.injEq, Sum.inl.injEq] at ht
      subst ht
      rw [List.length_append]
      have : (delD e d).length ≤ 1 := by unfold delD; split; · simp
                                         split <;> simp
      omega) (by
      intro s _
      unfold layoutref29_Delete_B16
      simp only
      rw [getI_of, hl, Option.bind_some, ltI_f (by omega)]; rfl) [] (by simp)
  have hf : ∀ (l : List Int) (i : Nat) (s : List Int), foldE (fun (_ : Nat) s (d : Int) => (some (.inl (s ++ delD e d)) : Option (List Int ⊕ Empty))) i s l = some (.inl (s ++ delL e l)) := by
    intro l
    induction l with
    | nil => intro i s; simp [foldE, delL]
    | cons a l ih =>
      intro i s
      simp only [foldE, Option.bind_some, Sum.elim_inl]
      rw [ih]
      simp [delL, List.flatMap_cons]
  unfold layoutref29_Delete_L16
  rw [show ((N, E, A, z, n, [], F, B, (e : Int), (v : Int), 0, ()) : Int × List Arc × List (List Int) × Int × Int × List Int × List Arc × List (List Int) × Int × Int × Int × Unit) = (N, E, A, z, n, [], F, B, (e : Int), (v : Int), ((0 : Nat) : Int), ()) from rfl, h, hf]
  rfl
theorem delete_eq (h : RotOK (N : Nat) E A) {e : Nat} (he : e < E.length) : layoutref29_Delete (((N : Int), E, A, ()), ((e : Int), ())) = some (((N : Int), E.eraseIdx e, A.map (delL e), ()), 0, ()) := by
  have hal := h.al
  have hn16 := h.n16
  have hm1 := h.m1
  unfold layoutref29_Delete
  dsimp only
  rw [rvalid_eq ((N : Int), E, A, ()) h.lists, h.validB, Option.bind_some]
  simp only [Bool.not_true, cond_false]
  rw [ltI_f (by omega), cond_false, geI_f (by omega), cond_false, del_edges _ _ _ _ _ _ (by omega)]
  simp only [Option.bind_some, Sum.elim_inl]
  have hs := scanI (B := layoutref29_Delete_B12) (fun i (s : List (List Int)) => s.length = i) (fun s i => (((A.length : Nat) : Int), E, A, 0, (N : Int), E.eraseIdx e, s, (e : Int), (i : Int), ())) (fun s => .inl (0, (N : Int), E.eraseIdx e, s, ())) (fun (e : Empty) => e.elim)
    (fun i s (l : List Int) => some (.inl (s ++ [delL e l]))) A (by
      intro s i l hs hl
      have hi : i < A.length := (List.getElem?_eq_some_iff.1 hl).1
      have hlm := List.mem_of_getElem? hl
      have hll := h.list_len hlm
      unfold layoutref29_Delete_B12
      simp only
      rw [ltI_t (by omega), cond_true, del_inner _ _ _ _ _ _ _ _ _ l hl (by omega) (by omega) (fun d hd => by
        obtain ⟨k, e1, e2⟩ := h.mem_of hlm hd; exact ⟨k, e1, by omega⟩)]
      simp only [Option.bind_some, Sum.elim_inl]
      rw [app_of (by simp; omega), Option.bind_some, add1 (by omega)]) (by
      intro s i l t hs hl ht
      simp only [Option.some.injEq, Sum.inl.injEq] at ht
      subst ht
      simp [hs]) (by
      intro s _
      unfold layoutref29_Delete_B12
      simp only
      rw [ltI_f (by omega)]; rfl) [] rfl
  have hf : ∀ (l : List (List Int)) (i : Nat) (s : List (List Int)), foldE (fun (_ : Nat) s (d : List Int) => (some (.inl (s ++ [delL e d])) : Option (List (List Int) ⊕ Empty))) i s l = some (.inl (s ++ l.map (delL e))) := by
    intro l
    induction l with
    | nil => intro i s; simp [foldE]
    | cons a l ih =>
      intro i s
      simp only [foldE, Option.bind_some, Sum.elim_inl]
      rw [ih]
      simp
  have hs' : layoutref29_Delete_L12 ((N : Int), E, A, 0, (N : Int), E.eraseIdx e, [], (e : Int), 0, ()) = some (.inl (0, (N : Int), E.eraseIdx e, A.map (delL e), ())) := by
    rw [hf] at hs
    rw [show ((N : Int), E, A, (0 : Int), (N : Int), E.eraseIdx e, ([] : List (List Int)), (e : Int), (0 : Int), ()) = (((A.length : Nat) : Int), E, A, 0, (N : Int), E.eraseIdx e, [], (e : Int), ((0 : Nat) : Int), ()) by rw [hal]; rfl]
    exact hs
  rw [hs']
  rfl
theorem delL_old {m : Nat} : ∀ {l : List Int}, (∀ d ∈ l, d < 2 * m) → delL m l = l
  | [], _ => rfl
  | d :: l, h => by
    have h0 := h d (by simp)
    have := delL_old (m := m) (l := l) fun x hx => h x (by simp [hx])
    unfold delL at this ⊢
    rw [List.flatMap_cons, this]
    unfold delD
    rw [if_neg (by omega), if_pos h0]; rfl
theorem delL_bef {m : Nat} {x f : Int} (hx : x = 2 * m ∨ x = 2 * m + 1) : ∀ {l : List Int}, (∀ d ∈ l, d < 2 * m) → delL m (bef l x f) = l
  | [], _ => rfl
  | d :: l, h => by
    have h0 := h d (by simp)
    have ih := delL_bef (m := m) (f := f) hx (l := l) fun y hy => h y (by simp [hy])
    have hd : delD m d = [d] := by unfold delD; rw [if_neg (by omega), if_pos h0]
    have hxx : delD m x = [] := by unfold delD; rw [if_neg (by omega), if_neg (by omega)]
    unfold delL bef at ih ⊢
    rw [List.flatMap_cons, List.flatMap_append, ih]
    split
    · simp [List.flatMap_cons, hd, hxx]
    · simp [List.flatMap_cons, hd]
end
section
variable {N : Nat} {E : List Arc} {A : List (List Int)} {d f u v : Nat}
theorem EdgeOK.back (h : EdgeOK N E A d f u v) : (E ++ [((u : Int), (v : Int), ())]).eraseIdx E.length = E ∧ (insA A u v E.length d f).map (delL E.length) = A := by
  have hal := h.al
  have hu : u < A.length := by rw [hal]; exact h.un
  have hv : v < A.length := by rw [hal]; exact h.vn
  constructor
  · rw [List.eraseIdx_append_of_length_le (Nat.le_refl _)]; simp
  · refine List.ext_getElem? fun w => ?_
    rw [List.getElem?_map, insA_get h.ne hu hv]
    have small : ∀ {w : Nat} {l : List Int}, A[w]? = some l → ∀ x ∈ l, x < 2 * E.length := fun hl x hx => by
      obtain ⟨k, e1, e2, _⟩ := h.rot.dart _ _ hl x hx; omega
    split
    · rename_i e
      subst e
      have g := List.getElem?_eq_getElem hv
      rw [subL_eq hv, Option.map_some, delL_bef (.inr (by omega)) (small g), g]
    · split
      · rename_i e
        subst e
        have g := List.getElem?_eq_getElem hu
        rw [subL_eq hu, Option.map_some, delL_bef (.inl (by omega)) (small g), g]
      · cases hw : A[w]? with
        | none => rfl
        | some l => rw [Option.map_some, delL_old (small hw)]
end
end Go.Vm

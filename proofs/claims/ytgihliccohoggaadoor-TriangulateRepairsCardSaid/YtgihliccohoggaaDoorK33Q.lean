/-
  Places in a list; a system in new memory.
-/
import Derived.Test.YtgihliccohoggaaDoorK33P
set_option linter.unusedVariables false
set_option linter.unusedSimpArgs false
namespace Go.Vm
open Go.Proofs
set_option maxRecDepth 100000
attribute [local irreducible] loopFix
theorem index_int (l : List Int) (v : Int) (hl : l.length ≤ 68719476736) : (slices_Index_int (l, v, ()) = some (-1, ()) ∧ v ∉ l) ∨
    ∃ k : Nat, l[k]? = some v ∧ slices_Index_int (l, v, ()) = some ((k : Int), ()) := by
  have h := scan (B := slices_Index_int_B2) (fun (_ : Unit) i => (l, v, ((l.length : Nat) : Int), (i : Int), ()))
    (fun _ => .inr (.inl ())) (fun (k : Nat) => .inl ((k : Int), ())) (fun i (_ : Unit) a => some (cond (eqI v a) (.inr i) (.inl ()))) l (by
      intro _ i a ha
      have hi : i < l.length := (List.getElem?_eq_some_iff.1 ha).1
      unfold slices_Index_int_B2
      simp only
      rw [ltI_t (by omega), cond_true, getI_of, ha, Option.bind_some, Option.bind_some]
      cases eqI v a with
      | true => rfl
      | false => rw [cond_false, add1 (by omega)]; rfl) (by
      intro _
      unfold slices_Index_int_B2
      simp only
      rw [ltI_f (by omega)]; rfl) ()
  unfold slices_Index_int slices_Index_int_L2
  dsimp only
  rw [show ((0 : Int)) = ((0 : Nat) : Int) from rfl, h]
  rcases fold_find (fun a => eqI v a) l 0 with ⟨h1, h2⟩ | ⟨k, a, h1, h2, h3⟩
  · rw [h1]
    refine .inl ⟨rfl, fun hm => ?_⟩
    have := h2 v hm
    simp [eqI] at this
  · rw [h3]
    have : v = a := by simpa [eqI] using h2
    subst this
    exact .inr ⟨k, h1, by simp only [Option.bind_some, Sum.elim_inr, Sum.elim_inl, Nat.zero_add]⟩
theorem clone_int (l : List Int) (hl : l.length ≤ 68719476736) : slices_Clone_int (l, ()) = some (l, ()) := by
  unfold slices_Clone_int
  dsimp only
  rw [app_of (by simpa using hl), Option.bind_some, List.nil_append]
  cases l with
  | nil => simp [both]
  | cons a l => rfl
theorem clone_arc (l : List Arc) (hl : l.length ≤ 68719476736) : slices_Clone_Arc (l, ()) = some (l, ()) := by
  unfold slices_Clone_Arc
  dsimp only
  rw [app_of (by simpa using hl), Option.bind_some, List.nil_append]
  cases l with
  | nil => simp [both]
  | cons a l => rfl
theorem copied_eq (N : Int) (E : List Arc) (A : List (List Int)) (hE : E.length ≤ 1000000) (hA : A.length ≤ 1000000) (hl : ∀ l ∈ A, l.length ≤ 1000000) : insert_copied ((N, E, A, ()), ()) = some ((N, E, A, ()), ()) := by
  have h := scanI (B := insert_copied_B3) (fun i (s : List (List Int)) => s = A.take i) (fun s i => (0, N, E, s, A, ((A.length : Nat) : Int), (i : Int), ())) (fun s => .inl (0, N, E, s, ())) (fun (e : Empty) => e.elim)
    (fun _ s (l : List Int) => some (.inl (s ++ [l]))) A (by
      intro s i l hs hl'
      have hi : i < A.length := (List.getElem?_eq_some_iff.1 hl').1
      unfold insert_copied_B3
      simp only
      rw [ltI_t (by omega), cond_true, getI_of, hl', Option.bind_some, clone_int l (by have := hl l (List.mem_of_getElem? hl'); omega), Option.bind_some, app_of (by rw [hs]; simp; omega), Option.bind_some, add1 (by omega)]
      rfl) (by
      intro s i l t hs hl' ht
      simp only [Option.some.injEq, Sum.inl.injEq] at ht
      subst ht
      rw [hs, List.take_add_one, hl']; rfl) (by
      intro s _
      unfold insert_copied_B3
      simp only
      rw [ltI_f (by omega)]; rfl) [] (by simp)
  have hf : ∀ (l : List (List Int)) (i : Nat) (s : List (List Int)), foldE (fun (_ : Nat) s (x : List Int) => (some (.inl (s ++ [x])) : Option (List (List Int) ⊕ Empty))) i s l = some (.inl (s ++ l)) := by
    intro l
    induction l with
    | nil => intro i s; simp [foldE]
    | cons x l ih =>
      intro i s
      simp only [foldE, Option.bind_some, Sum.elim_inl]
      rw [ih]
      simp
  unfold insert_copied
  dsimp only
  rw [clone_arc E (by omega), Option.bind_some]
  unfold insert_copied_L3
  rw [show ((0, N, E, [], A, ((A.length : Nat) : Int), 0, ()) : Int × Int × List Arc × List (List Int) × List (List Int) × Int × Int × Unit) = (0, N, E, [], A, ((A.length : Nat) : Int), ((0 : Nat) : Int), ()) from rfl, h, hf]
  rfl
end Go.Vm

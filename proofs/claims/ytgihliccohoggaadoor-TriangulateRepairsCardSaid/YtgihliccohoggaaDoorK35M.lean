/-
  Mirrored systems.
-/
import Derived.Test.YtgihliccohoggaaDoorK33Q
set_option linter.unusedVariables false
set_option linter.unusedSimpArgs false
namespace Go.Vm
open Go.Proofs
set_option maxRecDepth 100000
attribute [local irreducible] loopFix
theorem fold_app {α β : Type} (f : α → β) : ∀ (l : List α) (i : Nat) (acc : List β), foldE (ε := Empty) (fun (_ : Nat) (acc : List β) a => some (.inl (acc ++ [f a]))) i acc l = some (.inl (acc ++ l.map f))
  | [], i, acc => by simp [foldE]
  | a :: l, i, acc => by
    simp only [foldE, Option.bind_some, Sum.elim_inl, fold_app f l (i + 1)]
    simp
theorem reverse_int (l : List Int) (h : l.length ≤ 68719476736) : slices_Reverse_int (l, ()) = some (l.reverse, ()) := by
  unfold slices_Reverse_int
  simp only
  have := rev_all l h
  rw [show slices_Reverse_int_L1 (l, (0, ((subI .i64 (l.length : Nat) 1), ()))) = some (.inl (l.reverse, ())) from this]
  rfl
section
variable {E : List Arc} {A : List (List Int)} {N : Nat}
theorem rot_mirror (h : RotOK (N : Nat) E A) (hv : validB ((N : Int), E, A, ()) = true) (hA : ∀ l ∈ A, l.length ≤ 9223372036854775807) :
    rotation_Mirror (((N : Int), E, A, ()), ()) = some (((N : Int), E, A.map List.reverse, ()), ()) := by
  have hm1 := h.m1
  have hn1 := h.n1
  have hlen := h.len
  unfold rotation_Mirror
  simp only
  rw [valid_eq ((N : Int), E, A, ()) hA, hv, Option.bind_some]
  simp only [Bool.not_true, cond_false]
  rw [clone_arc E (by omega), Option.bind_some]
  simp only
  have key := scanI (B := rotation_Mirror_B5) (ε := Empty) (fun i (acc : List (List Int)) => acc.length = i) (fun acc i => (0, (N : Int), E, acc, A, ((A.length : Nat) : Int), (i : Int), ())) (fun acc => .inl (0, (N : Int), E, acc, ())) (fun e => nomatch e)
    (fun _ acc l => some (.inl (acc ++ [l.reverse]))) A (by
      intro acc i l hI hd'
      have hi : i < A.length := (List.getElem?_eq_some_iff.1 hd').1
      have hll := h.list_len (List.mem_of_getElem? hd')
      simp only [rotation_Mirror_B5]
      rw [ltI_t (by omega), cond_true, getI_of, hd', Option.bind_some, clone_int l (by omega), Option.bind_some]
      simp only
      rw [reverse_int l (by omega), Option.bind_some]
      simp only
      rw [app_of (by simp; omega), Option.bind_some, add1 (by omega)]
      rfl) (by
      intro acc i l t hI _ hg
      cases hg
      simp [hI]) (by
      intro acc _
      simp only [rotation_Mirror_B5]
      rw [ltI_f (by omega)]; rfl) [] rfl
  rw [show rotation_Mirror_L5 (0, (N : Int), E, [], A, ((A.length : Nat) : Int), 0, ()) = _ from key, fold_app]
  rfl
end
theorem flat_perm : ∀ A : List (List Int), ((A.map List.reverse).flatten).Perm A.flatten
  | [] => List.Perm.refl _
  | l :: A => by
    simp only [List.map_cons, List.flatten_cons]
    exact List.Perm.append (List.reverse_perm l) (flat_perm A)
section
variable {E : List Arc} {A : List (List Int)} {N : Nat}
theorem RotOK.mirror (h : RotOK (N : Nat) E A) : RotOK (N : Nat) E (A.map List.reverse) where
  n0 := h.n0
  n1 := h.n1
  m1 := h.m1
  len := by simpa using h.len
  edge := h.edge
  dart := by
    intro v l hl d hd
    rw [List.getElem?_map] at hl
    cases e : A[v]? with
    | none => rw [e] at hl; cases hl
    | some l0 =>
      rw [e] at hl
      have : l0.reverse = l := by simpa using hl
      subst this
      exact h.dart v l0 e d (List.mem_reverse.1 hd)
  nodup := (flat_perm A).nodup_iff.2 h.nodup
  all := by rw [(flat_perm A).length_eq]; exact h.all
end
end Go.Vm

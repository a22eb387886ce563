/-
  Joined vertices; simple systems; the errors.
-/
import Derived.Test.YtgihliccohoggaaDoorK35A
import Derived.Test.YtgihliccohoggaaDoorK35F
set_option linter.unusedVariables false
set_option linter.unusedSimpArgs false
namespace Go.Vm
open Go.Proofs
set_option maxRecDepth 100000
attribute [local irreducible] loopFix
def jn (a b : Int) (x : Arc) : Bool := (eqI x.1 a && eqI x.2.1 b) || (eqI x.1 b && eqI x.2.1 a)
def joinedB (E : List Arc) (a b : Int) : Bool := E.any (jn a b)
theorem any_fold {α : Type} (p : Nat → α → Bool) : ∀ (l : List α) (i : Nat), (foldE (fun i (_ : Unit) a => (some (cond (p i a) (.inr ()) (.inl ())) : Option (Unit ⊕ Unit))) i () l = some (.inl ()) ∧ ∀ j a, l[j]? = some a → p (i + j) a = false) ∨
    (foldE (fun i (_ : Unit) a => (some (cond (p i a) (.inr ()) (.inl ())) : Option (Unit ⊕ Unit))) i () l = some (.inr ()) ∧ ∃ j a, l[j]? = some a ∧ p (i + j) a = true)
  | [], i => .inl ⟨rfl, by simp⟩
  | a :: l, i => by
    simp only [foldE, Option.bind_some]
    cases h : p i a with
    | true => exact .inr ⟨rfl, 0, a, rfl, h⟩
    | false =>
      simp only [cond_false, Sum.elim_inl]
      rcases any_fold p l (i + 1) with ⟨h1, h2⟩ | ⟨h1, j, b, h2, h3⟩
      · refine .inl ⟨h1, fun j b hb => ?_⟩
        cases j with
        | zero => simp at hb; subst hb; exact h
        | succ j => have := h2 j b (by simpa using hb); rwa [show i + (j + 1) = i + 1 + j by omega]
      · exact .inr ⟨h1, j + 1, b, by simpa using h2, by rwa [show i + (j + 1) = i + 1 + j by omega]⟩
theorem any_val {α : Type} (p : α → Bool) (l : List α) : foldE (fun _ (_ : Unit) a => (some (cond (p a) (.inr ()) (.inl ())) : Option (Unit ⊕ Unit))) 0 () l = some (cond (l.any p) (.inr ()) (.inl ())) := by
  rcases any_fold (fun _ => p) l 0 with ⟨h1, h2⟩ | ⟨h1, j, a, h2, h3⟩
  · rw [h1]
    have : l.any p = false := by
      rw [List.any_eq_false]
      intro a ha
      obtain ⟨j, hj⟩ := List.mem_iff_getElem?.1 ha
      rw [h2 j a hj]; simp
    rw [this]; rfl
  · rw [h1]
    have : l.any p = true := List.any_eq_true.2 ⟨a, List.mem_of_getElem? h2, h3⟩
    rw [this]; rfl
theorem joined_eq (N : Int) (E : List Arc) (A : List (List Int)) (a b : Int) (hE : E.length ≤ 1000000) : triangulate_joined ((N, E, A, ()), a, b, ()) = some (joinedB E a b, ()) := by
  have h := scan (B := triangulate_joined_B2) (fun (_ : Unit) i => (a, b, E, ((E.length : Nat) : Int), (i : Int), ())) (fun _ => .inr (.inl ())) (fun (_ : Unit) => .inl (true, ()))
    (fun _ (_ : Unit) (x : Arc) => some (cond (jn a b x) (.inr ()) (.inl ()))) E (by
      intro _ i x hx
      have hi : i < E.length := (List.getElem?_eq_some_iff.1 hx).1
      unfold triangulate_joined_B2
      simp only
      rw [ltI_t (by omega), cond_true, getI_of, hx, Option.bind_some, add1 (by omega)]
      unfold jn
      cases eqI x.1 a <;> cases eqI x.2.1 b <;> cases eqI x.1 b <;> cases eqI x.2.1 a <;> rfl) (by
      intro _
      unfold triangulate_joined_B2
      simp only
      rw [ltI_f (by omega)]; rfl) ()
  unfold triangulate_joined triangulate_joined_L2
  dsimp only
  rw [show ((0 : Int)) = ((0 : Nat) : Int) from rfl, h, any_val]
  unfold joinedB
  cases E.any (jn a b) <;> rfl
theorem rjoined_eq (N : Int) (E : List Arc) (A : List (List Int)) (a b : Int) (hE : E.length ≤ 1000000) : layoutref35_joined ((N, E, A, ()), a, b, ()) = some (joinedB E a b, ()) := by
  have h := scan (B := layoutref35_joined_B2) (fun (_ : Unit) i => (N, E, A, a, b, (i : Int), ())) (fun _ => .inr (.inl ())) (fun (_ : Unit) => .inl (true, ()))
    (fun _ (_ : Unit) (x : Arc) => some (cond (jn a b x) (.inr ()) (.inl ()))) E (by
      intro _ i x hx
      have hi : i < E.length := (List.getElem?_eq_some_iff.1 hx).1
      unfold layoutref35_joined_B2
      simp only
      rw [ltI_t (by omega), cond_true, getI_of, hx, Option.bind_some, add1 (by omega)]
      unfold jn
      cases eqI x.1 a <;> cases eqI x.2.1 b <;> cases eqI x.1 b <;> cases eqI x.2.1 a <;> rfl) (by
      intro _
      unfold layoutref35_joined_B2
      simp only
      rw [ltI_f (by omega)]; rfl) ()
  unfold layoutref35_joined layoutref35_joined_L2
  dsimp only
  rw [show ((0 : Int)) = ((0 : Nat) : Int) from rfl, h, any_val]
  unfold joinedB
  cases E.any (jn a b) <;> rfl
def Simp (E : List Arc) : Prop := ∀ (i : Nat) (b : Arc), E[i]? = some b → joinedB (E.take i) b.1 b.2.1 = false
theorem eqK_arc (x y : Arc) : eqK (.prod I (.prod I .unit)) x y = (eqI x.1 y.1 && (eqI x.2.1 y.2.1 && true)) := rfl
def nrm (x : Arc) : Arc := (minI x.1 x.2.1, maxI x.1 x.2.1, ())
theorem nrm_aux (a b c d : Int) : (eqI (minI a b) (minI c d) && eqI (maxI a b) (maxI c d)) = ((eqI c a && eqI d b) || (eqI c b && eqI d a)) := by
  have key : (minI a b = minI c d ∧ maxI a b = maxI c d) ↔ ((c = a ∧ d = b) ∨ (c = b ∧ d = a)) := by
    unfold minI maxI
    constructor
    · rintro ⟨h1, h2⟩
      split at h1 <;> split at h1 <;> split at h2 <;> split at h2 <;> omega
    · rintro (⟨rfl, rfl⟩ | ⟨rfl, rfl⟩)
      · exact ⟨rfl, rfl⟩
      · constructor
        · split <;> split <;> omega
        · split <;> split <;> omega
  rw [Bool.eq_iff_iff]
  simp only [Bool.and_eq_true, Bool.or_eq_true, eqI, beq_iff_eq, decide_eq_true_eq]
  exact key
theorem nrm_jn (x y : Arc) : eqK (.prod I (.prod I .unit)) (nrm x) (nrm y) = jn x.1 x.2.1 y := by
  rw [eqK_arc, Bool.and_true]
  exact nrm_aux x.1 x.2.1 y.1 y.2.1
theorem map_get (x : Arc) : ∀ s : List Arc, mapGet (.prod I (.prod I .unit)) .bool (nrm x) (s.map fun y => (nrm y, true)) = cond (s.any (jn x.1 x.2.1)) (some true) none
  | [] => rfl
  | y :: s => by
    simp only [List.map_cons, mapGet, List.any_cons]
    rw [map_get x s, nrm_jn]
    cases jn x.1 x.2.1 y <;> rfl
theorem map_set (x : Arc) : ∀ s : List Arc, s.any (jn x.1 x.2.1) = false → mapSet (.prod I (.prod I .unit)) .bool (nrm x) true (s.map fun y => (nrm y, true)) = (s ++ [x]).map fun y => (nrm y, true)
  | [], _ => rfl
  | y :: s, h => by
    simp only [List.any_cons, Bool.or_eq_false_iff] at h
    simp only [List.map_cons, mapSet, List.cons_append]
    rw [nrm_jn, h.1, cond_false, map_set x s h.2]
theorem simple_eq (N : Int) (E : List Arc) (A : List (List Int)) (hE : E.length ≤ 1000000) : ∃ b, triangulate_simple ((N, E, A, ()), ()) = some (b, ()) ∧ layoutref35_Simple ((N, E, A, ()), ()) = some (b, ()) ∧ (b = true ↔ Simp E) := by
  have h := scan (B := layoutref35_Simple_B2) (fun (_ : Unit) i => (N, E, A, (i : Int), ())) (fun _ => .inr (.inl ())) (fun (_ : Unit) => .inl (false, ()))
    (fun i (_ : Unit) (x : Arc) => some (cond (joinedB (E.take i) x.1 x.2.1) (.inr ()) (.inl ()))) E (by
      intro _ i x hx
      have hi : i < E.length := (List.getElem?_eq_some_iff.1 hx).1
      have hs : sliceL E 0 (i : Int) = some (E.take i) := by
        unfold sliceL
        rw [if_pos ⟨by omega, by omega, by omega⟩]
        simp
      unfold layoutref35_Simple_B2
      simp only
      rw [ltI_t (by omega), cond_true, hs, Option.bind_some, getI_of, hx, Option.bind_some, Option.bind_some, rjoined_eq _ _ _ _ _ (by simp; omega), Option.bind_some, add1 (by omega)]
      simp only [Option.bind_some]
      cases joinedB (E.take i) x.1 x.2.1 <;> rfl) (by
      intro _
      unfold layoutref35_Simple_B2
      simp only
      rw [ltI_f (by omega)]; rfl) ()
  have k := scanI (B := triangulate_simple_B3) (fun i (m : List (Arc × Bool)) => m = (E.take i).map fun y => (nrm y, true)) (fun m i => (m, E, ((E.length : Nat) : Int), (i : Int), ())) (fun _ => .inr (.inl ())) (fun (_ : Unit) => .inl (false, ()))
    (fun i m (x : Arc) => some (cond (joinedB (E.take i) x.1 x.2.1) (.inr ()) (.inl (m ++ [(nrm x, true)])))) E (by
      intro m i x hm hx
      have hi : i < E.length := (List.getElem?_eq_some_iff.1 hx).1
      unfold triangulate_simple_B3
      simp only
      rw [ltI_t (by omega), cond_true, getI_of, hx, Option.bind_some, add1 (by omega), hm]
      have e1 : mapGet (.prod I (.prod I .unit)) .bool (minI x.1 x.2.1, maxI x.1 x.2.1, ()) ((E.take i).map fun y => (nrm y, true)) = _ := map_get x (E.take i)
      rw [e1]
      unfold joinedB
      cases hb : (E.take i).any (jn x.1 x.2.1) with
      | true => rfl
      | false =>
        have e2 : mapSet (.prod I (.prod I .unit)) .bool (minI x.1 x.2.1, maxI x.1 x.2.1, ()) true ((E.take i).map fun y => (nrm y, true)) = _ := map_set x (E.take i) hb
        simp only [cond_false, Option.getD_none]
        rw [e2]
        simp
        rfl) (by
      intro m i x t hm hx ht
      cases hb : joinedB (E.take i) x.1 x.2.1 with
      | true => rw [hb] at ht; cases ht
      | false =>
        rw [hb] at ht
        simp only [cond_false, Option.some.injEq, Sum.inl.injEq] at ht
        subst ht
        rw [hm, List.take_add_one, hx]
        simp) (by
      intro m _
      unfold triangulate_simple_B3
      simp only
      rw [ltI_f (by omega)]; rfl) [] (by simp)
  have two : ∀ (l : List Arc) (i : Nat) (m : List (Arc × Bool)), (foldE (fun i m (x : Arc) => (some (cond (joinedB (E.take i) x.1 x.2.1) (.inr ()) (.inl (m ++ [(nrm x, true)]))) : Option (List (Arc × Bool) ⊕ Unit))) i m l).map (Sum.elim (fun _ => true) fun _ => false) =
      (foldE (fun i (_ : Unit) (x : Arc) => (some (cond (joinedB (E.take i) x.1 x.2.1) (.inr ()) (.inl ())) : Option (Unit ⊕ Unit))) i () l).map (Sum.elim (fun _ => true) fun _ => false) := by
    intro l
    induction l with
    | nil => intro i m; rfl
    | cons x l ih =>
      intro i m
      simp only [foldE, Option.bind_some]
      cases joinedB (E.take i) x.1 x.2.1 with
      | true => rfl
      | false => simp only [cond_false, Sum.elim_inl]; exact ih (i + 1) _
  have t2 := two E 0 []
  unfold triangulate_simple triangulate_simple_L3 layoutref35_Simple layoutref35_Simple_L2
  dsimp only
  rw [show ((0 : Int)) = ((0 : Nat) : Int) from rfl, h, show loopFix triangulate_simple_B3 ([], E, ((E.length : Nat) : Int), ((0 : Nat) : Int), ()) = _ from k]
  rcases any_fold (fun i (x : Arc) => joinedB (E.take i) x.1 x.2.1) E 0 with ⟨h1, h2⟩ | ⟨h1, j, a, h2, h3⟩
  · rw [h1] at t2 ⊢
    refine ⟨true, ?_, rfl, by simp only [true_iff]; intro i b hb; have := h2 i b hb; rwa [Nat.zero_add] at this⟩
    cases hq : foldE (fun i m (x : Arc) => (some (cond (joinedB (E.take i) x.1 x.2.1) (.inr ()) (.inl (m ++ [(nrm x, true)]))) : Option (List (Arc × Bool) ⊕ Unit))) 0 [] E with
    | none => rw [hq] at t2; cases t2
    | some r => cases r with
      | inl _ => rfl
      | inr _ => rw [hq] at t2; simp at t2
  · rw [h1] at t2 ⊢
    refine ⟨false, ?_, rfl, ?_⟩
    · cases hq : foldE (fun i m (x : Arc) => (some (cond (joinedB (E.take i) x.1 x.2.1) (.inr ()) (.inl (m ++ [(nrm x, true)]))) : Option (List (Arc × Bool) ⊕ Unit))) 0 [] E with
      | none => rw [hq] at t2; cases t2
      | some r => cases r with
        | inl _ => rw [hq] at t2; simp at t2
        | inr _ => rfl
    · simp only [Bool.false_eq_true, false_iff]
      intro hs
      have := hs j a h2
      rw [Nat.zero_add] at h3
      rw [h3] at this; cases this
theorem check35 (N : Int) (E : List Arc) (A : List (List Int)) (hl : ∀ l ∈ A, l.length ≤ 9223372036854775807) : ∃ e, triangulate_check ((N, E, A, ()), ()) = some (e, ()) ∧ layoutref35_check ((N, E, A, ()), ()) = some (e, ()) ∧
    (e = 0 → ∃ n : Nat, N = (n : Int) ∧ RotOK (n : Int) E A ∧ 3 ≤ n ∧ Conn n E ∧ Simp E ∧ ∀ nx, Fol oth E A nx → genZ n E A (facesOf nx).length = 0) := by
  unfold triangulate_check layoutref35_check
  simp only
  rw [valid_eq (N, E, A, ()) hl, Option.bind_some]
  cases hv : validB (N, E, A, ()) with
  | false =>
    refine ⟨13, rfl, ?_, by simp⟩
    have : layoutref29_Genus ((N, E, A, ()), ()) = some (-1, ()) := by
      unfold layoutref29_Genus
      simp only
      rw [rvalid_eq (N, E, A, ()) hl, hv, Option.bind_some]
      rfl
    rw [this]
    rfl
  | true =>
    have h := valid_ok hv
    obtain ⟨n, rfl⟩ : ∃ n : Nat, N = (n : Int) := ⟨N.toNat, (Int.toNat_of_nonneg h.n0).symm⟩
    obtain ⟨nx, _, hn⟩ := follow_eq h ()
    have hm1 := h.m1
    simp only [Bool.not_true, cond_false]
    rw [(genus_val h hn).1, (genus_val h hn).2]
    simp only [Option.bind_some]
    cases hg : neI (genZ n E A (facesOf nx).length) 0 with
    | true => exact ⟨13, rfl, rfl, by simp⟩
    | false =>
      have hg0 : genZ n E A (facesOf nx).length = 0 := by simpa [neI] using hg
      simp only [cond_false]
      obtain ⟨b, b1, b2⟩ := tconnected_eq h
      obtain ⟨c, c1, c2, c3⟩ := rcomps_eq h
      rw [b1, c1]
      simp only [Option.bind_some]
      by_cases hc : 0 < n ∧ Conn n E
      · have hb : b = true := b2.2 hc
        have hc1 : c = 1 := (c3 hc.1).2 hc.2
        subst hb
        subst hc1
        rw [neI_f (by rfl)]
        simp only [Bool.not_true, cond_false]
        obtain ⟨s, s1, s2, s3⟩ := simple_eq (n : Int) E A (by omega)
        rw [s1, s2]
        simp only [Option.bind_some]
        cases s with
        | false => exact ⟨6, rfl, rfl, by simp⟩
        | true =>
          simp only [Bool.not_true, cond_false]
          by_cases h3 : n < 3
          · rw [ltI_t (by omega)]; exact ⟨1, rfl, rfl, by simp⟩
          · rw [ltI_f (by omega)]
            exact ⟨0, rfl, rfl, fun _ => ⟨n, rfl, h, by omega, hc.2, s3.1 rfl, fun mx hmx => by rw [fol_uniq h hn hmx]; exact hg0⟩⟩
      · have hb : b = false := by
          cases hbb : b with
          | false => rfl
          | true => exact absurd (b2.1 hbb) hc
        subst hb
        refine ⟨12, rfl, ?_, by simp⟩
        rw [neI_t (by
          intro e
          have e1 : c = 1 := by omega
          by_cases h0 : 0 < n
          · exact hc ⟨h0, (c3 h0).1 e1⟩
          · omega)]
        rfl
end Go.Vm

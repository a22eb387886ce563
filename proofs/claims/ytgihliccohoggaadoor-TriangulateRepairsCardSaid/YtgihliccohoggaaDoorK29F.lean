/-
  What is reached from a vertex.
-/
import Derived.Test.YtgihliccohoggaaDoorK29E
set_option linter.unusedVariables false
set_option linter.unusedSimpArgs false
namespace Go.Vm
open Go.Proofs
set_option maxRecDepth 100000
attribute [local irreducible] loopFix
def hd (E : List Arc) (k : Nat) : Int := tl E (oth k)
inductive Reach (E : List Arc) : Nat → Nat → Prop
  | refl (v : Nat) : Reach E v v
  | step {u v w k : Nat} (h : Reach E u v) (hk : k < 2 * E.length) (h1 : tl E k = v) (h2 : hd E k = w) : Reach E u w
theorem Reach.trans {E : List Arc} {u v w : Nat} (h1 : Reach E u v) (h2 : Reach E v w) : Reach E u w := by
  induction h2 with
  | refl => exact h1
  | step _ hk e1 e2 ih => exact .step ih hk e1 e2
theorem Reach.symm {E : List Arc} {u v : Nat} (h : Reach E u v) : Reach E v u := by
  induction h with
  | refl => exact .refl _
  | step _ hk e1 e2 ih =>
    refine Reach.trans (.step (.refl _) (oth_lt hk) e2 ?_) ih
    unfold hd; rw [oth_oth]; exact e1
def Conn (N : Nat) (E : List Arc) : Prop := ∀ v, v < N → Reach E 0 v
section
variable {N : Nat} {E : List Arc} {A : List (List Int)}
theorem RotOK.tl_lt (h : RotOK (N : Nat) E A) {k : Nat} (hk : k < 2 * E.length) : ∃ v : Nat, tl E k = v ∧ v < N := by
  have h1 : k / 2 < E.length := by omega
  obtain ⟨a, ha⟩ : ∃ a, E[k / 2]? = some a := ⟨_, List.getElem?_eq_getElem h1⟩
  obtain ⟨e1, e2, e3, e4, _⟩ := h.edge a (List.mem_of_getElem? ha)
  unfold tl
  rw [ha]
  by_cases e : k % 2 = 0
  · exact ⟨a.1.toNat, by simp [e]; omega, by omega⟩
  · exact ⟨a.2.1.toNat, by simp [e]; omega, by omega⟩
theorem RotOK.hd_lt (h : RotOK (N : Nat) E A) {k : Nat} (hk : k < 2 * E.length) : ∃ v : Nat, hd E k = v ∧ v < N := h.tl_lt (oth_lt hk)
theorem RotOK.around (h : RotOK (N : Nat) E A) {k v : Nat} (hk : k < 2 * E.length) (hv : tl E k = v) {l : List Int} (hl : A[v]? = some l) : (k : Int) ∈ l := by
  obtain ⟨l', hl', hd'⟩ := List.mem_flatten.1 (h.mem hk)
  obtain ⟨v', hv'⟩ := List.mem_iff_getElem?.1 hl'
  obtain ⟨k', e1, _, e3⟩ := h.dart v' l' hv' _ hd'
  have : k = k' := by omega
  subst this
  rw [hv] at e3
  have : v = v' := by omega
  subst this
  rw [hl] at hv'; cases hv'
  exact hd'
def expl (E : List Arc) (_ : Nat) (s : List Bool × List Int) (d : Int) : Option ((List Bool × List Int) ⊕ Empty) :=
  some (.inl (if s.1[(hd E d.toNat).toNat]? = some false then (s.1.set (hd E d.toNat).toNat true, s.2 ++ [hd E d.toNat]) else s))
theorem expl_spec (hN : ∀ k, k < 2 * E.length → ∃ v : Nat, hd E k = v ∧ v < N) : ∀ (l : List Int) (i : Nat) (seen : List Bool) (st : List Int), seen.length = N → (∀ d ∈ l, ∃ k : Nat, d = (k : Int) ∧ k < 2 * E.length) →
    ∃ seen' new, foldE (expl E) i (seen, st) l = some (.inl (seen', st ++ new)) ∧ seen'.length = N ∧ new.length + unm seen' = unm seen ∧
      (∀ v, v < N → (seen'[v]? = some true ↔ seen[v]? = some true ∨ ∃ k : Nat, (k : Int) ∈ l ∧ hd E k = v)) ∧ (∀ v : Nat, v < N → seen'[v]? = some true → seen[v]? = some true ∨ (v : Int) ∈ new) ∧
      (∀ d ∈ new, ∃ v : Nat, d = (v : Int) ∧ v < N ∧ seen'[v]? = some true)
  | [], i, seen, st, hs, _ => ⟨seen, [], by simp [foldE], hs, by simp, by simp, fun v _ h => .inl h, by simp⟩
  | d :: l, i, seen, st, hs, hl => by
    obtain ⟨k, rfl, hk⟩ := hl d (by simp)
    obtain ⟨w, hw, hwN⟩ := hN k hk
    have hl' : ∀ d ∈ l, ∃ k : Nat, d = (k : Int) ∧ k < 2 * E.length := fun d hd => hl d (by simp [hd])
    simp only [foldE, expl, Int.toNat_natCast, hw, Option.bind_some, Sum.elim_inl]
    by_cases hb : seen[w]? = some false
    · rw [if_pos hb]
      obtain ⟨seen', new, h1, h2, h3, h4, h5, h6⟩ := expl_spec hN l (i + 1) (seen.set w true) (st ++ [(w : Int)]) (by simpa using hs) hl'
      have hu := unm_set hb
      have hset : ∀ v, v < N → ((seen.set w true)[v]? = some true ↔ seen[v]? = some true ∨ v = w) := by
        intro v hv
        rw [List.getElem?_set]
        by_cases e : w = v
        · subst e; simp; omega
        · rw [if_neg e]; simp [Ne.symm e]
      refine ⟨seen', (w : Int) :: new, by rw [h1]; simp, h2, by simp only [List.length_cons]; omega, ?_, ?_, ?_⟩
      · intro v hv
        rw [h4 v hv, hset v hv]
        constructor
        · rintro ((h | h) | ⟨j, hj, hj2⟩)
          · exact .inl h
          · exact .inr ⟨k, by simp, by rw [hw, h]⟩
          · exact .inr ⟨j, by simp [hj], hj2⟩
        · rintro (h | ⟨j, hj, hj2⟩)
          · exact .inl (.inl h)
          · rcases List.mem_cons.1 hj with hj | hj
            · have : j = k := by omega
              subst this
              exact .inl (.inr (by rw [hw] at hj2; omega))
            · exact .inr ⟨j, hj, hj2⟩
      · intro v hv h
        rcases h5 v hv h with h | h
        · rcases (hset v hv).1 h with h | h
          · exact .inl h
          · exact .inr (by simp [h])
        · exact .inr (by simp [h])
      · intro d hd
        rcases List.mem_cons.1 hd with rfl | hd
        · exact ⟨w, rfl, hwN, (h4 w hwN).2 (.inl ((hset w hwN).2 (.inr rfl)))⟩
        · exact h6 d hd
    · rw [if_neg hb]
      have hbt : seen[w]? = some true := by
        obtain ⟨b, hb'⟩ : ∃ b, seen[w]? = some b := ⟨_, List.getElem?_eq_getElem (by omega)⟩
        cases b with
        | true => exact hb'
        | false => exact absurd hb' hb
      obtain ⟨seen', new, h1, h2, h3, h4, h5, h6⟩ := expl_spec hN l (i + 1) seen st hs hl'
      refine ⟨seen', new, h1, h2, h3, ?_, h5, h6⟩
      intro v hv
      rw [h4 v hv]
      constructor
      · rintro (h | ⟨j, hj, hj2⟩)
        · exact .inl h
        · exact .inr ⟨j, by simp [hj], hj2⟩
      · rintro (h | ⟨j, hj, hj2⟩)
        · exact .inl h
        · rcases List.mem_cons.1 hj with hj | hj
          · have : j = k := by omega
            subst this
            have : v = w := by rw [hw] at hj2; omega
            subst this
            exact .inl hbt
          · exact .inr ⟨j, hj, hj2⟩
theorem Tail_eq (h : RotOK (N : Nat) E A) (hv : validB ((N : Int), E, A, ()) = true) (hl : ∀ l ∈ A, l.length ≤ 9223372036854775807) {k : Nat} (hk : k < 2 * E.length) : rotation_Tail (((N : Int), E, A, ()), ((k : Int), ())) = some (tl E k, ()) := by
  have hm1 := h.m1
  unfold rotation_Tail
  simp only
  rw [valid_eq ((N : Int), E, A, ()) hl, hv, Option.bind_some]
  simp only [Bool.not_true, cond_false]
  have e2 : mulI .i64 2 (E.length : Nat) = ((2 * E.length : Nat) : Int) := by rw [mulI64 (by omega) (by omega)]; omega
  have hke : k / 2 < E.length := by omega
  obtain ⟨a, ha⟩ : ∃ a, E[k / 2]? = some a := ⟨_, List.getElem?_eq_getElem hke⟩
  rw [ltI_f (by omega), cond_false, e2, geI_f (by omega), cond_false, quo2 (by omega), getI_of, ha, Option.bind_some, rem2, tail_eq, Option.bind_some]
  simp [tl, ha]
structure Look (N : Nat) (E : List Arc) (seen : List Bool) (st : List Int) : Prop where
  len : seen.length = N
  stk : ∀ d ∈ st, ∃ v : Nat, d = (v : Int) ∧ v < N ∧ seen[v]? = some true
  closed : ∀ v : Nat, v < N → seen[v]? = some true → (v : Int) ∉ st → ∀ k w : Nat, k < 2 * E.length → tl E k = v → hd E k = w → seen[w]? = some true
  reach : ∀ v : Nat, v < N → seen[v]? = some true → Reach E 0 v
  zero : seen[0]? = some true
theorem Look.step (h : RotOK (N : Nat) E A) {seen seen' : List Bool} {st new : List Int} {v : Nat} {l : List Int} (hL : Look N E seen st) (hvN : v < N) (hv : (v : Int) ∈ st) (hl : A[v]? = some l) (rest : List Int) (hrest : ∀ d, d ∈ st ↔ d = (v : Int) ∨ d ∈ rest)
    (h2 : seen'.length = N) (h4 : ∀ v, v < N → (seen'[v]? = some true ↔ seen[v]? = some true ∨ ∃ k : Nat, (k : Int) ∈ l ∧ hd E k = v)) (h5 : ∀ v : Nat, v < N → seen'[v]? = some true → seen[v]? = some true ∨ (v : Int) ∈ new)
    (h6 : ∀ d ∈ new, ∃ v : Nat, d = (v : Int) ∧ v < N ∧ seen'[v]? = some true) : Look N E seen' (rest ++ new) := by
  refine ⟨h2, ?_, ?_, ?_, ?_⟩
  · intro d hd'
    rcases List.mem_append.1 hd' with hd' | hd'
    · obtain ⟨u, e1, e2, e3⟩ := hL.stk d ((hrest d).2 (.inr hd'))
      exact ⟨u, e1, e2, (h4 u e2).2 (.inl e3)⟩
    · exact h6 d hd'
  · intro u hu hus hun k w hk hkt hkh
    obtain ⟨w', hw', hwN⟩ := h.hd_lt hk
    have : w = w' := by omega
    subst this
    rcases h5 u hu hus with hus | hus
    · by_cases e : u = v
      · subst e
        exact (h4 w hwN).2 (.inr ⟨k, h.around hk hkt hl, hkh⟩)
      · refine (h4 w hwN).2 (.inl (hL.closed u hu hus (fun hin => ?_) k w hk hkt hkh))
        rcases (hrest u).1 hin with e2 | e2
        · exact e (by omega)
        · exact hun (List.mem_append.2 (.inl e2))
    · exact absurd (List.mem_append.2 (.inr hus)) hun
  · intro u hu hus
    rcases (h4 u hu).1 hus with hus | ⟨k, hk, hkh⟩
    · exact hL.reach u hu hus
    · obtain ⟨_, e1, e2, e3⟩ := hL.stk v hv
      have hvv : v = _ := Int.ofNat.inj e1
      obtain ⟨k', f1, f2, f3⟩ := h.dart v l hl _ hk
      have : k = k' := by omega
      subst this
      exact .step (hL.reach v hvN (by rw [hvv]; exact e3)) f2 f3 hkh
  · exact (h4 0 (by omega)).2 (.inl hL.zero)
theorem Look.all (h : RotOK (N : Nat) E A) {seen : List Bool} (hL : Look N E seen []) : (∀ v, v < N → seen[v]? = some true) ↔ Conn N E := by
  constructor
  · intro ha v hv; exact hL.reach v hv (ha v hv)
  · intro hc v hv
    have : ∀ {u v : Nat}, Reach E u v → u = 0 → seen[v]? = some true := by
      intro u v hr
      induction hr with
      | refl => intro e; rw [e]; exact hL.zero
      | step hr' hk e1 e2 ih =>
        intro e
        obtain ⟨u', e3, e4⟩ := h.tl_lt hk
        rw [e1] at e3
        have : _ = u' := Int.ofNat.inj e3
        subst this
        exact hL.closed _ e4 (ih e) (by simp) _ _ hk e1 e2
    exact this (hc v hv) rfl
theorem unm_zero {seen : List Bool} : unm seen = 0 ↔ ∀ v, v < seen.length → seen[v]? = some true := by
  unfold unm
  rw [List.countP_eq_zero]
  constructor
  · intro h v hv
    have := h seen[v] (List.getElem_mem hv)
    rw [List.getElem?_eq_getElem hv]
    simpa using this
  · intro h b hb
    obtain ⟨i, hi, rfl⟩ := List.getElem_of_mem hb
    have := h i hi
    rw [List.getElem?_eq_getElem hi] at this
    simp at this
    simp [this]
end
end Go.Vm

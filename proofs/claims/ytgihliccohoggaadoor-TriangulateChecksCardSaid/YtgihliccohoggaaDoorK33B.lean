/-
  Darts on the same face.
-/
import Derived.Test.YtgihliccohoggaaDoorK33A
set_option linter.unusedVariables false
set_option linter.unusedSimpArgs false
namespace Go.Vm
open Go.Proofs
set_option maxRecDepth 100000
attribute [local irreducible] loopFix

section

variable {N : Nat} {E : List Arc} {A : List (List Int)} {nx : List Int}

theorem rTail_eq (h : RotOK (N : Nat) E A) (hv : validB ((N : Int), E, A, ()) = true) (hl : ∀ l ∈ A, l.length ≤ 9223372036854775807) {k : Nat} (hk : k < 2 * E.length) : layoutref29_Tail (((N : Int), E, A, ()), ((k : Int), ())) = some (tl E k, ()) := by
  have hm1 := h.m1
  unfold layoutref29_Tail
  simp only
  rw [rvalid_eq ((N : Int), E, A, ()) hl, hv, Option.bind_some]
  simp only [Bool.not_true, cond_false]
  have e2 : mulI .i64 2 (E.length : Nat) = ((2 * E.length : Nat) : Int) := by rw [mulI64 (by omega) (by omega)]; omega
  rw [ltI_f (by omega), cond_false, e2, geI_f (by omega), cond_false, tails_eq _ _ _ _ hm1, Option.bind_some]
  simp only
  rw [idxI_of (by rw [tails_length]; exact hk), Option.bind_some, tails_get E k hk]
  rfl

theorem rNext_eq (h : RotOK (N : Nat) E A) (hv : validB ((N : Int), E, A, ()) = true) (hl : ∀ l ∈ A, l.length ≤ 9223372036854775807) (hn : Fol oth E A nx) {k : Nat} (hk : k < 2 * E.length) {y : Int} (hy : nx[k]? = some y) :
    layoutref29_Next (((N : Int), E, A, ()), ((k : Int), ())) = some (y, ()) := by
  have hm1 := h.m1
  obtain ⟨fw, e2, f2⟩ := rfollow_eq h ()
  unfold layoutref29_Next
  simp only
  rw [rvalid_eq ((N : Int), E, A, ()) hl, hv, Option.bind_some]
  simp only [Bool.not_true, cond_false]
  have e3 : mulI .i64 2 (E.length : Nat) = ((2 * E.length : Nat) : Int) := by rw [mulI64 (by omega) (by omega)]; omega
  rw [ltI_f (by omega), cond_false, e3, geI_f (by omega), cond_false, e2, Option.bind_some, other_eq k (by omega), Option.bind_some]
  simp only
  obtain ⟨z, z1, z2, z3⟩ := fol_both h hn f2 hk
  rw [idxI_of (by rw [f2.len]; exact oth_lt hk), Option.bind_some, z3, ← z2, hy]
  rfl

open Classical in
theorem shared_loop (h : RotOK (N : Nat) E A) (hv : validB ((N : Int), E, A, ()) = true) (hl : ∀ l ∈ A, l.length ≤ 9223372036854775807) (hn : Fol oth E A nx) {g : List Int} (hg : Cyc nx g) (hnd : g.Nodup) (hel : ∀ x ∈ g, ∃ k : Nat, x = (k : Int) ∧ k < 2 * E.length)
    {i : Nat} (hi : i < g.length) (f : Int) : ∀ (r t : Nat), t + r = g.length → 0 < r →
    layoutref33_Shared_L2 ((N : Int), E, A, g[i], f, g.getD ((i + t) % g.length) 0, ()) = some (.inl (decide (∃ s, t ≤ s ∧ s < g.length ∧ g.getD ((i + s) % g.length) 0 = f), ()))
  | 0, t, _, hr => by omega
  | r + 1, t, ht, _ => by
    have hm : (i + t) % g.length < g.length := Nat.mod_lt _ (by omega)
    have hgd : g.getD ((i + t) % g.length) 0 = g[(i + t) % g.length] := by rw [List.getD_eq_getElem?_getD, List.getElem?_eq_getElem hm]; rfl
    obtain ⟨k, hk1, hk2⟩ := hel _ (List.getElem_mem hm)
    have hnext := hg.2 _ hm
    by_cases e : g.getD ((i + t) % g.length) 0 = f
    · refine (loop_done (r := .inl (true, ())) ?_).trans ?_
      · unfold layoutref33_Shared_B2
        simp only
        rw [eqI_t e]; rfl
      · rw [decide_eq_true]
        exact ⟨t, Nat.le_refl _, by omega, e⟩
    · have hmod : ((i + t) % g.length + 1) % g.length = (i + (t + 1)) % g.length := by
        rw [Nat.mod_add_mod, Nat.add_assoc]
      have hstep : layoutref29_Next (((N : Int), E, A, ()), (g.getD ((i + t) % g.length) 0, ())) = some (g.getD ((i + (t + 1)) % g.length) 0, ()) := by
        rw [hgd, hk1]
        refine rNext_eq h hv hl hn hk2 ?_
        rw [hk1, Int.toNat_natCast, hmod] at hnext
        exact hnext
      cases r with
      | zero =>
        have hend : g.getD ((i + (t + 1)) % g.length) 0 = g[i] := by
          rw [show i + (t + 1) = i + g.length by omega, Nat.add_mod_right, Nat.mod_eq_of_lt hi, List.getD_eq_getElem?_getD, List.getElem?_eq_getElem hi]; rfl
        refine (loop_done (r := .inl (false, ())) ?_).trans ?_
        · unfold layoutref33_Shared_B2
          simp only
          rw [eqI_f e, cond_false, hstep, Option.bind_some]
          simp only
          rw [eqI_t hend]; rfl
        · rw [decide_eq_false]
          rintro ⟨s, s1, s2, s3⟩
          have : s = t := by omega
          subst this
          exact e s3
      | succ r =>
        have hne : g.getD ((i + (t + 1)) % g.length) 0 ≠ g[i] := by
          have hm2 : (i + (t + 1)) % g.length < g.length := Nat.mod_lt _ (by omega)
          rw [List.getD_eq_getElem?_getD, List.getElem?_eq_getElem hm2]
          intro e2
          have e2 : g[(i + (t + 1)) % g.length] = g[i] := e2
          have := nodup_idx hnd hm2 hi e2
          rcases Nat.lt_or_ge (i + (t + 1)) g.length with c | c
          · rw [Nat.mod_eq_of_lt c] at this; omega
          · rw [Nat.mod_eq_sub_mod c, Nat.mod_eq_of_lt (by omega)] at this; omega
        refine (loop_step ?_).trans ((shared_loop h hv hl hn hg hnd hel hi f (r + 1) (t + 1) (by omega) (by omega)).trans ?_)
        · unfold layoutref33_Shared_B2
          simp only
          rw [eqI_f e, cond_false, hstep, Option.bind_some]
          simp only
          rw [eqI_f hne]; rfl
        · congr 3
          rw [decide_eq_decide]
          constructor
          · rintro ⟨s, s1, s2, s3⟩; exact ⟨s, by omega, s2, s3⟩
          · rintro ⟨s, s1, s2, s3⟩
            refine ⟨s, ?_, s2, s3⟩
            rcases Nat.eq_or_lt_of_le s1 with rfl | c
            · exact absurd s3 e
            · exact c

/-- On the same face? -/
theorem shared_eq (h : RotOK (N : Nat) E A) (hv : validB ((N : Int), E, A, ()) = true) (hl : ∀ l ∈ A, l.length ≤ 9223372036854775807) (hn : Fol oth E A nx) (hf : FsOK (2 * E.length) (facesOf nx)) (hnx : NxOK nx nx.length) {d f : Nat} (hd : d < 2 * E.length) (hf2 : f < 2 * E.length) :
    ∃ a b : Int, (marksOf (2 * E.length) (facesOf nx))[d]? = some a ∧ (marksOf (2 * E.length) (facesOf nx))[f]? = some b ∧ layoutref33_Shared (((N : Int), E, A, ()), (d : Int), (f : Int), ()) = some (decide (a = b), ()) := by
  obtain ⟨j, j1, j2, g, j3, j4⟩ := marksOf_some hf hd
  obtain ⟨j', j1', j2', g', j3', j4'⟩ := marksOf_some hf hf2
  refine ⟨j, j', j2, j2', ?_⟩
  have hgm := List.mem_of_getElem? j3
  have hcyc := facesOf_cyc (fol_inj32 h hn) hnx g hgm
  have hnd : g.Nodup := hf.nodup.sublist (List.sublist_flatten_of_mem hgm)
  obtain ⟨i, hi, e⟩ := List.getElem_of_mem j4
  have := shared_loop h hv hl hn hcyc hnd (hf.elem g hgm).2 hi (f : Int) g.length 0 (by omega) (by omega)
  unfold layoutref33_Shared
  dsimp only
  rw [Nat.add_zero, Nat.mod_eq_of_lt hi, List.getD_eq_getElem?_getD, List.getElem?_eq_getElem hi, Option.getD_some, e] at this
  rw [this]
  simp only [Option.bind_some, Sum.elim_inl]
  congr 2
  rw [decide_eq_decide]
  constructor
  · rintro ⟨s, s1, s2, s3⟩
    have hm : (i + s) % g.length < g.length := Nat.mod_lt _ (by omega)
    rw [List.getD_eq_getElem?_getD, List.getElem?_eq_getElem hm] at s3
    have s3 : g[(i + s) % g.length] = (f : Int) := s3
    have hfg : (f : Int) ∈ g := s3 ▸ List.getElem_mem hm
    have := marksOf_at hf j3 hfg
    rw [j2'] at this
    exact (Option.some.inj this).symm
  · intro e2
    have : j = j' := by omega
    subst this
    rw [j3] at j3'
    have : g = g' := Option.some.inj j3'
    subst this
    obtain ⟨p, hp, e3⟩ := List.getElem_of_mem j4'
    refine ⟨(p + (g.length - i)) % g.length, Nat.zero_le _, Nat.mod_lt _ (by omega), ?_⟩
    rw [Nat.add_mod_mod, show i + (p + (g.length - i)) = p + g.length by omega, Nat.add_mod_right, Nat.mod_eq_of_lt hp, List.getD_eq_getElem?_getD, List.getElem?_eq_getElem hp, e3]; rfl

end
end Go.Vm

/-
  Routes, in the program and in the reference.
-/
import Derived.Test.YtkedmhafnkafdaaDoorM32K
set_option linter.unusedVariables false
set_option linter.unusedSimpArgs false
namespace Go.Vm
open Go.Proofs
set_option maxRecDepth 100000
attribute [local irreducible] loopFix

section
variable {N : Nat} {E : List Arc} {A : List (List Int)} {nx m : List Int} {n : Nat}

theorem Pla.raround (p : Pla N E A nx m n) (hm : layoutref32_Marks (((N : Int), E, A, ()), ()) = some (m, ())) (arcs : List Arc) {v : Nat} {l : List Int} (hv : A[v]? = some l) (hl : l.length ≤ 100) :
    ∃ bs, layoutref32_around (((N : Int), E, A, ()), ((n : Int), arcs, ()), (v : Int), ()) = some (bs, ()) ∧ bs.length = n ∧ ∀ f, f < n → (bs[f]? = some true ↔ (f : Int) ∈ aroundL m l) := by
  have hla := List.mem_of_getElem? hv
  have hnp : 0 < n := by have := p.n; omega
  have hs := p.small
  have hml : m.length = 2 * E.length := p.fc.len
  have hd : ∀ d ∈ l, ∃ k : Nat, d = (k : Int) ∧ k < m.length ∧ ∃ j : Nat, m[k]? = some (j : Int) ∧ j < n := by
    intro d hd
    obtain ⟨k, e, hk⟩ := p.rot.mem_of hla hd
    exact ⟨k, e, by omega, _, (p.mark hk).1, (p.mark hk).2.1⟩
  refine ⟨_, raround_eq (N : Int) E A m l arcs v n hv hnp (by omega) hd (by omega) hm, by rw [setT_len]; simp, ?_⟩
  intro f hf
  rw [setT_at _ _ _ (by simpa using hf), List.getElem?_set, p.goals hla]
  constructor
  · rintro (h | ⟨d, hd', e⟩)
    · split at h
      · rename_i e
        subst e
        rw [if_pos (by simpa using hf)] at h
        exact .inl ⟨by simpa using h, rfl⟩
      · rw [List.getElem?_replicate] at h
        split at h <;> simp at h
    · obtain ⟨k, rfl, hk⟩ := p.rot.mem_of hla hd'
      refine .inr ⟨k, hd', ?_, hk⟩
      rw [← e]
      rfl
  · rintro (⟨h, e⟩ | ⟨k, k1, k2, k3⟩)
    · left
      have : f = 0 := by omega
      subst this
      rw [if_pos rfl, if_pos (by simpa using hf)]
      simp [h]
    · right
      refine ⟨_, k1, ?_⟩
      have : f = fcM m k := by omega
      rw [this]
      rfl

theorem Pla.rroute (p : Pla N E A nx m n) (hm : layoutref32_Marks (((N : Int), E, A, ()), ()) = some (m, ())) (hb : layoutref32_Build (((N : Int), E, A, ()), ()) = some (((n : Int), arcsFrom m 0 E.length, ()), 0, ())) {u v : Nat} {lu lv : List Int} (hu : A[u]? = some lu) (hv : A[v]? = some lv) (huv : u ≠ v)
    (hlu : lu.length ≤ 100) (hlv : lv.length ≤ 100) {D : Nat → Nat} {s : Nat} {l : List Int} (hr : RouteOf E m n lu lv D s l) : layoutref32_Route (((N : Int), E, A, ()), (u : Int), (v : Int), ()) = some (l, 0, ()) := by
  have hn := p.small
  have hE := p.few
  have hAl : A.length = N := by have := p.rot.len; omega
  have huN : u < N := by rw [← hAl]; exact (List.getElem?_eq_some_iff.1 hu).1
  have hvN : v < N := by rw [← hAl]; exact (List.getElem?_eq_some_iff.1 hv).1
  obtain ⟨now, n1, n2, n3⟩ := p.raround hm (arcsFrom m 0 E.length) hu hlu
  obtain ⟨to, t1, t2, t3⟩ := p.raround hm (arcsFrom m 0 E.length) hv hlv
  obtain ⟨h1, ⟨f0, f1, f2, f3⟩, h3, h4⟩ := hr
  have hA : ∀ f g, AdjF (2 * E.length) (fcM m) f g → f < n := by
    rintro f g ⟨k, hk, rfl, _⟩
    exact p.fc.lt k hk
  have hDn : ∀ f, f < n → D f < n := fun f hf => (h1 f hf).lt (p.goal_lt (List.mem_of_getElem? hv)) hA
  obtain ⟨dist, d1, d2, d3⟩ := far_eq (M := E.length) p.fc (by omega) (by omega) to t2 t3 h1 hDn
  obtain ⟨z, z1, z2, z3⟩ := rleast (D := D) (dist := dist) (arcsFrom m 0 E.length) now n2 d2 (by omega) d3 hDn n 0 n (by omega) (Nat.le_refl _) (.inl rfl) (fun g hg => absurd hg (by omega))
  have hz : z = s := by
    have e1 := z3 f0 f2 ((n3 f0 f2).2 f1)
    rcases z2 with e | ⟨g, g1, g2, g3⟩
    · have := hDn f0 f2; omega
    · have := h3 g ((n3 g g1).1 g2)
      omega
  subst hz
  obtain ⟨l', l1, l2⟩ := rroute_loop (M := E.length) (dist := dist) h1 p.fc (by omega) (by omega) d2 d3 (fun f hf => by have := hDn f hf; omega) z now [] n2 (by have := hDn f0 f2; omega) (by have := hDn f0 f2; simp; omega) ⟨f0, (n3 f0 f2).2 f1, f2, f3⟩
  have hll : l' = l := by
    cases z with
    | zero => exact l2.trans h4.symm
    | succ z =>
      refine l2.uniq (h4.congr (P' := fun f => (f : Int) ∈ aroundL m lu ∧ f < n) (fun f _ => ⟨fun h => ⟨h, p.goal_lt (List.mem_of_getElem? hu) f h⟩, fun h => h.1⟩)) (fun f _ => ?_)
      constructor
      · intro h
        have hfn : f < n := by rw [← n2]; exact (List.getElem?_eq_some_iff.1 h).1
        exact ⟨(n3 f hfn).1 h, hfn⟩
      · exact fun h => (n3 f h.2).2 h.1
  subst hll
  unfold layoutref32_Route
  simp only
  rw [hb, Option.bind_some]
  simp only
  rw [neI_f rfl, cond_false, ltI_f (by omega), cond_false, geI_f (by omega), cond_false, ltI_f (by omega), cond_false, geI_f (by omega), cond_false, eqI_f (by omega), cond_false, n1, Option.bind_some, t1, Option.bind_some]
  simp only
  rw [d1, Option.bind_some]
  simp only
  rw [show layoutref32_Route_L13 ((n : Int), arcsFrom m 0 E.length, [], now, dist, (n : Int), 0, ()) = some (.inl ((n : Int), arcsFrom m 0 E.length, [], now, dist, (z : Int), ())) from z1]
  simp only [Option.bind_some, Sum.elim_inl]
  rw [l1]
  rfl
end

theorem routes32 (N : Int) (E : List Arc) (A : List (List Int)) (u v : Int) (hE : E.length ≤ 100) (hl : ∀ l ∈ A, l.length ≤ 100) :
    ∃ l e, dual_Route ((N, E, A, ()), u, v, ()) = some (l, e, ()) ∧ layoutref32_Route ((N, E, A, ()), u, v, ()) = some (l, e, ()) ∧ l.length ≤ 68719476736 := by
  rcases cases32 N E A hE hl with ⟨e, he, c1, b1⟩ | ⟨k, nx, m, n, rfl, hvv, hk0, p, c1, k1, hm, _, b1⟩
  · refine ⟨[], e, ?_, ?_, by simp⟩
    · unfold dual_Route
      simp only
      rw [c1, Option.bind_some]
      simp only
      rw [neI_t he]; rfl
    · unfold layoutref32_Route
      simp only
      rw [b1, Option.bind_some]
      simp only
      rw [neI_t he]; rfl
  · by_cases hr : 0 ≤ u ∧ u < k ∧ 0 ≤ v ∧ v < k ∧ u ≠ v
    · obtain ⟨h1, h2, h3, h4, h5⟩ := hr
      obtain ⟨a, rfl⟩ : ∃ i : Nat, u = (i : Int) := ⟨u.toNat, by omega⟩
      obtain ⟨b, rfl⟩ : ∃ i : Nat, v = (i : Int) := ⟨v.toNat, by omega⟩
      obtain ⟨lu, u1, u2⟩ := p.get (v := a) (by omega)
      obtain ⟨lv, v1, v2⟩ := p.get (v := b) (by omega)
      obtain ⟨D, s, l, r1, r2⟩ := p.route c1 k1 u1 v1 (by omega) (hl _ u2) (hl _ v2)
      refine ⟨l, 0, r2, p.rroute hm b1 u1 v1 (by omega) (hl _ u2) (hl _ v2) r1, ?_⟩
      rw [r1.2.2.2.len]
      obtain ⟨f, _, f2, f3⟩ := r1.2.1
      have := (r1.1 f f2).lt (p.goal_lt v2) (fun f g => by rintro ⟨k, hk, rfl, _⟩; exact p.fc.lt k hk)
      have := p.small
      omega
    · have key : ∃ e, dual_Route (((k : Int), E, A, ()), u, v, ()) = some ([], e, ()) ∧ layoutref32_Route (((k : Int), E, A, ()), u, v, ()) = some ([], e, ()) := by
        unfold dual_Route layoutref32_Route
        simp only
        rw [c1, b1, Option.bind_some, Option.bind_some]
        simp only
        rw [neI_f rfl, cond_false, cond_false]
        by_cases h1 : u < 0
        · rw [ltI_t h1]; exact ⟨3, rfl, rfl⟩
        · rw [ltI_f (by omega), cond_false, cond_false]
          by_cases h2 : (k : Int) ≤ u
          · rw [geI_t h2]; exact ⟨3, rfl, rfl⟩
          · rw [geI_f (by omega), cond_false, cond_false]
            by_cases h3 : v < 0
            · rw [ltI_t h3]; exact ⟨3, rfl, rfl⟩
            · rw [ltI_f (by omega), cond_false, cond_false]
              by_cases h4 : (k : Int) ≤ v
              · rw [geI_t h4]; exact ⟨3, rfl, rfl⟩
              · rw [geI_f (by omega), cond_false, cond_false]
                have h5 : u = v := by
                  apply Classical.byContradiction
                  intro h
                  exact hr ⟨by omega, by omega, by omega, by omega, h⟩
                rw [eqI_t h5]
                exact ⟨0, rfl, rfl⟩
      obtain ⟨e, e1, e2⟩ := key
      exact ⟨[], e, e1, e2, by simp⟩

theorem dualRoutes_law (N : Int) (E : List Arc) (A : List (List Int)) (u v : Int) : layoutlaw32_DualRoutes ((N, E, A, ()), u, v, ()) = some (true, ()) := by
  unfold layoutlaw32_DualRoutes
  simp only
  rw [awake32_true]
  obtain ⟨b, f1, f2⟩ := few_eq N E A
  rw [f1, Option.bind_some]
  cases b with
  | false => rfl
  | true =>
    obtain ⟨hE, hA, hl⟩ := f2 rfl
    simp only [Bool.not_true, cond_false]
    obtain ⟨l, e, r1, r2, r3⟩ := routes32 N E A u v hE hl
    rw [droute32 _ _ _ _ _ _ _ r1, r1, r2, Option.bind_some, Option.bind_some, Option.bind_some]
    simp only
    rw [eqI_t rfl, cond_true, cond_true, eqI_t rfl, cond_true, same_refl32 l r3]
    rfl
theorem dualRoutes_plain (x : (tupTy (layoutlaw32_DualRoutes_c.ins.map (·.2))).den) (h : WfIns layoutlaw32_DualRoutes_c.ins x) : layoutlaw32_DualRoutes x = some (true, ()) := dualRoutes_law x.1.1 x.1.2.1 x.1.2.2.1 x.2.1 x.2.2.1
end Go.Vm

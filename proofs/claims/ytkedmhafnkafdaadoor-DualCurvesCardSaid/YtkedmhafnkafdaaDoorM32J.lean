/-
  Neighbors.
-/
import Derived.Test.YtkedmhafnkafdaaDoorM32I
set_option linter.unusedVariables false
set_option linter.unusedSimpArgs false
namespace Go.Vm
open Go.Proofs
set_option maxRecDepth 100000
attribute [local irreducible] loopFix

theorem planar32 (N : Int) (E : List Arc) (A : List (List Int)) (hl : ∀ l ∈ A, l.length ≤ 9223372036854775807) {e : Int} (hc : dual_check ((N, E, A, ()), ()) = some (e, ())) : ∃ b, layoutref29_Planar ((N, E, A, ()), ()) = some (b, ()) ∧ (b = true → e = 0) := by
  obtain ⟨e', c1, c2, _⟩ := check32 N E A hl
  rw [hc] at c1
  have : e = e' := by injection c1 with c1; injection c1
  subst this
  unfold layoutref32_check at c2
  simp only at c2
  unfold layoutref29_Planar
  simp only
  cases hg : layoutref29_Genus ((N, E, A, ()), ()) with
  | none => rw [hg] at c2; cases c2
  | some g =>
    rw [hg] at c2
    simp only [Option.bind_some] at c2 ⊢
    by_cases h0 : g.1 = 0
    · rw [neI_f h0, cond_false] at c2
      rw [eqI_t h0, cond_true]
      cases hk : layoutref29_Components ((N, E, A, ()), ()) with
      | none => rw [hk] at c2; cases c2
      | some k =>
        rw [hk] at c2
        simp only [Option.bind_some] at c2 ⊢
        refine ⟨_, rfl, fun h => ?_⟩
        have h1 : k.1 = 1 := by simpa [eqI] using h
        rw [neI_f h1, cond_false] at c2
        injection c2 with c2
        injection c2 with c2
        exact c2.symm
    · rw [eqI_f h0]
      exact ⟨false, rfl, by simp⟩

theorem IsDist.le {Adj : Nat → Nat → Prop} {S : Nat → Prop} {f d t : Nat} (h : IsDist Adj S f d) (hw : Wk Adj S t f) : d ≤ t := by
  rcases Nat.lt_or_ge t d with e | e
  · exact absurd hw (h.2 t e)
  · exact e

section
variable {N : Nat} {E : List Arc} {A : List (List Int)} {nx m : List Int} {n : Nat}

/-- s is the least number of steps from the faces around u to those around v. -/
def Mn (E : List Arc) (m lu lv : List Int) (s : Nat) : Prop :=
  (∃ f : Nat, (f : Int) ∈ aroundL m lu ∧ Wk (AdjF (2 * E.length) (fcM m)) (fun f => (f : Int) ∈ aroundL m lv) s f) ∧
    ∀ f : Nat, (f : Int) ∈ aroundL m lu → ∀ t, Wk (AdjF (2 * E.length) (fcM m)) (fun f => (f : Int) ∈ aroundL m lv) t f → s ≤ t

theorem RouteOf.mn {lu lv l : List Int} {D : Nat → Nat} {s : Nat} (h : RouteOf E m n lu lv D s l) (hu : ∀ f : Nat, (f : Int) ∈ aroundL m lu → f < n) : Mn E m lu lv s := by
  obtain ⟨h1, ⟨f, f1, f2, f3⟩, h3, _⟩ := h
  refine ⟨⟨f, f1, f3 ▸ (h1 f f2).1⟩, fun g hg t ht => ?_⟩
  have := (h1 g (hu g hg)).le ht
  have := h3 g hg
  omega

theorem Pla.goal_lt (p : Pla N E A nx m n) {l : List Int} (hl : l ∈ A) : ∀ f : Nat, (f : Int) ∈ aroundL m l → f < n := by
  intro f hf
  obtain ⟨g, e, hg⟩ := p.goals_nat hl _ hf
  omega

theorem Pla.dist (p : Pla N E A nx m n) (c1 : dual_check (((N : Int), E, A, ()), ()) = some (0, ())) (k1 : dual_numbers (((N : Int), E, A, ()), ()) = some (m, (n : Int), ())) {u v : Nat} {lu lv : List Int} (hu : A[u]? = some lu) (hv : A[v]? = some lv)
    (hlu : lu.length ≤ 100) (hlv : lv.length ≤ 100) :
    ∃ l, dual_Route (((N : Int), E, A, ()), (u : Int), (v : Int), ()) = some (l, 0, ()) ∧ Mn E m lu lv l.length := by
  by_cases huv : u = v
  · subst huv
    rw [hu] at hv
    have : lu = lv := Option.some.inj hv
    subst this
    have hAl : A.length = N := by have := p.rot.len; omega
    have huN : u < N := by rw [← hAl]; exact (List.getElem?_eq_some_iff.1 hu).1
    refine ⟨[], ?_, ?_, fun _ _ _ _ => Nat.zero_le _⟩
    · unfold dual_Route
      simp only
      rw [c1, Option.bind_some]
      simp only
      rw [neI_f rfl, cond_false, ltI_f (by omega), cond_false, geI_f (by omega), cond_false, cond_false, cond_false, eqI_t rfl, cond_true]
    · obtain ⟨x, hx⟩ := List.exists_mem_of_ne_nil _ (p.goals_ne (List.mem_of_getElem? hu))
      obtain ⟨f, rfl, _⟩ := p.goals_nat (List.mem_of_getElem? hu) x hx
      exact ⟨f, hx, hx⟩
  · obtain ⟨D, s, l, h1, h2⟩ := p.route c1 k1 hu hv huv hlu hlv
    refine ⟨l, h2, ?_⟩
    rw [h1.2.2.2.len]
    exact h1.mn (p.goal_lt (List.mem_of_getElem? hu))

theorem Pla.spread (p : Pla N E A nx m n) (hE : E ≠ []) {lu lv lw : List Int} (hu : lu ∈ A) (hv : lv ∈ A) {g a b : Nat} (hgu : (g : Int) ∈ aroundL m lu) (hgv : (g : Int) ∈ aroundL m lv) (ha : Mn E m lu lw a) (hb : Mn E m lv lw b) : a ≤ b + lv.length := by
  obtain ⟨f, f1, f2⟩ := hb.1
  rcases (p.goals hv _).1 f1 with ⟨h, _⟩ | ⟨k, k1, k2, _⟩
  · exact absurd h hE
  · rcases (p.goals hv _).1 hgv with ⟨h, _⟩ | ⟨y, y1, y2, _⟩
    · exact absurd h hE
    · obtain ⟨i, hi, ei⟩ := p.atIdx k1
      obtain ⟨j, hj, ej⟩ := p.atIdx y1
      have e1 : f = fcM m k := by omega
      have e2 : g = fcM m y := by omega
      rw [e1, ← ei] at f2
      obtain ⟨s, hs, hw⟩ := p.atAll hv hi hj f2
      rw [ej, ← e2] at hw
      have := ha.2 g hgu _ hw
      omega

theorem Pla.shared (p : Pla N E A nx m n) {k : Nat} (hk : k < 2 * E.length) {u v : Nat} (h1 : tl E k = u) (h2 : tl E (oth k) = v) {lu lv : List Int} (hu : A[u]? = some lu) (hv : A[v]? = some lv) : (fcM m k : Int) ∈ aroundL m lu ∧ (fcM m k : Int) ∈ aroundL m lv := by
  refine ⟨(p.goals (List.mem_of_getElem? hu) _).2 (.inr ⟨k, p.rot.around hk h1 hu, rfl, hk⟩), (p.goals (List.mem_of_getElem? hv) _).2 ?_⟩
  have hkn : k < nx.length := by rw [p.fol.len]; exact hk
  obtain ⟨y, hy, hny⟩ := p.nxok.2 k hkn
  obtain ⟨v', l, i, a1, a2, a3, a4, a5⟩ := fol_at p.rot p.fol hny
  have hm : ((oth k : Nat) : Int) ∈ l := by
    rw [← a3, List.getD_eq_getElem?_getD, List.getElem?_eq_getElem a2]
    exact List.getElem_mem a2
  obtain ⟨c, ec, _, hc⟩ := p.rot.dart v' l a1 _ hm
  have : oth k = c := by omega
  subst this
  have : v' = v := by omega
  subst this
  rw [hv] at a1
  have : lv = l := Option.some.inj a1
  subst this
  exact .inr ⟨y, a5, by rw [p.next hk hny], by rw [← p.fol.len]; exact hy⟩

theorem Pla.get (p : Pla N E A nx m n) {v : Nat} (hv : v < N) : ∃ l, A[v]? = some l ∧ l ∈ A := by
  have hAl : A.length = N := by have := p.rot.len; omega
  exact ⟨_, List.getElem?_eq_getElem (by omega), List.getElem_mem (by omega)⟩
end

theorem dualBetween_law (N : Int) (E : List Arc) (A : List (List Int)) (e w : Int) : layoutlaw32_DualBetween ((N, E, A, ()), e, w, ()) = some (true, ()) := by
  unfold layoutlaw32_DualBetween
  simp only
  rw [awake32_true]
  obtain ⟨b, f1, f2⟩ := few_eq N E A
  rw [f1, Option.bind_some]
  cases b with
  | false => rfl
  | true =>
    obtain ⟨hE, hA, hl⟩ := f2 rfl
    have hl' : ∀ l ∈ A, l.length ≤ 9223372036854775807 := fun l h => by have := hl l h; omega
    simp only [Bool.not_true, cond_false]
    obtain ⟨c, cc, _⟩ := check32 N E A hl'
    obtain ⟨b, b1, b2⟩ := planar32 N E A hl' cc
    rw [b1, Option.bind_some]
    cases b with
    | false => rfl
    | true =>
      have hc0 := b2 rfl
      subst hc0
      simp only [Bool.not_true, cond_false]
      rcases cases32 N E A hE hl with ⟨e', he', c1, _⟩ | ⟨k, nx, m, n, rfl, hvv, hk0, p, c1, k1, _, _, _⟩
      · rw [cc] at c1
        injection c1 with c1
        injection c1 with c1
        exact absurd c1.symm he'
      · by_cases h1 : e < 0
        · rw [ltI_t h1]; rfl
        · rw [ltI_f (by omega), cond_false]
          by_cases h2 : (E.length : Int) ≤ e
          · rw [geI_t h2]; rfl
          · rw [geI_f (by omega), cond_false]
            by_cases h3 : w < 0
            · rw [ltI_t h3]; rfl
            · rw [ltI_f (by omega), cond_false]
              by_cases h4 : (k : Int) ≤ w
              · rw [geI_t h4]; rfl
              · rw [geI_f (by omega), cond_false]
                obtain ⟨i, rfl⟩ : ∃ i : Nat, e = (i : Int) := ⟨e.toNat, by omega⟩
                obtain ⟨z, rfl⟩ : ∃ i : Nat, w = (i : Int) := ⟨w.toNat, by omega⟩
                have hi : i < E.length := by omega
                obtain ⟨a, ha⟩ : ∃ a, E[i]? = some a := ⟨_, List.getElem?_eq_getElem hi⟩
                obtain ⟨a1, a2, a3, a4, a5⟩ := p.rot.edge a (List.mem_of_getElem? ha)
                obtain ⟨u, v, hu, hv⟩ : ∃ u v : Nat, a.1 = (u : Int) ∧ a.2.1 = (v : Int) := ⟨a.1.toNat, a.2.1.toNat, by omega, by omega⟩
                obtain ⟨lu, u1, u2⟩ := p.get (v := u) (by omega)
                obtain ⟨lv, v1, v2⟩ := p.get (v := v) (by omega)
                obtain ⟨lw, w1, w2⟩ := p.get (v := z) (by omega)
                have t1 : tl E (2 * i) = u := by
                  unfold tl
                  rw [show 2 * i / 2 = i by omega, ha]
                  simp only
                  rw [if_pos (by omega), hu]
                have ho : oth (2 * i) = 2 * i + 1 := by unfold oth; simp
                have t2 : tl E (oth (2 * i)) = v := by
                  rw [ho]
                  unfold tl
                  rw [show (2 * i + 1) / 2 = i by omega, ha]
                  simp only
                  rw [if_neg (by omega), hv]
                obtain ⟨s1, s2⟩ := p.shared (k := 2 * i) (by omega) t1 t2 u1 v1
                obtain ⟨l1, q1, m1⟩ := p.dist c1 k1 u1 v1 (hl _ u2) (hl _ v2)
                obtain ⟨l2, q2, m2⟩ := p.dist c1 k1 u1 w1 (hl _ u2) (hl _ w2)
                obtain ⟨l3, q3, m3⟩ := p.dist c1 k1 v1 w1 (hl _ v2) (hl _ w2)
                have hEn : E ≠ [] := by intro e; rw [e] at hi; simp at hi
                have z0 : l1.length = 0 := by
                  have := m1.2 _ s1 0 s2
                  omega
                have d1 := p.spread hEn u2 v2 s1 s2 m2 m3
                have d2 := p.spread hEn v2 u2 s2 s1 m3 m2
                rw [getI_of, ha, Option.bind_some, Option.bind_some, hu, hv, droute32 _ _ _ _ _ _ _ q1, droute32 _ _ _ _ _ _ _ q2, droute32 _ _ _ _ _ _ _ q3]
                simp only [Option.bind_some]
                have := hl _ u2
                have := hl _ v2
                have hb3 : l3.length ≤ 1000000 ∧ l2.length ≤ 1000000 := by
                  constructor
                  · obtain ⟨f, ff1, ff2⟩ := m3.1
                    obtain ⟨d, _, hd⟩ := IsDist.exists ff2
                    have e1 := m3.2 f ff1 d hd.1
                    have e2 := hd.lt (p.goal_lt w2) (fun f g => by rintro ⟨k, hk, rfl, _⟩; exact p.fc.lt k hk)
                    have := p.small
                    omega
                  · obtain ⟨f, ff1, ff2⟩ := m2.1
                    obtain ⟨d, _, hd⟩ := IsDist.exists ff2
                    have e1 := m2.2 f ff1 d hd.1
                    have e2 := hd.lt (p.goal_lt w2) (fun f g => by rintro ⟨k, hk, rfl, _⟩; exact p.fc.lt k hk)
                    have := p.small
                    omega
                rw [eqI_t rfl, cond_true, cond_true, cond_true, eqI_t (by omega), cond_true, getI_of, v1, Option.bind_some, addI64 (by omega) (by omega), leI_t (by omega), cond_true, getI_of, u1, Option.bind_some, addI64 (by omega) (by omega), leI_t (by omega), cond_true]
theorem dualBetween_plain (x : (tupTy (layoutlaw32_DualBetween_c.ins.map (·.2))).den) (h : WfIns layoutlaw32_DualBetween_c.ins x) : layoutlaw32_DualBetween x = some (true, ()) := dualBetween_law x.1.1 x.1.2.1 x.1.2.2.1 x.2.1 x.2.2.1
end Go.Vm

/-
  Curves.
-/
import Derived.Test.YtkedmhafnkafdaaDoorM32J
set_option linter.unusedVariables false
set_option linter.unusedSimpArgs false
namespace Go.Vm
open Go.Proofs
set_option maxRecDepth 100000
attribute [local irreducible] loopFix

/-! ### Two lists meet -/

theorem meets_inner (a b : List Int) (x : Int) (i : Nat) (hx : a[i]? = some x) (hb : b.length ≤ 100000) : ∀ (c k : Nat), k + c = b.length →
    (x ∈ b.drop k ∧ layoutlaw32_meets_L5 (a, b, (i : Int), (k : Int), ()) = some (.inl (true, ()))) ∨ (x ∉ b.drop k ∧ layoutlaw32_meets_L5 (a, b, (i : Int), (k : Int), ()) = some (.inr (.inl (a, b, (i : Int), ()))))
  | 0, k, h => by
    right
    refine ⟨by rw [List.drop_of_length_le (by omega)]; simp, ?_⟩
    unfold layoutlaw32_meets_L5
    refine loop_done ?_
    unfold layoutlaw32_meets_B5
    simp only
    rw [ltI_f (by omega)]; rfl
  | c + 1, k, h => by
    have hk : k < b.length := by omega
    have hd : b.drop k = b[k] :: b.drop (k + 1) := List.drop_eq_getElem_cons hk
    by_cases e : x = b[k]
    · left
      refine ⟨by rw [hd, e]; exact List.mem_cons_self, ?_⟩
      unfold layoutlaw32_meets_L5
      refine loop_done ?_
      unfold layoutlaw32_meets_B5
      simp only
      rw [ltI_t (by omega), cond_true, getI_of, hx, Option.bind_some, getI_of, List.getElem?_eq_getElem hk, Option.bind_some, eqI_t e]; rfl
    · have hL : layoutlaw32_meets_L5 (a, b, (i : Int), (k : Int), ()) = layoutlaw32_meets_L5 (a, b, (i : Int), ((k + 1 : Nat) : Int), ()) := by
        unfold layoutlaw32_meets_L5
        refine loop_step ?_
        unfold layoutlaw32_meets_B5
        simp only
        rw [ltI_t (by omega), cond_true, getI_of, hx, Option.bind_some, getI_of, List.getElem?_eq_getElem hk, Option.bind_some, eqI_f e, cond_false, add1 (by omega)]
      rw [hL, hd]
      rcases meets_inner a b x i hx hb c (k + 1) (by omega) with ⟨h1, h2⟩ | ⟨h1, h2⟩
      · exact .inl ⟨List.mem_cons_of_mem _ h1, h2⟩
      · exact .inr ⟨fun h => (List.mem_cons.1 h).elim e h1, h2⟩
theorem meets_outer (a b : List Int) (ha : a.length ≤ 100000) (hb : b.length ≤ 100000) : ∀ (c i : Nat), i + c = a.length →
    ((∃ x ∈ a.drop i, x ∈ b) ∧ layoutlaw32_meets_L2 (a, b, (i : Int), ()) = some (.inl (true, ()))) ∨ ((¬ ∃ x ∈ a.drop i, x ∈ b) ∧ layoutlaw32_meets_L2 (a, b, (i : Int), ()) = some (.inr (.inl ())))
  | 0, i, h => by
    right
    refine ⟨by rw [List.drop_of_length_le (by omega)]; simp, ?_⟩
    unfold layoutlaw32_meets_L2
    refine loop_done ?_
    unfold layoutlaw32_meets_B2
    simp only
    rw [ltI_f (by omega)]; rfl
  | c + 1, i, h => by
    have hi : i < a.length := by omega
    have hd : a.drop i = a[i] :: a.drop (i + 1) := List.drop_eq_getElem_cons hi
    rcases meets_inner a b a[i] i (List.getElem?_eq_getElem hi) hb b.length 0 (by omega) with ⟨h1, h2⟩ | ⟨h1, h2⟩
    · left
      refine ⟨⟨a[i], by rw [hd]; exact List.mem_cons_self, by simpa using h1⟩, ?_⟩
      unfold layoutlaw32_meets_L2
      refine loop_done ?_
      unfold layoutlaw32_meets_B2
      simp only
      rw [ltI_t (by omega), cond_true, show ((0 : Int)) = ((0 : Nat) : Int) from rfl, h2]; rfl
    · have hL : layoutlaw32_meets_L2 (a, b, (i : Int), ()) = layoutlaw32_meets_L2 (a, b, ((i + 1 : Nat) : Int), ()) := by
        unfold layoutlaw32_meets_L2
        refine loop_step ?_
        unfold layoutlaw32_meets_B2
        simp only
        rw [ltI_t (by omega), cond_true, show ((0 : Int)) = ((0 : Nat) : Int) from rfl, h2]
        simp only [Option.bind_some, Sum.elim_inr, Sum.elim_inl]
        rw [add1 (by omega)]
      have h1' : a[i] ∉ b := by simpa using h1
      rw [hL, hd]
      rcases meets_outer a b ha hb c (i + 1) (by omega) with ⟨⟨x, x1, x2⟩, h4⟩ | ⟨h3, h4⟩
      · exact .inl ⟨⟨x, List.mem_cons_of_mem _ x1, x2⟩, h4⟩
      · refine .inr ⟨?_, h4⟩
        rintro ⟨x, x1, x2⟩
        rcases List.mem_cons.1 x1 with rfl | x1
        · exact h1' x2
        · exact h3 ⟨x, x1, x2⟩
theorem meets_eq (a b : List Int) (ha : a.length ≤ 100000) (hb : b.length ≤ 100000) : ∃ r, layoutlaw32_meets (a, b, ()) = some (r, ()) ∧ (r = true ↔ ∃ x ∈ a, x ∈ b) := by
  unfold layoutlaw32_meets
  simp only
  rw [show ((0 : Int)) = ((0 : Nat) : Int) from rfl]
  rcases meets_outer a b ha hb a.length 0 (by omega) with ⟨h1, h2⟩ | ⟨h1, h2⟩
  · rw [h2]; exact ⟨true, rfl, by simpa using h1⟩
  · rw [h2]; exact ⟨false, rfl, by simpa using h1⟩
theorem meets_one (a : List Int) (x : Int) (ha : a.length ≤ 100000) : layoutlaw32_meets (a, [x], ()) = some (decide (x ∈ a), ()) := by
  obtain ⟨r, r1, r2⟩ := meets_eq a [x] ha (by simp)
  rw [r1]
  have : r = decide (x ∈ a) := by
    rw [Bool.eq_iff_iff, r2]
    simp
  rw [this]

/-! ### To and fro -/

theorem Wk.back {Adj : Nat → Nat → Prop} (hs : ∀ a b, Adj a b → Adj b a) {S S' : Nat → Prop} : ∀ (t r f : Nat), Wk Adj S t f → Wk Adj S' r f → ∃ g, S g ∧ Wk Adj S' (r + t) g
  | 0, r, f, h, h' => ⟨f, h, h'⟩
  | t + 1, r, f, ⟨g, hg, hw⟩, h' => by
    obtain ⟨x, x1, x2⟩ := Wk.back hs t (r + 1) g hw ⟨f, hs _ _ hg, h'⟩
    refine ⟨x, x1, ?_⟩
    rw [show r + (t + 1) = r + 1 + t by omega]
    exact x2
theorem Mn.le {E : List Arc} {m lu lv : List Int} {a b : Nat} (ha : Mn E m lu lv a) (hb : Mn E m lv lu b) : a ≤ b := by
  obtain ⟨f, f1, f2⟩ := hb.1
  obtain ⟨g, g1, g2⟩ := Wk.back (fun _ _ h => AdjF.symm h) b 0 f f2 (S' := fun f => (f : Int) ∈ aroundL m lv) f1
  rw [Nat.zero_add] at g2
  exact ha.2 g g1 b g2

section
variable {N : Nat} {E : List Arc} {A : List (List Int)} {nx m : List Int} {n : Nat}

theorem Pla.face (p : Pla N E A nx m n) (hv : validB ((N : Int), E, A, ()) = true) (hA : ∀ l ∈ A, l.length ≤ 100) (hm : layoutref32_Marks (((N : Int), E, A, ()), ()) = some (m, ())) {d : Nat} (hd : d < 2 * E.length) : dual_Face (((N : Int), E, A, ()), (d : Int), ()) = some ((fcM m d : Int), ()) := by
  have hE := p.few
  have hA' : ∀ l ∈ A, l.length ≤ 9223372036854775807 := fun l h => by have := hA l h; omega
  obtain ⟨x, x1, x2⟩ := face32 (N : Int) E A (d : Int) hE hA'
  have hml : m.length = 2 * E.length := p.fc.len
  rw [x1, ← x2]
  unfold layoutref32_Face
  simp only
  rw [rvalid_eq ((N : Int), E, A, ()) hA', hv, Option.bind_some]
  simp only [Bool.not_true, cond_false]
  rw [ltI_f (by omega), cond_false, mulI64 (by omega) (by omega), geI_f (by omega), cond_false, hm, Option.bind_some]
  simp only
  rw [idxI_of (by omega), Option.bind_some, (p.mark hd).1]
  rfl

theorem Pla.At (p : Pla N E A nx m n) (c1 : dual_check (((N : Int), E, A, ()), ()) = some (0, ())) (k1 : dual_numbers (((N : Int), E, A, ()), ()) = some (m, (n : Int), ())) {v : Nat} {l : List Int} (hv : A[v]? = some l) (hl : l.length ≤ 100) : dual_At (((N : Int), E, A, ()), (v : Int), ()) = some (aroundL m l, ()) := by
  have hAl : A.length = N := by have := p.rot.len; omega
  have hvN : v < N := by rw [← hAl]; exact (List.getElem?_eq_some_iff.1 hv).1
  have hml : m.length = 2 * E.length := p.fc.len
  have p2 := around_eq (N : Int) E A m l v hv (fun d hd => by
    obtain ⟨k, e, hk⟩ := p.rot.mem_of (List.mem_of_getElem? hv) hd
    exact ⟨k, e, by omega⟩) (by omega)
  unfold dual_At
  simp only
  rw [c1, Option.bind_some]
  simp only
  rw [neI_f rfl, cond_false, ltI_f (by omega), cond_false, geI_f (by omega), cond_false, k1, Option.bind_some]
  simp only
  rw [p2]
  rfl

theorem Pla.curve (p : Pla N E A nx m n) (hv : validB ((N : Int), E, A, ()) = true) (hA : ∀ l ∈ A, l.length ≤ 100) (hm : layoutref32_Marks (((N : Int), E, A, ()), ()) = some (m, ())) (D : Nat → Nat) (l to : List Int) (u v : Int) (hl : l.length ≤ 100000) : ∀ (s i : Nat) (now : List Int), now.length ≤ 100000 → i + s = l.length →
    Rt E.length (fcM m) D (fun f => (f : Int) ∈ now) s (l.drop i) → (∀ f : Nat, (f : Int) ∈ now → s ≤ D f) → (∃ f : Nat, (f : Int) ∈ now ∧ f < n ∧ D f = s) →
    ∃ now', layoutlaw32_DualCurves_L10 ((N : Int), E, A, l, now, to, u, v, (i : Int), ()) = some (.inr (.inl (now', to, u, v, ()))) ∧ now'.length ≤ 100000 ∧ ∃ f : Nat, (f : Int) ∈ now' ∧ f < n ∧ D f = 0
  | 0, i, now, hn, hi, _, _, hf => by
    refine ⟨now, ?_, hn, hf⟩
    unfold layoutlaw32_DualCurves_L10
    refine loop_done ?_
    unfold layoutlaw32_DualCurves_B10
    simp only
    rw [ltI_f (by omega)]; rfl
  | s + 1, i, now, hn, hi, ⟨k, l', k1, ⟨k2, k3, k4⟩, _, k6, k7⟩, hmin, _ => by
    have hE := p.few
    have hil : i < l.length := by omega
    have hd : l.drop i = l[i] :: l.drop (i + 1) := List.drop_eq_getElem_cons hil
    rw [hd] at k6
    injection k6 with e1 e2
    subst e2
    have hok : oth k < 2 * E.length := oth_lt k1
    obtain ⟨now', w1, w2⟩ := p.curve hv hA hm D l to u v hl s (i + 1) [(fcM m (oth k) : Int)] (by simp) (by omega) (k7.congr (fun f _ => by simp; omega)) (by
      intro f hf
      have : (f : Int) = (fcM m (oth k) : Int) := by simpa using hf
      have : f = fcM m (oth k) := by omega
      subst this
      omega) ⟨fcM m (oth k), by simp, (p.mark hok).2.1, k4⟩
    refine ⟨now', ?_, w2⟩
    rw [← w1]
    have hnot : (fcM m (oth k) : Int) ∉ now := fun h => by have := hmin _ h; omega
    have hne : fcM m k ≠ fcM m (oth k) := fun h => by rw [h] at k3; omega
    obtain ⟨e, he⟩ : ∃ e, e = k / 2 := ⟨_, rfl⟩
    rw [← he] at e1
    have hy : l[i]? = some (e : Int) := by rw [List.getElem?_eq_getElem hil, e1]
    have m1 : mulI .i64 2 (e : Int) = ((2 * e : Nat) : Int) := by rw [mulI64 (by omega) (by omega)]; omega
    have q1 := p.face hv hA hm (d := 2 * e) (by omega)
    have q2 := p.face hv hA hm (d := 2 * e + 1) (by omega)
    unfold layoutlaw32_DualCurves_L10
    refine loop_step ?_
    unfold layoutlaw32_DualCurves_B10
    simp only
    have f1 : ltI (e : Int) 0 = false := ltI_f (by omega)
    have f2 : geI (e : Int) ((E.length : Nat) : Int) = false := geI_f (by omega)
    have f3 : addI .i64 ((2 * e : Nat) : Int) 1 = ((2 * e + 1 : Nat) : Int) := add1 (by omega)
    rw [ltI_t (by omega), cond_true]
    simp only [idxI_of hil, hy, Option.bind_some, f1, f2, cond_false, m1, q1, f3, q2, meets_one now _ hn]
    rcases Nat.mod_two_eq_zero_or_one k with hk | hk
    · have hk2 : 2 * e = k := by omega
      have ho : oth k = 2 * e + 1 := by unfold oth; rw [if_pos hk]; omega
      have k2' : (fcM m (2 * e) : Int) ∈ now := by rw [hk2]; exact k2
      have hnot' : (fcM m (2 * e + 1) : Int) ∉ now := by rw [← ho]; exact hnot
      have hne' : fcM m (2 * e) ≠ fcM m (2 * e + 1) := by rw [← ho, hk2]; exact hne
      rw [ho]
      rw [show decide ((fcM m (2 * e) : Int) ∈ now) = true from decide_eq_true k2', cond_true, show decide ((fcM m (2 * e + 1) : Int) ∈ now) = false from decide_eq_false hnot']
      rw [app_of (by simp), Option.bind_some, cond_false, eqI_f (by omega), cond_false, add1 (by omega)]
      rfl
    · have hk2 : 2 * e + 1 = k := by omega
      have ho : oth k = 2 * e := by unfold oth; rw [if_neg (by omega)]; omega
      have k2' : (fcM m (2 * e + 1) : Int) ∈ now := by rw [hk2]; exact k2
      have hnot' : (fcM m (2 * e) : Int) ∉ now := by rw [← ho]; exact hnot
      have hne' : fcM m (2 * e + 1) ≠ fcM m (2 * e) := by rw [hk2, ← ho]; exact hne
      rw [ho]
      rw [show decide ((fcM m (2 * e + 1) : Int) ∈ now) = true from decide_eq_true k2', show decide ((fcM m (2 * e) : Int) ∈ now) = false from decide_eq_false hnot', cond_false, cond_true]
      rw [app_of (by simp), Option.bind_some, eqI_f (by omega), cond_false, add1 (by omega)]
      rfl
end

theorem dualCurves_law (N : Int) (E : List Arc) (A : List (List Int)) (u v : Int) : layoutlaw32_DualCurves ((N, E, A, ()), u, v, ()) = some (true, ()) := by
  unfold layoutlaw32_DualCurves
  simp only
  rw [awake32_true]
  obtain ⟨b, f1, f2⟩ := few_eq N E A
  rw [f1, Option.bind_some]
  cases b with
  | false => rfl
  | true =>
    obtain ⟨hE, hA, hl⟩ := f2 rfl
    have hl' : ∀ l ∈ A, l.length ≤ 9223372036854775807 := fun l h => by have := hl l h; omega
    simp only [Bool.not_true, cond_false]
    obtain ⟨c, cc, _⟩ := check32 N E A hl'
    obtain ⟨b, b1, b2⟩ := planar32 N E A hl' cc
    rw [b1, Option.bind_some]
    cases b with
    | false => rfl
    | true =>
      have hc0 := b2 rfl
      subst hc0
      simp only [Bool.not_true, cond_false]
      rcases cases32 N E A hE hl with ⟨e', he', c1, _⟩ | ⟨k, nx, m, n, rfl, hvv, hk0, p, c1, k1, hm, _, _⟩
      · rw [cc] at c1
        injection c1 with c1
        injection c1 with c1
        exact absurd c1.symm he'
      · by_cases h1 : u < 0
        · rw [ltI_t h1]; rfl
        · rw [ltI_f (by omega), cond_false]
          by_cases h2 : (k : Int) ≤ u
          · rw [geI_t h2]; rfl
          · rw [geI_f (by omega), cond_false]
            by_cases h3 : v < 0
            · rw [ltI_t h3]; rfl
            · rw [ltI_f (by omega), cond_false]
              by_cases h4 : (k : Int) ≤ v
              · rw [geI_t h4]; rfl
              · rw [geI_f (by omega), cond_false]
                obtain ⟨a, rfl⟩ : ∃ i : Nat, u = (i : Int) := ⟨u.toNat, by omega⟩
                obtain ⟨b, rfl⟩ : ∃ i : Nat, v = (i : Int) := ⟨v.toNat, by omega⟩
                obtain ⟨lu, u1, u2⟩ := p.get (v := a) (by omega)
                obtain ⟨lv, v1, v2⟩ := p.get (v := b) (by omega)
                have g1 := p.At c1 k1 u1 (hl _ u2)
                have g2 := p.At c1 k1 v1 (hl _ v2)
                have hlu := around_len m lu
                have hlv := around_len m lv
                have := hl _ u2
                have := hl _ v2
                obtain ⟨l2, q2, m2⟩ := p.dist c1 k1 v1 u1 (hl _ v2) (hl _ u2)
                by_cases huv : a = b
                · subst huv
                  rw [u1] at v1
                  have : lu = lv := Option.some.inj v1
                  subst this
                  obtain ⟨x, hx⟩ := List.exists_mem_of_ne_nil _ (p.goals_ne u2)
                  obtain ⟨f, rfl, _⟩ := p.goals_nat u2 x hx
                  have hz : l2 = [] := by
                    have := m2.2 f hx 0 hx
                    exact List.length_eq_zero_iff.1 (by omega)
                  subst hz
                  rw [droute32 _ _ _ _ _ _ _ q2, q2, g1]
                  simp only [Option.bind_some]
                  rw [neI_f rfl, cond_false, cond_false, cond_false, neI_f rfl, cond_false, cond_false, eqI_t rfl, cond_true]
                  have hL : layoutlaw32_DualCurves_L10 ((k : Int), E, A, [], aroundL m lu, aroundL m lu, (a : Int), (a : Int), 0, ()) = some (.inr (.inl (aroundL m lu, aroundL m lu, (a : Int), (a : Int), ()))) := by
                    unfold layoutlaw32_DualCurves_L10
                    refine loop_done ?_
                    unfold layoutlaw32_DualCurves_B10
                    simp only
                    rw [ltI_f (by simp)]; rfl
                  rw [hL]
                  simp only [Option.bind_some, Sum.elim_inr, Sum.elim_inl]
                  rw [eqI_t rfl]
                  rfl
                · obtain ⟨D, s, l, r1, r2⟩ := p.route c1 k1 u1 v1 huv (hl _ u2) (hl _ v2)
                  have m1 := r1.mn (p.goal_lt u2)
                  have hlen := r1.2.2.2.len
                  have hs1 := m1.le m2
                  have hs2 := m2.le m1
                  obtain ⟨d1, ⟨f, ff1, ff2, ff3⟩, d3, d4⟩ := r1
                  have hsn : s < n := by
                    have := (d1 f ff2).lt (p.goal_lt v2) (fun f g => by rintro ⟨k, hk, rfl, _⟩; exact p.fc.lt k hk)
                    omega
                  have := p.small
                  obtain ⟨r, z1, z2⟩ := meets_eq (aroundL m lu) (aroundL m lv) (by omega) (by omega)
                  have hr : r = eqI (l.length : Nat) 0 := by
                    rw [Bool.eq_iff_iff, z2]
                    constructor
                    · rintro ⟨x, x1, x2⟩
                      obtain ⟨g, rfl, _⟩ := p.goals_nat u2 x x1
                      have := m1.2 g x1 0 x2
                      exact eqI_t (by omega)
                    · intro h
                      have h0 : s = 0 := by
                        have : ((l.length : Nat) : Int) = 0 := by simpa [eqI] using h
                        omega
                      obtain ⟨g, g1, g2⟩ := m1.1
                      rw [h0] at g2
                      exact ⟨_, g1, g2⟩
                  obtain ⟨now', w1, w2, g, w3, w4, w5⟩ := p.curve hvv hl hm D l (aroundL m lv) (a : Int) (b : Int) (by omega) s 0 (aroundL m lu) (by omega) (by omega) d4 d3 ⟨f, ff1, ff2, ff3⟩
                  obtain ⟨r', y1, y2⟩ := meets_eq now' (aroundL m lv) w2 (by omega)
                  have hr' : r' = true := y2.2 ⟨_, w3, by
                    have := (d1 g w4).1
                    rw [w5] at this
                    exact this⟩
                  subst hr'
                  rw [droute32 _ _ _ _ _ _ _ r2, droute32 _ _ _ _ _ _ _ q2, r2, g1, g2]
                  simp only [Option.bind_some]
                  rw [neI_f rfl, cond_false, cond_false, cond_false, neI_f (by omega), cond_false, neI_f rfl, cond_false, eqI_f (by omega), cond_false, z1, hr]
                  simp only [Option.bind_some]
                  rw [show neB (eqI (l.length : Nat) 0) (eqI (l.length : Nat) 0) = false by unfold neB; simp, cond_false]
                  rw [show layoutlaw32_DualCurves_L10 ((k : Int), E, A, l, aroundL m lu, aroundL m lv, (a : Int), (b : Int), 0, ()) = some (.inr (.inl (now', aroundL m lv, (a : Int), (b : Int), ()))) from w1]
                  simp only [Option.bind_some, Sum.elim_inr, Sum.elim_inl]
                  rw [eqI_f (by omega), cond_false, y1]
                  rfl
theorem dualCurves_plain (x : (tupTy (layoutlaw32_DualCurves_c.ins.map (·.2))).den) (h : WfIns layoutlaw32_DualCurves_c.ins x) : layoutlaw32_DualCurves x = some (true, ()) := dualCurves_law x.1.1 x.1.2.1 x.1.2.2.1 x.2.1 x.2.2.1
end Go.Vm

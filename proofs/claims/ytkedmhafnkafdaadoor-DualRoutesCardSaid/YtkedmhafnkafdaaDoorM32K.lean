/-
  Routes of the reference.
-/
import Derived.Test.YtkedmhafnkafdaaDoorM32J
set_option linter.unusedVariables false
set_option linter.unusedSimpArgs false
namespace Go.Vm
open Go.Proofs
set_option maxRecDepth 100000
attribute [local irreducible] loopFix

theorem oth_even (i : Nat) : oth (2 * i) = 2 * i + 1 := by unfold oth; rw [if_pos (by omega)]
theorem oth_odd (i : Nat) : oth (2 * i + 1) = 2 * i := by unfold oth; rw [if_neg (by omega)]; rfl

section
variable {M n : Nat} {fc D : Nat → Nat} {m : List Int} {S : Nat → Prop}

theorem arcs_get (hF : Fc (2 * M) n m fc) {i : Nat} (hi : i < M) : (arcsFrom m 0 M)[i]? = some ((fc (2 * i) : Int), (fc (oth (2 * i)) : Int), ()) := by
  have h1 := hF.get (2 * i) (by omega)
  have h2 := hF.get (2 * i + 1) (by omega)
  unfold arcsFrom
  rw [List.getElem?_map, List.getElem?_range' (by omega)]
  simp [mk2, h1, h2, oth_even]
theorem arcs_len : (arcsFrom m 0 M).length = M := by simp [arcsFrom]

/-! ### Far: the relaxations -/

def rel1 (fc : Nat → Nat) (k : Nat) (out : List Int) : List Int := out.set (fc k) (minI (lab out (fc k)) (lab out (fc (oth k)) + 1))

structure FI (M n : Nat) (fc : Nat → Nat) (S : Nat → Prop) (out : List Int) (r K : Nat) : Prop where
  len : out.length = n
  val : ∀ f, f < n → ∃ d : Nat, lab out f = (d : Int) ∧ d ≤ n ∧ (d = n ∨ Wk (AdjF (2 * M) fc) S d f)
  up : ∀ t, t ≤ r → ∀ f, f < n → Wk (AdjF (2 * M) fc) S t f → lab out f ≤ t
  inn : ∀ k, k < K → k < 2 * M → Wk (AdjF (2 * M) fc) S r (fc (oth k)) → lab out (fc k) ≤ (r : Int) + 1

theorem FI.half (hF : Fc (2 * M) n m fc) {out : List Int} {r K : Nat} (h : FI M n fc S out r K) (hK : K < 2 * M) : FI M n fc S (rel1 fc K out) r (K + 1) := by
  have ha := hF.lt K hK
  have hb := hF.lt _ (oth_lt hK)
  have hal : fc K < out.length := by rw [h.len]; exact ha
  obtain ⟨da, a1, a2, a3⟩ := h.val _ ha
  obtain ⟨db, b1, b2, b3⟩ := h.val _ hb
  have hle : ∀ f, lab (rel1 fc K out) f ≤ lab out f := by
    intro f
    unfold rel1
    rw [lab_set hal]
    split
    · rename_i e
      subst e
      unfold minI
      split <;> omega
    · exact Int.le_refl _
  refine ⟨by unfold rel1; simpa using h.len, ?_, ?_, ?_⟩
  · intro f hf
    unfold rel1
    rw [lab_set hal]
    split
    · rename_i e
      subst e
      unfold minI
      rw [a1, b1]
      split
      · rename_i hlt
        refine ⟨db + 1, by omega, by omega, .inr ?_⟩
        rcases b3 with e | e
        · omega
        · exact ⟨fc (oth K), ⟨K, hK, rfl, rfl⟩, e⟩
      · exact ⟨da, rfl, a2, a3⟩
    · exact h.val f hf
  · intro t ht f hf hw
    have := h.up t ht f hf hw
    have := hle f
    omega
  · intro k hk hkM hw
    rcases Nat.lt_or_ge k K with e | e
    · have := h.inn k e hkM hw
      have := hle (fc k)
      omega
    · have : k = K := by omega
      subst this
      have hu := h.up r (Nat.le_refl _) _ hb hw
      unfold rel1
      rw [lab_set hal, if_pos rfl]
      unfold minI
      split <;> omega

theorem FI.round {out : List Int} {r : Nat} (h : FI M n fc S out r (2 * M)) (hF : Fc (2 * M) n m fc) : FI M n fc S out (r + 1) 0 where
  len := h.len
  val := h.val
  up := by
    intro t ht f hf hw
    rcases Nat.lt_or_ge r t with e | e
    · have : t = r + 1 := by omega
      subst this
      obtain ⟨g, ⟨k, hk, rfl, rfl⟩, hg⟩ := hw
      have := h.inn k hk hk hg
      omega
    · exact h.up t e f hf hw
  inn := fun k hk => absurd hk (by omega)

theorem far_round (hF : Fc (2 * M) n m fc) (hM : M ≤ 1000) (hn : n ≤ 1000) {out : List Int} {r i : Nat} (h : FI M n fc S out r (2 * i)) (hi : i < M) (rr : Int) :
    ∃ out', layoutref32_far_B12 ((n : Int), arcsFrom m 0 M, out, rr, (i : Int), ()) = some (.inl ((n : Int), arcsFrom m 0 M, out', rr, ((i + 1 : Nat) : Int), ())) ∧ FI M n fc S out' r (2 * (i + 1)) := by
  have h1 := h.half hF (by omega)
  have h2 := h1.half hF (K := 2 * i + 1) (by omega)
  refine ⟨_, ?_, h2⟩
  have ha := hF.lt (2 * i) (by omega)
  have hb := hF.lt (oth (2 * i)) (oth_lt (by omega))
  have hla : fc (2 * i) < out.length := by rw [h.len]; exact ha
  have hlb : fc (oth (2 * i)) < out.length := by rw [h.len]; exact hb
  have hla' : fc (2 * i) < (rel1 fc (2 * i) out).length := by rw [h1.len]; exact ha
  have hlb' : fc (oth (2 * i)) < (rel1 fc (2 * i) out).length := by rw [h1.len]; exact hb
  obtain ⟨db, b1, b2, _⟩ := h.val _ hb
  obtain ⟨da, a1, a2, _⟩ := h1.val _ ha
  have hset : out.set (fc (2 * i)) (minI (lab out (fc (2 * i))) (addI .i64 (lab out (fc (oth (2 * i)))) 1)) = rel1 fc (2 * i) out := by
    unfold rel1
    rw [addI64 (by omega) (by omega)]
  unfold layoutref32_far_B12
  simp only
  rw [arcs_len, ltI_t (by omega), cond_true, getI_of, arcs_get hF hi, Option.bind_some, Option.bind_some]
  rw [idxI_of hla, Option.bind_some, lab_get hla, Option.bind_some, idxI_of hlb, Option.bind_some, lab_get hlb, Option.bind_some, Option.bind_some, lab_get hla, Option.bind_some]
  simp only [hset]
  rw [idxI_of hlb', Option.bind_some, lab_get hlb', Option.bind_some, idxI_of hla', Option.bind_some, lab_get hla', Option.bind_some, Option.bind_some, lab_get hlb', Option.bind_some, add1 (by omega)]
  have e2 : rel1 fc (2 * i + 1) (rel1 fc (2 * i) out) = (rel1 fc (2 * i) out).set (fc (oth (2 * i))) (minI (lab (rel1 fc (2 * i) out) (fc (oth (2 * i)))) (addI .i64 (lab (rel1 fc (2 * i) out) (fc (2 * i))) 1)) := by
    rw [addI64 (by omega) (by omega), oth_even]
    show (rel1 fc (2 * i) out).set (fc (2 * i + 1)) _ = _
    rw [oth_odd]
  rw [e2]

theorem far_inner (hF : Fc (2 * M) n m fc) (hM : M ≤ 1000) (hn : n ≤ 1000) {r : Nat} (rr : Int) : ∀ (c i : Nat) (out : List Int), i + c = M → FI M n fc S out r (2 * i) →
    ∃ out', layoutref32_far_L12 ((n : Int), arcsFrom m 0 M, out, rr, (i : Int), ()) = some (.inl ((n : Int), arcsFrom m 0 M, out', rr, ())) ∧ FI M n fc S out' r (2 * M)
  | 0, i, out, hc, h => by
    have : i = M := by omega
    subst this
    refine ⟨out, ?_, h⟩
    unfold layoutref32_far_L12
    refine loop_done ?_
    unfold layoutref32_far_B12
    simp only
    rw [arcs_len, ltI_f (by omega)]; rfl
  | c + 1, i, out, hc, h => by
    obtain ⟨o1, h1, h2⟩ := far_round hF hM hn h (by omega) rr
    obtain ⟨o2, h3, h4⟩ := far_inner hF hM hn rr c (i + 1) o1 (by omega) h2
    refine ⟨o2, ?_, h4⟩
    rw [← h3]
    unfold layoutref32_far_L12
    exact loop_step h1
theorem far_outer (hF : Fc (2 * M) n m fc) (hM : M ≤ 1000) (hn : n ≤ 1000) : ∀ (c r : Nat) (out : List Int), r + c = n → FI M n fc S out r 0 →
    ∃ out', layoutref32_far_L9 ((n : Int), arcsFrom m 0 M, out, (r : Int), ()) = some (.inl (out', ())) ∧ FI M n fc S out' n 0
  | 0, r, out, hc, h => by
    have : r = n := by omega
    subst this
    refine ⟨out, ?_, h⟩
    unfold layoutref32_far_L9
    refine loop_done ?_
    unfold layoutref32_far_B9
    simp only
    rw [ltI_f (by omega)]; rfl
  | c + 1, r, out, hc, h => by
    obtain ⟨o1, h1, h2⟩ := far_inner hF hM hn (r : Int) M 0 out (by omega) h
    obtain ⟨o2, h3, h4⟩ := far_outer hF hM hn c (r + 1) o1 (by omega) (h2.round hF)
    refine ⟨o2, ?_, h4⟩
    rw [← h3]
    unfold layoutref32_far_L9
    refine loop_step ?_
    unfold layoutref32_far_B9
    simp only
    rw [ltI_t (by omega), cond_true, show ((0 : Int)) = ((0 : Nat) : Int) from rfl, h1]
    simp only [Option.bind_some, Sum.elim_inl]
    rw [add1 (by omega)]

theorem far_init (arcs : List Arc) (to : List Bool) (hto : to.length = n) (hn : n ≤ 1000) : ∀ (c f : Nat) (out : List Int), f + c = n → out = (to.take f).map (fun b => cond b 0 (n : Int)) →
    layoutref32_far_L3 ((n : Int), arcs, out, to, (f : Int), ()) = some (.inl ((n : Int), arcs, to.map (fun b => cond b 0 (n : Int)), ()))
  | 0, f, out, hc, h => by
    unfold layoutref32_far_L3
    refine loop_done ?_
    unfold layoutref32_far_B3
    simp only
    rw [ltI_f (by omega), cond_false, h, List.take_of_length_le (by omega)]
  | c + 1, f, out, hc, h => by
    have hf : f < to.length := by omega
    have hl : out.length = f := by rw [h]; simp; omega
    rw [← far_init arcs to hto hn c (f + 1) (out ++ [cond to[f] 0 (n : Int)]) (by omega) (by
      rw [List.take_add_one, List.getElem?_eq_getElem hf, h, List.map_append]; rfl)]
    unfold layoutref32_far_L3
    refine loop_step ?_
    unfold layoutref32_far_B3
    simp only
    rw [ltI_t (by omega), cond_true, getI_of, List.getElem?_eq_getElem hf, Option.bind_some]
    cases to[f] with
    | true => rw [cond_true, app_of (by simp; omega), Option.bind_some, add1 (by omega)]; rfl
    | false => rw [cond_false, app_of (by simp; omega), Option.bind_some, add1 (by omega)]; rfl

theorem far_eq (hF : Fc (2 * M) n m fc) (hM : M ≤ 1000) (hn : n ≤ 1000) (to : List Bool) (hto : to.length = n) (hS : ∀ f, f < n → (to[f]? = some true ↔ S f)) (hD : ∀ f, f < n → IsDist (AdjF (2 * M) fc) S f (D f)) (hDn : ∀ f, f < n → D f < n) :
    ∃ out, layoutref32_far (((n : Int), arcsFrom m 0 M, ()), to, ()) = some (out, ()) ∧ out.length = n ∧ ∀ f, f < n → out[f]? = some (D f : Int) := by
  have h0 : FI M n fc S (to.map (fun b => cond b 0 (n : Int))) 0 0 := by
    have hlab : ∀ f, f < n → lab (to.map (fun b => cond b 0 (n : Int))) f = cond ((to[f]?).getD false) 0 (n : Int) := by
      intro f hf
      unfold lab
      rw [List.getElem?_map, List.getElem?_eq_getElem (by omega)]
      rfl
    refine ⟨by simpa using hto, ?_, ?_, fun k hk => absurd hk (by omega)⟩
    · intro f hf
      rw [hlab f hf]
      cases e : (to[f]?).getD false with
      | true =>
        refine ⟨0, rfl, by omega, .inr ((hS f hf).1 ?_)⟩
        rw [List.getElem?_eq_getElem (by omega)] at e ⊢
        simpa using e
      | false => exact ⟨n, rfl, Nat.le_refl _, .inl rfl⟩
    · intro t ht f hf hw
      have : t = 0 := by omega
      subst this
      rw [hlab f hf, (hS f hf).2 hw]
      simp
  obtain ⟨out, o1, o2⟩ := far_outer hF hM hn n 0 _ (by omega) h0
  refine ⟨out, ?_, o2.len, ?_⟩
  · unfold layoutref32_far
    simp only
    rw [show ((0 : Int)) = ((0 : Nat) : Int) from rfl, far_init (arcsFrom m 0 M) to hto hn n 0 [] (by omega) rfl]
    simp only [Option.bind_some, Sum.elim_inl]
    rw [o1]; rfl
  · intro f hf
    rw [lab_get (by rw [o2.len]; exact hf)]
    obtain ⟨d, d1, d2, d3⟩ := o2.val f hf
    have hd := hD f hf
    have hlt := hDn f hf
    have hu := o2.up (D f) (by omega) f hf hd.1
    rcases d3 with e | e
    · omega
    · have := hd.le e
      congr 1
      omega

/-! ### The reference's route -/
variable {dist : List Int}

theorem rleast (arcs : List Arc) (now : List Bool) (hnow : now.length = n) (hdl : dist.length = n) (hn : n ≤ 1000) (hD : ∀ f, f < n → dist[f]? = some (D f : Int)) (hDn : ∀ f, f < n → D f < n) : ∀ (c f x : Nat), f + c = n → x ≤ n → (x = n ∨ ∃ g, g < f ∧ now[g]? = some true ∧ D g = x) → (∀ g, g < f → now[g]? = some true → x ≤ D g) →
    ∃ z : Nat, layoutref32_Route_L13 ((n : Int), arcs, [], now, dist, (x : Int), (f : Int), ()) = some (.inl ((n : Int), arcs, [], now, dist, (z : Int), ())) ∧ (z = n ∨ ∃ g, g < n ∧ now[g]? = some true ∧ D g = z) ∧ ∀ g, g < n → now[g]? = some true → z ≤ D g
  | 0, f, x, hc, h1, h2, h3 => by
    have : f = n := by omega
    subst this
    refine ⟨x, ?_, h2, h3⟩
    unfold layoutref32_Route_L13
    refine loop_done ?_
    unfold layoutref32_Route_B13
    simp only
    rw [ltI_f (by omega)]; rfl
  | c + 1, f, x, hc, h1, h2, h3 => by
    have hf : f < n := by omega
    have hfl : f < now.length := by omega
    obtain ⟨b, hb⟩ : ∃ b, now[f]? = some b := ⟨_, List.getElem?_eq_getElem hfl⟩
    cases b with
    | false =>
      obtain ⟨z, z1, z2⟩ := rleast arcs now hnow hdl hn hD hDn c (f + 1) x (by omega) h1 (by
        rcases h2 with e | ⟨g, e1, e2⟩
        · exact .inl e
        · exact .inr ⟨g, by omega, e2⟩) (by
        intro g hg e
        rcases Nat.lt_or_ge g f with c | c
        · exact h3 g c e
        · have : g = f := by omega
          subst this
          rw [hb] at e; cases e)
      refine ⟨z, ?_, z2⟩
      rw [← z1]
      unfold layoutref32_Route_L13
      refine loop_step ?_
      unfold layoutref32_Route_B13
      simp only
      rw [ltI_t (by omega), cond_true, idxI_of hfl, Option.bind_some, hb, Option.bind_some, cond_false, add1 (by omega)]
    | true =>
      have hmin : minI (x : Int) (D f : Int) = ((min x (D f) : Nat) : Int) := by unfold minI; split <;> omega
      obtain ⟨z, z1, z2⟩ := rleast arcs now hnow hdl hn hD hDn c (f + 1) (min x (D f)) (by omega) (by omega) (by
        rcases Nat.lt_or_ge (D f) x with e | e
        · exact .inr ⟨f, by omega, hb, by omega⟩
        · rcases h2 with e' | ⟨g, e1, e2, e3⟩
          · have := hDn f hf; omega
          · exact .inr ⟨g, by omega, e2, by omega⟩) (by
        intro g hg e
        rcases Nat.lt_or_ge g f with c | c
        · have := h3 g c e; omega
        · have : g = f := by omega
          subst this
          omega)
      refine ⟨z, ?_, z2⟩
      rw [← z1]
      unfold layoutref32_Route_L13
      refine loop_step ?_
      unfold layoutref32_Route_B13
      simp only
      rw [ltI_t (by omega), cond_true, idxI_of hfl, Option.bind_some, hb, Option.bind_some, cond_true, idxI_of (by omega), Option.bind_some, hD f hf, Option.bind_some, hmin, add1 (by omega)]

theorem rstep_round (hF : Fc (2 * M) n m fc) (hM : M ≤ 1000) (hD : ∀ f, f < n → dist[f]? = some (D f : Int)) (hn : ∀ f, f < n → D f ≤ 1000) (now next : List Bool) (hnow : now.length = n) (hnext : next.length = n) (hdl : dist.length = n) (out : List Int) (s i : Nat) (hs : s ≤ 1000) (hi : i < M) :
    (Cnd fc D (fun f => now[f]? = some true) s (2 * i) → layoutref32_Route_B21 ((n : Int), arcsFrom m 0 M, out, now, dist, next, ((s + 1 : Nat) : Int), -1, (i : Int), ()) = some (.inl ((n : Int), arcsFrom m 0 M, out, now, dist, next.set (fc (oth (2 * i))) true, ((s + 1 : Nat) : Int), (i : Int), ((i + 1 : Nat) : Int), ()))) ∧
    (Cnd fc D (fun f => now[f]? = some true) s (2 * i + 1) → layoutref32_Route_B21 ((n : Int), arcsFrom m 0 M, out, now, dist, next, ((s + 1 : Nat) : Int), -1, (i : Int), ()) = some (.inl ((n : Int), arcsFrom m 0 M, out, now, dist, next.set (fc (2 * i)) true, ((s + 1 : Nat) : Int), (i : Int), ((i + 1 : Nat) : Int), ()))) ∧
    (¬ Cnd fc D (fun f => now[f]? = some true) s (2 * i) → ¬ Cnd fc D (fun f => now[f]? = some true) s (2 * i + 1) → layoutref32_Route_B21 ((n : Int), arcsFrom m 0 M, out, now, dist, next, ((s + 1 : Nat) : Int), -1, (i : Int), ()) = some (.inl ((n : Int), arcsFrom m 0 M, out, now, dist, next, ((s + 1 : Nat) : Int), -1, ((i + 1 : Nat) : Int), ()))) := by
  have ha := hF.lt (2 * i) (by omega)
  have hb := hF.lt (oth (2 * i)) (oth_lt (by omega))
  obtain ⟨a, ea⟩ : ∃ a, a = fc (2 * i) := ⟨_, rfl⟩
  obtain ⟨b, eb⟩ : ∃ b, b = fc (oth (2 * i)) := ⟨_, rfl⟩
  have harc := arcs_get hF hi
  unfold Cnd
  rw [oth_odd, ← oth_even, ← ea, ← eb]
  rw [← ea, ← eb] at harc
  rw [← ea] at ha
  rw [← eb] at hb
  obtain ⟨na, hna⟩ : ∃ x, now[a]? = some x := ⟨_, List.getElem?_eq_getElem (by omega)⟩
  obtain ⟨nb, hnb⟩ : ∃ x, now[b]? = some x := ⟨_, List.getElem?_eq_getElem (by omega)⟩
  have hda := hD a ha
  have hdb := hD b hb
  obtain ⟨xa, hxa⟩ : ∃ x, next[a]? = some x := ⟨_, List.getElem?_eq_getElem (by omega)⟩
  obtain ⟨xb, hxb⟩ : ∃ x, next[b]? = some x := ⟨_, List.getElem?_eq_getElem (by omega)⟩
  have i1 : idxI now.length (a : Int) = some a := idxI_of (by omega)
  have i2 : idxI now.length (b : Int) = some b := idxI_of (by omega)
  have i3 : idxI dist.length (a : Int) = some a := idxI_of (by omega)
  have i4 : idxI dist.length (b : Int) = some b := idxI_of (by omega)
  have i5 : idxI next.length (a : Int) = some a := idxI_of (by omega)
  have i6 : idxI next.length (b : Int) = some b := idxI_of (by omega)
  have i7 : idxI (arcsFrom m 0 M).length (i : Int) = some i := idxI_of (by rw [arcs_len]; exact hi)
  have hsub : subI .i64 ((s + 1 : Nat) : Int) 1 = (s : Int) := by rw [sub1 (by omega)]; omega
  have hlt : ltI (i : Int) (((arcsFrom m 0 M).length : Nat) : Int) = true := by rw [arcs_len]; exact ltI_t (by omega)
  have q1 : eqI (D a : Int) ((s + 1 : Nat) : Int) = decide (D a = s + 1) := by
    by_cases e : D a = s + 1
    · rw [eqI_t (by omega)]; simp [e]
    · rw [eqI_f (by omega)]; simp [e]
  have q2 : eqI (D b : Int) ((s + 1 : Nat) : Int) = decide (D b = s + 1) := by
    by_cases e : D b = s + 1
    · rw [eqI_t (by omega)]; simp [e]
    · rw [eqI_f (by omega)]; simp [e]
  have q3 : eqI (D a : Int) (s : Int) = decide (D a = s) := by
    by_cases e : D a = s
    · rw [eqI_t (by omega)]; simp [e]
    · rw [eqI_f (by omega)]; simp [e]
  have q4 : eqI (D b : Int) (s : Int) = decide (D b = s) := by
    by_cases e : D b = s
    · rw [eqI_t (by omega)]; simp [e]
    · rw [eqI_f (by omega)]; simp [e]
  have hs1 : decide (s = s + 1) = false := decide_eq_false (by omega)
  have hs2 : decide (s + 1 = s) = false := decide_eq_false (by omega)
  unfold layoutref32_Route_B21
  simp only [hlt, cond_true, show ltI (-1) 0 = true from rfl, i7, Option.bind_some, harc, i1, i2, i3, i4, i5, i6, hna, hnb, hda, hdb, hxa, hxb, hsub, q1, q2, q3, q4, add1 (show i < 9223372036854775807 by omega)]
  refine ⟨?_, ?_, ?_⟩
  · rintro ⟨c1, c2, c3⟩
    cases c1
    have c4 : ¬ D b = s + 1 := by omega
    simp only [c2, c3, decide_true, cond_true, hs1]
    cases nb <;> rfl
  · rintro ⟨c1, c2, c3⟩
    cases c1
    simp only [c2, c3, decide_true, cond_true, hs1, hs2, cond_false]
    cases na <;> rfl
  · intro c1 c2
    have w1 : na = true → D a = s + 1 → ¬ D b = s := fun x y z => c1 ⟨by rw [x], y, z⟩
    have w2 : nb = true → D b = s + 1 → ¬ D a = s := fun x y z => c2 ⟨by rw [x], y, z⟩
    cases na <;> cases nb
    · rfl
    · simp only [cond_true, cond_false]
      by_cases e : D b = s + 1
      · simp [e, w2 rfl e]
      · simp [e]
    · simp only [cond_true, cond_false]
      by_cases e : D a = s + 1
      · simp [e, w1 rfl e]
      · simp [e]
    · simp only [cond_true]
      by_cases e : D a = s + 1
      · have := w1 rfl e
        by_cases e' : D b = s + 1
        · simp [e, e']
        · simp [e, e', this]
      · by_cases e' : D b = s + 1
        · simp [e, e', w2 rfl e']
        · simp [e, e']

theorem rstep_end (arcs : List Arc) (out : List Int) (now next : List Bool) (left : Int) (e i : Nat) : layoutref32_Route_L21 ((n : Int), arcs, out, now, dist, next, left, (e : Int), (i : Int), ()) = some (.inl ((n : Int), arcs, out, dist, next, left, (e : Int), ())) := by
  unfold layoutref32_Route_L21
  refine loop_done ?_
  unfold layoutref32_Route_B21
  simp only
  rw [ltI_f (show (0 : Int) ≤ (e : Int) by omega)]
  cases ltI (i : Int) ((arcs.length : Nat) : Int) <;> rfl

theorem rstep_loop (hF : Fc (2 * M) n m fc) (hM : M ≤ 1000) (hD : ∀ f, f < n → dist[f]? = some (D f : Int)) (hn : ∀ f, f < n → D f ≤ 1000) (now next : List Bool) (hnow : now.length = n) (hnext : next.length = n) (hdl : dist.length = n) (out : List Int) (s k : Nat) (hs : s ≤ 1000) (hk : k < 2 * M)
    (hc : Cnd fc D (fun f => now[f]? = some true) s k) (hmin : ∀ j, j < k → ¬ Cnd fc D (fun f => now[f]? = some true) s j) : ∀ (c i : Nat), i + c = k / 2 →
    layoutref32_Route_L21 ((n : Int), arcsFrom m 0 M, out, now, dist, next, ((s + 1 : Nat) : Int), -1, (i : Int), ()) = some (.inl ((n : Int), arcsFrom m 0 M, out, dist, next.set (fc (oth k)) true, ((s + 1 : Nat) : Int), ((k / 2 : Nat) : Int), ()))
  | 0, i, h => by
    have hi : i < M := by omega
    obtain ⟨r1, r2, _⟩ := rstep_round hF hM hD hn now next hnow hnext hdl out s i hs hi
    have hk2 : k / 2 = i := by omega
    rw [hk2]
    rcases Nat.lt_or_ge (2 * i) k with h1 | h1
    · have hke : k = 2 * i + 1 := by omega
      subst hke
      rw [oth_odd]
      rw [← rstep_end (arcsFrom m 0 M) out now (next.set (fc (2 * i)) true) ((s + 1 : Nat) : Int) i (i + 1)]
      unfold layoutref32_Route_L21
      exact loop_step (r2 hc)
    · have hke : k = 2 * i := by omega
      subst hke
      rw [← rstep_end (arcsFrom m 0 M) out now (next.set (fc (oth (2 * i))) true) ((s + 1 : Nat) : Int) i (i + 1)]
      unfold layoutref32_Route_L21
      exact loop_step (r1 hc)
  | c + 1, i, h => by
    have hi : i < M := by omega
    obtain ⟨_, _, r3⟩ := rstep_round hF hM hD hn now next hnow hnext hdl out s i hs hi
    rw [← rstep_loop hF hM hD hn now next hnow hnext hdl out s k hs hk hc hmin c (i + 1) (by omega)]
    unfold layoutref32_Route_L21
    exact loop_step (r3 (hmin _ (by omega)) (hmin _ (by omega)))

theorem rroute_loop (hDs : ∀ f, f < n → IsDist (AdjF (2 * M) fc) S f (D f)) (hF : Fc (2 * M) n m fc) (hM : M ≤ 1000) (hnn : n ≤ 1000) (hdl : dist.length = n) (hD : ∀ f, f < n → dist[f]? = some (D f : Int)) (hn : ∀ f, f < n → D f ≤ 1000) : ∀ (s : Nat) (now : List Bool) (out : List Int), now.length = n → s ≤ 1000 → out.length + s ≤ 2000 → (∃ f : Nat, now[f]? = some true ∧ f < n ∧ D f = s) →
    ∃ l, layoutref32_Route_L17 ((n : Int), arcsFrom m 0 M, out, now, dist, (s : Int), ()) = some (.inl (out ++ l, ())) ∧ Rt M fc D (fun f => now[f]? = some true) s l
  | 0, now, out, _, _, _, _ => by
    refine ⟨[], ?_, rfl⟩
    unfold layoutref32_Route_L17
    refine loop_done ?_
    unfold layoutref32_Route_B17
    simp only
    rw [gtI_f (by omega), cond_false, List.append_nil]
  | s + 1, now, out, h1, h2, h3, ⟨f, f1, f2, f3⟩ => by
    have key : ∃ k, k < 2 * M ∧ Cnd fc D (fun f => now[f]? = some true) s k ∧ ∀ j, j < k → ¬ Cnd fc D (fun f => now[f]? = some true) s j := by
      have h := hDs f f2
      rw [f3] at h
      obtain ⟨g, ⟨k, hk, k1, k2⟩, hg⟩ := h.step
      have hgn : g < n := by rw [← k2]; exact hF.lt _ (oth_lt hk)
      have hgd : D g = s := (hDs g hgn).uniq hg
      obtain ⟨k0, a, b, c⟩ := least_dart (P := Cnd fc D (fun f => now[f]? = some true) s) k ⟨by rw [k1]; exact f1, by rw [k1]; exact f3, by rw [k2]; exact hgd⟩
      exact ⟨k0, by omega, b, c⟩
    obtain ⟨k, k1, k2, k3⟩ := key
    have hgn : fc (oth k) < n := hF.lt _ (oth_lt k1)
    have hset : ∀ g, ((List.replicate n false).set (fc (oth k)) true)[g]? = some true ↔ g = fc (oth k) := by
      intro g
      rw [List.getElem?_set]
      by_cases e : fc (oth k) = g
      · rw [if_pos e, if_pos (by simp; omega)]; simp [e]
      · rw [if_neg e, List.getElem?_replicate]
        split
        · simp; omega
        · simp; omega
    obtain ⟨l, l1, l2⟩ := rroute_loop hDs hF hM hnn hdl hD hn s ((List.replicate n false).set (fc (oth k)) true) (out ++ [((k / 2 : Nat) : Int)]) (by simp) (by omega) (by simp; omega) ⟨fc (oth k), (hset _).2 rfl, hgn, k2.2.2⟩
    refine ⟨((k / 2 : Nat) : Int) :: l, ?_, k, l, k1, k2, k3, rfl, l2.congr (fun g _ => hset g)⟩
    rw [show out ++ ((k / 2 : Nat) : Int) :: l = (out ++ [((k / 2 : Nat) : Int)]) ++ l by simp, ← l1]
    have hmk : makeL .bool (n : Int) (n : Int) = some (List.replicate n false) := by
      unfold makeL
      rw [if_pos ⟨by omega, by omega, by rw [lim_val]; omega⟩]
      simp [zeroVal]
    unfold layoutref32_Route_L17
    refine loop_step ?_
    unfold layoutref32_Route_B17
    simp only
    rw [gtI_t (by omega), cond_true, hmk, Option.bind_some, show ((0 : Int)) = ((0 : Nat) : Int) from rfl, rstep_loop hF hM hD hn now (List.replicate n false) h1 (by simp) hdl out s k (by omega) k1 k2 k3 (k / 2) 0 (by omega)]
    simp only [Option.bind_some, Sum.elim_inl]
    rw [app_of (by simp; omega), Option.bind_some, sub1 (by omega)]
    congr 9
    omega
end
end Go.Vm

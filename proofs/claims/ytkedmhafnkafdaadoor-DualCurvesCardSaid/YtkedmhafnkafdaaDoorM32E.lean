/-
  Distances.
-/
import Derived.Test.YtkedmhafnkafdaaDoorM32D
set_option linter.unusedVariables false
set_option linter.unusedSimpArgs false
namespace Go.Vm
open Go.Proofs
set_option maxRecDepth 100000
attribute [local irreducible] loopFix

/-! ### Distances in a graph -/

def Wk (Adj : Nat → Nat → Prop) (S : Nat → Prop) : Nat → Nat → Prop
  | 0, f => S f
  | t + 1, f => ∃ g, Adj f g ∧ Wk Adj S t g
def IsDist (Adj : Nat → Nat → Prop) (S : Nat → Prop) (f d : Nat) : Prop := Wk Adj S d f ∧ ∀ t, t < d → ¬ Wk Adj S t f

section
variable {Adj : Nat → Nat → Prop} {S : Nat → Prop}

theorem IsDist.uniq {f d d' : Nat} (h : IsDist Adj S f d) (h' : IsDist Adj S f d') : d = d' := by
  rcases Nat.lt_trichotomy d d' with e | e | e
  · exact absurd h.1 (h'.2 d e)
  · exact e
  · exact absurd h'.1 (h.2 d' e)
theorem IsDist.exists {f t : Nat} (h : Wk Adj S t f) : ∃ d, d ≤ t ∧ IsDist Adj S f d := by
  induction t using Nat.strongRecOn with
  | _ t ih =>
    by_cases hx : ∃ s, s < t ∧ Wk Adj S s f
    · obtain ⟨s, hs, hw⟩ := hx
      obtain ⟨d, hd, hd'⟩ := ih s hs hw
      exact ⟨d, by omega, hd'⟩
    · exact ⟨t, Nat.le_refl _, h, fun s hs hw => hx ⟨s, hs, hw⟩⟩
theorem IsDist.step {f d : Nat} (h : IsDist Adj S f (d + 1)) : ∃ g, Adj f g ∧ IsDist Adj S g d := by
  obtain ⟨⟨g, hg, hw⟩, h2⟩ := h
  exact ⟨g, hg, hw, fun t ht hw' => h2 (t + 1) (by omega) ⟨g, hg, hw'⟩⟩
theorem IsDist.path (n : Nat) (hS : ∀ f, S f → f < n) (hA : ∀ f g, Adj f g → f < n) : ∀ (d f : Nat), IsDist Adj S f d → ∃ l : List Nat, l.length = d + 1 ∧ l.Nodup ∧ (∀ x ∈ l, x < n) ∧ ∀ x ∈ l, ∃ t, t ≤ d ∧ IsDist Adj S x t
  | 0, f, h => ⟨[f], rfl, by simp, by simpa using hS f h.1, fun x hx => by simp at hx; subst hx; exact ⟨0, Nat.le_refl _, h⟩⟩
  | d + 1, f, h => by
    obtain ⟨g, hg, h'⟩ := h.step
    obtain ⟨l, l1, l2, l3, l4⟩ := IsDist.path n hS hA d g h'
    refine ⟨f :: l, by simp [l1], List.nodup_cons.2 ⟨fun hf => ?_, l2⟩, ?_, ?_⟩
    · obtain ⟨t, ht, hd⟩ := l4 f hf
      have := hd.uniq h
      omega
    · intro x hx
      rcases List.mem_cons.1 hx with rfl | hx
      · exact hA _ _ hg
      · exact l3 x hx
    · intro x hx
      rcases List.mem_cons.1 hx with rfl | hx
      · exact ⟨d + 1, Nat.le_refl _, h⟩
      · obtain ⟨t, ht, hd⟩ := l4 x hx
        exact ⟨t, by omega, hd⟩
theorem IsDist.lt {n : Nat} (hS : ∀ f, S f → f < n) (hA : ∀ f g, Adj f g → f < n) {d f : Nat} (h : IsDist Adj S f d) : d < n := by
  obtain ⟨l, l1, l2, l3, _⟩ := IsDist.path n hS hA d f h
  have := nodup_le n l l2 l3
  omega
end

/-! ### The faces, and what lies beside them -/

structure Fc (L n : Nat) (m : List Int) (fc : Nat → Nat) : Prop where
  len : m.length = L
  get : ∀ k, k < L → m[k]? = some (fc k : Int)
  lt : ∀ k, k < L → fc k < n
def AdjF (L : Nat) (fc : Nat → Nat) (f g : Nat) : Prop := ∃ k, k < L ∧ fc k = f ∧ fc (oth k) = g
theorem AdjF.symm {m : Nat} {fc : Nat → Nat} {f g : Nat} (h : AdjF (2 * m) fc f g) : AdjF (2 * m) fc g f := by
  obtain ⟨k, h1, h2, h3⟩ := h
  exact ⟨oth k, oth_lt h1, h3, by rw [oth_oth]; exact h2⟩

def lab (out : List Int) (f : Nat) : Int := (out[f]?).getD (-1)
theorem lab_set {out : List Int} {g f : Nat} {v : Int} (hg : g < out.length) : lab (out.set g v) f = if g = f then v else lab out f := by
  unfold lab
  rw [List.getElem?_set]
  split
  · rename_i e; subst e; simp [hg]
  · rfl
theorem lab_get {out : List Int} {f : Nat} (h : f < out.length) : out[f]? = some (lab out f) := by
  unfold lab
  rw [List.getElem?_eq_getElem h]; rfl
def unl (out : List Int) : Nat := out.countP fun x => decide (x < 0)
theorem unl_set : ∀ {out : List Int} {g : Nat} {v : Int}, g < out.length → lab out g < 0 → 0 ≤ v → unl (out.set g v) + 1 = unl out
  | [], g, v, h, _, _ => by simp at h
  | x :: out, 0, v, _, h, hv => by
    have hx : x < 0 := by simpa [lab] using h
    unfold unl
    rw [List.set_cons_zero, List.countP_cons, List.countP_cons, if_neg (by simp; omega), if_pos (by simpa using hx)]
  | x :: out, g + 1, v, hl, h, hv => by
    have ih := unl_set (out := out) (g := g) (v := v) (by simpa using hl) (by simpa [lab] using h) hv
    unfold unl at ih ⊢
    rw [List.set_cons_succ, List.countP_cons, List.countP_cons]
    omega
theorem unl_le (out : List Int) : unl out ≤ out.length := List.countP_le_length

/-! ### The search -/

structure BI (M n : Nat) (fc : Nat → Nat) (S : Nat → Prop) (C : Nat) (out q : List Int) : Prop where
  len : out.length = n
  lb : ∀ f, f < n → 0 ≤ lab out f → ∃ d : Nat, lab out f = d ∧ IsDist (AdjF (2 * M) fc) S f d
  qin : ∀ x ∈ q, ∃ f : Nat, x = (f : Int) ∧ f < n ∧ 0 ≤ lab out f
  cap : q.length + unl out ≤ C
  mono : q.Pairwise fun x y => lab out x.toNat ≤ lab out y.toNat
  up : ∀ x ∈ q, ∀ y ∈ q, lab out y.toNat ≤ lab out x.toNat + 1
  clo : ∀ f, f < n → 0 ≤ lab out f → (f : Int) ∉ q → ∀ g, AdjF (2 * M) fc f g → 0 ≤ lab out g
  goal : ∀ f, S f → 0 ≤ lab out f

def stepD (fc : Nat → Nat) (f k : Nat) (s : List Int × List Int) : List Int × List Int :=
  if fc k = f ∧ lab s.1 (fc (oth k)) < 0 then (s.1.set (fc (oth k)) (lab s.1 f + 1), s.2 ++ [(fc (oth k) : Int)]) else s

section
variable {M n C : Nat} {fc : Nat → Nat} {S : Nat → Prop}

theorem BI.near {out q : List Int} (h : BI M n fc S C out q) (hA : ∀ f g, AdjF (2 * M) fc f g → f < n ∧ g < n) (hS : ∀ f, S f → f < n) {d : Nat} (hq : ∀ x ∈ q, (d : Int) ≤ lab out x.toNat) : ∀ (s x : Nat), s < d → Wk (AdjF (2 * M) fc) S s x → x < n ∧ 0 ≤ lab out x ∧ (x : Int) ∉ q := by
  have fin : ∀ s x, s < d → Wk (AdjF (2 * M) fc) S s x → x < n → 0 ≤ lab out x → (x : Int) ∉ q := by
    intro s x hs hw hx hl hm
    obtain ⟨e, e1, e2⟩ := h.lb x hx hl
    have := hq _ hm
    simp only [Int.toNat_natCast] at this
    exact e2.2 s (by omega) hw
  intro s
  induction s with
  | zero =>
    intro x hs hw
    have hx := hS x hw
    have hl := h.goal x hw
    exact ⟨hx, hl, fin 0 x hs hw hx hl⟩
  | succ s ih =>
    intro x hs hw
    obtain ⟨g, hg, hwg⟩ := hw
    obtain ⟨g1, g2, g3⟩ := ih g (by omega) hwg
    have hl := h.clo g g1 g2 g3 x hg.symm
    exact ⟨(hA x g hg).1, hl, fin (s + 1) x hs ⟨g, hg, hwg⟩ (hA x g hg).1 hl⟩

theorem stepD_ok (hA : ∀ f g, AdjF (2 * M) fc f g → f < n ∧ g < n) (hS : ∀ f, S f → f < n) {out q : List Int} {f k : Nat} (h : BI M n fc S C out q) (hk : k < 2 * M) (hq : q[0]? = some (f : Int)) :
    BI M n fc S C (stepD fc f k (out, q)).1 (stepD fc f k (out, q)).2 ∧ (stepD fc f k (out, q)).2[0]? = some (f : Int) ∧ (∀ x, 0 ≤ lab out x → lab (stepD fc f k (out, q)).1 x = lab out x) ∧
      (fc k = f → 0 ≤ lab (stepD fc f k (out, q)).1 (fc (oth k))) := by
  unfold stepD
  simp only
  by_cases hc : fc k = f ∧ lab out (fc (oth k)) < 0
  · rw [if_pos hc]
    obtain ⟨c1, c2⟩ := hc
    obtain ⟨g, hg⟩ : ∃ g, g = fc (oth k) := ⟨_, rfl⟩
    rw [← hg] at c2 ⊢
    have hadj : AdjF (2 * M) fc f g := ⟨k, hk, c1, hg.symm⟩
    obtain ⟨hfn, hgn⟩ := hA f g hadj
    have hgl : g < out.length := by rw [h.len]; exact hgn
    have hfq : (f : Int) ∈ q := List.mem_of_getElem? hq
    obtain ⟨f', hf', _, hfl⟩ := h.qin _ hfq
    have : f = f' := by omega
    subst this
    obtain ⟨d, hd, hdist⟩ := h.lb f hfn hfl
    have hmin : ∀ x ∈ q, (d : Int) ≤ lab out x.toNat := by
      intro x hx
      match q, hq, hx, h.mono with
      | y :: q, hq, hx, hm =>
        simp at hq
        subst hq
        rcases List.mem_cons.1 hx with rfl | hx
        · simp [hd]
        · have := (List.pairwise_cons.1 hm).1 x hx
          simp only [Int.toNat_natCast, hd] at this
          exact this
    have hne : ∀ x, 0 ≤ lab out x → g ≠ x := by rintro x hx rfl; omega
    have hkeep : ∀ x, 0 ≤ lab out x → lab (out.set g (lab out f + 1)) x = lab out x := fun x hx => by rw [lab_set hgl, if_neg (hne x hx)]
    have hnew : lab (out.set g (lab out f + 1)) g = ((d + 1 : Nat) : Int) := by rw [lab_set hgl, if_pos rfl, hd]; omega
    have hqk : ∀ x ∈ q, lab (out.set g (lab out f + 1)) x.toNat = lab out x.toNat := by
      intro x hx
      obtain ⟨y, rfl, _, hy⟩ := h.qin x hx
      exact hkeep _ hy
    refine ⟨⟨by simpa using h.len, ?_, ?_, ?_, ?_, ?_, ?_, ?_⟩, ?_, hkeep, fun _ => by rw [hnew]; omega⟩
    · intro x hx hl
      by_cases e : g = x
      · subst e
        refine ⟨d + 1, hnew, ⟨f, hadj.symm, hdist.1⟩, fun t ht hw => ?_⟩
        cases t with
        | zero => have := h.goal g hw; omega
        | succ t =>
          obtain ⟨y, hy, hwy⟩ := hw
          obtain ⟨y1, y2, y3⟩ := h.near hA hS hmin t y (by omega) hwy
          have := h.clo y y1 y2 y3 g hy.symm
          omega
      · rw [lab_set hgl, if_neg e] at hl ⊢
        exact h.lb x hx hl
    · intro x hx
      rcases List.mem_append.1 hx with hx | hx
      · obtain ⟨y, rfl, y1, y2⟩ := h.qin x hx
        exact ⟨y, rfl, y1, by rw [hkeep y y2]; exact y2⟩
      · simp at hx
        subst hx
        exact ⟨g, rfl, hgn, by rw [hnew]; omega⟩
    · have := unl_set (v := lab out f + 1) hgl c2 (by omega)
      have := h.cap
      simp only [List.length_append, List.length_singleton]
      omega
    · refine List.pairwise_append.2 ⟨?_, by simp, ?_⟩
      · refine List.Pairwise.imp_of_mem (fun {a b} ha hb hab => ?_) h.mono
        rw [hqk a ha, hqk b hb]; exact hab
      · intro a ha b hb
        simp at hb
        subst hb
        rw [hqk a ha, Int.toNat_natCast, hnew]
        have := h.up _ hfq a ha
        simp only [Int.toNat_natCast, hd] at this
        omega
    · have hup : ∀ x ∈ q, lab out x.toNat ≤ (d : Int) + 1 := by
        intro x hx
        have := h.up _ hfq x hx
        simp only [Int.toNat_natCast, hd] at this
        exact this
      intro x hx y hy
      rcases List.mem_append.1 hx with hx | hx <;> rcases List.mem_append.1 hy with hy | hy
      · rw [hqk x hx, hqk y hy]; exact h.up x hx y hy
      · simp at hy
        subst hy
        rw [hqk x hx, Int.toNat_natCast, hnew]
        have := hmin x hx
        omega
      · simp at hx
        subst hx
        rw [hqk y hy, Int.toNat_natCast, hnew]
        have := hup y hy
        omega
      · simp at hx hy
        subst hx
        subst hy
        omega
    · intro x hx hl hm y hy
      have e : g ≠ x := by
        rintro rfl
        exact hm (by simp)
      rw [lab_set hgl, if_neg e] at hl
      have := h.clo x hx hl (fun hxq => hm (by simp [hxq])) y hy
      rw [hkeep y this]; exact this
    · intro x hx
      have := h.goal x hx
      rw [hkeep x this]; exact this
    · have : 0 < q.length := (List.getElem?_eq_some_iff.1 hq).1
      rw [List.getElem?_append_left this]; exact hq
  · rw [if_neg hc]
    refine ⟨h, hq, fun _ _ => rfl, fun e => ?_⟩
    simp only
    rcases Int.lt_or_le (lab out (fc (oth k))) 0 with e' | e'
    · exact absurd ⟨e, e'⟩ hc
    · exact e'

def stepE (fc : Nat → Nat) (f e : Nat) (s : List Int × List Int) : List Int × List Int := stepD fc f (2 * e + 1) (stepD fc f (2 * e) s)
def stepsE (fc : Nat → Nat) (f : Nat) : Nat → Nat → List Int × List Int → List Int × List Int
  | _, 0, s => s
  | e, c + 1, s => stepsE fc f (e + 1) c (stepE fc f e s)

theorem stepE_ok (hA : ∀ f g, AdjF (2 * M) fc f g → f < n ∧ g < n) (hS : ∀ f, S f → f < n) {s : List Int × List Int} {f e : Nat} (h : BI M n fc S C s.1 s.2) (he : e < M) (hq : s.2[0]? = some (f : Int)) :
    BI M n fc S C (stepE fc f e s).1 (stepE fc f e s).2 ∧ (stepE fc f e s).2[0]? = some (f : Int) ∧ (∀ x, 0 ≤ lab s.1 x → lab (stepE fc f e s).1 x = lab s.1 x) ∧
      (∀ k, k / 2 = e → fc k = f → 0 ≤ lab (stepE fc f e s).1 (fc (oth k))) := by
  obtain ⟨a1, a2, a3, a4⟩ := stepD_ok hA hS h (k := 2 * e) (by omega) hq
  obtain ⟨b1, b2, b3, b4⟩ := stepD_ok hA hS a1 (k := 2 * e + 1) (by omega) a2
  have es : stepE fc f e s = stepD fc f (2 * e + 1) ((stepD fc f (2 * e) s).1, (stepD fc f (2 * e) s).2) := rfl
  have e0 : (s.1, s.2) = s := rfl
  rw [e0] at a1 a2 a3 a4 b1 b2 b3 b4
  rw [es]
  refine ⟨b1, b2, fun x hx => ?_, fun k hk hf => ?_⟩
  · rw [b3 x (by rw [a3 x hx]; exact hx), a3 x hx]
  · rcases Nat.mod_two_eq_zero_or_one k with e' | e'
    · have : k = 2 * e := by omega
      subst this
      have := a4 hf
      rw [b3 _ this]; exact this
    · have : k = 2 * e + 1 := by omega
      subst this
      exact b4 hf

theorem stepsE_ok (hA : ∀ f g, AdjF (2 * M) fc f g → f < n ∧ g < n) (hS : ∀ f, S f → f < n) {f : Nat} : ∀ (c e : Nat) (s : List Int × List Int), BI M n fc S C s.1 s.2 → e + c = M → s.2[0]? = some (f : Int) →
    BI M n fc S C (stepsE fc f e c s).1 (stepsE fc f e c s).2 ∧ (stepsE fc f e c s).2[0]? = some (f : Int) ∧ (∀ x, 0 ≤ lab s.1 x → lab (stepsE fc f e c s).1 x = lab s.1 x) ∧
      (∀ k, k < 2 * M → e ≤ k / 2 → fc k = f → 0 ≤ lab (stepsE fc f e c s).1 (fc (oth k)))
  | 0, e, s, h, hc, hq => ⟨h, hq, fun _ _ => rfl, fun k hk he _ => by omega⟩
  | c + 1, e, s, h, hc, hq => by
    obtain ⟨a1, a2, a3, a4⟩ := stepE_ok hA hS h (e := e) (by omega) hq
    obtain ⟨b1, b2, b3, b4⟩ := stepsE_ok hA hS c (e + 1) (stepE fc f e s) a1 (by omega) a2
    unfold stepsE
    refine ⟨b1, b2, fun x hx => by rw [b3 x (by rw [a3 x hx]; exact hx), a3 x hx], fun k hk he hf => ?_⟩
    rcases Nat.lt_or_ge e (k / 2) with h1 | h1
    · exact b4 k hk h1 hf
    · have := a4 k (by omega) hf
      rw [b3 _ this]; exact this

/-- The first of the queue is done with. -/
theorem BI.pop (hA : ∀ f g, AdjF (2 * M) fc f g → f < n ∧ g < n) (hS : ∀ f, S f → f < n) {out q : List Int} {f : Nat} (h : BI M n fc S C out ((f : Int) :: q)) :
    BI M n fc S C (stepsE fc f 0 M (out, (f : Int) :: q)).1 ((stepsE fc f 0 M (out, (f : Int) :: q)).2.drop 1) ∧ (stepsE fc f 0 M (out, (f : Int) :: q)).2.length + 2 * unl (stepsE fc f 0 M (out, (f : Int) :: q)).1 ≤ q.length + 1 + 2 * unl out ∧
      0 < (stepsE fc f 0 M (out, (f : Int) :: q)).2.length := by
  obtain ⟨a1, a2, a3, a4⟩ := stepsE_ok hA hS M 0 (out, (f : Int) :: q) h (by omega) rfl
  have hm : ∀ (c e : Nat) (s : List Int × List Int), s.1.length = n → (∀ k, k < 2 * M → fc (oth k) < n) → e + c = M → 0 ≤ lab s.1 f → f < n → (stepsE fc f e c s).2.length + 2 * unl (stepsE fc f e c s).1 ≤ s.2.length + 2 * unl s.1 := by
    have one : ∀ (k : Nat) (s : List Int × List Int), k < 2 * M → s.1.length = n → fc (oth k) < n → 0 ≤ lab s.1 f → (stepD fc f k s).2.length + 2 * unl (stepD fc f k s).1 ≤ s.2.length + 2 * unl s.1 ∧ (stepD fc f k s).1.length = n ∧ 0 ≤ lab (stepD fc f k s).1 f := by
      intro k s hk hs hg hf
      unfold stepD
      split
      · rename_i hc
        have hgl : fc (oth k) < s.1.length := by omega
        have := unl_set (v := lab s.1 f + 1) hgl hc.2 (by omega)
        refine ⟨by simp only [List.length_append, List.length_singleton]; omega, by simpa using hs, ?_⟩
        rw [lab_set hgl]
        split
        · omega
        · exact hf
      · exact ⟨Nat.le_refl _, hs, hf⟩
    intro c
    induction c with
    | zero => intro e s _ _ _ _ _; exact Nat.le_refl _
    | succ c ih =>
      intro e s hs hg hc hf hfn
      unfold stepsE
      obtain ⟨p1, p2, p3⟩ := one (2 * e) s (by omega) hs (hg _ (by omega)) hf
      obtain ⟨r1, r2, r3⟩ := one (2 * e + 1) _ (by omega) p2 (hg _ (by omega)) p3
      have := ih (e + 1) (stepE fc f e s) r2 hg (by omega) r3 hfn
      unfold stepE at this ⊢
      omega
  obtain ⟨f', hf', hfn, hfl⟩ := h.qin (f : Int) (by simp)
  have : f = f' := by omega
  subst this
  have hmm := hm M 0 (out, (f : Int) :: q) h.len (fun k hk => (hA _ _ ⟨k, hk, rfl, rfl⟩).2) (by omega) hfl hfn
  generalize stepsE fc f 0 M (out, (f : Int) :: q) = s at a1 a2 a3 a4 hmm ⊢
  obtain ⟨o, r⟩ := s
  match r, a2, a1 with
  | y :: r, a2, a1 =>
    simp at a2
    subst a2
    refine ⟨?_, by simpa using hmm, by simp⟩
    simp only [List.drop_succ_cons, List.drop_zero]
    refine ⟨a1.len, a1.lb, fun x hx => a1.qin x (by simp [hx]), by have := a1.cap; simp only [List.length_cons] at this; omega, (List.pairwise_cons.1 a1.mono).2, fun x hx y hy => a1.up x (by simp [hx]) y (by simp [hy]), ?_, a1.goal⟩
    intro x hx hl hxr g hg
    by_cases e : x = f
    · subst e
      obtain ⟨k, k1, k2, k3⟩ := hg
      have := a4 k k1 (by omega) k2
      rw [k3] at this
      exact this
    · exact a1.clo x hx hl (by
        intro hm
        rcases List.mem_cons.1 hm with h1 | h1
        · exact e (by omega)
        · exact hxr h1) g hg
end
end Go.Vm

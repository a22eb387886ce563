/-
  The faces hang together.
-/
import Derived.Test.YtkedmhafnkafdaaDoorM32F
import Derived.Test.YtkedmhafnkafdaaDoorM39J
set_option linter.unusedVariables false
set_option linter.unusedSimpArgs false
namespace Go.Vm
open Go.Proofs
set_option maxRecDepth 100000
attribute [local irreducible] loopFix

/-! ### The faces around the vertices hang together -/

theorem succ_mod {i j n : Nat} (hi : i < n) (hj : j < n) (e : (i + 1) % n = (j + 1) % n) : i = j := by
  rcases Nat.lt_or_ge (i + 1) n with a | a <;> rcases Nat.lt_or_ge (j + 1) n with b | b
  · rw [Nat.mod_eq_of_lt a, Nat.mod_eq_of_lt b] at e; omega
  · have : j + 1 = n := by omega
    rw [Nat.mod_eq_of_lt a, this, Nat.mod_self] at e; omega
  · have : i + 1 = n := by omega
    rw [this, Nat.mod_self, Nat.mod_eq_of_lt b] at e; omega
  · omega

section
variable {N : Nat} {E : List Arc} {A : List (List Int)} {nx : List Int}

theorem fol_at (h : RotOK (N : Nat) E A) (hn : Fol oth E A nx) {a : Nat} {y : Int} (ha : nx[a]? = some y) :
    ∃ (v : Nat) (l : List Int) (i : Nat), A[v]? = some l ∧ i < l.length ∧ l.getD i 0 = ((oth a : Nat) : Int) ∧ y = l.getD ((i + 1) % l.length) 0 ∧ y ∈ l := by
  have hk : a < 2 * E.length := by
    have := (List.getElem?_eq_some_iff.1 ha).1
    rw [hn.len] at this; exact this
  obtain ⟨l, hl, hd⟩ := List.mem_flatten.1 (h.mem (oth_lt hk))
  obtain ⟨v, hv⟩ := List.mem_iff_getElem?.1 hl
  obtain ⟨i, hi, hid⟩ := List.getElem_of_mem hd
  have g1 := hn.get l hl i hi
  have hm : (i + 1) % l.length < l.length := Nat.mod_lt _ (by omega)
  rw [hid, Int.toNat_natCast, oth_oth, ha] at g1
  have g1 := Option.some.inj g1
  refine ⟨v, l, i, hv, hi, ?_, g1, ?_⟩
  · rw [List.getD_eq_getElem?_getD, List.getElem?_eq_getElem hi, hid]; rfl
  · rw [g1, List.getD_eq_getElem?_getD, List.getElem?_eq_getElem hm]; exact List.getElem_mem hm

theorem fol_inj32 (h : RotOK (N : Nat) E A) (hn : Fol oth E A nx) : Inj nx := by
  intro a b y ha hb
  obtain ⟨v, l, i, hv, hi, e1, e2, e3⟩ := fol_at h hn ha
  obtain ⟨v', l', i', hv', hi', e1', e2', e3'⟩ := fol_at h hn hb
  obtain ⟨k, rfl, _, hk⟩ := h.dart v l hv y e3
  obtain ⟨k', hkk, _, hk'⟩ := h.dart v' l' hv' _ e3'
  have : k = k' := by omega
  subst this
  have : v = v' := by omega
  subst this
  rw [hv] at hv'
  have : l = l' := Option.some.inj hv'
  subst this
  have hnd : l.Nodup := h.nodup.sublist (List.sublist_flatten_of_mem (List.mem_of_getElem? hv))
  have hm : (i + 1) % l.length < l.length := Nat.mod_lt _ (by omega)
  have hm' : (i' + 1) % l.length < l.length := Nat.mod_lt _ (by omega)
  rw [e2, List.getD_eq_getElem?_getD, List.getD_eq_getElem?_getD, List.getElem?_eq_getElem hm, List.getElem?_eq_getElem hm'] at e2'
  have e2' : l[(i + 1) % l.length] = l[(i' + 1) % l.length] := e2'
  have e : (i + 1) % l.length = (i' + 1) % l.length := by
    rcases Nat.lt_trichotomy ((i + 1) % l.length) ((i' + 1) % l.length) with c | c | c
    · exact absurd e2' (List.pairwise_iff_getElem.1 hnd _ _ hm hm' c)
    · exact c
    · exact absurd e2'.symm (List.pairwise_iff_getElem.1 hnd _ _ hm' hm c)
  have : i = i' := succ_mod hi hi' e
  subst this
  rw [e1] at e1'
  have : oth a = oth b := by omega
  rw [← oth_oth a, this, oth_oth]

/-- A connected rotation system of genus zero, and its faces. -/
structure Pla (N : Nat) (E : List Arc) (A : List (List Int)) (nx m : List Int) (n : Nat) : Prop where
  rot : RotOK (N : Nat) E A
  conn : Conn N E
  fol : Fol oth E A nx
  nxok : NxOK nx nx.length
  fs : FsOK (2 * E.length) (facesOf nx)
  few : E.length ≤ 100
  m : m = marksOf (2 * E.length) (facesOf nx)
  n : n = max 1 (facesOf nx).length

def fcM (m : List Int) (k : Nat) : Nat := (mk2 m k).toNat
variable {m : List Int} {n : Nat}

theorem Pla.mark (p : Pla N E A nx m n) {k : Nat} (hk : k < 2 * E.length) : m[k]? = some (fcM m k : Int) ∧ fcM m k < n ∧ (E ≠ [] → fcM m k < (facesOf nx).length) := by
  obtain ⟨j, j1, j2, _⟩ := marksOf_some p.fs hk
  rw [← p.m] at j2
  have : fcM m k = j := by unfold fcM mk2; rw [j2]; rfl
  rw [this]
  exact ⟨j2, by rw [p.n]; omega, fun _ => j1⟩
theorem Pla.fc (p : Pla N E A nx m n) : Fc (2 * E.length) n m (fcM m) where
  len := by rw [p.m]; exact marksOf_len
  get := fun k hk => (p.mark hk).1
  lt := fun k hk => (p.mark hk).2.1
theorem Pla.next (p : Pla N E A nx m n) {k y : Nat} (hk : k < 2 * E.length) (hy : nx[k]? = some (y : Int)) : fcM m y = fcM m k := by
  obtain ⟨j, f, h1, h2, h3⟩ := p.fs.face hk
  have cyc := facesOf_cyc (fol_inj32 p.rot p.fol) p.nxok f (List.mem_of_getElem? h1)
  have hyf := cyc_closed cyc h2 hy
  have a := marksOf_at p.fs h1 h2
  have b := marksOf_at p.fs h1 hyf
  rw [← p.m] at a b
  unfold fcM mk2
  rw [a, b]

def atL (m l : List Int) (i : Nat) : Nat := fcM m (l.getD (i % l.length) 0).toNat

theorem Pla.atNext (p : Pla N E A nx m n) {l : List Int} (hl : l ∈ A) {i : Nat} (hi : i < l.length) : ∃ k : Nat, l.getD i 0 = (k : Int) ∧ k < 2 * E.length ∧ fcM m k = atL m l i ∧ fcM m (oth k) = atL m l (i + 1) ∧ nx[oth k]? = some (l.getD ((i + 1) % l.length) 0) := by
  obtain ⟨k, e, hk⟩ := p.rot.mem_of hl (List.getElem_mem hi)
  have hm : (i + 1) % l.length < l.length := Nat.mod_lt _ (by omega)
  have g1 := p.fol.get l hl i hi
  rw [e, Int.toNat_natCast] at g1
  have hg : l.getD i 0 = (k : Int) := by rw [List.getD_eq_getElem?_getD, List.getElem?_eq_getElem hi, e]; rfl
  obtain ⟨y, ey, hy⟩ := p.rot.mem_of hl (List.getElem_mem hm)
  have hgy : l.getD ((i + 1) % l.length) 0 = (y : Int) := by rw [List.getD_eq_getElem?_getD, List.getElem?_eq_getElem hm, ey]; rfl
  refine ⟨k, hg, hk, ?_, ?_, g1⟩
  · unfold atL; rw [Nat.mod_eq_of_lt hi, hg]; rfl
  · rw [hgy] at g1
    rw [← p.next (oth_lt hk) g1]
    unfold atL; rw [hgy]; rfl

theorem Pla.atAdj (p : Pla N E A nx m n) {l : List Int} (hl : l ∈ A) (h0 : l ≠ []) (i : Nat) : AdjF (2 * E.length) (fcM m) (atL m l i) (atL m l (i + 1)) := by
  have hp : 0 < l.length := List.length_pos_iff.2 h0
  obtain ⟨k, _, hk, e1, e2, _⟩ := p.atNext hl (i := i % l.length) (Nat.mod_lt _ hp)
  refine ⟨k, hk, ?_, ?_⟩
  · rw [e1]; unfold atL; rw [Nat.mod_mod]
  · rw [e2]; unfold atL; rw [Nat.mod_add_mod]

variable {S : Nat → Prop}
theorem Pla.atWk (p : Pla N E A nx m n) {l : List Int} (hl : l ∈ A) (h0 : l ≠ []) {t i : Nat} (hw : Wk (AdjF (2 * E.length) (fcM m)) S t (atL m l i)) : ∀ s, Wk (AdjF (2 * E.length) (fcM m)) S (t + s) (atL m l (i + s))
  | 0 => hw
  | s + 1 => ⟨atL m l (i + s), (p.atAdj hl h0 (i + s)).symm, p.atWk hl h0 hw s⟩
theorem Pla.atAll (p : Pla N E A nx m n) {l : List Int} (hl : l ∈ A) {t i j : Nat} (hi : i < l.length) (hj : j < l.length) (hw : Wk (AdjF (2 * E.length) (fcM m)) S t (atL m l i)) : ∃ s, s < l.length ∧ Wk (AdjF (2 * E.length) (fcM m)) S (t + s) (atL m l j) := by
  have h0 : l ≠ [] := by rintro rfl; simp at hi
  rcases Nat.lt_or_ge j i with e | e
  · refine ⟨l.length - i + j, by omega, ?_⟩
    have := p.atWk hl h0 hw (l.length - i + j)
    have e2 : i + (l.length - i + j) = j + l.length := by omega
    rw [e2] at this
    unfold atL at this ⊢
    rw [Nat.add_mod_right] at this
    exact this
  · refine ⟨j - i, by omega, ?_⟩
    have := p.atWk hl h0 hw (j - i)
    rw [show i + (j - i) = j by omega] at this
    exact this
theorem Pla.atIdx (p : Pla N E A nx m n) {l : List Int} {k : Nat} (hk : (k : Int) ∈ l) : ∃ i, i < l.length ∧ atL m l i = fcM m k := by
  obtain ⟨i, hi, e⟩ := List.getElem_of_mem hk
  refine ⟨i, hi, ?_⟩
  unfold atL
  rw [Nat.mod_eq_of_lt hi, List.getD_eq_getElem?_getD, List.getElem?_eq_getElem hi, e]; rfl

theorem Pla.around (p : Pla N E A nx m n) {u v : Nat} (hr : Reach E u v) (hT : ∀ k, k < 2 * E.length → tl E k = u → ∃ t, Wk (AdjF (2 * E.length) (fcM m)) S t (fcM m k)) :
    ∀ k, k < 2 * E.length → tl E k = v → ∃ t, Wk (AdjF (2 * E.length) (fcM m)) S t (fcM m k) := by
  induction hr with
  | refl => exact hT
  | @step v w k _ hk e1 e2 ih =>
    obtain ⟨t, ht⟩ := ih k hk e1
    intro k' hk' e'
    obtain ⟨l, hl, hdm⟩ := List.mem_flatten.1 (p.rot.mem (oth_lt hk))
    obtain ⟨x, hx⟩ := List.mem_iff_getElem?.1 hl
    obtain ⟨c, ec, _, hc⟩ := p.rot.dart x l hx _ hdm
    have : oth k = c := by omega
    subst this
    unfold hd at e2
    have : x = w := by omega
    subst this
    have hd' := p.rot.around hk' e' hx
    obtain ⟨i, hi, hid⟩ := List.getElem_of_mem hdm
    obtain ⟨c, g1, g2, g3, g4, g5⟩ := p.atNext hl hi
    rw [List.getD_eq_getElem?_getD, List.getElem?_eq_getElem hi, hid] at g1
    have : oth k = c := by
      have : ((oth k : Nat) : Int) = (c : Int) := by simpa using g1
      omega
    subst this
    rw [oth_oth] at g4
    rw [g4] at ht
    obtain ⟨j, hj, ej⟩ := p.atIdx hd'
    rw [← ej]
    have hm : (i + 1) % l.length < l.length := Nat.mod_lt _ (by omega)
    have ht' : Wk (AdjF (2 * E.length) (fcM m)) S t (atL m l ((i + 1) % l.length)) := by
      unfold atL at ht ⊢
      rw [Nat.mod_mod]; exact ht
    obtain ⟨s, _, hs⟩ := p.atAll hl hm hj ht'
    exact ⟨_, hs⟩

theorem Pla.goals (p : Pla N E A nx m n) {l : List Int} (hl : l ∈ A) (x : Int) : x ∈ aroundL m l ↔ (E = [] ∧ x = 0) ∨ ∃ k : Nat, (k : Int) ∈ l ∧ x = (fcM m k : Int) ∧ k < 2 * E.length := by
  obtain ⟨v, hv⟩ := List.mem_iff_getElem?.1 hl
  have hvN : v < N := by
    have := (List.getElem?_eq_some_iff.1 hv).1
    have := p.rot.len
    omega
  rw [(around_sorted m l).2]
  cases hle : l.isEmpty with
  | true =>
    have hl0 : l = [] := by simpa using hle
    subst hl0
    have hE : E = [] := Classical.byContradiction fun h => around_ne p.rot p.conn h hvN hv rfl
    simp [hE]
  | false =>
    have hl0 : l ≠ [] := by intro e; rw [e] at hle; simp at hle
    have hE : E ≠ [] := by
      rintro rfl
      cases l with
      | nil => exact hl0 rfl
      | cons d l =>
        obtain ⟨k, _, hk⟩ := p.rot.mem_of hl (d := d) (by simp)
        simp at hk
    rw [cond_false]
    unfold facesAt
    rw [List.mem_map]
    constructor
    · rintro ⟨d, hd, rfl⟩
      obtain ⟨k, rfl, hk⟩ := p.rot.mem_of hl hd
      refine .inr ⟨k, hd, ?_, hk⟩
      have := (p.mark hk).1
      unfold mk2
      simp only [Int.toNat_natCast]
      rw [this]; rfl
    · rintro (⟨h, _⟩ | ⟨k, hk, rfl, hkL⟩)
      · exact absurd h hE
      · refine ⟨k, hk, ?_⟩
        have := (p.mark hkL).1
        unfold mk2
        simp only [Int.toNat_natCast]
        rw [this]; rfl
theorem Pla.goals_nat (p : Pla N E A nx m n) {l : List Int} (hl : l ∈ A) : ∀ x ∈ aroundL m l, ∃ f : Nat, x = (f : Int) ∧ f < n := by
  intro x hx
  rcases (p.goals hl x).1 hx with ⟨_, rfl⟩ | ⟨k, _, rfl, hk⟩
  · exact ⟨0, rfl, by have := p.n; omega⟩
  · exact ⟨_, rfl, (p.mark hk).2.1⟩
theorem Pla.goals_ne (p : Pla N E A nx m n) {l : List Int} (hl : l ∈ A) : aroundL m l ≠ [] := by
  obtain ⟨v, hv⟩ := List.mem_iff_getElem?.1 hl
  by_cases h0 : l = []
  · subst h0
    have : (0 : Int) ∈ aroundL m [] := by rw [(around_sorted m []).2]; simp
    intro e; rw [e] at this; cases this
  · intro e
    obtain ⟨d, hd⟩ := List.exists_mem_of_ne_nil l h0
    obtain ⟨k, rfl, hk⟩ := p.rot.mem_of hl hd
    have := (p.goals hl (fcM m k)).2 (.inr ⟨k, hd, rfl, hk⟩)
    rw [e] at this; cases this
theorem around_len (m l : List Int) : (aroundL m l).length ≤ l.length + 1 := by
  unfold aroundL
  refine Nat.le_trans (compact_le _) ?_
  rw [(isortI_perm _).length_eq]
  cases l.isEmpty with
  | true => simp
  | false => simp [facesAt]

theorem Pla.hconn (p : Pla N E A nx m n) {l : List Int} (hl : l ∈ A) : ∀ f, f < n → ∃ t, Wk (AdjF (2 * E.length) (fcM m)) (fun f => (f : Int) ∈ aroundL m l) t f := by
  intro f hf
  obtain ⟨v, hv⟩ := List.mem_iff_getElem?.1 hl
  have hvN : v < N := by
    have := (List.getElem?_eq_some_iff.1 hv).1
    have := p.rot.len
    omega
  by_cases hE : E = []
  · have h0 : f = 0 := by
      have h1 := p.fs.num
      rw [hE] at h1
      simp at h1
      have := p.n
      rw [h1] at this
      simp at this
      omega
    subst h0
    exact ⟨0, (p.goals hl 0).2 (.inl ⟨hE, rfl⟩)⟩
  · have hp : 0 < 2 * E.length := by have := List.length_pos_iff.2 hE; omega
    have hfl : f < (facesOf nx).length := by
      have h1 := (p.mark hp).2.2 hE
      have := p.n
      omega
    obtain ⟨q1, q2⟩ := p.fs.elem _ (List.getElem_mem hfl)
    obtain ⟨d, hd⟩ := List.exists_mem_of_ne_nil _ q1
    obtain ⟨k, rfl, hk⟩ := q2 d hd
    have hm := marksOf_at p.fs (List.getElem?_eq_getElem hfl) hd
    rw [← p.m, (p.mark hk).1] at hm
    have hfk : fcM m k = f := by have := Option.some.inj hm; omega
    obtain ⟨l', hl', hd'⟩ := List.mem_flatten.1 (p.rot.mem hk)
    obtain ⟨u, hu⟩ := List.mem_iff_getElem?.1 hl'
    obtain ⟨k', e1, _, e3⟩ := p.rot.dart u l' hu _ hd'
    have : k = k' := by omega
    subst this
    have huN : u < N := by
      have := (List.getElem?_eq_some_iff.1 hu).1
      have := p.rot.len
      omega
    have hr : Reach E v u := (p.conn v hvN).symm.trans (p.conn u huN)
    have := p.around (S := fun f => (f : Int) ∈ aroundL m l) hr (fun k hk hv' => ⟨0, (p.goals hl _).2 (.inr ⟨k, p.rot.around hk hv' hv, rfl, hk⟩)⟩) k hk e3
    rw [hfk] at this
    exact this
end
end Go.Vm

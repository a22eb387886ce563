/-
  The faces of a system and of its mirror.
-/
import Derived.Test.YtgeebcgkjcnneaaDoorL39J
import Derived.Test.YtgeebcgkjcnneaaDoorL39F
set_option linter.unusedVariables false
set_option linter.unusedSimpArgs false
namespace Go.Vm
open Go.Proofs
set_option maxRecDepth 100000
attribute [local irreducible] loopFix

/-! ### Sums -/

def sumZ (h : Int → Int) : List Int → Int
  | [] => 0
  | d :: f => h d + sumZ h f
theorem sumZ_perm (h : Int → Int) {a b : List Int} (p : a.Perm b) : sumZ h a = sumZ h b := by
  induction p with
  | nil => rfl
  | cons x _ ih => simp only [sumZ, ih]
  | swap x y l => simp only [sumZ]; omega
  | trans _ _ i1 i2 => exact i1.trans i2
theorem sumZ_map (h : Int → Int) (k : Int → Int) : ∀ l : List Int, sumZ h (l.map k) = sumZ (fun d => h (k d)) l
  | [] => rfl
  | d :: l => by simp only [List.map_cons, sumZ, sumZ_map h k l]
theorem sumZ_congr {h k : Int → Int} : ∀ {l : List Int}, (∀ d ∈ l, h d = k d) → sumZ h l = sumZ k l
  | [], _ => rfl
  | d :: l, e => by
    simp only [sumZ]
    rw [e d (by simp), sumZ_congr fun x hx => e x (by simp [hx])]
theorem sumZ_sub (h k : Int → Int) : ∀ l : List Int, sumZ (fun d => h d - k d) l = sumZ h l - sumZ k l
  | [] => rfl
  | d :: l => by simp only [sumZ, sumZ_sub h k l]; omega
theorem tsZ_sum (g : List Int) (B : List ByteArray) : ∀ f : List Int, tsZ g B f = sumZ (fun d => tnZ g B d.toNat) f
  | [] => rfl
  | d :: f => by simp only [tsZ, sumZ, tsZ_sum g B f]

/-- A cycle goes over into itself. -/
theorem cyc_perm {nx f : List Int} (h : Cyc nx f) : (f.map fun d => nx.getD d.toNat 0).Perm f := by
  cases hf : f with
  | nil => exact List.Perm.refl _
  | cons a r =>
    have : (f.map fun d => nx.getD d.toNat 0) = r ++ [a] := by
      refine List.ext_getElem? fun i => ?_
      rw [List.getElem?_map]
      by_cases hi : i < f.length
      · rw [List.getElem?_eq_getElem hi, Option.map_some, List.getD_eq_getElem?_getD, h.2 i hi, Option.getD_some, List.getD_eq_getElem?_getD]
        by_cases e : i + 1 < f.length
        · rw [Nat.mod_eq_of_lt e]
          have hr : i < r.length := by rw [hf] at e; simpa using e
          rw [List.getElem?_append_left hr, hf, List.getElem?_cons_succ, List.getElem?_eq_getElem hr]; rfl
        · have e2 : i + 1 = f.length := by omega
          have hr : i = r.length := by rw [hf] at e2; simpa using e2
          rw [e2, Nat.mod_self, hf, hr, List.getElem?_append_right (Nat.le_refl _)]
          simp
      · rw [List.getElem?_eq_none (by omega), List.getElem?_eq_none (by rw [hf] at hi; simp at hi ⊢; omega)]; rfl
    rw [← hf, this, hf]
    exact List.perm_append_singleton a r

/-! ### As many faces -/

def Sub (fs fs' : List (List Int)) : Prop := ∀ f ∈ fs, ∀ f' ∈ fs', ∀ k : Nat, (k : Int) ∈ f' → ((oth k : Nat) : Int) ∈ f → ∀ y : Nat, (y : Int) ∈ f → ((oth y : Nat) : Int) ∈ f'

theorem faces_le {L : Nat} {m m' : List Bool} {fs fs' : List (List Int)} (he : ∀ k, k < L → oth k < L) (h : FacesInv L L (m, fs)) (h' : FacesInv L L (m', fs')) (hs : Sub fs fs') : fs'.length ≤ fs.length := by
  have hx : ∀ f' ∈ fs', ∃ k : Nat, f'.headD 0 = (k : Int) ∧ k < L ∧ (k : Int) ∈ f' := by
    intro f' hf'
    obtain ⟨h1, h2⟩ := h'.elem f' hf'
    cases f' with
    | nil => exact absurd rfl h1
    | cons a r =>
      obtain ⟨k, hk, hkL⟩ := h2 a (by simp)
      exact ⟨k, hk, hkL, by simp [← hk]⟩
  have ex : ∀ f' ∈ fs', ∃ f, f ∈ fs ∧ decide (((oth (f'.headD 0).toNat : Nat) : Int) ∈ f) = true := by
    intro f' hf'
    obtain ⟨k, h1, h2, h3⟩ := hx f' hf'
    rw [h1, Int.toNat_natCast]
    obtain ⟨f, hf, hin⟩ := List.mem_flatten.1 (h.cover (oth k) (he k h2) (he k h2))
    exact ⟨f, hf, by simpa using hin⟩
  obtain ⟨idx, hidx⟩ : ∃ idx : List Int → Nat, ∀ f' ∈ fs', ∃ f, ∃ k : Nat, fs[idx f']? = some f ∧ (k : Int) ∈ f' ∧ ((oth k : Nat) : Int) ∈ f := by
    refine ⟨fun f' => fs.findIdx fun f => decide (((oth (f'.headD 0).toNat : Nat) : Int) ∈ f), fun f' hf' => ?_⟩
    obtain ⟨k, h1, h2, h3⟩ := hx f' hf'
    have w := List.findIdx_lt_length_of_exists (ex f' hf')
    have g := List.findIdx_getElem (w := w)
    simp only [decide_eq_true_eq] at g
    refine ⟨_, k, List.getElem?_eq_getElem w, h3, ?_⟩
    have e1 : (f'.headD 0).toNat = k := by rw [h1, Int.toNat_natCast]
    rw [← e1]; exact g
  have := nodup_le fs.length (fs'.map idx) (by
    rw [List.Nodup, List.pairwise_map]
    have hd := (List.pairwise_flatten.1 h'.nodup).2
    refine hd.imp_of_mem ?_
    intro a b ha hb hab e
    obtain ⟨f, k, g1, g2, g3⟩ := hidx a ha
    obtain ⟨f2, k', g1', g2', g3'⟩ := hidx b hb
    rw [← e, g1] at g1'
    have : f = f2 := Option.some.inj g1'
    subst this
    have := hs f (List.mem_of_getElem? g1) a ha k g2 g3 (oth k') g3'
    rw [oth_oth] at this
    exact hab _ this _ g2' rfl) (by
    intro x hx'
    obtain ⟨f', hf', rfl⟩ := List.mem_map.1 hx'
    obtain ⟨f, k, g1, _⟩ := hidx f' hf'
    exact (List.getElem?_eq_some_iff.1 g1).1)
  simpa using this

/-! ### A system and its mirror -/

section
variable {E : List Arc} {A : List (List Int)} {N : Nat}

theorem prev_next (h : RotOK (N : Nat) E A) {nx p : List Int} (hn : Fol oth E A nx) (hp : Fol id E (A.map List.reverse) p) {k y : Nat} (hk : nx[k]? = some (y : Int)) : p[y]? = some ((oth k : Nat) : Int) := by
  have hkL : k < 2 * E.length := by
    have := (List.getElem?_eq_some_iff.1 hk).1
    rw [hn.len] at this; exact this
  obtain ⟨l, hl, hd⟩ := List.mem_flatten.1 (h.mem (oth_lt hkL))
  obtain ⟨i, hi, hid⟩ := List.getElem_of_mem hd
  have g1 := hn.get l hl i hi
  have hm : (i + 1) % l.length < l.length := Nat.mod_lt _ (by omega)
  rw [hid, Int.toNat_natCast, oth_oth, hk, List.getD_eq_getElem?_getD, List.getElem?_eq_getElem hm] at g1
  have g1 : (y : Int) = l[(i + 1) % l.length] := Option.some.inj g1
  have g2 := prev_get hp hl hm
  rw [← g1, Int.toNat_natCast, prev_nxt hi, List.getD_eq_getElem?_getD, List.getElem?_eq_getElem hi, hid] at g2
  exact g2

theorem fol_inj (h : RotOK (N : Nat) E A) {nx : List Int} (hn : Fol oth E A nx) : Inj nx := by
  obtain ⟨p, hp⟩ := prev_list h
  intro a b y ha hb
  have hnx := Fol.nxOK h hn
  obtain ⟨z, hz, hz2⟩ := hnx.2 a (List.getElem?_eq_some_iff.1 ha).1
  rw [ha] at hz2
  have e : y = (z : Int) := Option.some.inj hz2
  subst e
  have h1 := prev_next h hn hp ha
  have h2 := prev_next h hn hp hb
  rw [h1] at h2
  have : ((oth a : Nat) : Int) = (oth b : Nat) := Option.some.inj h2
  have : oth a = oth b := by omega
  rw [← oth_oth a, this, oth_oth]

theorem rel_of (h : RotOK (N : Nat) E A) {nx nx' : List Int} (hn : Fol oth E A nx) (hn' : Fol oth E (A.map List.reverse) nx') : Rel nx nx' := by
  obtain ⟨p, hp⟩ := prev_list h
  intro k y hk
  have h1 := prev_next h hn hp hk
  have hy : y < 2 * E.length := by
    have := (List.getElem?_eq_some_iff.1 h1).1
    rw [hp.len] at this; exact this
  obtain ⟨z, _, z2, z3⟩ := fol_both h.mirror hn' hp (oth_lt hy)
  rw [oth_oth] at z3
  rw [z2, ← z3, h1]

theorem rev_rev_map (A : List (List Int)) : (A.map List.reverse).map List.reverse = A := by
  rw [List.map_map]
  have : (List.reverse ∘ List.reverse : List Int → List Int) = id := by funext l; simp
  rw [this, List.map_id]

theorem rel_back (h : RotOK (N : Nat) E A) {nx nx' : List Int} (hn : Fol oth E A nx) (hn' : Fol oth E (A.map List.reverse) nx') : Rel nx' nx :=
  rel_of h.mirror hn' (by rw [rev_rev_map]; exact hn)

theorem natL_of {L : Nat} {m : List Bool} {fs : List (List Int)} (h : FacesInv L L (m, fs)) : ∀ f ∈ fs, NatL f := by
  intro f hf x hx
  obtain ⟨k, hk, _⟩ := (h.elem f hf).2 x hx
  exact ⟨k, hk⟩

/-- What is known of the faces of a system and of its mirror. -/
structure Two (L : Nat) (nx nx' p : List Int) : Prop where
  inv : ∃ m, FacesInv L L (m, facesOf nx)
  inv' : ∃ m, FacesInv L L (m, facesOf nx')
  cyc : ∀ f ∈ facesOf nx, Cyc nx f
  sub : Sub (facesOf nx) (facesOf nx')
  sub' : Sub (facesOf nx') (facesOf nx)
  even : ∀ k, k < L → oth k < L
  prev : ∀ k y : Nat, nx[k]? = some (y : Int) → p[y]? = some ((oth k : Nat) : Int)
  nxl : ∀ k, k < L → ∃ y : Nat, y < L ∧ nx[k]? = some (y : Int)

theorem two_of (h : RotOK (N : Nat) E A) {nx nx' p : List Int} (hn : Fol oth E A nx) (hn' : Fol oth E (A.map List.reverse) nx') (hp : Fol id E (A.map List.reverse) p) : Two (2 * E.length) nx nx' p := by
  have x1 := Fol.nxOK h hn
  have x2 := Fol.nxOK h.mirror hn'
  obtain ⟨m, _, i1⟩ := facesOf_spec x1
  obtain ⟨m', _, i2⟩ := facesOf_spec x2
  have c1 := facesOf_cyc (fol_inj h hn) x1
  have c2 := facesOf_cyc (fol_inj h.mirror hn') x2
  have r1 := rel_of h hn hn'
  have r2 := rel_back h hn hn'
  have n1 := natL_of i1
  have n2 := natL_of i2
  rw [hn.len] at i1 x1
  rw [hn'.len] at i2
  refine ⟨⟨m, i1⟩, ⟨m', i2⟩, c1, ?_, ?_, fun k hk => oth_lt hk, fun k y hk => prev_next h hn hp hk, x1.2⟩
  · intro f hf f' hf' k hk hk'
    exact cyc_sub r1 (c1 f hf) (c2 f' hf') (n1 f hf) hk' (by rw [oth_oth]; exact hk)
  · intro f hf f' hf' k hk hk'
    exact cyc_sub r2 (c2 f hf) (c1 f' hf') (n2 f hf) hk' (by rw [oth_oth]; exact hk)

theorem Two.count {L : Nat} {nx nx' p : List Int} (t : Two L nx nx' p) : (facesOf nx').length = (facesOf nx).length := by
  obtain ⟨m, i⟩ := t.inv
  obtain ⟨m', i'⟩ := t.inv'
  have := faces_le t.even i i' t.sub
  have := faces_le t.even i' i t.sub'
  omega

/-- The other darts of a list. -/
def othL (f : List Int) : List Int := f.map fun d => ((oth d.toNat : Nat) : Int)

theorem Two.face {L : Nat} {nx nx' p : List Int} (t : Two L nx nx' p) {f' : List Int} (hf' : f' ∈ facesOf nx') : ∃ f ∈ facesOf nx, f'.Perm (othL f) ∧ ∀ y : Nat, (y : Int) ∈ f ↔ ((oth y : Nat) : Int) ∈ f' := by
  obtain ⟨m, i⟩ := t.inv
  obtain ⟨m', i'⟩ := t.inv'
  obtain ⟨h1, h2⟩ := i'.elem f' hf'
  obtain ⟨k, hkL, hk⟩ : ∃ k : Nat, k < L ∧ (k : Int) ∈ f' := by
    cases f' with
    | nil => exact absurd rfl h1
    | cons a r =>
      obtain ⟨k, hk, hkL⟩ := h2 a (by simp)
      exact ⟨k, hkL, by simp [← hk]⟩
  obtain ⟨f, hf, hin⟩ := List.mem_flatten.1 (i.cover (oth k) (t.even k hkL) (t.even k hkL))
  have s1 := t.sub f hf f' hf' k hk hin
  have s2 := t.sub' f' hf' f hf (oth k) hin (by rw [oth_oth]; exact hk)
  have both : ∀ y : Nat, (y : Int) ∈ f ↔ ((oth y : Nat) : Int) ∈ f' := fun y => ⟨s1 y, fun hy => by have := s2 (oth y) hy; rwa [oth_oth] at this⟩
  refine ⟨f, hf, ?_, both⟩
  have nd' : f'.Nodup := (List.sublist_flatten_of_mem hf').nodup i'.nodup
  have nd : f.Nodup := (List.sublist_flatten_of_mem hf).nodup i.nodup
  have nf := natL_of i f hf
  have ndo : (othL f).Nodup := by
    unfold othL
    rw [List.Nodup, List.pairwise_map]
    refine nd.imp_of_mem ?_
    intro a b ha hb hab e
    obtain ⟨x, rfl⟩ := nf a ha
    obtain ⟨y, rfl⟩ := nf b hb
    simp only [Int.toNat_natCast] at e
    have : oth x = oth y := by omega
    exact hab (by rw [← oth_oth x, this, oth_oth])
  rw [List.perm_ext_iff_of_nodup nd' ndo]
  intro d
  unfold othL
  rw [List.mem_map]
  constructor
  · intro hd
    obtain ⟨x, rfl, _⟩ := h2 d hd
    exact ⟨((oth x : Nat) : Int), (both (oth x)).2 (by rw [oth_oth]; exact hd), by rw [Int.toNat_natCast, oth_oth]⟩
  · rintro ⟨a, ha, rfl⟩
    obtain ⟨x, rfl⟩ := nf a ha
    rw [Int.toNat_natCast]
    exact (both x).1 ha
end
end Go.Vm

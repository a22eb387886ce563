/-
  Paths and cycles of darts.
-/
import Derived.Test.YtgihliccohoggaaDoorK33S
set_option linter.unusedVariables false
set_option linter.unusedSimpArgs false
namespace Go.Vm
open Go.Proofs
set_option maxRecDepth 100000
attribute [local irreducible] loopFix
theorem path_app {nx : List Int} : ∀ {f g : List Int} {x z : Int}, Path nx x (f ++ g) z ↔ ∃ y, Path nx x f y ∧ Path nx y g z
  | [], g, x, z => by
    constructor
    · intro h; exact ⟨x, rfl, h⟩
    · rintro ⟨y, h1, h2⟩; have : x = y := h1; subst this; exact h2
  | a :: f, g, x, z => by
    constructor
    · rintro ⟨h1, y, h2, h3⟩
      obtain ⟨w, w1, w2⟩ := path_app.1 h3
      exact ⟨w, ⟨h1, y, h2, w1⟩, w2⟩
    · rintro ⟨w, ⟨h1, y, h2, h3⟩, h4⟩
      exact ⟨h1, y, h2, path_app.2 ⟨w, h3, h4⟩⟩
theorem path_of {nx : List Int} : ∀ {f : List Int} {x z : Int}, (f ++ [z])[0]? = some x → (∀ i (h : i < f.length), nx[f[i].toNat]? = (f ++ [z])[i + 1]?) → Path nx x f z
  | [], x, z, h, _ => by simpa [Path] using h.symm
  | a :: f, x, z, h, h2 => by
    have hx : a = x := by simpa using h
    have h0 := h2 0 (by simp)
    obtain ⟨y, hy⟩ : ∃ y, (f ++ [z])[0]? = some y := ⟨_, List.getElem?_eq_getElem (by simp)⟩
    refine ⟨hx, y, ?_, path_of hy fun i hi => ?_⟩
    · rw [← hx]
      rw [show ((a :: f) ++ [z])[0 + 1]? = (f ++ [z])[0]? from rfl, hy] at h0
      simpa using h0
    · have := h2 (i + 1) (by simpa using hi)
      simpa using this
theorem cyc_path {nx : List Int} {x : Int} {f : List Int} (h : Cyc nx (x :: f)) : Path nx x (x :: f) x := by
  refine path_of (by simp) fun i hi => ?_
  rw [h.2 i hi]
  by_cases e : i + 1 < (x :: f).length
  · rw [Nat.mod_eq_of_lt e, List.getD_eq_getElem?_getD, List.getElem?_append_left e, List.getElem?_eq_getElem e]; rfl
  · have e2 : i + 1 = (x :: f).length := by omega
    rw [e2, Nat.mod_self, List.getElem?_append_right (by omega)]
    simp
theorem cyc_rot {nx p q : List Int} (h : Cyc nx (p ++ q)) : Cyc nx (q ++ p) := by
  cases p with
  | nil => simpa using h
  | cons a p =>
    cases q with
    | nil => simpa using h
    | cons b q =>
      have h1 := cyc_path (x := a) (f := p ++ b :: q) h
      obtain ⟨y, h2, h3⟩ := path_app (f := a :: p) (g := b :: q).1 h1
      have : b = y := h3.1
      subst this
      exact path_cyc (x := b) (path_app.2 ⟨a, h3, h2⟩) (by simp)
theorem path_two {nx nx' : List Int} {z z' : Int} : ∀ {s : List Int} {x : Int}, Path nx x s z → Path nx' x s z' → z ∉ s.tail → ∀ y ∈ s, (nx[y.toNat]? = some z → nx'[y.toNat]? = some z') ∧ (nx[y.toNat]? ≠ some z → nx'[y.toNat]? = nx[y.toNat]?)
  | [], _, _, _, _, y, hy => by simp at hy
  | [a], x, h1, h2, _, y, hy => by
    have : y = a := by simpa using hy
    subst this
    obtain ⟨rfl, w, w1, w2⟩ := h1
    obtain ⟨_, w', w1', w2'⟩ := h2
    have w2 : w = z := w2
    have w2' : w' = z' := w2'
    subst w2; subst w2'
    exact ⟨fun _ => w1', fun h => absurd w1 h⟩
  | a :: b :: s, x, h1, h2, hz, y, hy => by
    obtain ⟨rfl, w, w1, w2⟩ := h1
    obtain ⟨_, w', w1', w2'⟩ := h2
    have e : b = w := w2.1
    have e' : b = w' := w2'.1
    subst e; subst e'
    rcases List.mem_cons.1 hy with rfl | hy
    · refine ⟨fun h => ?_, fun _ => by rw [w1, w1']⟩
      rw [w1] at h
      have : b = z := Option.some.inj h
      exact absurd (by simp [this]) hz
    · exact path_two w2 w2' (fun h => hz (by simp at h ⊢; exact .inr h)) y hy
theorem path_turn {nx nx' : List Int} {z z' : Int} : ∀ {s : List Int} {x : Int}, Path nx x s z → s ≠ [] → z ∉ s.tail → (∀ y ∈ s, (nx[y.toNat]? = some z → nx'[y.toNat]? = some z') ∧ (nx[y.toNat]? ≠ some z → nx'[y.toNat]? = nx[y.toNat]?)) → Path nx' x s z'
  | [], _, _, h, _, _ => absurd rfl h
  | [a], x, h1, _, _, h => by
    obtain ⟨rfl, w, w1, w2⟩ := h1
    have w2 : w = z := w2
    subst w2
    exact ⟨rfl, z', (h a (by simp)).1 w1, rfl⟩
  | a :: b :: s, x, h1, _, hz, h => by
    obtain ⟨rfl, w, w1, w2⟩ := h1
    have e : b = w := w2.1
    subst e
    have hb : b ≠ z := fun e => hz (by simp [e])
    refine ⟨rfl, b, ?_, path_turn w2 (by simp) (fun hm => hz (by simp at hm ⊢; exact .inr hm)) fun y hy => h y (by simp at hy ⊢; exact .inr hy)⟩
    rw [(h a (by simp)).2 (by rw [w1]; exact fun e => hb (Option.some.inj e)), w1]
theorem path_keep {nx nx' : List Int} : ∀ {s : List Int} {x z : Int}, Path nx x s z → (∀ y ∈ s, nx'[y.toNat]? = nx[y.toNat]?) → Path nx' x s z
  | [], _, _, h, _ => h
  | a :: s, x, z, ⟨h1, y, h2, h3⟩, h => ⟨h1, y, by rw [← h1, h a (by simp), h1]; exact h2, path_keep h3 fun w hw => h w (by simp [hw])⟩
theorem cyc_all {nx f g : List Int} (hf : Cyc nx f) (hg : Cyc nx g) (hN : NatL f) {x : Int} (hx : x ∈ f) (hxg : x ∈ g) : ∀ y ∈ f, y ∈ g := by
  obtain ⟨p, q, rfl⟩ := List.append_of_mem hx
  have h1 := cyc_path (cyc_rot hf)
  have key : ∀ (s : List Int) (a z : Int), NatL s → Path nx a s z → a ∈ g → ∀ y ∈ s, y ∈ g := by
    intro s
    induction s with
    | nil => intro a z _ _ _ y hy; simp at hy
    | cons b s ih =>
      intro a z hs h ha y hy
      obtain ⟨rfl, w, w1, w2⟩ := h
      rcases List.mem_cons.1 hy with e0 | hy2
      · rw [e0]; exact ha
      · obtain ⟨k, hk⟩ := hs b (by simp)
        subst hk
        cases s with
        | nil => simp at hy2
        | cons c s =>
          have e : c = w := w2.1
          subst e
          obtain ⟨k', hk'⟩ := hs c (by simp)
          subst hk'
          exact ih _ z (fun x hx => hs x (by simp at hx ⊢; exact .inr hx)) w2 (cyc_closed hg ha (by simpa using w1)) y hy2
  intro y hy
  refine key _ _ _ (fun w hw => hN w ?_) h1 hxg y ?_
  · simp at hw ⊢; rcases hw with h | h | h <;> simp [h]
  · simp at hy ⊢; rcases hy with h | h | h <;> simp [h]
theorem pigeon {n m : Nat} (φ : Nat → Nat) (h1 : ∀ i, i < n → φ i < m) (h2 : ∀ i j, i < n → j < n → φ i = φ j → i = j) : n ≤ m := by
  have hn : ((List.range n).map φ).Nodup := by
    refine List.pairwise_map.2 (List.Pairwise.imp_of_mem (fun {a b} ha hb hab e => ?_) List.nodup_range)
    exact hab (h2 a b (List.mem_range.1 ha) (List.mem_range.1 hb) e)
  have := nodup_le m _ hn (by
    intro x hx
    obtain ⟨i, hi, rfl⟩ := List.mem_map.1 hx
    exact h1 i (List.mem_range.1 hi))
  simpa using this
theorem parts_le {L : Nat} {nx : List Int} {fs gs : List (List Int)} (hf : FsOK L fs) (hg : FsOK L gs) (cf : ∀ f ∈ fs, Cyc nx f) (cg : ∀ g ∈ gs, Cyc nx g) : fs.length ≤ gs.length := by
  have pick : ∀ i, i < fs.length → ∃ j, j < gs.length ∧ ∃ f g x, fs[i]? = some f ∧ gs[j]? = some g ∧ x ∈ f ∧ x ∈ g := by
    intro i hi
    have hm := List.getElem_mem hi
    obtain ⟨hne, hel⟩ := hf.elem _ hm
    obtain ⟨x, hx⟩ := List.exists_mem_of_ne_nil _ hne
    obtain ⟨k, rfl, hk⟩ := hel x hx
    obtain ⟨j, g, h1, h2, h3⟩ := hg.face hk
    exact ⟨j, h3, _, g, (k : Int), List.getElem?_eq_getElem hi, h1, hx, h2⟩
  refine pigeon (fun i => if h : i < fs.length then (pick i h).choose else 0) (fun i hi => ?_) (fun i j hi hj e => ?_)
  · simp only [hi, dif_pos]
    exact (pick i hi).choose_spec.1
  · simp only [hi, hj, dif_pos] at e
    obtain ⟨_, f, g, x, a1, a2, a3, a4⟩ := (pick i hi).choose_spec
    obtain ⟨_, f', g', x', b1, b2, b3, b4⟩ := (pick j hj).choose_spec
    rw [e, b2] at a2
    have : g' = g := Option.some.inj a2
    subst this
    have hfm := List.mem_of_getElem? a1
    have hgm := List.mem_of_getElem? b2
    have hxf' : x ∈ f' := by
      have hfm' := List.mem_of_getElem? b1
      exact cyc_all (cg _ hgm) (cf _ hfm') (fun y hy => hg.nat _ hgm y hy) b4 b3 x a4
    by_cases hij : i = j
    · exact hij
    · exfalso
      have hn := (List.pairwise_flatten.1 hf.nodup).2
      rw [List.pairwise_iff_getElem] at hn
      have ei : fs[i] = f := by rw [List.getElem?_eq_getElem hi] at a1; exact Option.some.inj a1
      have ej : fs[j] = f' := by rw [List.getElem?_eq_getElem hj] at b1; exact Option.some.inj b1
      rcases Nat.lt_or_ge i j with c | c
      · exact hn i j hi hj c x (by rw [ei]; exact a3) x (by rw [ej]; exact hxf') rfl
      · exact hn j i hj hi (by omega) x (by rw [ej]; exact hxf') x (by rw [ei]; exact a3) rfl
theorem parts_eq {L : Nat} {nx : List Int} {fs gs : List (List Int)} (hf : FsOK L fs) (hg : FsOK L gs) (cf : ∀ f ∈ fs, Cyc nx f) (cg : ∀ g ∈ gs, Cyc nx g) : fs.length = gs.length :=
  Nat.le_antisymm (parts_le hf hg cf cg) (parts_le hg hf cg cf)
end Go.Vm

/-
  A face at which nothing can be put in is a triangle.
-/
import Derived.Test.YtgihliccohoggaaDoorK35J
set_option linter.unusedVariables false
set_option linter.unusedSimpArgs false
namespace Go.Vm
open Go.Proofs
set_option maxRecDepth 100000
attribute [local irreducible] loopFix
section
variable {N : Nat} {E : List Arc} {A : List (List Int)} {nx fw : List Int}
theorem noloop (h : RotOK (N : Nat) E A) {k : Nat} (hk : k < 2 * E.length) : tln E k ≠ tln E (oth k) := by
  have hke : k / 2 < E.length := by omega
  obtain ⟨a1, _, a3, _, a5⟩ := h.edge E[k / 2] (List.getElem_mem hke)
  have g := List.getElem?_eq_getElem hke
  unfold tln tl
  rw [oth_div, g, oth_mod]
  simp only
  rcases Nat.mod_two_eq_zero_or_one k with e | e
  · rw [e]; simp; omega
  · rw [e]; simp; omega
theorem dart_ends {x : Nat} {a : Arc} (ha : E[x / 2]? = some a) : (tl E x = a.1 ∧ tl E (oth x) = a.2.1) ∨ (tl E x = a.2.1 ∧ tl E (oth x) = a.1) := by
  unfold tl
  rw [oth_div, ha, oth_mod]
  simp only
  rcases Nat.mod_two_eq_zero_or_one x with e | e
  · rw [e]; simp
  · rw [e]; simp
theorem Tri.sdart (h : Tri N E A) {x y : Nat} (hx : x < 2 * E.length) (hy : y < 2 * E.length) (e1 : tln E x = tln E y) (e2 : tln E (oth x) = tln E (oth y)) : x = y := by
  have key : ∀ x y : Nat, x < 2 * E.length → y < 2 * E.length → tln E x = tln E y → tln E (oth x) = tln E (oth y) → ¬ x / 2 < y / 2 := by
    intro x y hx hy e1 e2 hlt
    have gx := List.getElem?_eq_getElem (l := E) (i := x / 2) (by omega)
    have gy := List.getElem?_eq_getElem (l := E) (i := y / 2) (by omega)
    have hs := h.simp (y / 2) _ gy
    unfold joinedB at hs
    rw [List.any_eq_false] at hs
    have hm : E[x / 2] ∈ E.take (y / 2) := List.mem_of_getElem? (i := x / 2) (by rw [List.getElem?_take, if_pos hlt]; exact gx)
    have := hs _ hm
    have f1 : tl E x = tl E y := by rw [(tln_eq h.rot hx).1, (tln_eq h.rot hy).1, e1]
    have f2 : tl E (oth x) = tl E (oth y) := by rw [(tln_eq h.rot (oth_lt hx)).1, (tln_eq h.rot (oth_lt hy)).1, e2]
    refine this ?_
    unfold jn
    simp only [Bool.or_eq_true, Bool.and_eq_true, eqI, beq_iff_eq]
    rcases dart_ends gx with ⟨p1, p2⟩ | ⟨p1, p2⟩ <;> rcases dart_ends gy with ⟨q1, q2⟩ | ⟨q1, q2⟩
    · exact .inl ⟨by rw [← p1, ← q1, f1], by rw [← p2, ← q2, f2]⟩
    · exact .inr ⟨by rw [← p1, ← q1, f1], by rw [← p2, ← q2, f2]⟩
    · exact .inr ⟨by rw [← p2, ← q2, f2], by rw [← p1, ← q1, f1]⟩
    · exact .inl ⟨by rw [← p2, ← q2, f2], by rw [← p1, ← q1, f1]⟩
  have n1 := key x y hx hy e1 e2
  have n2 := key y x hy hx e1.symm e2.symm
  rcases half_cases (show x / 2 = y / 2 by omega) with e | e
  · exact e
  · exfalso
    rw [e] at e1
    exact noloop h.rot hy e1.symm
theorem alone (h : RotOK (N : Nat) E A) (ff : Fol id E A fw) {k : Nat} (hk : k < 2 * E.length) (e : fw[k]? = some (k : Int)) : ∀ j, j < 2 * E.length → tln E j = tln E k → j = k := by
  intro j hj ej
  obtain ⟨q1, q2⟩ := tln_eq h hk
  have hvl : tln E k < A.length := by have := h.al; omega
  have g := List.getElem?_eq_getElem hvl
  have m1 := h.around hk q1 g
  have m2 := h.around hj (by rw [(tln_eq h hj).1, ej]) g
  have hcy := ff.cyc (List.getElem_mem hvl) (fun e => by rw [e] at m1; simp at m1)
  obtain ⟨s, ⟨_, w, w1, w2⟩, s2, s3⟩ := cyc_rest hcy m1
  have hns := s3 (h.list_nodup (List.getElem_mem hvl))
  rw [Int.toNat_natCast, e] at w1
  have hw := Option.some.inj w1
  subst hw
  cases s with
  | nil =>
    have := (s2 _).1 m2
    simp at this
    omega
  | cons b s =>
    have : b = (k : Int) := w2.1
    subst this
    exact absurd (by simp) hns
theorem cor_mod (f : List Int) (i : Nat) : cor f (i % f.length) = cor f i := by unfold cor; rw [Nat.mod_mod]
theorem cor_mod2 (f : List Int) (i : Nat) : cor f (i % f.length + 2) = cor f (i + 2) := by unfold cor; rw [Nat.mod_add_mod]
theorem Tri.flat3 (h : Tri N E A) (hn : Fol oth E A nx) {f : List Int} (hf : f ∈ facesOf nx) (hfl : Flat E f) : f.length = 3 := by
  rcases hfl with h3 | hfl
  · exact h3
  obtain ⟨fw, _, ff⟩ := rfollow_eq h.rot ()
  obtain ⟨hfs, hcy⟩ := facesOf_fs h.rot hn
  obtain ⟨hne, hel⟩ := hfs.elem f hf
  have hnd : f.Nodup := hfs.nodup.sublist (List.sublist_flatten_of_mem hf)
  have hlen : 0 < f.length := List.length_pos_iff.2 hne
  have lt : ∀ i, cor f i < 2 * E.length := fun i => (cor_nat (E := E) hel hlen i).2.1
  have nxt : ∀ i, nx[cor f i]? = some ((cor f (i + 1) : Nat) : Int) := by
    intro i
    have hm : i % f.length < f.length := Nat.mod_lt _ hlen
    have h1 := (hcy f hf).2 _ hm
    have g1 := (cor_nat (E := E) hel hlen i).1
    have g2 := (cor_nat (E := E) hel hlen (i + 1)).1
    rw [List.getElem?_eq_getElem hm] at g1
    rw [Option.some.inj g1, Int.toNat_natCast, List.getD_eq_getElem?_getD, Nat.mod_add_mod, g2] at h1
    exact h1
  have hd' : ∀ i, tln E (oth (cor f i)) = tln E (cor f (i + 1)) := fun i => by
    have := (next_tail h.rot hn (nxt i)).2.2
    unfold tln; rw [this]; rfl
  have step : ∀ i, tln E (cor f i) ≠ tln E (cor f (i + 1)) := fun i => by rw [← hd']; exact noloop h.rot (lt i)
  have corinj : ∀ i j, cor f i = cor f j → i % f.length = j % f.length := by
    intro i j e
    have hi : i % f.length < f.length := Nat.mod_lt _ hlen
    have hj : j % f.length < f.length := Nat.mod_lt _ hlen
    have g1 := (cor_nat (E := E) hel hlen i).1
    have g2 := (cor_nat (E := E) hel hlen j).1
    rw [List.getElem?_eq_getElem hi] at g1
    rw [List.getElem?_eq_getElem hj, ← e] at g2
    exact nodup_idx hnd hi hj (by rw [Option.some.inj g1, Option.some.inj g2])
  have bad : ∀ t, tln E (cor f t) = tln E (cor f (t + 2)) ∨ joinedB E (tln E (cor f t) : Nat) (tln E (cor f (t + 2)) : Nat) = true := by
    intro t
    have := hfl (t % f.length) (Nat.mod_lt _ hlen)
    unfold goodB at this
    rw [cor_mod, cor_mod2, (tln_eq h.rot (lt t)).1, (tln_eq h.rot (lt (t + 2))).1] at this
    by_cases e : tln E (cor f t) = tln E (cor f (t + 2))
    · exact .inl e
    · right
      rw [neI_t (by omega)] at this
      simpa using this
  have fwd : ∀ i, fw[oth (cor f i)]? = some ((cor f (i + 1) : Nat) : Int) := by
    intro i
    obtain ⟨z, _, z2, z3, _⟩ := fw_next h.rot hn ff (oth_lt (lt i))
    rw [oth_oth, nxt i] at z3
    rw [z2, ← z3]
  -- a way there and back
  have back : ∀ t, tln E (cor f t) = tln E (cor f (t + 2)) → cor f (t + 1) = oth (cor f t) ∧ ∀ j, j < 2 * E.length → tln E j = tln E (cor f (t + 1)) → j = cor f (t + 1) := by
    intro t e
    have e1 : oth (cor f (t + 1)) = cor f t := by
      refine h.sdart (oth_lt (lt _)) (lt t) ?_ ?_
      · rw [hd' (t + 1)]; exact e.symm
      · rw [oth_oth, hd' t]
    have e2 : cor f (t + 1) = oth (cor f t) := by rw [← e1, oth_oth]
    refine ⟨e2, alone h.rot ff (lt _) ?_⟩
    have := fwd t
    rwa [← e2] at this
  have h3 := h.three
  have ge3 : 3 ≤ f.length := by
    apply Classical.byContradiction
    intro hlt
    have hc : f.length = 1 ∨ f.length = 2 := by omega
    rcases hc with hc | hc
    · have e : cor f 1 = cor f 0 := by unfold cor; rw [hc]
      have := step 0
      rw [Nat.zero_add, e] at this
      exact this rfl
    · have e : cor f 2 = cor f 0 := by unfold cor; rw [hc]
      have e' : cor f 3 = cor f 1 := by unfold cor; rw [hc]
      obtain ⟨_, b1⟩ := back 0 (by rw [Nat.zero_add, e])
      obtain ⟨_, b2⟩ := back 1 (by rw [show 1 + 2 = 3 by rfl, e'])
      rw [Nat.zero_add] at b1
      rw [show 1 + 1 = 2 by rfl, e] at b2
      have o0 := hd' 0
      have o1 := hd' 1
      rw [Nat.zero_add] at o0
      rw [show 1 + 1 = 2 by rfl, e] at o1
      have key : ∀ {a b : Nat}, Reach E a b → a = tln E (cor f 0) ∨ a = tln E (cor f 1) → b = tln E (cor f 0) ∨ b = tln E (cor f 1) := by
        intro a b hr
        induction hr with
        | refl => exact fun q => q
        | @step v w j _ hj e1 e2 ih =>
          intro q
          have hjv : tln E j = v := by unfold tln; rw [e1]; rfl
          have hjw : tln E (oth j) = w := by unfold tln; unfold hd at e2; rw [e2]; rfl
          rcases ih q with q | q
          · have := b2 j hj (by rw [hjv, q])
            rw [this, o0] at hjw
            exact .inr hjw.symm
          · have := b1 j hj (by rw [hjv, q])
            rw [this, o1] at hjw
            exact .inl hjw.symm
      have hu := (tln_eq h.rot (lt 0)).2
      have all : ∀ w, w < N → w = tln E (cor f 0) ∨ w = tln E (cor f 1) := fun w hw => key (((h.conn _ hu).symm).trans (h.conn w hw)) (.inl rfl)
      have a0 := all 0 (by omega)
      have a1 := all 1 (by omega)
      have a2 := all 2 (by omega)
      omega
  apply Classical.byContradiction
  intro hne3
  have ge4 : 4 ≤ f.length := by omega
  by_cases hA : ∃ t, tln E (cor f t) = tln E (cor f (t + 2))
  · obtain ⟨t, e⟩ := hA
    obtain ⟨b1, b2⟩ := back t e
    rcases bad (t + 1) with q | q
    · have : cor f (t + 2) = cor f t := by
        refine h.sdart (lt _) (lt _) e.symm ?_
        rw [hd' (t + 2), hd' t, show t + 2 + 1 = t + 1 + 2 by omega]
        exact q.symm
      have := corinj _ _ this
      have h1 : t % f.length < f.length := Nat.mod_lt _ hlen
      have h2 : (t + 2) % f.length = if t % f.length + 2 < f.length then t % f.length + 2 else t % f.length + 2 - f.length := by
        rw [Nat.add_mod, Nat.mod_eq_of_lt (show 2 < f.length by omega)]
        split
        · rename_i hh; exact Nat.mod_eq_of_lt hh
        · rename_i hh; rw [Nat.mod_eq_sub_mod (by omega), Nat.mod_eq_of_lt (by omega)]
      rw [h2] at this
      split at this <;> omega
    · obtain ⟨x, x1, x2, x3⟩ := joined_dart h.rot q
      have := b2 x x1 x2
      rw [this, hd' (t + 1), show t + 1 + 1 = t + 2 by omega] at x3
      exact step (t + 2) (by rw [show t + 2 + 1 = t + 1 + 2 by omega]; exact x3)
  · have nA : ∀ t, tln E (cor f t) ≠ tln E (cor f (t + 2)) := fun t e => hA ⟨t, e⟩
    have jn : ∀ t, joinedB E (tln E (cor f t) : Nat) (tln E (cor f (t + 2)) : Nat) = true := fun t => (bad t).resolve_left (nA t)
    have fin : ∀ t, tln E (cor f t) ≠ tln E (cor f (t + 3)) → False := fun t ht =>
      h.no_cross hn (nxt t) (nxt (t + 1)) (nxt (t + 2)) (step t) (step (t + 1)) (step (t + 2)) (nA t) (nA (t + 1)) ht (jn t) (jn (t + 1))
    by_cases h03 : tln E (cor f 0) = tln E (cor f 3)
    · refine fin 1 fun h14 => ?_
      have : cor f 3 = cor f 0 := by
        refine h.sdart (lt _) (lt _) h03.symm ?_
        rw [hd' 3, hd' 0]
        exact h14.symm
      have := corinj _ _ this
      rw [Nat.mod_eq_of_lt (by omega), Nat.zero_mod] at this
      omega
    · exact fin 0 h03
theorem Tri.count (h : Tri N E A) (hn : Fol oth E A nx) (h3 : ∀ f ∈ facesOf nx, f.length = 3) : E.length + 6 = 3 * N := by
  have hfs := (facesOf_fs h.rot hn).1
  have hfl : (facesOf nx).flatten.length = 3 * (facesOf nx).length := by
    have : ∀ fs : List (List Int), (∀ f ∈ fs, f.length = 3) → fs.flatten.length = 3 * fs.length := by
      intro fs
      induction fs with
      | nil => intro _; rfl
      | cons g fs ih =>
        intro hh
        rw [List.flatten_cons, List.length_append, hh g (by simp), ih (fun f hf => hh f (by simp [hf])), List.length_cons]
        omega
    exact this _ h3
  have h2M : (facesOf nx).flatten.length = 2 * E.length := by
    refine Nat.le_antisymm ?_ ?_
    · have hel : ∀ x ∈ (facesOf nx).flatten, ∃ k : Nat, x = (k : Int) ∧ k < 2 * E.length := fun x hx => by
        obtain ⟨l, hl, hxl⟩ := List.mem_flatten.1 hx
        exact (hfs.elem l hl).2 x hxl
      have hn2 : ((facesOf nx).flatten.map Int.toNat).Nodup := by
        refine List.pairwise_map.2 (List.Pairwise.imp_of_mem (fun {a b} ha hb hab e => ?_) hfs.nodup)
        obtain ⟨x, rfl, _⟩ := hel a ha
        obtain ⟨y, rfl, _⟩ := hel b hb
        simp at e
        omega
      have := nodup_le (2 * E.length) _ hn2 (by
        intro x hx
        obtain ⟨d, hd', rfl⟩ := List.mem_map.1 hx
        obtain ⟨k, rfl, hk⟩ := hel d hd'
        simpa using hk)
      rwa [List.length_map] at this
    · have pick : ∀ k, k < 2 * E.length → ∃ i, (facesOf nx).flatten[i]? = some (k : Int) := fun k hk => List.mem_iff_getElem?.1 (hfs.cover k hk)
      refine pigeon (fun k => if hk : k < 2 * E.length then (pick k hk).choose else 0) (fun k hk => ?_) (fun a b ha hb e => ?_)
      · simp only [hk, dif_pos]
        exact (List.getElem?_eq_some_iff.1 (pick k hk).choose_spec).1
      · simp only [ha, hb, dif_pos] at e
        have h1 := (pick a ha).choose_spec
        have h2 := (pick b hb).choose_spec
        rw [e, h2] at h1
        have := Option.some.inj h1
        omega
  have := h.euler hn
  omega
end
end Go.Vm

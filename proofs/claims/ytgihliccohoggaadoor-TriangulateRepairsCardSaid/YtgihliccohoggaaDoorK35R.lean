/-
  A triangulated system without an edge.
-/
import Derived.Test.YtgihliccohoggaaDoorK35L
import Derived.Test.YtgihliccohoggaaDoorK33I
set_option linter.unusedVariables false
set_option linter.unusedSimpArgs false
namespace Go.Vm
open Go.Proofs
set_option maxRecDepth 100000
attribute [local irreducible] loopFix
def Wlk (R : Int → Int → Prop) : Int → List Int → Int → Prop
  | x, [], z => R x z
  | x, y :: l, z => R x y ∧ Wlk R y l z
def CycR (R : Int → Int → Prop) (l : List Int) : Prop := ∀ (i : Nat) (a b : Int), l[i]? = some a → l[(i + 1) % l.length]? = some b → R a b
theorem wlk_iff {R : Int → Int → Prop} {z : Int} : ∀ {l : List Int} {x : Int}, Wlk R x l z ↔ ∀ (i : Nat) (a b : Int), (x :: l)[i]? = some a → (l ++ [z])[i]? = some b → R a b
  | [], x => by
    constructor
    · intro h i a b h1 h2
      cases i with
      | zero => simp at h1 h2; subst h1; subst h2; exact h
      | succ i => simp at h1
    · intro h
      exact h 0 x z rfl rfl
  | y :: l, x => by
    constructor
    · rintro ⟨h1, h2⟩ i a b e1 e2
      cases i with
      | zero => simp at e1 e2; subst e1; subst e2; exact h1
      | succ i => exact wlk_iff.1 h2 i a b (by simpa using e1) (by simpa using e2)
    · intro h
      exact ⟨h 0 x y rfl rfl, wlk_iff.2 fun i a b e1 e2 => h (i + 1) a b (by simpa using e1) (by simpa using e2)⟩
theorem cycR_iff {R : Int → Int → Prop} {x : Int} {l : List Int} : CycR R (x :: l) ↔ Wlk R x l x := by
  have key : ∀ (i : Nat), i < l.length + 1 → (x :: l)[(i + 1) % (x :: l).length]? = (l ++ [x])[i]? := by
    intro i hi
    rw [List.length_cons]
    rcases Nat.lt_or_ge i l.length with h | h
    · rw [Nat.mod_eq_of_lt (by omega), List.getElem?_cons_succ, List.getElem?_append_left h]
    · have : i = l.length := by omega
      subst this
      rw [Nat.mod_self, List.getElem?_append_right (Nat.le_refl _)]
      simp
  rw [wlk_iff]
  constructor
  · intro h i a b h1 h2
    have hi : i < l.length + 1 := (List.getElem?_eq_some_iff.1 h1).1
    exact h i a b h1 (by rw [key i hi]; exact h2)
  · intro h i a b h1 h2
    have hi : i < l.length + 1 := (List.getElem?_eq_some_iff.1 h1).1
    exact h i a b h1 (by rw [← key i hi]; exact h2)
theorem wlk_skip {R : Int → Int → Prop} {a z : Int} (hR : ∀ u w, R u a → R a w → R u w) : ∀ {l : List Int} {x : Int}, R x a → Wlk R a l z → Wlk R x l z
  | [], _, h1, h2 => hR _ _ h1 h2
  | _ :: _, _, h1, ⟨h2, h3⟩ => ⟨hR _ _ h1 h2, h3⟩
theorem wlk_last {R : Int → Int → Prop} {a z : Int} (hR : ∀ u w, R u a → R a w → R u w) (hz : R a z) : ∀ {l : List Int} {x : Int}, Wlk R x l a → Wlk R x l z
  | [], _, h1 => hR _ _ h1 hz
  | _ :: _, _, ⟨h1, h2⟩ => ⟨h1, wlk_last hR hz h2⟩
theorem wlk_filter {R : Int → Int → Prop} (keep : Int → Bool) (hR : ∀ a, keep a = false → ∀ u w, R u a → R a w → R u w) {z : Int} : ∀ {l : List Int} {x : Int}, Wlk R x l z → Wlk R x (l.filter keep) z
  | [], _, h => h
  | y :: l, x, ⟨h1, h2⟩ => by
    rw [List.filter_cons]
    cases hk : keep y with
    | true => rw [if_pos rfl]; exact ⟨h1, wlk_filter keep hR h2⟩
    | false =>
      rw [if_neg (by decide)]
      exact wlk_filter keep hR (wlk_skip (hR y hk) h1 h2)
theorem cycR_filter {R : Int → Int → Prop} (keep : Int → Bool) (hR : ∀ a, keep a = false → ∀ u w, R u a → R a w → R u w) : ∀ {l : List Int}, CycR R l → CycR R (l.filter keep)
  | [], h => h
  | x :: l, h => by
    have hw := cycR_iff.1 h
    cases hk : keep x with
    | true =>
      rw [List.filter_cons, if_pos hk]
      exact cycR_iff.2 (wlk_filter keep hR hw)
    | false =>
      rw [List.filter_cons, if_neg (by rw [hk]; decide)]
      cases l with
      | nil => intro i a b h1; simp at h1
      | cons y l =>
        obtain ⟨h1, h2⟩ := hw
        exact cycR_filter keep hR (cycR_iff.2 (wlk_last (hR x hk) h1 h2))
def inv (e k : Nat) : Nat := if k < 2 * e then k else k + 2
def ren (e k : Nat) : Nat := if k < 2 * e then k else k - 2
theorem inv_oth (e k : Nat) : inv e (oth k) = oth (inv e k) := by
  rcases Nat.mod_two_eq_zero_or_one k with h | h
  · have e1 : oth k = k + 1 := by unfold oth; rw [if_pos h]
    have e2 : oth (inv e k) = inv e k + 1 := by unfold oth; rw [if_pos (by unfold inv; split <;> omega)]
    rw [e1, e2]
    unfold inv
    split <;> split <;> omega
  · have e1 : oth k = k - 1 := by unfold oth; rw [if_neg (by omega)]
    have e2 : oth (inv e k) = inv e k - 1 := by unfold oth; rw [if_neg (by unfold inv; split <;> omega)]
    rw [e1, e2]
    unfold inv
    split <;> split <;> omega
theorem inv_ren {e k : Nat} (h : k / 2 ≠ e) : inv e (ren e k) = k := by
  by_cases c : k < 2 * e
  · have : ren e k = k := by unfold ren; rw [if_pos c]
    rw [this]; unfold inv; rw [if_pos c]
  · have : ren e k = k - 2 := by unfold ren; rw [if_neg c]
    rw [this]; unfold inv; rw [if_neg (by omega)]; omega
theorem ren_lt {e k m : Nat} (h : k / 2 ≠ e) (he : e < m) (hk : k < 2 * m) : ren e k < 2 * (m - 1) := by
  unfold ren
  split <;> omega
theorem inv_lt {e k m : Nat} (he : e < m) (hk : k < 2 * (m - 1)) : inv e k < 2 * m := by
  unfold inv
  split <;> omega
theorem tl_erase (E : List Arc) (e k : Nat) : tl (E.eraseIdx e) k = tl E (inv e k) := by
  unfold tl inv
  rw [List.getElem?_eraseIdx]
  by_cases h : k < 2 * e
  · rw [if_pos (by omega), if_pos h]
  · rw [if_neg (by omega), if_neg h, show (k + 2) / 2 = k / 2 + 1 by omega, show (k + 2) % 2 = k % 2 by omega]
theorem hd_erase (E : List Arc) (e k : Nat) : hd (E.eraseIdx e) k = hd E (inv e k) := by
  unfold hd
  rw [tl_erase, inv_oth]
theorem delD_inv (e j : Nat) : delD e ((inv e j : Nat) : Int) = [(j : Int)] := by
  unfold delD inv
  split
  · rw [if_neg (by omega), if_pos (by omega)]
  · rw [if_pos (by omega)]
    congr 1
    omega
theorem delD_mem {e : Nat} {k : Nat} {y : Int} (h : y ∈ delD e (k : Int)) : ∃ j : Nat, y = (j : Int) ∧ inv e j = k := by
  unfold delD at h
  split at h
  · rw [List.mem_singleton] at h
    exact ⟨k - 2, by omega, by unfold inv; rw [if_neg (by omega)]; omega⟩
  · split at h
    · rw [List.mem_singleton] at h
      exact ⟨k, h, by unfold inv; rw [if_pos (by omega)]⟩
    · simp at h
theorem delL_mem {e : Nat} {l : List Int} (hl : NatL l) {y : Int} : y ∈ delL e l ↔ ∃ j : Nat, y = (j : Int) ∧ ((inv e j : Nat) : Int) ∈ l := by
  unfold delL
  rw [List.mem_flatMap]
  constructor
  · rintro ⟨d, h1, h2⟩
    obtain ⟨k, rfl⟩ := hl d h1
    obtain ⟨j, e1, e2⟩ := delD_mem h2
    exact ⟨j, e1, by rw [e2]; exact h1⟩
  · rintro ⟨j, rfl, h⟩
    exact ⟨_, h, by rw [delD_inv]; simp⟩
theorem delL_nodup {e : Nat} : ∀ {l : List Int}, NatL l → l.Nodup → (delL e l).Nodup
  | [], _, _ => by simp [delL]
  | d :: l, hl, h => by
    have hl2 : NatL l := fun x hx => hl x (by simp [hx])
    obtain ⟨h1, h2⟩ := List.nodup_cons.1 h
    have ih := delL_nodup (e := e) hl2 h2
    obtain ⟨k, rfl⟩ := hl d (by simp)
    have : delL e ((k : Int) :: l) = delD e (k : Int) ++ delL e l := rfl
    rw [this, List.nodup_append]
    refine ⟨?_, ih, ?_⟩
    · unfold delD
      split
      · simp
      · split <;> simp
    · intro a ha b hb hab
      subst hab
      obtain ⟨j, rfl, e2⟩ := delD_mem ha
      obtain ⟨j', e3, e4⟩ := (delL_mem hl2).1 hb
      have : j = j' := by omega
      subst this
      rw [e2] at e4
      exact h1 e4
theorem delL_filter {e : Nat} : ∀ {l : List Int}, NatL l → delL e l = (l.filter fun d => decide (d.toNat / 2 ≠ e)).map fun d => ((ren e d.toNat : Nat) : Int)
  | [], _ => rfl
  | d :: l, hl => by
    have ih := delL_filter (e := e) (l := l) fun x hx => hl x (by simp [hx])
    obtain ⟨k, rfl⟩ := hl d (by simp)
    have : delL e ((k : Int) :: l) = delD e (k : Int) ++ delL e l := rfl
    rw [this, ih, List.filter_cons]
    by_cases h : k / 2 = e
    · rw [if_neg (by simpa using h)]
      have : delD e (k : Int) = [] := by
        unfold delD
        rw [if_neg (by omega), if_neg (by omega)]
      rw [this]; rfl
    · rw [if_pos (by simpa using h)]
      have : delD e (k : Int) = [((ren e k : Nat) : Int)] := by
        have := delD_inv e (ren e k)
        rwa [inv_ren h] at this
      rw [this]; rfl
section
variable {N : Nat} {E : List Arc} {A : List (List Int)} {nx : List Int} {e : Nat}
theorem RotOK.natL (h : RotOK (N : Nat) E A) {l : List Int} (hl : l ∈ A) : NatL l := fun d hd => by
  obtain ⟨k, e, _⟩ := h.mem_of hl hd; exact ⟨k, e⟩
theorem RotOK.del (h : RotOK (N : Nat) E A) (he : e < E.length) : RotOK (N : Nat) (E.eraseIdx e) (A.map (delL e)) := by
  have hlen : (E.eraseIdx e).length = E.length - 1 := List.length_eraseIdx_of_lt (by omega)
  have hm := h.m1
  refine rotOK_of h.n16 (by omega) (by rw [List.length_map]; exact h.al) (fun a ha => h.edge a (List.mem_of_mem_eraseIdx ha)) ?_ ?_ ?_
  · intro l hl
    obtain ⟨l0, h0, rfl⟩ := List.mem_map.1 hl
    exact delL_nodup (h.natL h0) (h.list_nodup h0)
  · intro v l hv d hd
    rw [List.getElem?_map] at hv
    cases hv0 : A[v]? with
    | none => rw [hv0] at hv; cases hv
    | some l0 =>
      rw [hv0] at hv
      cases hv
      obtain ⟨j, rfl, hj⟩ := (delL_mem (h.natL (List.mem_of_getElem? hv0))).1 hd
      obtain ⟨k, e1, e2, e3⟩ := h.dart v l0 hv0 _ hj
      have : inv e j = k := by omega
      subst this
      refine ⟨j, rfl, ?_, by rw [tl_erase]; exact e3⟩
      rw [hlen]
      unfold inv at e2
      split at e2 <;> omega
  · intro k hk
    rw [hlen] at hk
    obtain ⟨l, hl, hkl⟩ := List.mem_flatten.1 (h.mem (inv_lt he hk))
    exact ⟨delL e l, List.mem_map.2 ⟨l, hl, rfl⟩, (delL_mem (h.natL hl)).2 ⟨k, rfl, hkl⟩⟩
theorem simp_erase (h : Simp E) : Simp (E.eraseIdx e) := by
  intro i b hb
  unfold joinedB
  rw [List.any_eq_false]
  intro x hx
  obtain ⟨j, hj⟩ := List.mem_iff_getElem?.1 hx
  rw [List.getElem?_take] at hj
  split at hj
  · rename_i hji
    rw [List.getElem?_eraseIdx] at hj hb
    have key : ∀ i' j' : Nat, E[i']? = some b → E[j']? = some x → j' < i' → ¬ jn b.1 b.2.1 x = true := by
      intro i' j' h1 h2 h3
      have := h i' b h1
      unfold joinedB at this
      rw [List.any_eq_false] at this
      exact this x (List.mem_iff_getElem?.2 ⟨j', by rw [List.getElem?_take, if_pos h3]; exact h2⟩)
    split at hj <;> split at hb
    · exact key _ _ hb hj hji
    · exact key _ _ hb hj (by omega)
    · omega
    · exact key _ _ hb hj (by omega)
  · cases hj
theorem reach_del {p q : Nat} (he : e < E.length) (hp : tl E (2 * e) = p) (hq : hd E (2 * e) = q) (hpq : Reach (E.eraseIdx e) p q) {x y : Nat} (h : Reach E x y) : Reach (E.eraseIdx e) x y := by
  have hlen : (E.eraseIdx e).length = E.length - 1 := List.length_eraseIdx_of_lt (by omega)
  induction h with
  | refl => exact .refl _
  | step _ hk h1 h2 ih =>
    rename_i v w k _
    by_cases hke : k / 2 = e
    · rcases (by omega : k = 2 * e ∨ k = 2 * e + 1) with rfl | rfl
      · have : p = v := by omega
        subst this
        have : q = w := by omega
        subst this
        exact ih.trans hpq
      · have e1 : hd E (2 * e) = v := by unfold hd; rw [oth2]; exact h1
        have e2 : tl E (2 * e) = w := by unfold hd at h2; rw [oth21] at h2; exact h2
        have : p = w := by omega
        subst this
        have : q = v := by omega
        subst this
        exact ih.trans hpq.symm
    · exact .step ih (k := ren e k) (by rw [hlen]; exact ren_lt hke he hk) (by rw [tl_erase, inv_ren hke]; exact h1) (by rw [hd_erase, inv_ren hke]; exact h2)
theorem cyc3 {f : List Int} (hc : Cyc nx f) (h3 : f.length = 3) (hN : NatL f) {a : Nat} (ha : (a : Int) ∈ f) : ∃ c d : Nat, nx[a]? = some (c : Int) ∧ nx[c]? = some (d : Int) ∧ nx[d]? = some (a : Int) := by
  match f, h3 with
  | [x, y, z], _ =>
    obtain ⟨x, rfl⟩ := hN x (by simp)
    obtain ⟨y, rfl⟩ := hN y (by simp)
    obtain ⟨z, rfl⟩ := hN z (by simp)
    have h0 := hc.2 0 (by simp)
    have h1 := hc.2 1 (by simp)
    have h2 := hc.2 2 (by simp)
    simp at h0 h1 h2 ha
    rcases ha with e | e | e
    · rw [show a = x by omega]; exact ⟨_, _, h0, h1, h2⟩
    · rw [show a = y by omega]; exact ⟨_, _, h1, h2, h0⟩
    · rw [show a = z by omega]; exact ⟨_, _, h2, h0, h1⟩
theorem noloopI (h : RotOK (N : Nat) E A) {k : Nat} (hk : k < 2 * E.length) : tl E k ≠ hd E k := by
  intro e
  have := noloop h hk
  unfold tln at this
  unfold hd at e
  rw [e] at this
  exact this rfl
theorem oth_of {c e : Nat} (h : c / 2 = e) : c = 2 * e ∨ c = 2 * e + 1 := by omega
theorem Tri.del_conn (h : Tri N E A) (hn : Fol oth E A nx) (h3 : ∀ f ∈ facesOf nx, f.length = 3) (he : e < E.length) : Conn N (E.eraseIdx e) := by
  have hlen : (E.eraseIdx e).length = E.length - 1 := List.length_eraseIdx_of_lt (by omega)
  obtain ⟨hfs, hcy⟩ := facesOf_fs h.rot hn
  obtain ⟨f, f1, f2, f3⟩ := fcn_face h.rot hn (k := 2 * e) (by omega)
  have hf := List.mem_of_getElem? f1
  obtain ⟨c, d, n1, n2, n3⟩ := cyc3 (hcy f hf) (h3 f hf) (fun x hx => by obtain ⟨k, e, _⟩ := (hfs.elem f hf).2 x hx; exact ⟨k, e⟩) f2
  obtain ⟨_, hc, t1⟩ := next_tail h.rot hn n1
  obtain ⟨_, hd', t2⟩ := next_tail h.rot hn n2
  obtain ⟨_, _, t3⟩ := next_tail h.rot hn n3
  have la := noloopI h.rot (k := 2 * e) (by omega)
  have lc := noloopI h.rot hc
  have ld := noloopI h.rot hd'
  have o1 : hd E (2 * e + 1) = tl E (2 * e) := by unfold hd; rw [oth21]
  have o0 : hd E (2 * e) = tl E (2 * e + 1) := by unfold hd; rw [oth2]
  have ce : c / 2 ≠ e := fun e1 => by
    rcases oth_of e1 with rfl | rfl
    · exact la t1
    · exact ld (by rw [t2, o1, t3])
  have de : d / 2 ≠ e := fun e1 => by
    rcases oth_of e1 with rfl | rfl
    · exact la t3
    · exact lc (by rw [t1, o0, t2])
  obtain ⟨p, hp, _⟩ := h.rot.tl_lt (k := 2 * e) (by omega)
  obtain ⟨q, hq, _⟩ := h.rot.hd_lt (k := 2 * e) (by omega)
  obtain ⟨r, hr, _⟩ := h.rot.tl_lt hd'
  have r1 : Reach (E.eraseIdx e) q r := .step (.refl q) (k := ren e c) (by rw [hlen]; exact ren_lt ce he hc) (by rw [tl_erase, inv_ren ce, t1]; exact hq) (by rw [hd_erase, inv_ren ce, ← t2]; exact hr)
  have r2 : Reach (E.eraseIdx e) r p := .step (.refl r) (k := ren e d) (by rw [hlen]; exact ren_lt de he hd') (by rw [tl_erase, inv_ren de]; exact hr) (by rw [hd_erase, inv_ren de, ← t3]; exact hp)
  exact fun v hv => reach_del he hp hq (r1.trans r2).symm (h.conn v hv)
noncomputable def lab (E : List Arc) (nx : List Int) (e k : Nat) : Nat := if fcn E nx k = fcn E nx (2 * e) then fcn E nx (2 * e + 1) else fcn E nx k
theorem lab_ab : lab E nx e (2 * e) = lab E nx e (2 * e + 1) := by
  unfold lab
  rw [if_pos rfl]
  split
  · rfl
  · rfl
theorem lab_of {j k : Nat} (h : fcn E nx j = fcn E nx k) : lab E nx e j = lab E nx e k := by unfold lab; rw [h]
theorem lab_oth {k : Nat} (h : k / 2 = e) : lab E nx e (oth k) = lab E nx e k := by
  rcases oth_of h with rfl | rfl
  · rw [oth2]; exact lab_ab.symm
  · rw [oth21]; exact lab_ab
theorem lab_cyc (h : RotOK (N : Nat) E A) (hn : Fol oth E A nx) {fw : List Int} (ff : Fol id E A fw) {l : List Int} (hl : l ∈ A) : CycR (fun x y => lab E nx e y.toNat = lab E nx e (oth x.toNat)) l := by
  intro i a b h1 h2
  have hi : i < l.length := (List.getElem?_eq_some_iff.1 h1).1
  have ha : l[i] = a := (List.getElem?_eq_some_iff.1 h1).2
  obtain ⟨k, rfl, hk⟩ := h.mem_of hl (ha ▸ List.getElem_mem hi)
  obtain ⟨y, y1, y2, _, _, y5⟩ := fw_next h hn ff hk
  have := ff.get l hl i hi
  rw [ha, List.getD_eq_getElem?_getD, h2, Option.getD_some, id, Int.toNat_natCast, y2] at this
  have : (y : Int) = b := Option.some.inj this
  subst this
  exact lab_of y5
theorem lab_del (h : RotOK (N : Nat) E A) (hn : Fol oth E A nx) (he : e < E.length) {mx : List Int} (hm : Fol oth (E.eraseIdx e) (A.map (delL e)) mx) {j y : Nat} (hy : mx[j]? = some (y : Int)) : lab E nx e (inv e y) = lab E nx e (inv e j) := by
  have h' := h.del he
  obtain ⟨hj, hy2, _⟩ := next_tail h' hm hy
  obtain ⟨fw, _, ff⟩ := rfollow_eq h ()
  obtain ⟨fw', _, ff'⟩ := rfollow_eq h' ()
  obtain ⟨y', _, y2, y3, _⟩ := fw_next h' hm ff' (k := oth j) (oth_lt hj)
  rw [oth_oth, hy] at y3
  have : y = y' := by have := Option.some.inj y3; omega
  subst this
  obtain ⟨l', hl', hjl⟩ := List.mem_flatten.1 (h'.mem (oth_lt hj))
  obtain ⟨i, hi, ei⟩ := List.getElem_of_mem hjl
  have hg := ff'.get l' hl' i hi
  have hmod : (i + 1) % l'.length < l'.length := Nat.mod_lt _ (by omega)
  rw [ei, id, Int.toNat_natCast, y2, List.getD_eq_getElem?_getD, List.getElem?_eq_getElem hmod] at hg
  have e2 : l'[(i + 1) % l'.length]? = some (y : Int) := by rw [List.getElem?_eq_getElem hmod]; exact hg.symm
  have e1 : l'[i]? = some ((oth j : Nat) : Int) := by rw [List.getElem?_eq_getElem hi, ei]
  obtain ⟨l, hl, rfl⟩ := List.mem_map.1 hl'
  have hN := h.natL hl
  rw [delL_filter hN] at e1 e2
  have hc : CycR (fun x y => x.toNat / 2 ≠ e ∧ y.toNat / 2 ≠ e → lab E nx e y.toNat = lab E nx e (oth x.toNat)) (l.filter fun d => decide (d.toNat / 2 ≠ e)) := by
    have := cycR_filter (R := fun x y => lab E nx e y.toNat = lab E nx e (oth x.toNat)) (fun d => decide (d.toNat / 2 ≠ e)) (fun a ha u w h1 h2 => by
      have ha2 : a.toNat / 2 = e := by simpa using ha
      rw [h2, lab_oth ha2, h1]) (lab_cyc h hn ff hl)
    intro i a b h1 h2 _
    exact this i a b h1 h2
  have hall : ∀ x ∈ l.filter (fun d => decide (d.toNat / 2 ≠ e)), x.toNat / 2 ≠ e := fun x hx => by simpa using (List.mem_filter.1 hx).2
  rw [List.length_map, List.getElem?_map] at e2
  rw [List.getElem?_map] at e1
  cases q1 : (l.filter fun d => decide (d.toNat / 2 ≠ e))[i]? with
  | none => rw [q1] at e1; cases e1
  | some a =>
    cases q2 : (l.filter fun d => decide (d.toNat / 2 ≠ e))[(i + 1) % (l.filter fun d => decide (d.toNat / 2 ≠ e)).length]? with
    | none => rw [q2] at e2; cases e2
    | some b =>
      rw [q1] at e1; rw [q2] at e2
      have e1' : ((ren e a.toNat : Nat) : Int) = ((oth j : Nat) : Int) := Option.some.inj e1
      have e2' : ((ren e b.toNat : Nat) : Int) = (y : Int) := Option.some.inj e2
      have a2 := hall a (List.mem_of_getElem? q1)
      have b2 := hall b (List.mem_of_getElem? q2)
      have := hc i a b q1 q2 ⟨a2, b2⟩
      have i1 := inv_ren a2
      have i2 := inv_ren b2
      rw [show ren e a.toNat = oth j by omega] at i1
      rw [show ren e b.toNat = y by omega] at i2
      rw [i2, this, ← i1, inv_oth, oth_oth]
theorem cyc_const {mx f : List Int} (hc : Cyc mx f) (hN : NatL f) {φ : Nat → Nat} (hφ : ∀ j y : Nat, mx[j]? = some (y : Int) → φ y = φ j) : ∀ i (hi : i < f.length), φ f[i].toNat = φ (f.getD 0 0).toNat
  | 0, hi => by rw [List.getD_eq_getElem?_getD, List.getElem?_eq_getElem hi]; rfl
  | i + 1, hi => by
    rw [← cyc_const hc hN hφ i (by omega)]
    obtain ⟨k, hk⟩ := hN f[i + 1] (List.getElem_mem hi)
    have := hc.2 i (by omega)
    rw [Nat.mod_eq_of_lt (by omega), List.getD_eq_getElem?_getD, List.getElem?_eq_getElem hi, Option.getD_some, hk] at this
    rw [hk, Int.toNat_natCast]
    exact hφ _ _ this
theorem lab_face (h : RotOK (N : Nat) E A) (hn : Fol oth E A nx) (he : e < E.length) {mx : List Int} (hm : Fol oth (E.eraseIdx e) (A.map (delL e)) mx) {j k : Nat} (hj : j < 2 * (E.eraseIdx e).length) (hk : k < 2 * (E.eraseIdx e).length) (hf : fcn (E.eraseIdx e) mx j = fcn (E.eraseIdx e) mx k) :
    lab E nx e (inv e j) = lab E nx e (inv e k) := by
  have h' := h.del he
  obtain ⟨f, f1, f2, _⟩ := fcn_face h' hm hj
  obtain ⟨g, g1, g2, _⟩ := fcn_face h' hm hk
  rw [hf, g1] at f1
  have : g = f := Option.some.inj f1
  subst this
  obtain ⟨hfs, hcy⟩ := facesOf_fs h' hm
  have hg := List.mem_of_getElem? g1
  have := cyc_const (φ := fun j => lab E nx e (inv e j)) (hcy g hg) (fun x hx => by obtain ⟨k, e, _⟩ := (hfs.elem g hg).2 x hx; exact ⟨k, e⟩) (fun j y hy => lab_del h hn he hm hy)
  obtain ⟨i1, q1, e1⟩ := List.getElem_of_mem f2
  obtain ⟨i2, q2, e2⟩ := List.getElem_of_mem g2
  have a := this i1 q1
  have b := this i2 q2
  rw [e1] at a
  rw [e2] at b
  simp only [Int.toNat_natCast] at a b
  rw [a, b]
theorem Tri.del_faces (h : Tri N E A) (hn : Fol oth E A nx) (h3 : ∀ f ∈ facesOf nx, f.length = 3) (he : e < E.length) {mx : List Int} (hm : Fol oth (E.eraseIdx e) (A.map (delL e)) mx) : (facesOf nx).length - 1 ≤ (facesOf mx).length := by
  have h' := h.rot.del he
  have hlen : (E.eraseIdx e).length = E.length - 1 := List.length_eraseIdx_of_lt (by omega)
  obtain ⟨hfs, hcy⟩ := facesOf_fs h.rot hn
  have pick : ∀ c, c < (facesOf nx).length → c ≠ fcn E nx (2 * e) → ∃ k, k < 2 * E.length ∧ k / 2 ≠ e ∧ fcn E nx k = c := by
    intro c hc hne
    have hf := List.getElem_mem hc
    have hl := h3 _ hf
    have hel := (hfs.elem _ hf).2
    have hnd : ((facesOf nx)[c]).Nodup := hfs.nodup.sublist (List.sublist_flatten_of_mem hf)
    have hof : ∀ k : Nat, (k : Int) ∈ (facesOf nx)[c] → fcn E nx k = c := fun k hk => fcn_of h.rot hn (List.getElem?_eq_getElem hc) hk
    generalize (facesOf nx)[c] = f at *
    match f, hl with
    | [x, y, z], _ =>
      obtain ⟨x, rfl, hx⟩ := hel x (by simp)
      obtain ⟨y, rfl, hy⟩ := hel y (by simp)
      have fx := hof x (by simp)
      have fy := hof y (by simp)
      have hxy : x ≠ y := fun e => by subst e; simp at hnd
      have nx0 : x ≠ 2 * e := fun e => by rw [e] at fx; exact hne fx.symm
      have ny0 : y ≠ 2 * e := fun e => by rw [e] at fy; exact hne fy.symm
      by_cases hxe : x / 2 = e
      · exact ⟨y, hy, by omega, fy⟩
      · exact ⟨x, hx, hxe, fx⟩
  have hsome : ∀ i, ∃ k, i < (facesOf nx).length - 1 → k < 2 * E.length ∧ k / 2 ≠ e ∧ fcn E nx k = if i < fcn E nx (2 * e) then i else i + 1 := by
    intro i
    by_cases hi : i < (facesOf nx).length - 1
    · obtain ⟨k, hk⟩ := pick (if i < fcn E nx (2 * e) then i else i + 1) (by split <;> omega) (by split <;> omega)
      exact ⟨k, fun _ => hk⟩
    · exact ⟨0, fun h => absurd h hi⟩
  refine pigeon (fun i => fcn (E.eraseIdx e) mx (ren e (Classical.choose (hsome i)))) ?_ ?_
  · intro i hi
    obtain ⟨k1, k2, _⟩ := Classical.choose_spec (hsome i) hi
    obtain ⟨_, _, _, q⟩ := fcn_face h' hm (k := ren e (Classical.choose (hsome i))) (by rw [hlen]; exact ren_lt k2 he k1)
    exact q
  · intro i j hi hj hij
    obtain ⟨k1, k2, k3⟩ := Classical.choose_spec (hsome i) hi
    obtain ⟨l1, l2, l3⟩ := Classical.choose_spec (hsome j) hj
    have := lab_face h.rot hn he hm (by rw [hlen]; exact ren_lt k2 he k1) (by rw [hlen]; exact ren_lt l2 he l1) hij
    rw [inv_ren k2, inv_ren l2] at this
    unfold lab at this
    rw [k3, l3] at this
    split at this <;> split at this <;> split at this <;> split at this <;> omega
theorem Tri.del (h : Tri N E A) (h3 : ∀ nx, Fol oth E A nx → ∀ f ∈ facesOf nx, f.length = 3) (he : e < E.length) : Tri N (E.eraseIdx e) (A.map (delL e)) := by
  have hlen : (E.eraseIdx e).length = E.length - 1 := List.length_eraseIdx_of_lt (by omega)
  obtain ⟨nx, _, hn⟩ := follow_eq h.rot ()
  have h0 : Tri0 N (E.eraseIdx e) (A.map (delL e)) := ⟨h.rot.del he, by have := h.three; omega, h.del_conn hn (h3 nx hn) he⟩
  refine ⟨h0.rot, h.three, h0.conn, simp_erase h.simp, fun mx hm => ?_⟩
  have l1 := h.del_faces hn (h3 nx hn) he hm
  have l2 := h0.euler_le hm
  have l3 := h.euler hn
  have e1 : ((N : Int) - (E.eraseIdx e).length + ((facesOf mx).length + emp (A.map (delL e)) : Nat)) = 2 := by rw [h0.noEmp]; omega
  unfold genZ
  rw [e1, h0.one]
  rfl
end
end Go.Vm

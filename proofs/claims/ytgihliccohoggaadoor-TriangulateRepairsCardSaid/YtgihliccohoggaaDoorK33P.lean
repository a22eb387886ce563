/-
  Systems: how they are made, their genus, what is reached.
-/
import Derived.Test.YtgihliccohoggaaDoorK33E
set_option linter.unusedVariables false
set_option linter.unusedSimpArgs false
namespace Go.Vm
open Go.Proofs
set_option maxRecDepth 100000
attribute [local irreducible] loopFix
theorem nodup_split {l : List Int} (hn : l.Nodup) {k : Nat} {f : Int} (hk : l[k]? = some f) : l = l.take k ++ f :: l.drop (k + 1) ∧ f ∉ l.take k ∧ f ∉ l.drop (k + 1) := by
  have hlt : k < l.length := (List.getElem?_eq_some_iff.1 hk).1
  have hf : l[k] = f := (List.getElem?_eq_some_iff.1 hk).2
  have e : l = l.take k ++ f :: l.drop (k + 1) := by
    rw [← hf, ← List.drop_eq_getElem_cons hlt, List.take_append_drop]
  have h2 := hn
  rw [e, List.nodup_append, List.nodup_cons] at h2
  exact ⟨e, fun hm => h2.2.2 f hm f (by simp) rfl, h2.2.1.1⟩
theorem RotOK.list_nodup {N : Int} {E : List Arc} {A : List (List Int)} (h : RotOK N E A) {l : List Int} (hl : l ∈ A) : l.Nodup := h.nodup.sublist (List.sublist_flatten_of_mem hl)
theorem count_one {l : List Int} {x : Int} (hn : l.Nodup) (hx : x ∈ l) : l.count x = 1 := by
  have h1 := List.nodup_iff_count.1 hn x
  have h2 := List.count_pos_iff.2 hx
  omega
theorem rotOK_of {N : Nat} {E : List Arc} {A : List (List Int)} (hN : N ≤ 16384) (hE : E.length ≤ 32768) (hA : A.length = N) (hedge : ∀ a ∈ E, 0 ≤ a.1 ∧ a.1 < (N : Int) ∧ 0 ≤ a.2.1 ∧ a.2.1 < (N : Int) ∧ a.1 ≠ a.2.1)
    (hnd : ∀ l ∈ A, l.Nodup) (hd : ∀ (v : Nat) (l : List Int), A[v]? = some l → ∀ d ∈ l, ∃ k : Nat, d = (k : Int) ∧ k < 2 * E.length ∧ tl E k = v) (hall : ∀ k, k < 2 * E.length → ∃ l ∈ A, (k : Int) ∈ l) : RotOK (N : Nat) E A := by
  have hn : A.flatten.Nodup := by
    refine List.pairwise_flatten.2 ⟨hnd, ?_⟩
    rw [List.pairwise_iff_getElem]
    intro i j hi hj hij x hx y hy e
    subst e
    obtain ⟨k, e1, _, e2⟩ := hd i _ (List.getElem?_eq_getElem hi) x hx
    obtain ⟨k', e1', _, e2'⟩ := hd j _ (List.getElem?_eq_getElem hj) x hy
    have : k = k' := by omega
    subst this
    omega
  have hel : ∀ x ∈ A.flatten, ∃ k : Nat, x = (k : Int) ∧ k < 2 * E.length := by
    intro x hx
    obtain ⟨l, hl, hxl⟩ := List.mem_flatten.1 hx
    obtain ⟨v, hv⟩ := List.mem_iff_getElem?.1 hl
    obtain ⟨k, e, h1, _⟩ := hd v l hv x hxl
    exact ⟨k, e, h1⟩
  refine ⟨by omega, by omega, hE, by omega, hedge, hd, hn, Nat.le_antisymm ?_ ?_⟩
  · have hn2 : (A.flatten.map Int.toNat).Nodup := by
      refine List.pairwise_map.2 (List.Pairwise.imp_of_mem (fun {a b} ha hb hab e => ?_) hn)
      obtain ⟨x, rfl, _⟩ := hel a ha
      obtain ⟨y, rfl, _⟩ := hel b hb
      simp at e
      omega
    have := nodup_le (2 * E.length) _ hn2 (by
      intro x hx
      obtain ⟨d, hd', rfl⟩ := List.mem_map.1 hx
      obtain ⟨k, rfl, hk⟩ := hel d hd'
      simpa using hk)
    rwa [List.length_map] at this
  · have pick : ∀ k, k < 2 * E.length → ∃ i, A.flatten[i]? = some (k : Int) := fun k hk => by
      obtain ⟨l, hl, hkl⟩ := hall k hk
      exact List.mem_iff_getElem?.1 (List.mem_flatten.2 ⟨l, hl, hkl⟩)
    refine pigeon (fun k => if h : k < 2 * E.length then (pick k h).choose else 0) (fun k hk => ?_) (fun a b ha hb e => ?_)
    · simp only [hk, dif_pos]
      exact (List.getElem?_eq_some_iff.1 (pick k hk).choose_spec).1
    · simp only [ha, hb, dif_pos] at e
      have h1 := (pick a ha).choose_spec
      have h2 := (pick b hb).choose_spec
      rw [e, h2] at h1
      have := Option.some.inj h1
      omega
theorem tl_old {E F : List Arc} {k : Nat} (hk : k < 2 * E.length) : tl (E ++ F) k = tl E k := by
  unfold tl
  rw [List.getElem?_append_left (by omega)]
theorem tl_new0 {E : List Arc} {a : Arc} : tl (E ++ [a]) (2 * E.length) = a.1 := by
  unfold tl
  rw [show 2 * E.length / 2 = E.length by omega, List.getElem?_append_right (Nat.le_refl _)]
  simp
theorem tl_new1 {E : List Arc} {a : Arc} : tl (E ++ [a]) (2 * E.length + 1) = a.2.1 := by
  unfold tl
  rw [show (2 * E.length + 1) / 2 = E.length by omega, List.getElem?_append_right (Nat.le_refl _)]
  simp
section
variable {N : Nat} {E : List Arc} {A : List (List Int)} {nx : List Int}
theorem RotOK.split (h : RotOK (N : Nat) E A) {k w : Nat} (hk : k < 2 * E.length) (hw : tl E k = w) (hwN : w < N) : ∃ p q, A[w]? = some (p ++ (k : Int) :: q) ∧ subL A w = p ++ (k : Int) :: q ∧ (k : Int) ∉ p ∧ (k : Int) ∉ q := by
  have hal : A.length = N := by have := h.len; omega
  have hlt : w < A.length := by omega
  have hm := h.around hk hw (List.getElem?_eq_getElem hlt)
  obtain ⟨i, hi⟩ := List.mem_iff_getElem?.1 hm
  have hn := h.list_nodup (List.getElem_mem hlt)
  obtain ⟨e, n1, n2⟩ := nodup_split hn hi
  exact ⟨_, _, by rw [List.getElem?_eq_getElem hlt]; exact congrArg some e, by rw [subL_eq hlt]; exact e, n1, n2⟩
theorem Fol.cyc {E : List Arc} {A : List (List Int)} {fw : List Int} (h : Fol id E A fw) {l : List Int} (hl : l ∈ A) (hne : l ≠ []) : Cyc fw l := ⟨hne, fun i hi => h.get l hl i hi⟩
end
theorem oth2 (m : Nat) : oth (2 * m) = 2 * m + 1 := by unfold oth; rw [if_pos (by omega)]
theorem oth21 (m : Nat) : oth (2 * m + 1) = 2 * m := by unfold oth; rw [if_neg (by omega)]; rfl
theorem path_last {nx : List Int} : ∀ {s : List Int} {x z : Int}, Path nx x s z → s ≠ [] → ∃ y ∈ s, nx[y.toNat]? = some z
  | [], _, _, _, h => absurd rfl h
  | [a], x, z, ⟨h1, y, h2, h3⟩, _ => ⟨a, by simp, by rw [h1, h2]; exact congrArg some h3⟩
  | a :: b :: s, x, z, ⟨h1, y, h2, h3⟩, _ => by
    obtain ⟨w, w1, w2⟩ := path_last h3 (by simp)
    exact ⟨w, by simp at w1 ⊢; exact .inr w1, w2⟩
theorem flat_split {α : Type} {fs : List (List α)} {j : Nat} {g : List α} (h : fs[j]? = some g) : ∃ a b, fs = a ++ g :: b := by
  have hlt : j < fs.length := (List.getElem?_eq_some_iff.1 h).1
  refine ⟨fs.take j, fs.drop (j + 1), ?_⟩
  rw [← (List.getElem?_eq_some_iff.1 h).2, ← List.drop_eq_getElem_cons hlt, List.take_append_drop]
theorem count_flat {a b : List (List Int)} {g : List Int} (x : Int) : (a ++ g :: b).flatten.count x = a.flatten.count x + g.count x + b.flatten.count x := by
  simp [List.count_append]; omega
section
variable {N : Nat} {E : List Arc} {A : List (List Int)} {nx : List Int}
theorem facesOf_fs {nx : List Int} (h : RotOK (N : Nat) E A) (hn : Fol oth E A nx) : FsOK (2 * E.length) (facesOf nx) ∧ ∀ g ∈ facesOf nx, Cyc nx g := by
  have hnx := Fol.nxOK h hn
  refine ⟨?_, facesOf_cyc (fol_inj32 h hn) hnx⟩
  obtain ⟨m, _, hi⟩ := facesOf_spec hnx
  have hL : nx.length = 2 * E.length := hn.len
  rw [hL] at hi
  refine ⟨hi.elem, hi.nodup, fun k hk => hi.cover k hk hk, ?_⟩
  have := hi.num
  show (facesOf nx).length ≤ _
  have h2 : (facesOf nx).length + unm m ≤ 2 * E.length := this
  omega
end
def emp (A : List (List Int)) : Nat := A.countP fun l => l.isEmpty
noncomputable def genZ (N : Nat) (E : List Arc) (A : List (List Int)) (F : Nat) : Int := subI .i64 (comps N E : Nat) (quoI .i64 ((N : Int) - E.length + (F + emp A : Nat)) 2)
def empStep33 (_ : Nat) (n : Int) (l : List Int) : Option (Int ⊕ Empty) := some (.inl (cond (eqI (l.length : Nat) 0) (addI .i64 n 1) n))
theorem emp_fold : ∀ (A : List (List Int)) (i n : Nat), n + A.length ≤ 1000000 → foldE empStep33 i (n : Int) A = some (.inl ((n + emp A : Nat) : Int))
  | [], i, n, _ => rfl
  | l :: A, i, n, h => by
    simp only [List.length_cons] at h
    cases l with
    | nil =>
      have e : empStep33 i (n : Int) [] = some (.inl ((n + 1 : Nat) : Int)) := by
        unfold empStep33
        rw [eqI_t (by rfl), cond_true, addI64 (by omega) (by omega)]; rfl
      simp only [foldE, e, Option.bind_some, Sum.elim_inl]
      rw [emp_fold A (i + 1) (n + 1) (by omega)]
      unfold emp
      simp only [List.countP_cons, List.isEmpty_nil, if_true]
      rw [show n + 1 + List.countP (fun l => l.isEmpty) A = n + (List.countP (fun l => l.isEmpty) A + 1) by omega]
    | cons a l =>
      have e : empStep33 i (n : Int) (a :: l) = some (.inl (n : Int)) := by
        unfold empStep33
        rw [eqI_f (by simp; omega), cond_false]
      simp only [foldE, e, Option.bind_some, Sum.elim_inl]
      rw [emp_fold A (i + 1) n (by omega)]
      unfold emp
      simp [List.countP_cons]
theorem RotOK.lists {N : Int} {E : List Arc} {A : List (List Int)} (h : RotOK N E A) : ∀ l ∈ A, l.length ≤ 9223372036854775807 := fun l hl => by have := h.list_len hl; have := h.m1; omega
section
variable {N : Nat} {E : List Arc} {A : List (List Int)} {nx : List Int}
theorem RotOK.al (h : RotOK (N : Nat) E A) : A.length = N := by have := h.len; omega
theorem RotOK.n16 (h : RotOK (N : Nat) E A) : N ≤ 16384 := by have := h.n1; omega
theorem fol_uniq (h : RotOK (N : Nat) E A) {nx mx : List Int} (hn : Fol oth E A nx) (hm : Fol oth E A mx) : mx = nx := by
  refine List.ext_getElem? fun k => ?_
  by_cases hk : k < 2 * E.length
  · obtain ⟨fw, _, ff⟩ := rfollow_eq h ()
    obtain ⟨y, _, h1, h2⟩ := fol_both h hn ff hk
    obtain ⟨y', _, h1', h2'⟩ := fol_both h hm ff hk
    rw [h2] at h2'
    rw [h1, h1', h2']
  · rw [List.getElem?_eq_none (by rw [hm.len]; omega), List.getElem?_eq_none (by rw [hn.len]; omega)]
theorem faces_val (h : RotOK (N : Nat) E A) (hn : Fol oth E A nx) : rotation_Faces (((N : Int), E, A, ()), ()) = some (facesOf nx, ()) ∧ layoutref29_Faces (((N : Int), E, A, ()), ()) = some (facesOf nx, ()) := by
  obtain ⟨mx, m, _, f1, _, r1, r2⟩ := faces_both h h.validB h.lists
  rw [fol_uniq h hn f1] at r1 r2
  exact ⟨r1, r2⟩
theorem genus_val (h : RotOK (N : Nat) E A) (hn : Fol oth E A nx) : rotation_Genus (((N : Int), E, A, ()), ()) = some (genZ N E A (facesOf nx).length, ()) ∧ layoutref29_Genus (((N : Int), E, A, ()), ()) = some (genZ N E A (facesOf nx).length, ()) := by
  have hal := h.al
  have hn16 := h.n16
  have hm1 := h.m1
  obtain ⟨r1, r2⟩ := faces_val h hn
  have hF := (facesOf_fs h hn).1.num
  have hemp : emp A ≤ A.length := List.countP_le_length
  have k1 := scan (B := rotation_Genus_B5) (fun n i => ((N : Int), E, A, n, A, ((A.length : Nat) : Int), (i : Int), ())) (fun n => .inl ((N : Int), E, A, n, ())) (fun e => nomatch e) empStep33 A (by
    intro n i l hd'
    have hi : i < A.length := (List.getElem?_eq_some_iff.1 hd').1
    simp only [rotation_Genus_B5, empStep33]
    rw [ltI_t (by omega), cond_true, getI_of, hd', Option.bind_some, add1 (a := i) (by omega)]
    cases eqI ((l.length : Nat) : Int) 0 <;> rfl) (by
    intro n
    simp only [rotation_Genus_B5]
    rw [ltI_f (by omega)]; rfl) ((facesOf nx).length : Int)
  have k2 := scan (B := layoutref29_Genus_B5) (fun n i => (((A.length : Nat) : Int), E, A, n, (i : Int), ())) (fun n => .inl (((A.length : Nat) : Int), E, A, n, ())) (fun e => nomatch e) empStep33 A (by
    intro n i l hd'
    have hi : i < A.length := (List.getElem?_eq_some_iff.1 hd').1
    simp only [layoutref29_Genus_B5, empStep33]
    rw [ltI_t (by omega), cond_true, getI_of, hd', Option.bind_some, add1 (a := i) (by omega)]
    cases eqI ((l.length : Nat) : Int) 0 <;> rfl) (by
    intro n
    simp only [layoutref29_Genus_B5]
    rw [ltI_f (by omega)]; rfl) ((facesOf nx).length : Int)
  rw [emp_fold A 0 _ (by omega)] at k1 k2
  have e1 : addI .i64 (subI .i64 (N : Int) (E.length : Nat)) (((facesOf nx).length + emp A : Nat) : Int) = (N : Int) - E.length + ((facesOf nx).length + emp A : Nat) := by
    rw [subI64 (by omega) (by omega), addI64 (by omega) (by omega)]
  constructor
  · unfold rotation_Genus
    simp only
    rw [valid_eq ((N : Int), E, A, ()) h.lists, h.validB, Option.bind_some]
    simp only [Bool.not_true, cond_false]
    rw [r1, Option.bind_some]
    simp only
    rw [show rotation_Genus_L5 ((N : Int), E, A, ((facesOf nx).length : Nat), A, (A.length : Nat), 0, ()) = _ from k1]
    simp only [Option.bind_some, Sum.elim_inl]
    rw [comps_val h]
    simp only [Option.bind_some]
    rw [e1]; rfl
  · unfold layoutref29_Genus
    simp only
    rw [rvalid_eq ((N : Int), E, A, ()) h.lists, h.validB, Option.bind_some]
    simp only [Bool.not_true, cond_false]
    rw [r2, Option.bind_some]
    simp only
    have k2' : layoutref29_Genus_L5 ((N : Int), E, A, ((facesOf nx).length : Nat), 0, ()) = some (.inl ((N : Int), E, A, (((facesOf nx).length + emp A : Nat) : Int), ())) := by
      rw [show (N : Int) = ((A.length : Nat) : Int) by omega]; exact k2
    rw [k2']
    simp only [Option.bind_some, Sum.elim_inl]
    rw [rcomps_val h]
    simp only [Option.bind_some]
    rw [e1]; rfl
theorem next_tail (h : RotOK (N : Nat) E A) (hn : Fol oth E A nx) {k y : Nat} (hy : nx[k]? = some (y : Int)) : k < 2 * E.length ∧ y < 2 * E.length ∧ tl E y = hd E k := by
  have hk : k < 2 * E.length := by
    have := (List.getElem?_eq_some_iff.1 hy).1
    rw [hn.len] at this; exact this
  obtain ⟨v, l, i, h1, h2, h3, h4, h5⟩ := fol_at h hn hy
  obtain ⟨y', e1, e2, e3⟩ := h.dart v l h1 _ h5
  have : y = y' := by omega
  subst this
  have hm : ((oth k : Nat) : Int) ∈ l := by
    rw [← h3, List.getD_eq_getElem?_getD, List.getElem?_eq_getElem h2]; exact List.getElem_mem h2
  obtain ⟨o, f1, f2, f3⟩ := h.dart v l h1 _ hm
  have : oth k = o := by omega
  subst this
  exact ⟨hk, e2, by unfold hd; rw [e3, f3]⟩
theorem path_reach (h : RotOK (N : Nat) E A) (hn : Fol oth E A nx) : ∀ {s : List Int} {x z : Int} {a b p q : Nat}, Path nx x s z → NatL s → x = (a : Int) → z = (b : Int) → tl E a = p → tl E b = q → Reach E p q
  | [], x, z, a, b, p, q, hp, _, hx, hz, h1, h2 => by
    have : x = z := hp
    have : a = b := by omega
    subst this
    have : p = q := by omega
    subst this
    exact .refl _
  | c :: s, x, z, a, b, p, q, ⟨e, y, e1, e2⟩, hN, hx, hz, h1, h2 => by
    subst hx
    rw [Int.toNat_natCast] at e1
    have hyn : ∃ y' : Nat, y = (y' : Int) := by
      cases s with
      | nil => exact ⟨b, by rw [show y = z from e2, hz]⟩
      | cons d s =>
        obtain ⟨k, hk⟩ := hN d (by simp)
        exact ⟨k, by rw [← e2.1]; exact hk⟩
    obtain ⟨y', rfl⟩ := hyn
    obtain ⟨k1, k2, k3⟩ := next_tail h hn e1
    obtain ⟨w, w1, w2⟩ := h.tl_lt k2
    exact Reach.trans (.step (.refl _) k1 h1 (by rw [← k3]; exact w1)) (path_reach h hn e2 (fun x hx => hN x (by simp [hx])) rfl hz w1 h2)
theorem face_reach (h : RotOK (N : Nat) E A) (hn : Fol oth E A nx) {g : List Int} (hg : g ∈ facesOf nx) {a b p q : Nat} (ha : (a : Int) ∈ g) (hb : (b : Int) ∈ g) (h1 : tl E a = p) (h2 : tl E b = q) : Reach E p q := by
  obtain ⟨hf, cf⟩ := facesOf_fs h hn
  have hnat := hf.nat g hg
  obtain ⟨s, t, rfl⟩ := List.append_of_mem ha
  have hc := cyc_rot (cf _ hg)
  by_cases e : a = b
  · subst e
    have : p = q := by omega
    subst this
    exact .refl _
  · have hm : (b : Int) ∈ t ++ s := by
      simp at hb ⊢
      rcases hb with h | h | h
      · exact .inr h
      · omega
      · exact .inl h
    obtain ⟨s1, s2, es⟩ := List.append_of_mem hm
    have hc' : Cyc nx ((a : Int) :: (t ++ s)) := hc
    rw [es] at hc'
    have hp := cyc_path hc'
    obtain ⟨y, p1, p2⟩ := path_app (f := (a : Int) :: s1) (g := (b : Int) :: s2).1 hp
    refine path_reach h hn p1 (fun x hx => hnat x ?_) rfl p2.1.symm h1 h2
    have : x ∈ (a : Int) :: (t ++ s) := by
      rw [es]
      simp at hx ⊢
      rcases hx with h | h <;> simp [h]
    simp at this ⊢
    rcases this with h | h | h <;> simp [h]
end
theorem reach_more {E F : List Arc} {x y : Nat} (h : Reach E x y) : Reach (E ++ F) x y := by
  induction h with
  | refl => exact .refl _
  | @step v w k _ hk e1 e2 ih =>
    refine .step ih (k := k) (by simp; omega) (by rw [tl_old hk]; exact e1) ?_
    unfold hd at e2 ⊢
    rw [tl_old (oth_lt hk)]; exact e2
theorem reach_new {E : List Arc} {u v : Nat} (hj : Reach E u v) {x y : Nat} : Reach (E ++ [((u : Int), (v : Int), ())]) x y ↔ Reach E x y := by
  refine ⟨fun h => ?_, reach_more⟩
  induction h with
  | refl => exact .refl _
  | @step a b k _ hk e1 e2 ih =>
    have hlen : (E ++ [((u : Int), (v : Int), ())]).length = E.length + 1 := by simp
    rw [hlen] at hk
    rcases Nat.lt_or_ge k (2 * E.length) with c | c
    · rw [tl_old c] at e1
      unfold hd at e2
      rw [tl_old (oth_lt c)] at e2
      exact .step ih c e1 e2
    · by_cases e : k = 2 * E.length
      · subst e
        unfold hd at e2
        rw [tl_new0] at e1
        rw [oth2, tl_new1] at e2
        have h1 : a = u := by have : (u : Int) = a := e1; omega
        have h2 : b = v := by have : (v : Int) = b := e2; omega
        subst h1; subst h2
        exact ih.trans hj
      · have : k = 2 * E.length + 1 := by omega
        subst this
        unfold hd at e2
        rw [tl_new1] at e1
        rw [oth21, tl_new0] at e2
        have h1 : a = v := by have : (v : Int) = a := e1; omega
        have h2 : b = u := by have : (u : Int) = b := e2; omega
        subst h1; subst h2
        exact ih.trans hj.symm
theorem comps_congr {N : Nat} {E E' : List Arc} (h : ∀ x y, Reach E x y ↔ Reach E' x y) : comps N E = comps N E' := by
  unfold comps
  refine List.countP_congr fun v _ => ?_
  rw [minB_iff, minB_iff]
  unfold MinV
  exact forall_congr' fun u => forall_congr' fun _ => not_congr (h u v)
theorem emp_set {A : List (List Int)} {i : Nat} {l : List Int} (hi : i < A.length) (h : (subL A i).isEmpty = l.isEmpty) : emp (A.set i l) = emp A := by
  unfold emp
  rw [List.countP_set hi, ← h, subL_eq hi]
  have : (if A[i].isEmpty then 1 else 0) ≤ List.countP (fun l => l.isEmpty) A := by
    split
    · rename_i hc
      exact List.countP_pos_iff.2 ⟨_, List.getElem_mem hi, hc⟩
    · omega
  omega
end Go.Vm

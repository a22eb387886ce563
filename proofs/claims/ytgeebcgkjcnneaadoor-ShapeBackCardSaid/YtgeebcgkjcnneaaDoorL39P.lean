/-
  Mirrored shapes, from the program and from the reference.
-/
import Derived.Test.YtgeebcgkjcnneaaDoorL39N
set_option linter.unusedVariables false
set_option linter.unusedSimpArgs false
namespace Go.Vm
open Go.Proofs
set_option maxRecDepth 100000
attribute [local irreducible] loopFix

theorem flat_perm : ∀ A : List (List Int), ((A.map List.reverse).flatten).Perm A.flatten
  | [] => List.Perm.refl _
  | l :: A => by
    simp only [List.map_cons, List.flatten_cons]
    exact List.Perm.append (List.reverse_perm l) (flat_perm A)

section
variable {E : List Arc} {A : List (List Int)} {N : Nat}

theorem RotOK.mirror (h : RotOK (N : Nat) E A) : RotOK (N : Nat) E (A.map List.reverse) where
  n0 := h.n0
  n1 := h.n1
  m1 := h.m1
  len := by simpa using h.len
  edge := h.edge
  dart := by
    intro v l hl d hd
    rw [List.getElem?_map] at hl
    cases e : A[v]? with
    | none => rw [e] at hl; cases hl
    | some l0 =>
      rw [e] at hl
      have : l0.reverse = l := by simpa using hl
      subst this
      exact h.dart v l0 e d (List.mem_reverse.1 hd)
  nodup := (flat_perm A).nodup_iff.2 h.nodup
  all := by rw [(flat_perm A).length_eq]; exact h.all

theorem prev_list (h : RotOK (N : Nat) E A) : ∃ p, Fol id E (A.map List.reverse) p := by
  have hM := h.mirror
  obtain ⟨o, e1, e2, e3, _⟩ := folAll_spec id (fun a b e => e) (A.map List.reverse) 0 (List.replicate (2 * E.length) 0) hM.nodup (fun d hd => by obtain ⟨k, hk, _⟩ := hM.mem_flat hd; exact ⟨k, hk⟩) (fun d hd => by
    obtain ⟨k, rfl, hk⟩ := hM.mem_flat hd
    simpa using hk)
  exact ⟨o, by simpa using e2, e3⟩

/-- What comes before, around a vertex. -/
theorem prev_get {p : List Int} (hp : Fol id E (A.map List.reverse) p) {l : List Int} (hl : l ∈ A) {i : Nat} (hi : i < l.length) : p[l[i].toNat]? = some (l.getD ((i + l.length - 1) % l.length) 0) := by
  have hi' : l.length - 1 - i < l.reverse.length := by simp; omega
  have := hp.get l.reverse (List.mem_map_of_mem hl) (l.length - 1 - i) hi'
  simp only [id] at this
  have e1 : l.reverse[l.length - 1 - i] = l[i] := by
    rw [List.getElem_reverse]
    congr 1; omega
  rw [e1] at this
  rw [this, List.length_reverse]
  congr 1
  have hlt : (l.length - 1 - i + 1) % l.length < l.length := Nat.mod_lt _ (by omega)
  rw [List.getD_eq_getElem?_getD, List.getD_eq_getElem?_getD, List.getElem?_reverse hlt]
  congr 2
  by_cases e : i = 0
  · subst e
    have h1 : l.length - 1 - 0 + 1 = l.length := by omega
    rw [h1, Nat.mod_self, Nat.zero_add]
    have : (l.length - 1) % l.length = l.length - 1 := Nat.mod_eq_of_lt (by omega)
    rw [this]; omega
  · have h1 : (l.length - 1 - i + 1) % l.length = l.length - 1 - i + 1 := Nat.mod_eq_of_lt (by omega)
    have h2 : (i + l.length - 1) % l.length = i - 1 := by
      rw [show i + l.length - 1 = i - 1 + l.length by omega, Nat.add_mod_right]; exact Nat.mod_eq_of_lt (by omega)
    rw [h1, h2]; omega

/-- The angle that a dart has in the mirrored shape. -/
def angM (g p : List Int) (k : Nat) : Int := g.getD (p.getD k 0).toNat 0

theorem mirL_of (h : RotOK (N : Nat) E A) {g p : List Int} (hg : g.length = 2 * E.length) (hp : Fol id E (A.map List.reverse) p) : ∀ l ∈ A, MirL g (angM g p) (2 * E.length) l := by
  intro l hl
  have hm1 := h.m1
  have hll := h.list_len hl
  refine ⟨by omega, fun i hi => ?_⟩
  have hpi : (i + l.length - 1) % l.length < l.length := Nat.mod_lt _ (by omega)
  obtain ⟨k, hk, hk2⟩ := h.mem_of hl (List.getElem_mem hi)
  obtain ⟨q, hq, hq2⟩ := h.mem_of hl (List.getElem_mem hpi)
  refine ⟨k, q, by rw [List.getElem?_eq_getElem hi, hk], by rw [List.getElem?_eq_getElem hpi, hq], hk2, ?_⟩
  have := prev_get hp hl hi
  rw [hk, Int.toNat_natCast, List.getD_eq_getElem?_getD, List.getElem?_eq_getElem hpi, hq] at this
  unfold angM
  rw [List.getD_eq_getElem?_getD (l := p), this]
  simp only [Option.getD_some, Int.toNat_natCast]
  rw [List.getD_eq_getElem?_getD, List.getElem?_eq_getElem (by omega)]
  rfl

theorem list_uniq {T : Nat → Int} {L : Nat} {a b : List Int} (ha : a.length = L) (hb : b.length = L) (h1 : ∀ k, k < L → a[k]? = some (T k)) (h2 : ∀ k, k < L → b[k]? = some (T k)) : a = b := by
  refine List.ext_getElem? fun i => ?_
  by_cases hi : i < L
  · rw [h1 i hi, h2 i hi]
  · rw [List.getElem?_eq_none (by omega), List.getElem?_eq_none (by omega)]

/-- The mirrored shape, from the program and from the reference. -/
theorem mirror_both {g : List Int} {B : List ByteArray} {o : Int} {nx : List Int} (h : ShapeOK N E A g B o nx) (hA : ∀ l ∈ A, l.length ≤ 9223372036854775807)
    (v1 : shape_valid ((((N : Int), E, A, ()), g, B, o, ()), ()) = some (true, ())) (v2 : layoutref39_Valid ((((N : Int), E, A, ()), g, B, o, ()), ()) = some (cond true 0 13, ())) :
    ∃ p g', Fol id E (A.map List.reverse) p ∧ g'.length = 2 * E.length ∧ (∀ k, k < 2 * E.length → g'[k]? = some (angM g p k)) ∧
      shape_Mirror ((((N : Int), E, A, ()), g, B, o, ()), ()) = some ((((N : Int), E, A.map List.reverse, ()), g', B.map exch, cond (gtI ((2 * E.length : Nat) : Int) 0) (xorI .i64 o 1) 0, ()), ()) ∧
      layoutref39_Mirror ((((N : Int), E, A, ()), g, B, o, ()), ()) = some ((((N : Int), E, A.map List.reverse, ()), g', B.map exch, cond (gtI ((2 * E.length : Nat) : Int) 0) (xorI .i64 o 1) 0, ()), ()) := by
  obtain ⟨p, hp⟩ := prev_list h.rot
  have hm1 := h.rot.m1
  have hn1 := h.rot.n1
  have hlen := h.rot.len
  have hgl := h.turn.glen
  have hBl := h.turn.blen
  have hs : ∀ s ∈ B, s.size ≤ 64 := by
    intro s hs
    obtain ⟨k, hk, e⟩ := List.mem_iff_getElem.1 hs
    have := (h.turn.bound (d := k) (by omega)).2.2
    rwa [show at0 B k = s by unfold at0; rw [List.getD_eq_getElem?_getD, List.getElem?_eq_getElem hk, e]; rfl] at this
  have hm := mirL_of h.rot hgl hp
  have hmem : ∀ k : Nat, k < 2 * E.length → (k : Int) ∈ A.flatten := fun k hk => h.rot.mem hk
  have hN : (N : Int) = ((A.length : Nat) : Int) := by omega
  have he : mulI .i64 2 ((E.length : Nat) : Int) = ((2 * E.length : Nat) : Int) := by rw [mulI64 (by omega) (by omega)]; omega
  obtain ⟨g1, a1, a2, _, a4⟩ := mir_outer (N : Int) E A B o 0 0 (N : Int) 0 E (A.map List.reverse) (by omega) hm A [] (List.replicate (2 * E.length) 0) rfl (by simp)
  obtain ⟨g2, b1, b2, _, b4⟩ := rmir_outer E A B o 0 0 ((A.length : Nat) : Int) 0 ((2 * E.length : Nat) : Int) E (A.map List.reverse) (by omega) hm A [] (List.replicate (2 * E.length) 0) rfl (by simp)
  have a2' : g1.length = 2 * E.length := by simpa using a2
  have b2' : g2.length = 2 * E.length := by simpa using b2
  have e12 : g2 = g1 := list_uniq b2' a2' (fun k hk => b4 k (hmem k hk)) (fun k hk => a4 k (hmem k hk))
  subst e12
  refine ⟨p, g2, hp, b2', fun k hk => b4 k (hmem k hk), ?_, ?_⟩
  · unfold shape_Mirror
    simp only
    rw [v1, Option.bind_some]
    simp only [Bool.not_true, cond_false]
    rw [rot_mirror h.rot h.valid hA, Option.bind_some, hgl, makeL_of (Nat.le_refl _) (by omega), Option.bind_some]
    simp only
    rw [show shape_Mirror_L5 ((N : Int), E, A, g, B, o, 0, 0, (N : Int), 0, E, A.map List.reverse, List.replicate (2 * E.length) (zeroVal I), A, ((A.length : Nat) : Int), 0, ()) = _ from a1, Option.bind_some]
    simp only [Sum.elim_inl]
    rw [mirB_loop _ _ _ _ _ _ _ _ _ _ _ _ _ (by omega) hs, Option.bind_some]
    simp only [Sum.elim_inl]
    rw [hgl]
    cases gtI ((2 * E.length : Nat) : Int) 0 <;> rfl
  · unfold layoutref39_Mirror
    simp only
    rw [v2, Option.bind_some, show neI (cond true 0 13) 0 = false from rfl, cond_false, rrot_mirror h.rot h.valid hA, Option.bind_some, he, makeL_of (Nat.le_refl _) (by omega), Option.bind_some]
    simp only
    rw [hN, show layoutref39_Mirror_L6 (((A.length : Nat) : Int), E, A, g, B, o, 0, 0, ((A.length : Nat) : Int), 0, E, A.map List.reverse, List.replicate (2 * E.length) (zeroVal I), ((2 * E.length : Nat) : Int), 0, ()) = _ from b1, Option.bind_some]
    simp only [Sum.elim_inl]
    rw [← hBl, rmirB_loop _ _ _ _ _ _ _ _ _ _ _ _ _ (by omega) hs, Option.bind_some]
    simp only [Sum.elim_inl]
    cases gtI ((B.length : Nat) : Int) 0 <;> rfl
end

/-! ### A shape is the same as itself -/

theorem cyc_loop (l : List Int) (hl : l.length ≤ 1000000) : ∀ (r j : Nat), j + r = l.length → layoutref29_cyclic_L8 (l, l, 0, true, (j : Int), ()) = some (.inl (l, l, 0, true, ())) := by
  intro r
  induction r with
  | zero =>
    intro j hj
    refine loop_done ?_
    simp only [layoutref29_cyclic_B8]
    rw [ltI_f (by omega)]; rfl
  | succ r ih =>
    intro j hj
    refine (loop_step ?_).trans (ih (j + 1) (by omega))
    obtain ⟨y, hy⟩ : ∃ y, l[j]? = some y := ⟨_, List.getElem?_eq_getElem (by omega)⟩
    simp only [layoutref29_cyclic_B8]
    rw [ltI_t (by omega), cond_true, cond_true, eqI_f (by omega), cond_false, addI64 (by omega) (by omega), show (0 : Int) + (j : Int) = ((j : Nat) : Int) by omega, remN, Nat.mod_eq_of_lt (by omega), getI_of, hy, Option.bind_some, Option.bind_some, eqI_t rfl, add1 (by omega)]

theorem cyclic_refl (l : List Int) (hl : l.length ≤ 1000000) : layoutref29_cyclic (l, l, ()) = some (true, ()) := by
  unfold layoutref29_cyclic
  simp only
  rw [neI_f rfl, cond_false]
  by_cases h : l.length = 0
  · have : layoutref29_cyclic_L4 (l, l, 0, ()) = some (.inr (.inl (l, ()))) := by
      refine loop_done ?_
      simp only [layoutref29_cyclic_B4]
      rw [ltI_f (by omega)]; rfl
    rw [this, Option.bind_some]
    simp only [Sum.elim_inr, Sum.elim_inl]
    rw [eqI_t (by omega)]
  · have : layoutref29_cyclic_L4 (l, l, 0, ()) = some (.inl (true, ())) := by
      refine loop_done ?_
      simp only [layoutref29_cyclic_B4]
      rw [ltI_t (by omega), cond_true, show layoutref29_cyclic_L8 (l, l, 0, true, 0, ()) = _ from cyc_loop l hl l.length 0 (by omega), Option.bind_some]
      rfl
    rw [this]; rfl

theorem same29_refl (N : Int) (E : List Arc) (A : List (List Int)) (hE : E.length ≤ 1000000) (hA : A.length ≤ 1000000) (hl : ∀ l ∈ A, l.length ≤ 1000000) : layoutref29_Same ((N, E, A, ()), (N, E, A, ()), ()) = some (true, ()) := by
  unfold layoutref29_Same
  simp only
  rw [neI_f rfl, cond_false, neI_f rfl, cond_false, neI_f rfl, cond_false]
  have k1 := scan (B := layoutref29_Same_B4) (fun (_ : Unit) i => (N, E, A, N, E, A, (i : Int), ())) (fun _ => .inr (.inl (N, E, A, N, E, A, ()))) (fun (_ : Unit) => .inl (false, ())) (fun (_ : Nat) (_ : Unit) (_ : Arc) => some (Sum.inl ())) E (by
      intro u i a hd'
      have hi : i < E.length := (List.getElem?_eq_some_iff.1 hd').1
      simp only [layoutref29_Same_B4]
      rw [ltI_t (by omega), cond_true, getI_of, hd', Option.bind_some, Option.bind_some, eqI_t rfl, eqI_t rfl, add1 (by omega)]
      rfl) (by
      intro u
      simp only [layoutref29_Same_B4]
      rw [ltI_f (by omega)]; rfl) ()
  obtain ⟨t, ht⟩ := foldE_inl (g := fun (_ : Nat) (_ : Unit) (_ : Arc) => (some (Sum.inl ()) : Option (Unit ⊕ Unit))) (fun _ _ _ => ()) (l := E) (i := 0) (s := ()) (fun _ _ _ _ => rfl)
  rw [ht] at k1
  have k2 := scan (B := layoutref29_Same_B9) (fun (_ : Unit) i => (N, E, A, N, E, A, (i : Int), ())) (fun _ => .inr (.inl ())) (fun (_ : Unit) => .inl (false, ())) (fun (_ : Nat) (_ : Unit) (_ : List Int) => some (Sum.inl ())) A (by
      intro u i a hd'
      have hi : i < A.length := (List.getElem?_eq_some_iff.1 hd').1
      simp only [layoutref29_Same_B9]
      rw [ltI_t (by omega), cond_true, getI_of, hd', Option.bind_some, Option.bind_some, cyclic_refl a (hl a (List.mem_of_getElem? hd')), Option.bind_some, add1 (by omega)]
      rfl) (by
      intro u
      simp only [layoutref29_Same_B9]
      rw [ltI_f (by omega)]; rfl) ()
  obtain ⟨t, ht⟩ := foldE_inl (g := fun (_ : Nat) (_ : Unit) (_ : List Int) => (some (Sum.inl ()) : Option (Unit ⊕ Unit))) (fun _ _ _ => ()) (l := A) (i := 0) (s := ()) (fun _ _ _ _ => rfl)
  rw [ht] at k2
  rw [show layoutref29_Same_L4 (N, E, A, N, E, A, 0, ()) = _ from k1]
  simp only [Option.bind_some, Sum.elim_inr, Sum.elim_inl]
  rw [show layoutref29_Same_L9 (N, E, A, N, E, A, 0, ()) = _ from k2]
  rfl

theorem same_refl (N : Int) (E : List Arc) (A : List (List Int)) (g : List Int) (B : List ByteArray) (o : Int) (hE : E.length ≤ 1000000) (hA : A.length ≤ 1000000) (hl : ∀ l ∈ A, l.length ≤ 1000000) (hg : g.length ≤ 1000000) (hB : B.length ≤ 1000000) :
    layoutref39_Same (((N, E, A, ()), g, B, o, ()), ((N, E, A, ()), g, B, o, ()), ()) = some (true, ()) := by
  unfold layoutref39_Same
  simp only
  rw [same29_refl N E A hE hA hl, Option.bind_some]
  simp only [Bool.not_true, cond_false]
  rw [neI_f rfl, cond_false, neI_f rfl, cond_false, neI_f rfl, cond_false]
  have k1 := scan (B := layoutref39_Same_B4) (fun (_ : Unit) i => (N, E, A, g, B, o, N, E, A, g, B, o, (i : Int), ())) (fun _ => .inr (.inl (N, E, A, g, B, o, N, E, A, g, B, o, ()))) (fun (_ : Unit) => .inl (false, ())) (fun (_ : Nat) (_ : Unit) (_ : Int) => some (Sum.inl ())) g (by
      intro u i a hd'
      have hi : i < g.length := (List.getElem?_eq_some_iff.1 hd').1
      simp only [layoutref39_Same_B4]
      rw [ltI_t (by omega), cond_true, getI_of, hd', Option.bind_some, Option.bind_some, neI_f rfl, add1 (by omega)]
      rfl) (by
      intro u
      simp only [layoutref39_Same_B4]
      rw [ltI_f (by omega)]; rfl) ()
  obtain ⟨t, ht⟩ := foldE_inl (g := fun (_ : Nat) (_ : Unit) (_ : Int) => (some (Sum.inl ()) : Option (Unit ⊕ Unit))) (fun _ _ _ => ()) (l := g) (i := 0) (s := ()) (fun _ _ _ _ => rfl)
  rw [ht] at k1
  have k2 := scan (B := layoutref39_Same_B9) (fun (_ : Unit) i => (N, E, A, g, B, o, N, E, A, g, B, o, (i : Int), ())) (fun _ => .inr (.inl ())) (fun (_ : Unit) => .inl (false, ())) (fun (_ : Nat) (_ : Unit) (_ : ByteArray) => some (Sum.inl ())) B (by
      intro u i a hd'
      have hi : i < B.length := (List.getElem?_eq_some_iff.1 hd').1
      simp only [layoutref39_Same_B9]
      rw [ltI_t (by omega), cond_true, getI_of, hd', Option.bind_some, Option.bind_some, neS_not, eqS_refl, add1 (by omega)]
      rfl) (by
      intro u
      simp only [layoutref39_Same_B9]
      rw [ltI_f (by omega)]; rfl) ()
  obtain ⟨t, ht⟩ := foldE_inl (g := fun (_ : Nat) (_ : Unit) (_ : ByteArray) => (some (Sum.inl ()) : Option (Unit ⊕ Unit))) (fun _ _ _ => ()) (l := B) (i := 0) (s := ()) (fun _ _ _ _ => rfl)
  rw [ht] at k2
  rw [show layoutref39_Same_L4 (N, E, A, g, B, o, N, E, A, g, B, o, 0, ()) = _ from k1]
  simp only [Option.bind_some, Sum.elim_inr, Sum.elim_inl]
  rw [show layoutref39_Same_L9 (N, E, A, g, B, o, N, E, A, g, B, o, 0, ()) = _ from k2]
  rfl

theorem shapeMirrors_plain (x : Shp × Unit) (hx : WfIns layoutlaw39_ShapeMirrors_c.ins x) : layoutlaw39_ShapeMirrors x = some (true, ()) := by
  obtain ⟨⟨⟨N0, E, A, u1⟩, g, B, o, u2⟩, u3⟩ := x
  have hA : ∀ l ∈ A, l.length ≤ 9223372036854775807 := by
    intro l hl
    have h1 : Wf (.slice (.slice (.int .i64))) A := hx.1.1.2.2.1
    exact (h1.2 l hl).1
  obtain ⟨b0, s1, _⟩ := small_some (N0, E, A, ()) g B o
  obtain ⟨b, v1, v2, hS⟩ := shape_valid_both N0 E A g B o hA
  unfold layoutlaw39_ShapeMirrors
  simp only at s1 ⊢
  rw [s1, Option.bind_some, awake39_true]
  cases b0 with
  | false => rfl
  | true =>
    simp only [Bool.not_true, cond_false]
    cases b with
    | false =>
      have m1 : shape_Mirror (((N0, E, A, ()), g, B, o, ()), ()) = some (((0, [], [], ()), [], [], 0, ()), ()) := by
        unfold shape_Mirror
        simp only
        rw [v1]; rfl
      have m2 : layoutref39_Mirror (((N0, E, A, ()), g, B, o, ()), ()) = some (((0, [], [], ()), [], [], 0, ()), ()) := by
        unfold layoutref39_Mirror
        simp only
        rw [v2]; rfl
      rw [m1, m2, Option.bind_some, Option.bind_some]
      simp only
      rw [same_refl 0 [] [] [] [] 0 (by simp) (by simp) (by simp) (by simp) (by simp)]
      rfl
    | true =>
      obtain ⟨N, rfl, nx, h⟩ := hS rfl
      obtain ⟨p, g', _, hgl, _, m1, m2⟩ := mirror_both h hA v1 v2
      have hm1 := h.rot.m1
      have hn1 := h.rot.n1
      have hlen := h.rot.len
      have hBl := h.turn.blen
      rw [m1, m2, Option.bind_some, Option.bind_some]
      simp only
      rw [same_refl _ _ _ _ _ _ (by omega) (by simp; omega) (by
        intro l hl
        have := h.rot.mirror.list_len hl
        omega) (by omega) (by simp; omega)]
      rfl
end Go.Vm

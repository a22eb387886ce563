/-
  The turns of all faces, and the degrees.
-/
import Derived.Test.YtgeebcgkjcnneaaDoorL39V
set_option linter.unusedVariables false
set_option linter.unusedSimpArgs false
namespace Go.Vm
open Go.Proofs
set_option maxRecDepth 100000
attribute [local irreducible] loopFix

theorem ang_len (g : List Int) : ∀ (l : List Int) (i : Nat) (n m : Int), 0 ≤ n → n + 4 * l.length ≤ 1000000 → foldE (angStep g) i n l = some (.inl m) → n + l.length ≤ m
  | [], i, n, m, _, _, h => by
    simp only [foldE] at h
    cases h; simp
  | d :: l, i, n, m, h0, h1, h => by
    simp only [foldE, angStep] at h
    cases hg : getI g d with
    | none => rw [hg] at h; cases h
    | some a =>
      rw [hg, Option.bind_some] at h
      by_cases hc : 1 ≤ a ∧ a ≤ 4
      · rw [ltI_f hc.1, gtI_f hc.2] at h
        simp only [Bool.or_false, cond_false, Option.bind_some, Sum.elim_inl, List.length_cons] at h h1 ⊢
        rw [addI64 (by omega) (by omega)] at h
        have := ang_len g l (i + 1) (n + a) m (by omega) (by omega) h
        omega
      · have : (ltI a 1 || gtI a 4) = true := by
          simp only [ltI, gtI, Bool.or_eq_true, decide_eq_true_eq]; omega
        rw [this] at h
        cases h

theorem ang_mem (g : List Int) : ∀ (A : List (List Int)) (i : Nat), foldE (angList g) i () A = some (.inl ()) → ∀ l ∈ A, ∃ j, angList g j () l = some (.inl ())
  | [], _, _, l, hl => by simp at hl
  | l' :: A, i, h, l, hl => by
    simp only [foldE] at h
    cases e : angList g i () l' with
    | none => rw [e] at h; cases h
    | some x =>
      rw [e] at h
      cases x with
      | inr u => cases h
      | inl u =>
        simp only [Option.bind_some, Sum.elim_inl] at h
        rcases List.mem_cons.1 hl with rfl | hl
        · exact ⟨i, e⟩
        · exact ang_mem g A (i + 1) h l hl

theorem ang_four {N : Int} {E : List Arc} {A : List (List Int)} (h : RotOK N E A) (g : List Int) (ha : angAll g A = some (.inl ())) : ∀ l ∈ A, l.length ≤ 4 := by
  intro l hl
  obtain ⟨j, hj⟩ := ang_mem g A 0 ha l hl
  have hle : l.length ≤ A.flatten.length := by
    obtain ⟨p, q, rfl⟩ := List.append_of_mem hl
    simp; omega
  have hall := h.all
  have hm := h.m1
  unfold angList at hj
  cases e : foldE (angStep g) 0 0 l with
  | none => rw [e] at hj; cases hj
  | some x =>
    rw [e] at hj
    cases x with
    | inr u => cases hj
    | inl n =>
      simp only [Option.bind_some, Sum.elim_inl] at hj
      have := ang_len g l 0 0 n (by omega) (by omega) e
      by_cases h0 : l.length = 0
      · omega
      · rw [gtI_t (by omega)] at hj
        by_cases h4 : n = 4
        · omega
        · rw [neI_t h4] at hj
          cases hj

theorem four_loop (N : Int) (E : List Arc) (A : List (List Int)) (g : List Int) (B : List ByteArray) (o : Int) (hA : A.length < 9223372036854775807) (h4 : ∀ l ∈ A, l.length ≤ 4) :
    layoutlaw39_ShapeFaces_L4 (N, E, A, g, B, o, 0, ()) = some (.inr (.inl (N, E, A, g, B, o, ()))) := by
  have key := scan (B := layoutlaw39_ShapeFaces_B4) (fun (_ : Unit) i => (N, E, A, g, B, o, (i : Int), ())) (fun _ => .inr (.inl (N, E, A, g, B, o, ()))) (fun (_ : Unit) => .inl (false, ()))
    (fun (_ : Nat) (_ : Unit) (_ : List Int) => some (Sum.inl ())) A (by
      intro u i l hd'
      have hi : i < A.length := (List.getElem?_eq_some_iff.1 hd').1
      have := h4 l (List.mem_of_getElem? hd')
      simp only [layoutlaw39_ShapeFaces_B4]
      rw [ltI_t (by omega), cond_true, getI_of, hd', Option.bind_some, gtI_f (by omega), cond_false, add1 (by omega)]
      rfl) (by
      intro u
      simp only [layoutlaw39_ShapeFaces_B4]
      rw [ltI_f (by omega)]; rfl) ()
  rw [show layoutlaw39_ShapeFaces_L4 (N, E, A, g, B, o, 0, ()) = _ from key]
  obtain ⟨t, ht⟩ := foldE_inl (g := fun (_ : Nat) (_ : Unit) (_ : List Int) => (some (Sum.inl ()) : Option (Unit ⊕ Unit))) (fun _ _ _ => ()) (l := A) (i := 0) (s := ()) (fun _ _ _ _ => rfl)
  rw [ht]; rfl

theorem turns_loop (N : Int) (E : List Arc) (A : List (List Int)) (g : List Int) (B : List ByteArray) (o : Int) (T : Int → Int) (hm : E.length ≤ 32768)
    (hT : ∀ d, shape_Turns (((N, E, A, ()), g, B, o, ()), d, ()) = some (T d, ()))
    (h4 : ∀ d : Nat, d < 2 * E.length → T d = 4 ∨ T d = -4) : ∀ (k d : Nat) (c : Nat), d + k = 2 * E.length → c ≤ d →
    ∃ c' : Nat, layoutlaw39_ShapeFaces_L10 (N, E, A, g, B, o, (c : Int), (d : Int), ()) = some (.inr (.inl (N, E, A, g, B, o, (c' : Int), ()))) ∧ c ≤ c' ∧ (∀ j : Nat, d ≤ j → j < 2 * E.length → T j = -4 → c < c') := by
  have he : mulI .i64 2 ((E.length : Nat) : Int) = ((2 * E.length : Nat) : Int) := by rw [mulI64 (by omega) (by omega)]; omega
  intro k
  induction k with
  | zero =>
    intro d c hd' hc
    refine ⟨c, loop_done ?_, by omega, fun j h1 h2 => by omega⟩
    simp only [layoutlaw39_ShapeFaces_B10]
    rw [he, ltI_f (by omega)]; rfl
  | succ k ih =>
    intro d c hd' hc
    rcases h4 d (by omega) with h | h
    · obtain ⟨c', h1, h2, h3⟩ := ih (d + 1) c (by omega) (by omega)
      refine ⟨c', (loop_step ?_).trans h1, h2, fun j j1 j2 j3 => ?_⟩
      · simp only [layoutlaw39_ShapeFaces_B10]
        rw [he, ltI_t (by omega), cond_true, hT, Option.bind_some, add1 (a := d) (by omega)]
        simp only
        rw [h]; rfl
      · have : j ≠ d := by rintro rfl; omega
        exact h3 j (by omega) j2 j3
    · obtain ⟨c', h1, h2, h3⟩ := ih (d + 1) (c + 1) (by omega) (by omega)
      refine ⟨c', (loop_step ?_).trans h1, by omega, fun j j1 j2 j3 => by omega⟩
      simp only [layoutlaw39_ShapeFaces_B10]
      rw [he, ltI_t (by omega), cond_true, hT, Option.bind_some, add1 (a := d) (by omega), add1 (a := c) (by omega)]
      simp only
      rw [h]; rfl

theorem turnsOf_chk (g : List Int) (B : List ByteArray) (o d : Int) : ∀ (fs : List (List Int)), facesChk g B o fs = true → d ∈ fs.flatten → (turnsOf g B d fs = 4 ∨ turnsOf g B d fs = -4) ∧ (d = o → turnsOf g B d fs = -4)
  | [], _, h => by simp at h
  | f :: fs, hc, h => by
    simp only [facesChk, List.all_cons, Bool.and_eq_true] at hc
    simp only [turnsOf]
    by_cases e : d ∈ f
    · rw [show inB f d = true by simp [inB, e], cond_true]
      have h1 := hc.1
      unfold faceChk at h1
      have h1 : tsZ g B f = cond (inB f o) (-4) 4 := by simpa [eqI] using h1
      refine ⟨?_, fun hdo => ?_⟩
      · rw [h1]; cases inB f o <;> simp
      · subst hdo
        rw [h1, show inB f d = true by simp [inB, e]]; rfl
    · rw [show inB f d = false by simp [inB, e], cond_false]
      exact turnsOf_chk g B o d fs hc.2 (by
        rw [List.flatten_cons, List.mem_append] at h
        exact h.resolve_left e)

theorem shapeFaces_plain (x : Shp × Unit) (hx : WfIns layoutlaw39_ShapeFaces_c.ins x) : layoutlaw39_ShapeFaces x = some (true, ()) := by
  obtain ⟨⟨⟨N0, E, A, u1⟩, g, B, o, u2⟩, u3⟩ := x
  have hA : ∀ l ∈ A, l.length ≤ 9223372036854775807 := by
    intro l hl
    have h1 : Wf (.slice (.slice (.int .i64))) A := hx.1.1.2.2.1
    exact (h1.2 l hl).1
  obtain ⟨b0, s1, _⟩ := small_some (N0, E, A, ()) g B o
  obtain ⟨b, v1, _, _, hT, hS⟩ := shape_three N0 E A g B o hA
  unfold layoutlaw39_ShapeFaces
  simp only at s1 ⊢
  rw [s1, Option.bind_some, awake39_true]
  cases b0 with
  | false => rfl
  | true =>
    simp only [Bool.not_true, cond_false]
    rw [v1, Option.bind_some]
    cases b with
    | false => rfl
    | true =>
      obtain ⟨N, rfl, nx, h⟩ := hS rfl
      have hm := h.rot.m1
      have hl := h.rot.len
      have hn1 := h.rot.n1
      rw [show neI (cond true 0 13) 0 = false from rfl, cond_false, four_loop _ E A g B o (by omega) (ang_four h.rot g h.ang), Option.bind_some]
      simp only [Sum.elim_inr, Sum.elim_inl]
      obtain ⟨mm, hi⟩ := h.inv
      have hlen : nx.length = 2 * E.length := h.folOK.len
      have hmem : ∀ d : Nat, d < 2 * E.length → (d : Int) ∈ (facesOf nx).flatten := fun d hd' => hi.cover d (by omega) (by omega)
      have hT' : ∀ d, shape_Turns ((((N : Int), E, A, ()), g, B, o, ()), d, ()) = some (turnsOf g B d (facesOf nx), ()) := by
        intro d
        obtain ⟨t, t1, _, t3⟩ := hT d
        rw [t1, t3 rfl nx h.faces]
      obtain ⟨c', l1, l2, l3⟩ := turns_loop (N : Int) E A g B o (fun d => turnsOf g B d (facesOf nx)) hm hT' (fun d hd' => (turnsOf_chk g B o d (facesOf nx) h.chk (hmem d hd')).1) (2 * E.length) 0 0 (by omega) (by omega)
      rw [show layoutlaw39_ShapeFaces_L10 ((N : Int), E, A, g, B, o, 0, 0, ()) = _ from l1, Option.bind_some]
      simp only [Sum.elim_inr, Sum.elim_inl]
      by_cases hE : E.length = 0
      · rw [eqI_t (by omega)]; rfl
      · rw [eqI_f (by omega), cond_false]
        have ho0 := h.out0
        have ho1 : o < 2 * E.length := by
          rcases h.out1 with h | h <;> omega
        have ho : turnsOf g B o (facesOf nx) = -4 := by
          have := (turnsOf_chk g B o o (facesOf nx) h.chk (by
            have := hmem o.toNat (by omega)
            rwa [show ((o.toNat : Nat) : Int) = o by omega] at this)).2 rfl
          exact this
        have : 0 < c' := l3 o.toNat (by omega) (by omega) (by
          show turnsOf g B ((o.toNat : Nat) : Int) _ = _
          rw [show ((o.toNat : Nat) : Int) = o by omega]; exact ho)
        rw [gtI_t (by omega), cond_true, hT', Option.bind_some]
        simp only
        rw [ho]; rfl
end Go.Vm

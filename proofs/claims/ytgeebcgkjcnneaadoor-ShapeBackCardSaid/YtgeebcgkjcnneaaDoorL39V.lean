/-
  Valid, Bends and Turns are what the reference says.
-/
import Derived.Test.YtgeebcgkjcnneaaDoorL39C
set_option linter.unusedVariables false
set_option linter.unusedSimpArgs false
namespace Go.Vm
open Go.Proofs
set_option maxRecDepth 100000
attribute [local irreducible] loopFix

theorem small_some (r : Rot) (g : List Int) (B : List ByteArray) (o : Int) : ∃ b, layoutlaw39_small (((r.1, r.2.1, r.2.2.1, ()), g, B, o, ()), ()) = some (b, ()) ∧
    (b = true → r.2.1.length ≤ 40 ∧ r.2.2.1.length ≤ 40 ∧ g.length ≤ 100 ∧ B.length ≤ 100 ∧ ∀ s ∈ B, s.size ≤ 70) := by
  unfold layoutlaw39_small
  simp only
  cases gtI r.1 30 with
  | true => exact ⟨false, rfl, fun h => by cases h⟩
  | false =>
    simp only [cond_false]
    by_cases h1 : r.2.1.length ≤ 40
    · rw [gtI_f (by omega), cond_false]
      by_cases h2 : r.2.2.1.length ≤ 40
      · rw [gtI_f (by omega), cond_false]
        by_cases h3 : g.length ≤ 100
        · rw [gtI_f (by omega), cond_false]
          by_cases h4 : B.length ≤ 100
          · rw [gtI_f (by omega), cond_false]
            have key := scan (B := layoutlaw39_small_B4) (fun (_ : Unit) i => (r.1, r.2.1, r.2.2.1, g, B, o, (i : Int), ())) (fun _ => .inr (.inl ())) (fun (_ : Unit) => .inl (false, ()))
              (fun (_ : Nat) (_ : Unit) (s : ByteArray) => some (cond (gtI (s.size : Nat) 70) (Sum.inr ()) (Sum.inl ()))) B (by
                intro u i s hd'
                have hi : i < B.length := (List.getElem?_eq_some_iff.1 hd').1
                simp only [layoutlaw39_small_B4]
                rw [ltI_t (by omega), cond_true, getI_of, hd', Option.bind_some, add1 (by omega)]
                cases gtI ((s.size : Nat) : Int) 70 <;> rfl) (by
                intro u
                simp only [layoutlaw39_small_B4]
                rw [ltI_f (by omega)]; rfl) ()
            have hf : ∀ (l : List ByteArray) (i : Nat), foldE (fun (_ : Nat) (_ : Unit) (s : ByteArray) => some (cond (gtI (s.size : Nat) 70) (Sum.inr ()) (Sum.inl ()))) i () l = some (cond (l.all fun s => decide (s.size ≤ 70)) (.inl ()) (.inr ())) := by
              intro l
              induction l with
              | nil => intro i; rfl
              | cons s l ih =>
                intro i
                simp only [foldE, Option.bind_some, List.all_cons]
                by_cases e : s.size ≤ 70
                · rw [gtI_f (by omega)]; simp only [e, decide_true, Bool.true_and]; exact ih (i + 1)
                · rw [gtI_t (by omega)]; simp [e]
            rw [hf] at key
            rw [show layoutlaw39_small_L4 (r.1, r.2.1, r.2.2.1, g, B, o, 0, ()) = _ from key]
            cases hb : B.all fun s => decide (s.size ≤ 70) with
            | false => exact ⟨false, rfl, fun h => by cases h⟩
            | true =>
              refine ⟨true, rfl, fun _ => ⟨h1, h2, h3, h4, fun s hs => ?_⟩⟩
              rw [List.all_eq_true] at hb
              simpa using hb s hs
          · rw [gtI_t (by omega)]; exact ⟨false, rfl, fun h => by cases h⟩
        · rw [gtI_t (by omega)]; exact ⟨false, rfl, fun h => by cases h⟩
      · rw [gtI_t (by omega)]; exact ⟨false, rfl, fun h => by cases h⟩
    · rw [gtI_t (by omega)]; exact ⟨false, rfl, fun h => by cases h⟩

/-- The sum of the bends. -/
theorem bends_loop (r : Rot) (g : List Int) (B : List ByteArray) (o : Int) (m : Nat) (hB : B.length = 2 * m) (hm : m ≤ 32768) : ∀ (k j : Nat) (n : Int), j + k = m → ∃ v, shape_Bends_L5 (r.1, r.2.1, r.2.2.1, g, B, o, n, ((2 * j : Nat) : Int), ()) = some (.inl (v, ())) ∧
    layoutref39_Bends_L5 (r.1, r.2.1, r.2.2.1, g, B, o, n, ((2 * j : Nat) : Int), ()) = some (.inl (v, ())) := by
  intro k
  induction k with
  | zero =>
    intro j n hj
    refine ⟨n, loop_done ?_, loop_done ?_⟩
    · simp only [shape_Bends_B5]
      rw [ltI_f (by omega)]; rfl
    · simp only [layoutref39_Bends_B5]
      rw [ltI_f (by omega)]; rfl
  | succ k ih =>
    intro j n hj
    have h0 : B[2 * j]? = some (at0 B (2 * j)) := at0_of (by omega)
    have ea : addI .i64 ((2 * j : Nat) : Int) 2 = ((2 * (j + 1) : Nat) : Int) := by rw [addI64 (by omega) (by omega)]; omega
    obtain ⟨v, h1, h2⟩ := ih (j + 1) (addI .i64 n ((at0 B (2 * j)).size : Nat)) (by omega)
    refine ⟨v, ?_, ?_⟩
    · refine (loop_step ?_).trans h1
      simp only [shape_Bends_B5]
      rw [ltI_t (by omega), cond_true, getI_of, h0, Option.bind_some, ea]
    · refine (loop_step ?_).trans h2
      simp only [layoutref39_Bends_B5]
      rw [ltI_t (by omega), cond_true, getI_of, h0, Option.bind_some, ea]

def turnStep (g : List Int) (B : List ByteArray) (d : Int) (_ : Nat) (_ : Unit) (f : List Int) : Option (Unit ⊕ Int) := some (cond (inB f d) (.inr (tsZ g B f)) (.inl ()))
def turnsOf (g : List Int) (B : List ByteArray) (d : Int) : List (List Int) → Int
  | [] => 0
  | f :: fs => cond (inB f d) (tsZ g B f) (turnsOf g B d fs)
theorem turn_fold (g : List Int) (B : List ByteArray) (d : Int) : ∀ (fs : List (List Int)) (i : Nat), (foldE (turnStep g B d) i () fs = some (.inl ()) ∧ turnsOf g B d fs = 0) ∨ foldE (turnStep g B d) i () fs = some (.inr (turnsOf g B d fs))
  | [], _ => .inl ⟨rfl, rfl⟩
  | f :: fs, i => by
    simp only [foldE, turnStep, Option.bind_some, turnsOf]
    cases inB f d with
    | true => exact .inr rfl
    | false =>
      simp only [cond_false, Sum.elim_inl]
      exact turn_fold g B d fs (i + 1)

theorem Turns_prog {g : List Int} {B : List ByteArray} {L : Nat} (h : TurnOK g B L) (r : Rot) (o d : Int) (fs : List (List Int)) (hf : FacesIn L fs) :
    (shape_Turns_L4 (r.1, r.2.1, r.2.2.1, g, B, o, fs, d, (fs.length : Nat), 0, ())).bind (Sum.elim (fun z4 => some (z4.1, ())) (Sum.elim (fun _ => some (0, ())) (fun _ => none))) = some (turnsOf g B d fs, ()) := by
  have key := scan (B := shape_Turns_B4) (fun (_ : Unit) i => (r.1, r.2.1, r.2.2.1, g, B, o, fs, d, ((fs.length : Nat) : Int), (i : Int), ())) (fun _ => .inr (.inl ())) (fun (n : Int) => .inl (n, ())) (turnStep g B d) fs (by
      intro u i f hd'
      have hi : i < fs.length := (List.getElem?_eq_some_iff.1 hd').1
      have hlen := hf.1
      obtain ⟨f1, f2⟩ := hf.2 f (List.mem_of_getElem? hd')
      obtain ⟨t1, _, _⟩ := turns_eq h r o f f2 f1
      simp only [shape_Turns_B4, turnStep]
      rw [ltI_t (by omega), cond_true, idxI_of (by omega), Option.bind_some, hd', Option.bind_some, contains_eq f d (by omega), Option.bind_some, t1, add1 (by omega)]
      cases inB f d <;> rfl) (by
      intro u
      simp only [shape_Turns_B4]
      rw [ltI_f (by omega)]; rfl) ()
  rw [show shape_Turns_L4 (r.1, r.2.1, r.2.2.1, g, B, o, fs, d, (fs.length : Nat), 0, ()) = _ from key]
  rcases turn_fold g B d fs 0 with ⟨h1, h2⟩ | h1
  · rw [h1, h2]; rfl
  · rw [h1]; rfl

theorem Turns_ref {g : List Int} {B : List ByteArray} {L : Nat} (h : TurnOK g B L) (r : Rot) (o d : Int) (fs : List (List Int)) (hf : FacesIn L fs) :
    (layoutref39_Turns_L5 (r.1, r.2.1, r.2.2.1, g, B, o, fs, d, 0, ())).bind (Sum.elim (fun z4 => some (z4.1, ())) (Sum.elim (fun _ => some (0, ())) (fun _ => none))) = some (turnsOf g B d fs, ()) := by
  have key := scan (B := layoutref39_Turns_B5) (fun (_ : Unit) i => (r.1, r.2.1, r.2.2.1, g, B, o, fs, d, (i : Int), ())) (fun _ => .inr (.inl ())) (fun (n : Int) => .inl (n, ())) (turnStep g B d) fs (by
      intro u i f hd'
      have hi : i < fs.length := (List.getElem?_eq_some_iff.1 hd').1
      have hlen := hf.1
      obtain ⟨f1, f2⟩ := hf.2 f (List.mem_of_getElem? hd')
      have t1 := rturns_eq h r o f f2 f1
      simp only [layoutref39_Turns_B5, turnStep]
      rw [ltI_t (by omega), cond_true, idxI_of (by omega), Option.bind_some, hd', Option.bind_some, has_eq f d (by omega), Option.bind_some, add1 (by omega)]
      simp only [Option.bind_some, hd', t1]
      cases inB f d <;> rfl) (by
      intro u
      simp only [layoutref39_Turns_B5]
      rw [ltI_f (by omega)]; rfl) ()
  rw [show layoutref39_Turns_L5 (r.1, r.2.1, r.2.2.1, g, B, o, fs, d, 0, ()) = _ from key]
  rcases turn_fold g B d fs 0 with ⟨h1, h2⟩ | h1
  · rw [h1, h2]; rfl
  · rw [h1]; rfl

theorem facesIn_shape {N : Nat} {E : List Arc} {A : List (List Int)} {g : List Int} {B : List ByteArray} {o : Int} {nx : List Int} (h : ShapeOK N E A g B o nx) : FacesIn (2 * E.length) (facesOf nx) := by
  obtain ⟨m, hi⟩ := h.inv
  have hm1 := h.rot.m1
  rw [← h.folOK.len]
  exact facesIn_of (by rw [h.folOK.len]; omega) hi

/-- The values of Valid, Bends, Turns, in the program and in the reference. -/
theorem shape_three (N0 : Int) (E : List Arc) (A : List (List Int)) (g : List Int) (B : List ByteArray) (o : Int) (hA : ∀ l ∈ A, l.length ≤ 9223372036854775807) :
    ∃ b, shape_Valid (((N0, E, A, ()), g, B, o, ()), ()) = some (cond b 0 13, ()) ∧ layoutref39_Valid (((N0, E, A, ()), g, B, o, ()), ()) = some (cond b 0 13, ()) ∧
      (∃ v, shape_Bends (((N0, E, A, ()), g, B, o, ()), ()) = some (v, ()) ∧ layoutref39_Bends (((N0, E, A, ()), g, B, o, ()), ()) = some (v, ())) ∧
      (∀ d, ∃ t, shape_Turns (((N0, E, A, ()), g, B, o, ()), d, ()) = some (t, ()) ∧ layoutref39_Turns (((N0, E, A, ()), g, B, o, ()), d, ()) = some (t, ()) ∧ (b = true → ∀ nx, rotation_Faces ((N0, E, A, ()), ()) = some (facesOf nx, ()) → t = turnsOf g B d (facesOf nx))) ∧
      (b = true → ∃ N : Nat, N0 = (N : Int) ∧ ∃ nx, ShapeOK N E A g B o nx) := by
  obtain ⟨b, h1, h2, h3⟩ := shape_valid_both N0 E A g B o hA
  refine ⟨b, ?_, h2, ?_, ?_, h3⟩
  · unfold shape_Valid
    simp only
    rw [h1]
    cases b <;> rfl
  · cases b with
    | false =>
      refine ⟨0, ?_, ?_⟩
      · unfold shape_Bends
        simp only
        rw [h1]; rfl
      · unfold layoutref39_Bends
        simp only
        rw [h2]; rfl
    | true =>
      obtain ⟨N, rfl, nx, hS⟩ := h3 rfl
      have hm1 := hS.rot.m1
      obtain ⟨v, v1, v2⟩ := bends_loop ((N : Int), E, A, ()) g B o E.length hS.turn.blen hm1 E.length 0 0 (by omega)
      simp only at v1 v2
      refine ⟨v, ?_, ?_⟩
      · unfold shape_Bends
        simp only
        rw [h1, Option.bind_some]
        simp only [Bool.not_true, cond_false]
        rw [show shape_Bends_L5 ((N : Int), E, A, g, B, o, 0, 0, ()) = _ from v1]; rfl
      · unfold layoutref39_Bends
        simp only
        rw [h2, Option.bind_some, show neI (cond true 0 13) 0 = false from rfl, cond_false]
        rw [show layoutref39_Bends_L5 ((N : Int), E, A, g, B, o, 0, 0, ()) = _ from v2]; rfl
  · intro d
    cases b with
    | false =>
      refine ⟨0, ?_, ?_, fun h => by cases h⟩
      · unfold shape_Turns
        simp only
        rw [h1]; rfl
      · unfold layoutref39_Turns
        simp only
        rw [h2]; rfl
    | true =>
      obtain ⟨N, rfl, nx, hS⟩ := h3 rfl
      have hfi := facesIn_shape hS
      have t1 := Turns_prog hS.turn ((N : Int), E, A, ()) o d (facesOf nx) hfi
      have t2 := Turns_ref hS.turn ((N : Int), E, A, ()) o d (facesOf nx) hfi
      simp only at t1 t2
      refine ⟨turnsOf g B d (facesOf nx), ?_, ?_, fun _ nx' hnx => ?_⟩
      · unfold shape_Turns
        simp only
        rw [h1, Option.bind_some]
        simp only [Bool.not_true, cond_false]
        rw [hS.faces, Option.bind_some]
        exact t1
      · unfold layoutref39_Turns
        simp only
        rw [h2, Option.bind_some, show neI (cond true 0 13) 0 = false from rfl, cond_false, hS.rfaces, Option.bind_some]
        exact t2
      · rw [hS.faces] at hnx
        have : facesOf nx = facesOf nx' := by simpa using hnx
        rw [this]

theorem shapeValid_plain (x : Shp × (Int × Unit)) (hx : WfIns layoutlaw39_ShapeValid_c.ins x) : layoutlaw39_ShapeValid x = some (true, ()) := by
  obtain ⟨⟨⟨N0, E, A, u1⟩, g, B, o, u2⟩, d, u3⟩ := x
  have hA : ∀ l ∈ A, l.length ≤ 9223372036854775807 := by
    intro l hl
    have h1 : Wf (.slice (.slice (.int .i64))) A := hx.1.1.2.2.1
    exact (h1.2 l hl).1
  obtain ⟨b0, s1, _⟩ := small_some (N0, E, A, ()) g B o
  obtain ⟨b, v1, v2, ⟨w, w1, w2⟩, hT, _⟩ := shape_three N0 E A g B o hA
  obtain ⟨t, t1, t2, _⟩ := hT d
  unfold layoutlaw39_ShapeValid
  simp only at s1 ⊢
  rw [s1, Option.bind_some, awake39_true]
  cases b0 with
  | false => rfl
  | true =>
    simp only [Bool.not_true, cond_false]
    rw [v1, Option.bind_some, v2, Option.bind_some, eqI_t rfl, cond_true, w1, Option.bind_some, w2, Option.bind_some, eqI_t rfl, cond_true, t1, Option.bind_some, t2, Option.bind_some, eqI_t rfl]
    rfl
end Go.Vm

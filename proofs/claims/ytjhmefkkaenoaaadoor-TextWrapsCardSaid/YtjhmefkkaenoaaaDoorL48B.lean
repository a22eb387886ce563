/-
  Wrap, in the program and in the reference.
-/
import Derived.Test.YtjhmefkkaenoaaaDoorL48A
set_option linter.unusedVariables false
set_option linter.unusedSimpArgs false
namespace Go.Vm
open Go.Proofs
set_option maxRecDepth 100000
attribute [local irreducible] loopFix

/-! ### Lines are groups of words -/

def joinL : List (List UInt8) → List UInt8
  | [] => []
  | [w] => w
  | w :: v :: r => w ++ 32 :: joinL (v :: r)
theorem joinL_cons (w : List UInt8) {r : List (List UInt8)} (h : r ≠ []) : joinL (w :: r) = w ++ 32 :: joinL r := by
  cases r with
  | nil => exact absurd rfl h
  | cons v r => rfl
theorem joinL_append : ∀ {a b : List (List UInt8)}, a ≠ [] → b ≠ [] → joinL (a ++ b) = joinL a ++ 32 :: joinL b
  | [], _, h, _ => absurd rfl h
  | [w], b, _, hb => by rw [List.singleton_append, joinL_cons w hb]; rfl
  | w :: v :: r, b, _, hb => by
    rw [List.cons_append, joinL_cons w (by simp), joinL_append (by simp) hb, joinL_cons w (by simp)]
    simp
theorem joinL_snoc {cur : List (List UInt8)} (h : cur ≠ []) (w : List UInt8) : joinL (cur ++ [w]) = joinL cur ++ 32 :: w := joinL_append h (by simp)
def jm (g : List (List UInt8)) : ByteArray := mk (joinL g)
def fits (width : Int) (l : List UInt8) : Bool := leI (widthL l) width
/-- The words that are left, the lines so far, the line that grows. -/
def wrapG (f : List UInt8 → Bool) : List (List UInt8) → List (List (List UInt8)) → List (List UInt8) → List (List (List UInt8))
  | [], out, cur => out ++ [cur]
  | w :: r, out, cur => cond (f (joinL (cur ++ [w]))) (wrapG f r out (cur ++ [w])) (wrapG f r (out ++ [cur]) [w])
def tot (r : List (List UInt8)) : Nat := (r.map fun w => w.length + 1).sum
theorem tot_cons (w : List UInt8) (r : List (List UInt8)) : tot (w :: r) = w.length + 1 + tot r := by simp [tot]
theorem tot_parts : ∀ l, tot (partsL l) = l.length + 1
  | [] => by simp [tot, partsL]
  | c :: r => by
    have ih := tot_parts r
    unfold partsL
    cases hc : (c == 32) with
    | true => rw [cond_true, tot_cons, ih]; simp; omega
    | false =>
      rw [cond_false]
      split
      · rename_i h; exact absurd h (partsL_ne r)
      · rename_i h t ht
        rw [ht, tot_cons] at ih
        rw [tot_cons]; simp; omega

theorem wrapF_eq (width : Int) : ∀ (r : List (List UInt8)) (out : List (List (List UInt8))) (cur : List (List UInt8)), cur ≠ [] → (joinL cur).length + tot r ≤ 1073741824 → out.length + r.length ≤ 1073741824 →
    wrapF width (r.map mk) ((out ++ [cur]).map jm) = some ((wrapG (fits width) r out cur).map jm)
  | [], out, cur, _, _, _ => rfl
  | w :: r, out, cur, hc, h1, h2 => by
    rw [tot_cons] at h1
    simp only [List.length_cons] at h2
    have hl : ((out ++ [cur]).map jm).getLast? = some (jm cur) := by simp
    have hj : joinL (cur ++ [w]) = joinL cur ++ 32 :: w := joinL_snoc hc w
    have hjl : (joinL (cur ++ [w])).length = (joinL cur).length + w.length + 1 := by rw [hj]; simp; omega
    simp only [List.map_cons, wrapF]
    rw [hl, Option.bind_some]
    have hcat : ∀ {β : Type} (f : ByteArray → Option β), ((catS (jm cur) (ByteArray.mk #[32])).bind fun t => (catS t (mk w)).bind f) = f (jm (cur ++ [w])) := by
      intro β f
      have h3 := cat3 (a := joinL cur) (b := w) (by omega)
      unfold jm
      cases h4 : catS (mk (joinL cur)) (ByteArray.mk #[32]) with
      | none => rw [h4] at h3; cases h3
      | some t =>
        rw [h4, Option.bind_some] at h3
        rw [Option.bind_some, h3, Option.bind_some, hj]
    rw [hcat]
    have htw : text_Width (jm (cur ++ [w]), ()) = some (widthL (joinL (cur ++ [w])), ()) := text_width_mk (by omega)
    rw [htw, Option.bind_some]
    show cond (fits width (joinL (cur ++ [w]))) _ _ = _
    unfold wrapG
    cases fits width (joinL (cur ++ [w])) with
    | true =>
      simp only [cond_true]
      have := wrapF_eq width r out (cur ++ [w]) (by simp) (by omega) (by omega)
      rw [← this]
      simp
    | false =>
      simp only [cond_false]
      rw [app_of (by simp; omega), Option.bind_some]
      have := wrapF_eq width r (out ++ [cur]) [w] (by simp) (by simp [joinL]; omega) (by simp; omega)
      rw [← this]
      simp [jm, joinL]

theorem refL14 (width : Int) : ∀ (r : List (List UInt8)) (done : List ByteArray) (out : List (List (List UInt8))) (cur : List (List UInt8)), cur ≠ [] → (joinL cur).length + tot r ≤ 1073741824 → out.length + r.length ≤ 1073741824 → done.length + r.length ≤ 1073741824 →
    ∃ o z, loopFix layoutref48_Wrap_B14 (done ++ r.map mk, out.map jm, width, jm cur, (done.length : Nat), ()) = some (.inl (o, z, ())) ∧ o ++ [z] = (wrapG (fits width) r out cur).map jm ∧ o.length ≤ out.length + r.length
  | [], done, out, cur, _, _, _, _ => by
    refine ⟨out.map jm, jm cur, loop_done ?_, by simp [wrapG], by simp⟩
    unfold layoutref48_Wrap_B14
    simp only
    rw [ltI_f (by simp)]; rfl
  | w :: r, done, out, cur, hc, h1, h2, h3 => by
    rw [tot_cons] at h1
    simp only [List.length_cons] at h2 h3
    have hj : joinL (cur ++ [w]) = joinL cur ++ 32 :: w := joinL_snoc hc w
    have hjl : (joinL (cur ++ [w])).length = (joinL cur).length + w.length + 1 := by rw [hj]; simp; omega
    have e0 : ltI (done.length : Nat) ((done ++ (w :: r).map mk).length : Nat) = true := ltI_t (by simp; omega)
    have e1 : idxI (done ++ (w :: r).map mk).length (done.length : Nat) = some done.length := idxI_of (by simp)
    have e2 : (done ++ (w :: r).map mk)[done.length]? = some (mk w) := by simp
    have e3 := cat3 (a := joinL cur) (b := w) (by omega)
    have el : done ++ (w :: r).map mk = (done ++ [mk w]) ++ r.map mk := by simp
    have eg : gtI (widthL (joinL (cur ++ [w]))) width = !(fits width (joinL (cur ++ [w]))) := by
      unfold fits gtI leI
      by_cases h : widthL (joinL (cur ++ [w])) ≤ width
      · simp [h]
      · simp [h]; omega
    have hB : layoutref48_Wrap_B14 (done ++ (w :: r).map mk, out.map jm, width, jm cur, (done.length : Nat), ()) =
        cond (fits width (joinL (cur ++ [w]))) (some (.inl ((done ++ [mk w]) ++ r.map mk, out.map jm, width, jm (cur ++ [w]), ((done ++ [mk w]).length : Nat), ())))
          (some (.inl ((done ++ [mk w]) ++ r.map mk, (out ++ [cur]).map jm, width, jm [w], ((done ++ [mk w]).length : Nat), ()))) := by
      unfold layoutref48_Wrap_B14
      simp only
      rw [e0, cond_true]
      cases h4 : catS (jm cur) (ByteArray.mk #[32]) with
      | none => unfold jm at h4; rw [h4] at e3; cases e3
      | some t =>
        unfold jm at h4
        rw [h4, Option.bind_some] at e3
        rw [Option.bind_some, e1, Option.bind_some, e2, Option.bind_some, e3, Option.bind_some, ← hj, ref_width_mk (by omega), Option.bind_some, eg, add1 (by omega), app_of (by simp; omega), Option.bind_some, Option.bind_some, e2, Option.bind_some]
        rw [el]
        cases fits width (joinL (cur ++ [w])) with
        | true => simp [jm]
        | false => simp [jm, joinL]
    rw [wrapG]
    cases hf : fits width (joinL (cur ++ [w])) with
    | true =>
      rw [hf] at hB
      simp only [cond_true] at hB ⊢
      obtain ⟨o, z, g1, g2, g3⟩ := refL14 width r (done ++ [mk w]) out (cur ++ [w]) (by simp) (by omega) (by omega) (by simp; omega)
      exact ⟨o, z, by rw [loop_step hB]; exact g1, g2, by simp; omega⟩
    | false =>
      rw [hf] at hB
      simp only [cond_false] at hB ⊢
      obtain ⟨o, z, g1, g2, g3⟩ := refL14 width r (done ++ [mk w]) (out ++ [cur]) [w] (by simp) (by simp [joinL]; omega) (by simp; omega) (by simp; omega)
      exact ⟨o, z, by rw [loop_step hB]; exact g1, g2, by simp at g3 ⊢; omega⟩

/-! ### Wrap -/

def emptyW (w : List UInt8) : Bool := decide (w = [])
def linesG (l : List UInt8) (width : Int) : List (List (List UInt8)) := match partsL l with
  | [] => []
  | h :: t => wrapG (fits width) t [] [h]
def wrapRes (l : List UInt8) (width : Int) : List ByteArray × Int :=
  cond (!plainL l) ([], 1) (cond (ltI width 600) ([], 1) (cond (decide (l = [])) ([], 0) (cond ((partsL l).any emptyW) ([], 4) ((linesG l width).map jm, 0))))

theorem text_wrap (l : List UInt8) (width : Int) (h : l.length ≤ 1000000) : text_Wrap (mk l, width, ()) = some ((wrapRes l width).1, (wrapRes l width).2, ()) := by
  show wrapM (mk l, width, ()) = _
  unfold wrapM wrapRes
  dsimp only
  rw [text_plain _ (by rw [mk_size]; omega), mk_data, Option.bind_some]
  cases plainL l with
  | false => rfl
  | true =>
    simp only [Bool.not_true, cond_false]
    cases ltI width 600 with
    | true => rfl
    | false =>
      simp only [cond_false]
      rw [show (ByteArray.mk #[]) = mk [] from rfl, eqS_mk]
      cases hl : decide (l = []) with
      | true => rfl
      | false =>
        simp only [cond_false]
        have hsp : strings_Split (mk l, ByteArray.mk #[32], ()) = some ((partsL l).map mk, ()) := by
          show cond ((ByteArray.mk #[32]).data.toList == [32] && Nat.blt (mk l).size 4294967281) (some (partsB (mk l), ())) none = _
          have : Nat.blt (mk l).size 4294967281 = true := by rw [mk_size]; exact Nat.ble_eq_true_of_le (by omega)
          rw [this]
          rfl
        have hcnt := partsL_count l
        rw [hsp, Option.bind_some, contains_eq _ _ (by simp; omega), Option.bind_some]
        have ha : ((partsL l).map mk).any (fun y => eqS (mk []) y) = (partsL l).any emptyW := by
          rw [List.any_map]
          congr 1
          funext w
          simp only [Function.comp_apply, eqS_mk, emptyW, eq_comm]
        rw [ha]
        cases (partsL l).any emptyW with
        | true => rfl
        | false =>
          simp only [cond_false]
          have htot := tot_parts l
          unfold linesG
          match hp : partsL l with
          | [] => exact absurd hp (partsL_ne l)
          | hd :: t =>
            rw [hp] at htot hcnt
            rw [tot_cons] at htot
            simp only [List.length_cons] at hcnt
            have v1 : viewB ((hd :: t).map mk).length 0 1 = some (0, 1) := by unfold viewB; rw [if_pos ⟨by omega, by omega, by simp; omega⟩]; rfl
            have v2 : viewB ((hd :: t).map mk).length 1 ((((hd :: t).map mk).length : Nat) : Int) = some (1, t.length) := by
              unfold viewB
              rw [if_pos ⟨by omega, by simp; omega, by omega⟩]
              simp
            have hb : Nat.ble ((hd :: t).map mk).length lim = true := Nat.ble_eq_true_of_le (by rw [lim_val]; simp; omega)
            have hn : Nat.beq (t.length + 1) ((hd :: t).map mk).length = true := by simp
            rw [v1, Option.bind_some, v2, Option.bind_some, hb]
            simp only [hn]
            rw [eqI_t rfl]
            have := wrapF_eq width t [] [hd] (by simp) (by simp [joinL]; omega) (by simp; omega)
            have e2 : ((hd :: t).map mk).take 1 = (([] : List (List (List UInt8))) ++ [[hd]]).map jm := by simp [jm, joinL]
            have e3 : ((hd :: t).map mk).drop 1 = t.map mk := by simp
            simp only [Nat.beq_refl, Bool.and_self, cond_true]
            rw [e2, e3, this]
            rfl

theorem ref_wrap (l : List UInt8) (width : Int) (h : l.length ≤ 1000000) : layoutref48_Wrap (mk l, width, ()) = some ((wrapRes l width).1, (wrapRes l width).2, ()) := by
  unfold layoutref48_Wrap wrapRes
  dsimp only
  rw [ref_plain _ (by rw [mk_size]; omega), mk_data, Option.bind_some]
  cases plainL l with
  | false => rfl
  | true =>
    simp only [Bool.not_true, cond_false]
    cases ltI width 600 with
    | true => rfl
    | false =>
      simp only [cond_false]
      rw [show (ByteArray.mk #[]) = mk [] from rfl, eqS_mk]
      cases hl : decide (l = []) with
      | true => rfl
      | false =>
        simp only [cond_false]
        have hcnt := partsL_count l
        rw [ref_words l (by omega), Option.bind_some]
        have hL7 : layoutref48_Wrap_L7 ((partsL l).map mk, width, 0, ()) = some (cond ((partsL l).any emptyW) (.inl (4, ())) (.inr (.inl ((partsL l).map mk, width, ())))) := by
          have hs := scan (B := layoutref48_Wrap_B7) (fun (_ : Unit) i => ((partsL l).map mk, width, (i : Int), ()))
            (fun _ => .inr (.inl ((partsL l).map mk, width, ()))) (fun (_ : Nat) => .inl (4, ())) (fun i (_ : Unit) a => some (cond (eqS a (mk [])) (.inr i) (.inl ()))) ((partsL l).map mk) (by
              intro _ i a ha
              have hi : i < ((partsL l).map mk).length := (List.getElem?_eq_some_iff.1 ha).1
              have hi2 := hi
              rw [List.length_map] at hi2
              unfold layoutref48_Wrap_B7
              simp only
              rw [ltI_t (by omega), cond_true, idxI_of hi, Option.bind_some, ha, Option.bind_some, Option.bind_some]
              rw [show (ByteArray.mk #[]) = mk [] from rfl]
              cases eqS a (mk []) with
              | true => rfl
              | false => rw [cond_false, add1 (by omega)]; rfl) (by
              intro _
              unfold layoutref48_Wrap_B7
              simp only
              rw [ltI_f (by omega)]; rfl) ()
          unfold layoutref48_Wrap_L7
          rw [show ((0 : Int)) = ((0 : Nat) : Int) from rfl, hs]
          obtain ⟨k, hk⟩ := fold_any (fun y => eqS y (mk [])) ((partsL l).map mk) 0
          rw [hk]
          have ha : ((partsL l).map mk).any (fun y => eqS y (mk [])) = (partsL l).any emptyW := by
            rw [List.any_map]
            congr 1
            funext w
            simp only [Function.comp_apply, eqS_mk, emptyW]
          rw [ha]
          cases (partsL l).any emptyW <;> rfl
        rw [hL7, Option.bind_some]
        cases (partsL l).any emptyW with
        | true => rfl
        | false =>
          simp only [cond_false, Sum.elim_inr, Sum.elim_inl]
          have htot := tot_parts l
          unfold linesG
          match hp : partsL l with
          | [] => exact absurd hp (partsL_ne l)
          | hd :: t =>
            rw [hp] at htot hcnt
            rw [tot_cons] at htot
            simp only [List.length_cons] at hcnt
            obtain ⟨o, z, g1, g2, g3⟩ := refL14 width t [mk hd] [] [hd] (by simp) (by simp [joinL]; omega) (by simp; omega) (by simp; omega)
            have e0 : idxI ((hd :: t).map mk).length 0 = some 0 := by
              have := idxI_of (n := ((hd :: t).map mk).length) (i := 0) (by simp)
              exact this
            have e1 : ((hd :: t).map mk)[0]? = some (mk hd) := by simp
            have e2 : layoutref48_Wrap_L14 ((hd :: t).map mk, [], width, mk hd, 1, ()) = some (.inl (o, z, ())) := g1
            rw [e0, Option.bind_some, e1, Option.bind_some, e2, Option.bind_some]
            simp only [Sum.elim_inl]
            simp only [List.length_nil, Nat.zero_add] at g3
            rw [app_of (by simp; omega), Option.bind_some, g2]

/-! ### TextBreaks -/

theorem linesG_len (f : List UInt8 → Bool) : ∀ (r : List (List UInt8)) (out : List (List (List UInt8))) (cur : List (List UInt8)), (wrapG f r out cur).length ≤ out.length + r.length + 1
  | [], out, cur => by simp [wrapG]
  | w :: r, out, cur => by
    unfold wrapG
    cases f (joinL (cur ++ [w])) with
    | true => have := linesG_len f r out (cur ++ [w]); simp; omega
    | false => have := linesG_len f r (out ++ [cur]) [w]; simp at this ⊢; omega
theorem wrapRes_len (l : List UInt8) (width : Int) : (wrapRes l width).1.length ≤ l.length + 1 := by
  unfold wrapRes
  cases !plainL l <;> cases ltI width 600 <;> cases decide (l = []) <;> cases (partsL l).any emptyW <;> simp
  unfold linesG
  have hcnt := partsL_count l
  split
  · simp
  · rename_i h t hp
    have := linesG_len (fits width) t [] [h]
    rw [hp] at hcnt
    simp at this hcnt; omega

theorem textBreaks_law (s : ByteArray) (width : Int) : layoutlaw48_TextBreaks (s, width, ()) = some (true, ()) := by
  unfold layoutlaw48_TextBreaks
  dsimp only
  rw [awake48_true]
  by_cases h : s.size ≤ 2000
  · obtain ⟨l, rfl⟩ : ∃ l, s = mk l := ⟨_, (mk_of s).symm⟩
    rw [mk_size] at h
    have := wrapRes_len l width
    rw [gtI_f (by rw [mk_size]; omega), cond_false, text_wrap l width (by omega), Option.bind_some, ref_wrap l width (by omega), Option.bind_some, same_refl48 _ (by show (wrapRes l width).1.length ≤ _; omega), Option.bind_some, eqI_t rfl]
    rfl
  · rw [gtI_t (by omega)]; rfl
theorem textBreaks_plain (x : (tupTy (layoutlaw48_TextBreaks_c.ins.map (·.2))).den) (h : WfIns layoutlaw48_TextBreaks_c.ins x) : layoutlaw48_TextBreaks x = some (true, ()) := textBreaks_law x.1 x.2.1
end Go.Vm

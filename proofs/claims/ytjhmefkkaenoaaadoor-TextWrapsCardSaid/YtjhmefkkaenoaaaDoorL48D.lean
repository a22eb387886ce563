/-
  Wrapping with a greater width.
-/
import Derived.Test.YtjhmefkkaenoaaaDoorL48B
set_option linter.unusedVariables false
set_option linter.unusedSimpArgs false
namespace Go.Vm
open Go.Proofs
set_option maxRecDepth 100000
attribute [local irreducible] loopFix

theorem plain_append (a b : List UInt8) : plainL (a ++ b) = (plainL a && plainL b) := by
  unfold plainL
  rw [List.any_append]
  cases a.any badC <;> cases b.any badC <;> rfl
theorem plain_join {cur : List (List UInt8)} {w : List UInt8} (hc : cur ≠ []) (h1 : plainL (joinL cur) = true) (h2 : plainL w = true) : plainL (joinL (cur ++ [w])) = true := by
  rw [joinL_snoc hc, plain_append, h1]
  unfold plainL at h2 ⊢
  rw [List.any_cons]
  simpa [badC, ltI, gtI] using h2
theorem plain_parts : ∀ l, plainL l = true → ∀ w ∈ partsL l, plainL w = true
  | [], _ => by simp [partsL, plainL]
  | c :: r, h => by
    have hr : plainL r = true := by
      unfold plainL at h ⊢
      simp only [List.any_cons, Bool.not_eq_true', Bool.or_eq_false_iff] at h ⊢
      exact h.2
    have hc : badC c = false := by
      unfold plainL at h
      simp only [List.any_cons, Bool.not_eq_true', Bool.or_eq_false_iff] at h
      exact h.1
    have ih := plain_parts r hr
    unfold partsL
    cases (c == 32) with
    | true =>
      rw [cond_true]
      intro w hw
      rcases List.mem_cons.1 hw with rfl | hw
      · rfl
      · exact ih w hw
    | false =>
      rw [cond_false]
      split
      · rename_i hp; exact absurd hp (partsL_ne r)
      · rename_i a t hp
        rw [hp] at ih
        intro w hw
        rcases List.mem_cons.1 hw with rfl | hw
        · have := ih a (by simp)
          unfold plainL at this ⊢
          rw [List.any_cons, hc]
          simpa using this
        · exact ih w (by simp [hw])

theorem narrow {fa fb : List UInt8 → Bool} (H : ∀ x y, plainL x = true → plainL y = true → y.length ≤ x.length → fa x = true → fb y = true) :
    ∀ (r : List (List UInt8)) (oa : List (List (List UInt8))) (ca : List (List UInt8)) (ob : List (List (List UInt8))) (cb : List (List UInt8)), (∀ w ∈ r, plainL w = true) → ca ≠ [] → cb ≠ [] → plainL (joinL ca) = true → plainL (joinL cb) = true →
      (ob.length < oa.length ∨ ob.length = oa.length ∧ (joinL cb).length ≤ (joinL ca).length) → (wrapG fb r ob cb).length ≤ (wrapG fa r oa ca).length
  | [], oa, ca, ob, cb, _, _, _, _, _, h => by simp [wrapG]; omega
  | w :: r, oa, ca, ob, cb, hr, na, nb, pa, pb, h => by
    have hw := hr w (by simp)
    have hr' : ∀ w ∈ r, plainL w = true := fun w hw => hr w (by simp [hw])
    have qa := plain_join na pa hw
    have qb := plain_join nb pb hw
    have la : (joinL (ca ++ [w])).length = (joinL ca).length + w.length + 1 := by rw [joinL_snoc na]; simp; omega
    have lb : (joinL (cb ++ [w])).length = (joinL cb).length + w.length + 1 := by rw [joinL_snoc nb]; simp; omega
    have pw : plainL (joinL [w]) = true := hw
    have lw : (joinL [w]).length = w.length := rfl
    unfold wrapG
    cases ha : fa (joinL (ca ++ [w])) with
    | true =>
      cases hb : fb (joinL (cb ++ [w])) with
      | true => exact narrow H r oa _ ob _ hr' (by simp) (by simp) qa qb (by omega)
      | false =>
        refine narrow H r oa _ (ob ++ [cb]) _ hr' (by simp) (by simp) qa pw ?_
        rw [List.length_append, List.length_singleton]
        rcases h with h | ⟨h1, h2⟩
        · omega
        · rw [H _ _ qa qb (by omega) ha] at hb; cases hb
    | false =>
      cases hb : fb (joinL (cb ++ [w])) with
      | true =>
        refine narrow H r (oa ++ [ca]) _ ob _ hr' (by simp) (by simp) pw qb ?_
        rw [List.length_append, List.length_singleton]
        omega
      | false =>
        refine narrow H r (oa ++ [ca]) _ (ob ++ [cb]) _ hr' (by simp) (by simp) pw pw ?_
        rw [List.length_append, List.length_append, List.length_singleton, List.length_singleton]
        omega

theorem one_line {f : List UInt8 → Bool} {L : Nat} (H : ∀ x, plainL x = true → x.length ≤ L → f x = true) : ∀ (r : List (List UInt8)) (cur : List (List UInt8)), (∀ w ∈ r, plainL w = true) → cur ≠ [] → plainL (joinL cur) = true → (joinL cur).length + tot r ≤ L →
    wrapG f r [] cur = [cur ++ r]
  | [], cur, _, _, _, _ => by simp [wrapG]
  | w :: r, cur, hr, hc, hp, hl => by
    rw [tot_cons] at hl
    have lc : (joinL (cur ++ [w])).length = (joinL cur).length + w.length + 1 := by rw [joinL_snoc hc]; simp; omega
    have q := plain_join hc hp (hr w (by simp))
    unfold wrapG
    rw [H _ q (by omega), cond_true, one_line H r _ (fun w hw => hr w (by simp [hw])) (by simp) q (by omega)]
    simp

theorem join_parts : ∀ l, joinL (partsL l) = l
  | [] => rfl
  | c :: r => by
    have ih := join_parts r
    have hne := partsL_ne r
    unfold partsL
    cases hc : (c == 32) with
    | true =>
      rw [cond_true, joinL_cons _ hne, ih]
      have : c = 32 := by simpa using hc
      rw [this]; rfl
    | false =>
      rw [cond_false]
      split
      · rename_i hp; exact absurd hp hne
      · rename_i a t hp
        rw [hp] at ih
        cases t with
        | nil => rw [← ih]; rfl
        | cons b t =>
          rw [joinL_cons _ (by simp)] at ih ⊢
          rw [← ih]; rfl

theorem fits_plain {width : Int} {x : List UInt8} (h : plainL x = true) : fits width x = decide (600 * (x.length : Int) ≤ width) := by
  unfold fits widthL leI
  rw [h]; rfl

theorem textNarrows_law (s : ByteArray) (p q : Int) (rest : List Int) : layoutlaw48_TextNarrows (s, p :: q :: rest, ()) = some (true, ()) := by
  unfold layoutlaw48_TextNarrows
  dsimp only
  rw [awake48_true]
  by_cases h : s.size ≤ 2000
  · obtain ⟨l, rfl⟩ : ∃ l, s = mk l := ⟨_, (mk_of s).symm⟩
    rw [mk_size] at h
    rw [gtI_f (by rw [mk_size]; omega), cond_false]
    have hab : minI p q ≤ maxI p q := by unfold minI maxI; split <;> split <;> omega
    generalize minI p q = a at hab ⊢
    generalize maxI p q = b at hab ⊢
    by_cases ha : a < 600
    · rw [ltI_t ha]; rfl
    · rw [ltI_f (by omega), cond_false]
      by_cases hb : b > 2000000
      · rw [gtI_t (by omega)]; rfl
      · rw [gtI_f (by omega), cond_false, text_wrap l a (by omega), Option.bind_some, text_wrap l b (by omega), Option.bind_some]
        have h600 : mulI .i64 600 ((mk l).size : Nat) = 600 * (l.length : Int) := by rw [mk_size, mulI64 (by omega) (by omega)]
        rw [h600]
        have hlen := wrapRes_len l a
        have hlen2 := wrapRes_len l b
        unfold wrapRes at hlen hlen2 ⊢
        rw [ltI_f (show (600 : Int) ≤ a by omega), ltI_f (show (600 : Int) ≤ b by omega)] at *
        cases hpl : plainL l with
        | false => rfl
        | true =>
          rw [hpl] at hlen hlen2
          simp only [Bool.not_true, cond_false] at hlen hlen2 ⊢
          have e1 : eqS (mk l) (ByteArray.mk #[]) = decide (l = []) := by rw [show (ByteArray.mk #[]) = mk [] from rfl, eqS_mk]
          cases hl : decide (l = []) with
          | true =>
            rw [hl] at e1
            simp only [cond_true]
            rw [neI_f rfl, cond_false, gtI_f (by simp), cond_false, cond_false, e1, cond_true]; rfl
          | false =>
            rw [hl] at hlen hlen2
            simp only [cond_false] at hlen hlen2 ⊢
            have hlne : l ≠ [] := by simpa using hl
            have hlpos := List.length_pos_iff.2 hlne
            cases hem : (partsL l).any emptyW with
            | true => rfl
            | false =>
              rw [hem] at hlen hlen2
              simp only [cond_false] at hlen hlen2 ⊢
              have htot := tot_parts l
              have hpp := plain_parts l hpl
              have hjp := join_parts l
              have key : (linesG l b).length ≤ (linesG l a).length := by
                unfold linesG
                match hp : partsL l with
                | [] => exact absurd hp (partsL_ne l)
                | hd :: t =>
                  rw [hp] at hpp
                  refine narrow (fun x y hx hy hxy hf => ?_) t [] [hd] [] [hd] (fun w hw => hpp w (by simp [hw])) (by simp) (by simp) (hpp hd (by simp)) (hpp hd (by simp)) (.inr ⟨rfl, Nat.le_refl _⟩)
                  rw [fits_plain hx] at hf
                  rw [fits_plain hy]
                  simp only [decide_eq_true_eq] at hf ⊢
                  omega
              have one : linesG l (600 * (l.length : Int)) = [partsL l] := by
                unfold linesG
                match hp : partsL l with
                | [] => exact absurd hp (partsL_ne l)
                | hd :: t =>
                  rw [hp] at hpp htot
                  rw [tot_cons] at htot
                  have := one_line (f := fits (600 * (l.length : Int))) (L := l.length) (fun x hx hxl => by rw [fits_plain hx]; simp; omega) t [hd] (fun w hw => hpp w (by simp [hw])) (by simp) (hpp hd (by simp)) (by simp only [joinL]; omega)
                  simp only at this ⊢
                  rw [this]
                  rfl
              rw [hl] at e1
              have hr : wrapRes l (600 * (l.length : Int)) = ([mk l], 0) := by
                unfold wrapRes
                rw [hpl, ltI_f (by omega), hl, hem, one]
                simp only [Bool.not_true, cond_false, List.map_cons, List.map_nil]
                unfold jm
                rw [hjp]
              rw [neI_f rfl, cond_false, gtI_f (by simp only [List.length_map]; omega), cond_false, cond_false, e1, cond_false, text_wrap l _ (by omega), Option.bind_some, hr]
              simp only
              rw [eqI_t rfl, cond_true, same_refl48 _ (by simp)]
              rfl
  · rw [gtI_t (by omega)]; rfl

theorem textNarrows_plain (x : (tupTy (layoutlaw48_TextNarrows_c.ins.map (·.2))).den) (h : WfIns layoutlaw48_TextNarrows_c.ins x) : layoutlaw48_TextNarrows x = some (true, ()) := by
  obtain ⟨s, l, u⟩ := x
  have h2 : Wf (.arr 2 I) l := h.2.1
  have hl : l.length = 2 := h2.1
  match l, hl with
  | [p, q], _ => exact textNarrows_law s p q []
end Go.Vm

/-
  Plain, Width, Words, in the program and in the reference.
-/
import Derived.Test.YtjhmefkkaenoaaaDoorD48H
import Derived.Test.YtjhmefkkaenoaaaDoorVmC
import Derived.Test.YtjhmefkkaenoaaaDoorVmC
import Derived.KernelRfl
set_option linter.unusedVariables false
set_option linter.unusedSimpArgs false
namespace Go.Vm
open Go.Proofs
set_option maxRecDepth 100000
theorem awake48_true : layoutlaw48_awake () = some (true, ()) := by kernel_rfl
attribute [local irreducible] loopFix

/-- Bytes as a text. -/
def mk (l : List UInt8) : ByteArray := ⟨l.toArray⟩
theorem mk_size (l : List UInt8) : (mk l).size = l.length := List.size_toArray ..
theorem mk_data (l : List UInt8) : (mk l).data.toList = l := rfl
theorem mk_of (s : ByteArray) : mk s.data.toList = s := by unfold mk; simp
theorem mk_append (a b : List UInt8) : mk a ++ mk b = mk (a ++ b) := by
  have : (mk a ++ mk b).data = (mk (a ++ b)).data := by
    rw [ByteArray.data_append]
    simp [mk]
  exact congrArg ByteArray.mk this
theorem mk_inj {a b : List UInt8} (h : mk a = mk b) : a = b := by
  have := congrArg (fun s => s.data.toList) h
  simpa [mk_data] using this
theorem eqS_mk {a b : List UInt8} : eqS (mk a) (mk b) = decide (a = b) := by
  cases h : eqS (mk a) (mk b) with
  | true => have := mk_inj (eqS_iff.1 h); simp [this]
  | false =>
    symm
    simp only [decide_eq_false_iff_not]
    rintro rfl
    rw [eqS_refl] at h; cases h
theorem catS_mk {a b : List UInt8} (h : a.length + b.length ≤ 68719476736) : catS (mk a) (mk b) = some (mk (a ++ b)) := by
  rw [catS_of (by rw [mk_size, mk_size]; exact h), mk_append]
theorem cat3 {a b : List UInt8} (h : a.length + b.length + 1 ≤ 68719476736) : (catS (mk a) (ByteArray.mk #[32])).bind (fun t => catS t (mk b)) = some (mk (a ++ 32 :: b)) := by
  rw [show (ByteArray.mk #[32]) = mk [32] from rfl, catS_mk (by simp; omega), Option.bind_some, catS_mk (by simp; omega)]
  simp
theorem data_len (s : ByteArray) : s.data.toList.length = s.size := Array.length_toList

/-! ### Plain -/

def badC (b : UInt8) : Bool := ltI (b.toNat : Int) 32 || gtI (b.toNat : Int) 126
def plainL (l : List UInt8) : Bool := !(l.any badC)

theorem plain1 (n : Int) : text_Plain_1 (n, ()) = some (ltI n 32 || gtI n 126, ()) := by
  unfold text_Plain_1
  cases ltI n 32 <;> rfl

theorem fold_any {α : Type} (p : α → Bool) : ∀ (l : List α) (i : Nat), ∃ k : Nat, foldE (fun i (_ : Unit) a => some (cond (p a) (.inr (i : Nat)) (.inl ()))) i () l = some (cond (l.any p) (.inr k) (.inl ()))
  | [], i => ⟨0, rfl⟩
  | a :: l, i => by
    simp only [foldE, Option.bind_some, List.any_cons]
    cases h : p a with
    | true => exact ⟨i, rfl⟩
    | false => exact fold_any p l (i + 1)

theorem text_plain (s : ByteArray) (hs : s.size ≤ 68719476736) : text_Plain (s, ()) = some (plainL s.data.toList, ()) := by
  unfold text_Plain slices_ContainsFunc_byte_of_text_Plain_1 slices_IndexFunc_byte_of_text_Plain_1
  dsimp only
  have hl := bytesOf_length s
  have h := scan (B := slices_IndexFunc_byte_of_text_Plain_1_B2) (fun (_ : Unit) i => (bytesOf s, (), (((bytesOf s).length : Nat) : Int), (i : Int), ()))
    (fun _ => .inr (.inl ())) (fun (k : Nat) => .inl ((k : Int), ())) (fun i (_ : Unit) (a : Int) => some (cond (ltI a 32 || gtI a 126) (.inr i) (.inl ()))) (bytesOf s) (by
      intro _ i a ha
      have hi : i < (bytesOf s).length := (List.getElem?_eq_some_iff.1 ha).1
      unfold slices_IndexFunc_byte_of_text_Plain_1_B2
      simp only
      rw [ltI_t (by omega), cond_true, getI_of, ha, Option.bind_some, plain1, Option.bind_some]
      cases ltI a 32 || gtI a 126 with
      | true => rfl
      | false => rw [cond_false, add1 (by omega)]; rfl) (by
      intro _
      unfold slices_IndexFunc_byte_of_text_Plain_1_B2
      simp only
      rw [ltI_f (by omega)]; rfl) ()
  unfold slices_IndexFunc_byte_of_text_Plain_1_L2
  rw [show ((0 : Int)) = ((0 : Nat) : Int) from rfl, h]
  obtain ⟨k, hk⟩ := fold_any (fun a => ltI a 32 || gtI a 126) (bytesOf s) 0
  rw [hk]
  have he : (bytesOf s).any (fun a => ltI a 32 || gtI a 126) = s.data.toList.any badC := by
    unfold bytesOf
    rw [List.any_map]; rfl
  rw [he]
  unfold plainL
  cases s.data.toList.any badC with
  | true =>
    simp only [cond_true, Option.bind_some, Sum.elim_inr, Sum.elim_inl]
    rw [geI_t (by omega)]
  | false =>
    simp only [cond_false, Option.bind_some, Sum.elim_inr, Sum.elim_inl]
    rw [geI_f (by omega)]

theorem ref_plain (s : ByteArray) (hs : s.size ≤ 68719476736) : layoutref48_Plain (s, ()) = some (plainL s.data.toList, ()) := by
  unfold layoutref48_Plain
  dsimp only
  have hl := data_len s
  have h := scan (B := layoutref48_Plain_B2) (fun (_ : Unit) i => (s, (i : Int), ()))
    (fun _ => .inr (.inl ())) (fun (_ : Nat) => .inl (false, ())) (fun i (_ : Unit) (a : UInt8) => some (cond (badC a) (.inr i) (.inl ()))) s.data.toList (by
      intro _ i a ha
      have hi : i < s.data.toList.length := (List.getElem?_eq_some_iff.1 ha).1
      unfold layoutref48_Plain_B2 badC
      simp only
      rw [ltI_t (by omega), cond_true, getI_of, ha, Option.bind_some, Option.bind_some]
      cases ltI (a.toNat : Int) 32 with
      | true => rfl
      | false =>
        rw [cond_false]
        cases gtI (a.toNat : Int) 126 with
        | true => rfl
        | false => rw [cond_false, add1 (by omega)]; rfl) (by
      intro _
      unfold layoutref48_Plain_B2
      simp only
      rw [ltI_f (by omega)]; rfl) ()
  unfold layoutref48_Plain_L2
  rw [show ((0 : Int)) = ((0 : Nat) : Int) from rfl, h]
  obtain ⟨k, hk⟩ := fold_any badC s.data.toList 0
  rw [hk]
  unfold plainL
  cases s.data.toList.any badC <;> rfl

/-- The width of a text. -/
def widthL (l : List UInt8) : Int := cond (plainL l) (600 * (l.length : Int)) 0
theorem text_width (s : ByteArray) (hs : s.size ≤ 68719476736) : text_Width (s, ()) = some (widthL s.data.toList, ()) := by
  unfold text_Width widthL
  rw [text_plain s hs, data_len]
  simp only [Option.bind_some]
  cases plainL s.data.toList with
  | true => simp only [Bool.not_true, cond_false, cond_true]; rw [mulI64 (by omega) (by omega)]
  | false => rfl
theorem ref_width (s : ByteArray) (hs : s.size ≤ 68719476736) : layoutref48_Width (s, ()) = some (widthL s.data.toList, ()) := by
  unfold layoutref48_Width widthL
  rw [ref_plain s hs, data_len]
  simp only [Option.bind_some]
  cases plainL s.data.toList with
  | true => simp only [Bool.not_true, cond_false, cond_true]; rw [mulI64 (by omega) (by omega)]
  | false => rfl
theorem text_width_mk {l : List UInt8} (h : l.length ≤ 68719476736) : text_Width (mk l, ()) = some (widthL l, ()) := by rw [text_width _ (by rw [mk_size]; exact h), mk_data]
theorem ref_width_mk {l : List UInt8} (h : l.length ≤ 68719476736) : layoutref48_Width (mk l, ()) = some (widthL l, ()) := by rw [ref_width _ (by rw [mk_size]; exact h), mk_data]

/-! ### TextMeasures -/

theorem textMeasures_law (s : ByteArray) : layoutlaw48_TextMeasures (s, ()) = some (true, ()) := by
  unfold layoutlaw48_TextMeasures
  dsimp only
  rw [awake48_true]
  by_cases h : s.size ≤ 5000
  · rw [gtI_f (by omega), cond_false, text_plain s (by omega), ref_plain s (by omega), text_width s (by omega), ref_width s (by omega)]
    simp [eqB, eqI]
  · rw [gtI_t (by omega)]; rfl
theorem textMeasures_plain (x : (tupTy (layoutlaw48_TextMeasures_c.ins.map (·.2))).den) (h : WfIns layoutlaw48_TextMeasures_c.ins x) : layoutlaw48_TextMeasures x = some (true, ()) := textMeasures_law x.1

/-! ### Lists of texts -/

theorem contains_eq (l : List ByteArray) (v : ByteArray) (hl : l.length ≤ 68719476736) : slices_Contains_string (l, v, ()) = some (l.any (fun y => eqS v y), ()) := by
  unfold slices_Contains_string slices_Index_string
  dsimp only
  have h := scan (B := slices_Index_string_B2) (fun (_ : Unit) i => (l, v, ((l.length : Nat) : Int), (i : Int), ()))
    (fun _ => .inr (.inl ())) (fun (k : Nat) => .inl ((k : Int), ())) (fun i (_ : Unit) a => some (cond (eqS v a) (.inr i) (.inl ()))) l (by
      intro _ i a ha
      have hi : i < l.length := (List.getElem?_eq_some_iff.1 ha).1
      unfold slices_Index_string_B2
      simp only
      rw [ltI_t (by omega), cond_true, getI_of, ha, Option.bind_some, Option.bind_some]
      cases eqS v a with
      | true => rfl
      | false => rw [cond_false, add1 (by omega)]; rfl) (by
      intro _
      unfold slices_Index_string_B2
      simp only
      rw [ltI_f (by omega)]; rfl) ()
  unfold slices_Index_string_L2
  rw [show ((0 : Int)) = ((0 : Nat) : Int) from rfl, h]
  obtain ⟨k, hk⟩ := fold_any (fun y => eqS v y) l 0
  rw [hk]
  cases l.any (fun y => eqS v y) with
  | true =>
    simp only [cond_true, Option.bind_some, Sum.elim_inr, Sum.elim_inl]
    rw [geI_t (by omega)]
  | false =>
    simp only [cond_false, Option.bind_some, Sum.elim_inr, Sum.elim_inl]
    rw [geI_f (by omega)]

theorem same_refl48 (l : List ByteArray) (hl : l.length ≤ 68719476736) : layoutref48_Same (l, l, ()) = some (true, ()) := by
  unfold layoutref48_Same
  dsimp only
  rw [neI_f rfl, cond_false]
  have h := scan (B := layoutref48_Same_B4) (fun (_ : Unit) i => (l, l, (i : Int), ()))
    (fun _ => .inr (.inl ())) (fun (_ : Unit) => .inl (false, ())) (fun _ (_ : Unit) _ => some (.inl ())) l (by
      intro _ i a ha
      have hi : i < l.length := (List.getElem?_eq_some_iff.1 ha).1
      unfold layoutref48_Same_B4
      simp only
      rw [ltI_t (by omega), cond_true, getI_of, ha, Option.bind_some, Option.bind_some, Option.bind_some, add1 (by omega)]
      simp [neS]) (by
      intro _
      unfold layoutref48_Same_B4
      simp only
      rw [ltI_f (by omega)]; rfl) ()
  unfold layoutref48_Same_L4
  rw [show ((0 : Int)) = ((0 : Nat) : Int) from rfl, h]
  have hf : ∀ (l : List ByteArray) (i : Nat), foldE (fun _ (_ : Unit) (_ : ByteArray) => some (.inl () : Unit ⊕ Unit)) i () l = some (.inl ()) := by
    intro l
    induction l with
    | nil => intro i; rfl
    | cons a l ih => intro i; simp [foldE, ih]
  rw [hf]
  rfl

/-! ### Words -/

/-- The parts, the first of them begun. -/
def accL (own : List UInt8) (r : List UInt8) : List (List UInt8) := match partsL r with
  | [] => []
  | h :: t => (own ++ h) :: t
theorem accL_space (own r : List UInt8) : accL own (32 :: r) = own :: accL [] r := by
  unfold accL
  have hne := partsL_ne r
  cases h : partsL r with
  | nil => exact absurd h hne
  | cons a t => simp [partsL, h]
theorem accL_other {c : UInt8} (own r : List UInt8) (hc : c ≠ 32) : accL own (c :: r) = accL (own ++ [c]) r := by
  unfold accL
  have hne := partsL_ne r
  have hb : (c == 32) = false := by simpa using hc
  cases h : partsL r with
  | nil => exact absurd h hne
  | cons a t => simp [partsL, h, hb]
theorem accL_nil (r : List UInt8) : accL [] r = partsL r := by
  unfold accL
  have hne := partsL_ne r
  cases h : partsL r with
  | nil => exact absurd h hne
  | cons a t => simp

theorem words_loop : ∀ (r p own : List UInt8) (out : List ByteArray), (p ++ r).length ≤ 1073741824 → own.length ≤ p.length → out.length ≤ p.length →
    ∃ o z, loopFix layoutref48_Words_B3 (out, mk (p ++ r), mk own, (p.length : Nat), ()) = some (.inl (o, z, ())) ∧ o ++ [z] = out ++ (accL own r).map mk ∧ o.length ≤ (p ++ r).length
  | [], p, own, out, h, h1, h2 => by
    refine ⟨out, mk own, ?_, by simp [accL, partsL], by simp; omega⟩
    refine loop_done ?_
    unfold layoutref48_Words_B3
    simp only [mk_size]
    rw [ltI_f (by simp)]; rfl
  | c :: r, p, own, out, h, h1, h2 => by
    simp only [List.length_append, List.length_cons] at h
    have e0 : ltI (p.length : Nat) ((mk (p ++ c :: r)).size : Nat) = true := by rw [mk_size]; exact ltI_t (by simp; omega)
    have e1 : getI (mk (p ++ c :: r)).data.toList (p.length : Nat) = some c := by rw [mk_data, getI_of]; simp
    have el : p ++ c :: r = (p ++ [c]) ++ r := by simp
    by_cases hc : c = 32
    · subst hc
      obtain ⟨o, z, g1, g2, g3⟩ := words_loop r (p ++ [32]) [] (out ++ [mk own]) (by simp; omega) (by simp) (by simp; omega)
      refine ⟨o, z, ?_, ?_, by rw [el]; exact g3⟩
      · rw [← g1]
        refine loop_step ?_
        unfold layoutref48_Words_B3
        simp only
        rw [e0, cond_true, e1, Option.bind_some, eqI_t (by decide), cond_true, app_of (by simp; omega), Option.bind_some, add1 (by omega)]
        rw [el]
        simp
        rfl
      · rw [g2, accL_space]; simp
    · obtain ⟨o, z, g1, g2, g3⟩ := words_loop r (p ++ [c]) (own ++ [c]) out (by simp; omega) (by simp; omega) (by simp; omega)
      refine ⟨o, z, ?_, ?_, by rw [el]; exact g3⟩
      · rw [← g1]
        refine loop_step ?_
        unfold layoutref48_Words_B3
        simp only
        have hne : ((c.toNat : Nat) : Int) ≠ 32 := by
          intro e
          have : c.toNat = 32 := by omega
          exact hc (UInt8.toNat_inj.1 (by rw [this]; rfl))
        have hsl : sliceS (mk (p ++ c :: r)) (p.length : Nat) ((p.length + 1 : Nat) : Int) = some (mk [c]) := by
          unfold sliceS
          rw [if_pos ⟨by omega, by omega, by rw [mk_size]; simp; omega⟩]
          congr 1
          have : ((mk (p ++ c :: r)).extract (p.length : Int).toNat ((p.length + 1 : Nat) : Int).toNat).data.toList = [c] := by
            rw [ByteArray.data_extract]
            simp [mk]
          rw [← mk_of ((mk (p ++ c :: r)).extract _ _), this]
        rw [e0, cond_true, e1, Option.bind_some, eqI_f hne, cond_false, add1 (by omega), hsl, Option.bind_some, catS_mk (by simp; omega), Option.bind_some]
        rw [el]
        simp
      · rw [g2, accL_other _ _ hc]

theorem ref_words (l : List UInt8) (h : l.length ≤ 1073741824) : layoutref48_Words (mk l, ()) = some ((partsL l).map mk, ()) := by
  unfold layoutref48_Words layoutref48_Words_L3
  dsimp only
  obtain ⟨o, z, g1, g2, g3⟩ := words_loop l [] [] [] (by simpa using h) (by simp) (by simp)
  have e : loopFix layoutref48_Words_B3 ([], mk l, ByteArray.mk #[], 0, ()) = some (.inl (o, z, ())) := g1
  rw [e]
  simp only [Option.bind_some, Sum.elim_inl]
  simp only [List.nil_append] at g3
  rw [app_of (by simp; omega), Option.bind_some, g2, accL_nil]
  rfl
end Go.Vm

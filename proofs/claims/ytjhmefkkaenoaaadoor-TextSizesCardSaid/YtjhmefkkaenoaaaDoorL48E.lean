/-
  Sizes of lines.
-/
import Derived.Test.YtjhmefkkaenoaaaDoorL48A
set_option linter.unusedVariables false
set_option linter.unusedSimpArgs false
namespace Go.Vm
open Go.Proofs
set_option maxRecDepth 100000
attribute [local irreducible] loopFix

def maxW (x : Int) (l : List ByteArray) : Int := l.foldl (fun x s => maxI x (widthL s.data.toList)) x

theorem text_size (l : List ByteArray) (hl : l.length ≤ 100) (hs : ∀ s ∈ l, s.size ≤ 1000) : text_Size (l, ()) = some ((maxW 0 l, 1000 * (l.length : Int), ()), ()) := by
  unfold text_Size
  dsimp only
  rw [mulI64 (by omega) (by omega)]
  have h := scan (B := text_Size_B3) (fun (x : Int) i => ((0 : Int), (0 : Int), x, 1000 * (l.length : Int), l, ((l.length : Nat) : Int), (i : Int), ()))
    (fun x => .inl ((0 : Int), (0 : Int), x, 1000 * (l.length : Int), ())) (fun (e : Empty) => e.elim) (fun _ x (a : ByteArray) => some (.inl (maxI x (widthL a.data.toList)))) l (by
      intro x i a ha
      have hi : i < l.length := (List.getElem?_eq_some_iff.1 ha).1
      have hm : a ∈ l := List.mem_of_getElem? ha
      have := hs a hm
      unfold text_Size_B3
      simp only
      rw [ltI_t (by omega), cond_true, getI_of, ha, Option.bind_some, text_width a (by omega), Option.bind_some, Option.bind_some, add1 (by omega)]
      rfl) (by
      intro x
      unfold text_Size_B3
      simp only
      rw [ltI_f (by omega)]; rfl) 0
  unfold text_Size_L3
  rw [show ((0, 0, 0, 1000 * (l.length : Int), l, ((l.length : Nat) : Int), 0, ()) : Int × Int × Int × Int × List ByteArray × Int × Int × Unit) = ((0 : Int), (0 : Int), (0 : Int), 1000 * (l.length : Int), l, ((l.length : Nat) : Int), ((0 : Nat) : Int), ()) from rfl, h]
  have hf : ∀ (l : List ByteArray) (i : Nat) (x : Int), foldE (fun _ x (a : ByteArray) => some (.inl (maxI x (widthL a.data.toList)) : Int ⊕ Empty)) i x l = some (.inl (maxW x l)) := by
    intro l
    induction l with
    | nil => intro i x; rfl
    | cons a l ih => intro i x; simp only [foldE, Option.bind_some, Sum.elim_inl]; rw [ih]; rfl
  rw [hf]
  rfl

theorem ref_size (l : List ByteArray) (hl : l.length ≤ 100) (hs : ∀ s ∈ l, s.size ≤ 1000) : layoutref48_Size (l, ()) = some ((maxW 0 l, 1000 * (l.length : Int), ()), ()) := by
  unfold layoutref48_Size
  dsimp only
  have h := scanI (B := layoutref48_Size_B3) (fun i (s : Int × Int) => s.2 = 1000 * (i : Int)) (fun (s : Int × Int) i => ((0 : Int), (0 : Int), s.1, s.2, l, (i : Int), ()))
    (fun s => .inl ((0 : Int), (0 : Int), s.1, s.2, ())) (fun (e : Empty) => e.elim) (fun _ s (a : ByteArray) => some (.inl (maxI s.1 (widthL a.data.toList), s.2 + 1000))) l (by
      rintro ⟨x, y⟩ i a hy ha
      have hi : i < l.length := (List.getElem?_eq_some_iff.1 ha).1
      have hm : a ∈ l := List.mem_of_getElem? ha
      have := hs a hm
      simp only at hy
      unfold layoutref48_Size_B3
      simp only
      rw [ltI_t (by omega), cond_true, getI_of, ha, Option.bind_some, ref_width a (by omega), Option.bind_some, Option.bind_some, add1 (by omega), addI64 (by omega) (by omega)]
      rfl) (by
      rintro ⟨x, y⟩ i a t hy ha ht
      simp only [Option.some.injEq, Sum.inl.injEq] at ht
      subst ht
      simp only at hy ⊢
      omega) (by
      rintro ⟨x, y⟩ _
      unfold layoutref48_Size_B3
      simp only
      rw [ltI_f (by omega)]; rfl) (0, 0) rfl
  unfold layoutref48_Size_L3
  rw [show ((0, 0, 0, 0, l, 0, ()) : Int × Int × Int × Int × List ByteArray × Int × Unit) = ((0 : Int), (0 : Int), ((0 : Int), (0 : Int)).1, ((0 : Int), (0 : Int)).2, l, ((0 : Nat) : Int), ()) from rfl, h]
  have hf : ∀ (l : List ByteArray) (i : Nat) (x y : Int), foldE (fun _ (s : Int × Int) (a : ByteArray) => some (.inl (maxI s.1 (widthL a.data.toList), s.2 + 1000) : (Int × Int) ⊕ Empty)) i (x, y) l = some (.inl (maxW x l, y + 1000 * (l.length : Int))) := by
    intro l
    induction l with
    | nil => intro i x y; simp [foldE, maxW]
    | cons a l ih =>
      intro i x y
      simp only [foldE, Option.bind_some, Sum.elim_inl]
      rw [ih, List.length_cons]
      congr 3
      omega
  rw [hf]
  simp only [Option.bind_some, Sum.elim_inl, Int.zero_add]

theorem textSizes_law (l : List ByteArray) : layoutlaw48_TextSizes (l, ()) = some (true, ()) := by
  unfold layoutlaw48_TextSizes
  dsimp only
  rw [awake48_true]
  by_cases hl : l.length ≤ 100
  · rw [gtI_f (by omega), cond_false]
    have h := scan (B := layoutlaw48_TextSizes_B4) (fun (_ : Unit) i => (l, (i : Int), ()))
      (fun _ => .inr (.inl (l, ()))) (fun (_ : Nat) => .inl (true, ())) (fun i (_ : Unit) (a : ByteArray) => some (cond (gtI (a.size : Nat) 1000) (.inr i) (.inl ()))) l (by
        intro _ i a ha
        have hi : i < l.length := (List.getElem?_eq_some_iff.1 ha).1
        unfold layoutlaw48_TextSizes_B4
        simp only
        rw [ltI_t (by omega), cond_true, getI_of, ha, Option.bind_some, Option.bind_some, awake48_true]
        cases gtI (a.size : Nat) 1000 with
        | true => rfl
        | false => rw [cond_false, add1 (by omega)]; rfl) (by
        intro _
        unfold layoutlaw48_TextSizes_B4
        simp only
        rw [ltI_f (by omega)]; rfl) ()
    unfold layoutlaw48_TextSizes_L4
    rw [show ((0 : Int)) = ((0 : Nat) : Int) from rfl, h]
    obtain ⟨k, hk⟩ := fold_any (fun a : ByteArray => gtI (a.size : Nat) 1000) l 0
    rw [hk]
    cases hb : l.any (fun a : ByteArray => gtI (a.size : Nat) 1000) with
    | true => rfl
    | false =>
      have hs : ∀ s ∈ l, s.size ≤ 1000 := by
        intro s hs
        rw [List.any_eq_false] at hb
        have := hb s hs
        unfold gtI at this
        simp at this
        omega
      simp only [cond_false, Option.bind_some, Sum.elim_inl, Sum.elim_inr]
      rw [text_size l hl hs, Option.bind_some, ref_size l hl hs, Option.bind_some]
      simp only
      rw [eqI_t rfl, eqI_t rfl]
      rfl
  · rw [gtI_t (by omega)]; rfl
theorem textSizes_plain (x : (tupTy (layoutlaw48_TextSizes_c.ins.map (·.2))).den) (h : WfIns layoutlaw48_TextSizes_c.ins x) : layoutlaw48_TextSizes x = some (true, ()) := textSizes_law x.1
end Go.Vm

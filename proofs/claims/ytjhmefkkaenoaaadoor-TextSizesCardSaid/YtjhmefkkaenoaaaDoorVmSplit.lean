/-
  strings.Split at one space, as a contract of the machine. Condition: the text is shorter than 4294967281 bytes.
-/
import Derived.Test.YtjhmefkkaenoaaaDoorVmExt
import Derived.Shelf.Strings.Split
set_option linter.unusedVariables false
set_option linter.unusedSimpArgs false
namespace Go.Vm
open Go.Proofs Go.Shelf Go.RowKit

/-- The parts between spaces. -/
def partsL : List UInt8 → List (List UInt8)
  | [] => [[]]
  | b :: r => cond (b == 32) ([] :: partsL r) (match partsL r with
    | [] => [[b]]
    | h :: t => (b :: h) :: t)
def partsB (s : ByteArray) : List ByteArray := (partsL s.data.toList).map fun l => ⟨l.toArray⟩

theorem partsL_ne : ∀ l, partsL l ≠ []
  | [] => by simp [partsL]
  | b :: r => by
    unfold partsL
    cases (b == 32)
    · simp only [cond_false]; split <;> simp
    · simp
theorem index_one : ∀ (l : List UInt8) (c : UInt8), Lib.index l [c] = Lib.indexByte l c
  | [], _ => rfl
  | b :: l, c => by
    unfold Lib.index Lib.indexByte
    rw [index_one l c]
    simp only [List.isPrefixOf, Bool.and_true]
    by_cases h : b = c
    · subst h; simp
    · rw [show (c == b) = false by simp; exact fun e => h e.symm, show (b == c) = false by simpa using h]
theorem partsL_pre : ∀ (a : List UInt8), (∀ x ∈ a, x ≠ 32) → (∀ r, partsL (a ++ 32 :: r) = a :: partsL r) ∧ partsL a = [a]
  | [], _ => ⟨fun r => by simp [partsL], rfl⟩
  | b :: a, h => by
    have hb : (b == 32) = false := by simpa using h b (by simp)
    obtain ⟨h1, h2⟩ := partsL_pre a (fun x hx => h x (by simp [hx]))
    refine ⟨fun r => ?_, ?_⟩
    · rw [List.cons_append, partsL, hb, h1]; rfl
    · rw [partsL, hb, h2]; rfl
theorem splitK_parts : ∀ (n : Nat) (l : List UInt8), l.length ≤ n → Lib.splitK [32] 0 (Lib.count l [32]) l = partsL l
  | n, l, hn => by
    have hc := Lib.count_one 32 l
    by_cases h : Lib.index l [32] = -1
    · have h' := h
      rw [index_one] at h'
      have hno : ∀ x ∈ l, x ≠ 32 := by
        intro x hx e
        obtain ⟨k, hk⟩ := List.mem_iff_getElem?.1 hx
        exact Lib.indexByte_none h' k (by rw [hk, e])
      rw [(partsL_pre l hno).2]
      cases Lib.count l [32] with
      | zero => rfl
      | succ k => simp [Lib.splitK, h]
    · have hge := Lib.index_ge l [32]
      obtain ⟨i, hi⟩ : ∃ i : Nat, Lib.index l [32] = i := ⟨(Lib.index l [32]).toNat, by omega⟩
      have hi' := hi
      rw [index_one] at hi'
      obtain ⟨h1, h2⟩ := Lib.indexByte_some hi'
      have hlt : i < l.length := (List.getElem?_eq_some_iff.1 h1).1
      have hl : l = l.take i ++ 32 :: l.drop (i + 1) := by
        conv => lhs; rw [← List.take_append_drop i l, List.drop_eq_getElem_cons hlt, (List.getElem?_eq_some_iff.1 h1).2]
      have hno : ∀ x ∈ l.take i, x ≠ 32 := by
        intro x hx e
        obtain ⟨k, hk⟩ := List.mem_iff_getElem?.1 hx
        have hki : k < i := by have := (List.getElem?_eq_some_iff.1 hk).1; simp at this; omega
        rw [List.getElem?_take, if_pos hki] at hk
        exact h2 k hki (by rw [hk, e])
      have hcnt : Lib.count l [32] = Lib.count (l.drop (i + 1)) [32] + 1 := by
        rw [hc, Lib.count_one]
        conv => lhs; rw [hl]
        rw [List.count_append, List.count_cons_self, List.count_eq_zero.2 (fun hm => hno 32 hm rfl)]
        omega
      have ih := splitK_parts (n - 1) (l.drop (i + 1)) (by simp; omega)
      rw [hcnt]
      unfold Lib.splitK
      rw [hi]
      have e1 : ((i : Int) == -1) = false := by rw [beq_eq_false_iff_ne]; omega
      rw [e1]
      simp only [Bool.false_eq_true, if_false, Int.toNat_natCast, Nat.add_zero, List.length_cons, List.length_nil, Nat.zero_add]
      rw [ih]
      conv => rhs; rw [hl]
      rw [(partsL_pre _ hno).1]
termination_by n => n
decreasing_by
  have : (l.drop (i + 1)).length < l.length := by simp; omega
  omega

theorem splitB_parts (s : ByteArray) : Lib.splitB ⟨#[32]⟩ 0 (Lib.countB s ⟨#[32]⟩) s = partsB s := by
  have h := Lib.splitB_data ⟨#[32]⟩ 0 (Lib.countB s ⟨#[32]⟩) s
  have e : Lib.splitK [32] 0 (Lib.countB s ⟨#[32]⟩) s.data.toList = partsL s.data.toList := splitK_parts _ _ (Nat.le_refl _)
  rw [show (ByteArray.mk #[32]).data.toList = [32] from rfl, e] at h
  unfold partsB
  rw [← h, List.map_map]
  conv => lhs; rw [← List.map_id (Lib.splitB _ _ _ _)]
  refine List.map_congr_left fun b _ => ?_
  simp

theorem split_one {P : Program} {ρ : Shelf.Ren} (L : Lays.n146 P ρ) (hi9 : (P.info? (ρ.t 9)).map (fun i => (i.zero, i.size, i.bytes)) = some (some (.string ByteArray.empty), 1, 16)) (s : ByteArray) (w : World) (hs : s.size < 4294967281) :
    Calls P (ρ.f 146) #[.string s, .string ⟨#[32]⟩] w fun e w' =>
      e = .returned (.slice (some ⟨w.heap.size, 0, none⟩) (partsB s).length (partsB s).length) ∧ w' = w.alloc (.cells ((partsB s).map Value.string).toArray (ρ.t 9)) := by
  have h1 : 1 ≤ (ByteArray.mk #[32]).size := by decide
  have hle := Lib.countB_le ⟨#[32]⟩ h1 s.size s (Nat.le_refl _)
  have hlen := Lib.splitB_all ⟨#[32]⟩ h1 0 _ s rfl
  have c := Any.strings_genSplit_core (P := P) (ρ := ρ) { L with } hi9 s ⟨#[32]⟩ 0 (-1) (Lib.countB s ⟨#[32]⟩ + 1) w hs h1 (Nat.zero_le _)
    (fun x c _ => (Any.strings_Index_one { L with } x 32 _).mono fun e w' ⟨he, hw⟩ => ⟨by
      rw [he]
      show _ = Ending.returned (Value.int .i64 (Lib.index x.data.toList [32]))
      rw [index_one], hw⟩)
    ((Any.strings_Count_one { L with } s 32 w).mono fun e w' ⟨he, hw⟩ => ⟨by
      rw [he]
      show _ = Ending.returned (Value.int .i64 ((Lib.count s.data.toList [32] : Nat) : Int))
      rw [Lib.count_one]
      rfl, hw⟩) (by decide) (by decide) (by rw [if_pos (by decide)]; omega)
  rw [Nat.add_sub_cancel, hlen] at c
  have e2 : Lib.cellsOf (Lib.splitB ⟨#[32]⟩ 0 (Lib.countB s ⟨#[32]⟩) s) (Lib.countB s ⟨#[32]⟩ + 1) = ((partsB s).map Value.string).toArray := by rw [← splitB_parts, ← hlen]; exact Lib.cellsOf_full _
  rw [e2] at c
  rw [splitB_parts] at hlen
  rw [hlen]
  have t3 := L.t3; have t9 := L.t9; have t31 := L.t31
  have a3 := L.a3; have a9 := L.a9; have a31 := L.a31
  have z3 := L.z3; have v3 := L.v3; have z9 := L.z9; have v9 := L.v9; have z31 := L.z31; have v31 := L.v31
  have e221 : ∀ args w, (callFunc (ρ.f 221) args).run P w = .ok (.enter (ρ.f 221) args) w := enters_of L.f221 (by kernel_rfl) rfl
  go_enter L.f146, Body.n146_ntmps ρ
  go_wp2_with (go_at_fn (ρ.f 221); refine c.mono ?_; rintro e w' ⟨rfl, hw⟩; rw [hw])
  go_ret
  exact ⟨rfl, rfl⟩

def splitC : Con := { ins := [(.rd, .str), (.rd, .str)], outs := [(true, .slice .str)], fn := fun x => cond (x.2.1.data.toList == [32] && Nat.blt x.1.size 4294967281) (some (partsB x.1, ())) none }

theorem partsL_len : ∀ l, ∀ p ∈ partsL l, p.length ≤ l.length
  | [] => by simp [partsL]
  | b :: r => by
    intro p hp
    unfold partsL at hp
    have ih := partsL_len r
    cases hb : (b == 32) with
    | true =>
      rw [hb] at hp
      simp only [cond_true, List.mem_cons] at hp
      rcases hp with rfl | hp
      · simp
      · have := ih p hp; simp; omega
    | false =>
      rw [hb] at hp
      simp only [cond_false] at hp
      split at hp
      · rename_i h; exact absurd h (partsL_ne r)
      · rename_i h t ht
        rw [ht] at ih
        rcases List.mem_cons.1 hp with rfl | hp
        · have := ih h (by simp); simp; omega
        · have := ih p (by simp [hp]); simp; omega
theorem partsL_count : ∀ l, (partsL l).length ≤ l.length + 1
  | [] => by simp [partsL]
  | b :: r => by
    have ih := partsL_count r
    unfold partsL
    cases (b == 32)
    · simp only [cond_false]; split <;> simp_all <;> omega
    · simp; omega

theorem split_holds {P : Program} {ρ : Shelf.Ren} (L : Lays.n146 P ρ) (hi9 : (P.info? (ρ.t 9)).map (fun i => (i.zero, i.size, i.bytes)) = some (some (.string ByteArray.empty), 1, 16))
    (he : ∀ args w, (callFunc (ρ.f 146) args).run P w = .ok (.enter (ρ.f 146) args) w) (glob : List (Nat × (Σ t : Ty, t.den))) : Con.Holds P glob (ρ.f 146) splitC := by
  intro w F us x r hp hr
  obtain ⟨s, sep, u0⟩ := x
  have hfn : cond (sep.data.toList == [32] && Nat.blt s.size 4294967281) (some (partsB s, ())) none = some r := hr
  cases hc : (sep.data.toList == [32] && Nat.blt s.size 4294967281) with
  | false => rw [hc] at hfn; cases hfn
  | true =>
  rw [hc] at hfn
  cases hfn
  simp only [Bool.and_eq_true, beq_iff_eq] at hc
  obtain ⟨h1, h2⟩ := hc
  have h2 : s.size < 4294967281 := Nat.le_of_ble_eq_true h2
  have hsep : sep = ⟨#[32]⟩ := by
    obtain ⟨⟨l⟩⟩ := sep
    simp only at h1
    rw [h1]
  subst hsep
  have hargs := hp.args
  match us, hargs with
  | [u, v], hargs =>
    obtain ⟨⟨cs, rfl, hcs⟩, ⟨cs2, rfl, hcs2⟩, _⟩ := hargs
    obtain ⟨rfl, k1⟩ := hcs
    obtain ⟨rfl, k2⟩ := hcs2
    refine .inl ⟨he _ _, ?_⟩
    refine (split_one L hi9 s w h2).mono ?_
    rintro e w' ⟨rfl, rfl⟩
    have hcnt := partsL_count s.data.toList
    have hsz : s.data.toList.length = s.size := Array.length_toList
    have hn : (partsB s).length ≤ s.size + 1 := by unfold partsB; rw [List.length_map]; omega
    have hmx : maxLen = 9223372036854775807 := rfl
    have hnew : (w.alloc (.cells ((partsB s).map Value.string).toArray (ρ.t 9))).heap[w.heap.size]? = some (.cells ((partsB s).map Value.string).toArray (ρ.t 9) (0, 0)) := alloc_new w _
    have hold : ∀ b, b < w.heap.size → (w.alloc (.cells ((partsB s).map Value.string).toArray (ρ.t 9))).heap[b]? = w.heap[b]? := fun b hb => alloc_old _ _ hb
    have hgrow : w.heap.size < (w.alloc (.cells ((partsB s).map Value.string).toArray (ρ.t 9))).heap.size := (Array.getElem?_eq_some_iff.1 hnew).1
    have hpos : (partsB s).length ≠ 0 := by unfold partsB; rw [List.length_map]; have := List.length_pos_iff.2 (partsL_ne s.data.toList); omega
    have hk := kept_alloc w (.cells ((partsB s).map Value.string).toArray (ρ.t 9))
    refine ⟨_, rfl, F, [[.slice (some ⟨w.heap.size, 0, none⟩) (partsB s).length (partsB s).length]], ⟨hk.os, hk.tape, hk.output, hk.size, fun b hb hM => hold b hb⟩, fun _ h => h, fun b hb => ⟨by have := hp.fro b hb; omega, .inl hb⟩, rfl, ⟨⟨_, rfl, some ⟨w.heap.size, 0, none⟩, (partsB s).length, rfl, Nat.le_refl _, by omega, fun _ => ⟨w.heap.size, 0, _, _, _, rfl, hnew, .inl (Nat.le_refl _), by rw [List.size_toArray, List.length_map, Nat.zero_add]; exact Nat.le_of_eq (Nat.mul_one _), fun i hi => ?_⟩⟩, trivial⟩, trivial, ?_, ?_⟩
    · have hi' : i < (partsB s).length := hi
      refine ⟨?_, ?_⟩
      · refine List.ext_getElem? fun j => ?_
        cases j with
        | zero =>
          rw [show Ty.size .str = 1 from rfl, seg_getElem? _ _ 1 0 (by omega)]
          simp [List.getElem?_map, List.getElem?_eq_getElem hi']
          rfl
        | succ j =>
          rw [List.getElem?_eq_none (by rw [show Ty.size .str = 1 from rfl, seg_length _ _ 1 (by simp; omega)]; omega)]
          simp
      · have hm : (partsB s)[i] ∈ partsB s := List.getElem_mem hi'
        have : ∀ p ∈ partsB s, p.size ≤ s.size := by
          intro p hp
          unfold partsB at hp
          obtain ⟨l, hl, rfl⟩ := List.mem_map.1 hp
          have := partsL_len _ l hl
          rw [hsz] at this
          show l.toArray.size ≤ s.size
          rw [List.size_toArray]; exact this
        have := this _ hm
        show (partsB s)[i].size ≤ maxLen
        omega
    · show Apart [_]
      exact List.pairwise_singleton _ _
    · intro v hv b hb
      rcases List.mem_cons.1 (show v ∈ [Value.slice (some ⟨w.heap.size, 0, none⟩) (partsB s).length (partsB s).length] from hv) with rfl | hv
      case inr => cases hv
      simp only [hdrBlk, if_neg hpos, Option.some.injEq] at hb
      subst hb
      exact ⟨.inl (Nat.le_refl _), fun hF => by have := hp.fro _ hF; omega, hgrow⟩
end Go.Vm

/-
  Contracts of the functions that the law reaches.
-/
import Derived.Test.YtganppkchbnikaaGreatDoorVmExt
import Derived.Shelf.Slices.CompactI
open List renaming replicate->A5,pairwise_singleton->JI
set_option linter.unusedVariables false
set_option linter.unusedSimpArgs false
namespace Go.Vm
open Go.Proofs Go.Sort Go.Shelf
def compactC : Con := { ins := [(.take, .slice (.int .i64))], outs := [(true, .slice (.int .i64))], fn := fun x => if x.1.length <= lim then some (Lib.compact x.1, ()) else none }
theorem wj (l : List Int) : (Lib.compact l).length <= l.length := by
  unfold Lib.compact Lib.compactUpTo
  rw [List.length_map]
  exact Nat.le_trans (List.length_filter_le _ _) (by simp)
theorem uf (l : List Int) : ∀ n ∈ Lib.compact l, n ∈ l := by
  intro n hn
  unfold Lib.compact Lib.compactUpTo at hn
  obtain ⟨i, hi, rfl⟩ := List.mem_map.1 hn
  have hi' : i < l.length := List.mem_range.1 (List.mem_filter.1 hi).1
  have : l.toArray[i]! = l[i] := by simp [getElem!_pos, hi']
  rw [this]; exact List.getElem_mem hi'
theorem qK {P : Program} {ρ : Shelf.Ren} (L : Lays2.n20 P ρ) (he : ∀ args w, (callFunc (ρ.f 20) args).run P w = .ok (.enter (ρ.f 20) args) w) (glob : List (Nat × (Σ t : Ty, t.den))) : Con.Holds P glob (ρ.f 20) compactC := by
  refine Con.Holds.plain rfl ?_
  intro w F us x r hp hr
  obtain ⟨l, u0⟩ := x
  have hfn : (if l.length <= lim then some (Lib.compact l, ()) else none) = some r := hr
  have hl : l.length <= lim := by
    by_cases h : l.length <= lim
    · exact h
    · rw [if_neg h] at hfn; cases hfn
  rw [if_pos hl] at hfn
  cases hfn
  have hargs := hp.args
  match us, hargs with
  | [u], hargs =>
    have hu : HdrW w F u (.int .i64) l := hargs.1
    have hbd := kg hu
    refine .inl ⟨he _ _, ?_⟩
    obtain ⟨ad, cap, rfl, h1, h2, h3⟩ := hu
    by_cases h0 : l = []
    · subst h0
      refine (Any.slices_Compact_int_empty L ad cap w).mono ?_
      rintro e w' ⟨rfl, rfl⟩
      refine ⟨_, rfl, F, [[.slice ad 0 cap]], Kept.refl _ _, fun _ h => h, fun b hb => ⟨hp.fro b hb, .inl hb⟩, rfl, ⟨⟨_, rfl, ad, cap, rfl, h1, h2, fun hc => ?_⟩, trivial⟩, trivial, ?_, ?_⟩
      · exact h3 hc
      · show cm [_]
        exact JI _ _
      · intro v hv b hb
        have hv : v = .slice ad 0 cap := by simpa [bS, aO, ba, compactC] using hv
        subst hv
        obtain ⟨o1, o2⟩ := hp.own _ (by simp [az, compactC]) b hb
        exact ⟨.inr ⟨_, by simp [az, compactC], hb⟩, o1, o2⟩
    · have hlen : 0 < l.length := List.length_pos_iff.2 h0
      obtain ⟨b, off, c, el, fz, rfl, q2, q3, q4, q5⟩ := h3 (by omega)
      have hH := mq q2 q3 (by simpa [Ty.size] using q4) h1 (by simpa [Ty.size] using q5)
      have hle := wj l
      refine (Any.slices_Compact_int L b off cap l w hH (by have : maxLen = 9223372036854775807 := rfl; omega) h1).mono ?_
      rintro e w' ⟨rfl, q, rfl⟩
      have hcap : cap ≠ 0 := by omega
      have hheap : (Sort.ahead w q).heap = w.heap := rfl
      have hb : b < w.heap.size := by
        rcases Nat.lt_or_ge b w.heap.size with h | h
        · exact h
        · rw [Array.getElem?_eq_none h] at q2; cases q2
      have q4' : off + cap * 1 <= c.size := by simpa [Ty.size] using q4
      have hblk : HB (.slice (some ⟨b, off, none⟩) l.length cap) b := by simp [HB, HB1, hcap]
      have hown := hp.own (.slice (some ⟨b, off, none⟩) l.length cap) (by simp [az, compactC]) b hblk
      refine ⟨_, rfl, F, [[.slice (some ⟨b, off, none⟩) (Lib.compact l).length cap]], ⟨rfl, rfl, rfl, by rw [eN]; exact Nat.le_refl _, fun b' hb' hn => ?_⟩, fun _ h => h, fun b' hb' => ⟨by rw [eN]; exact hp.fro b' hb', .inl hb'⟩, rfl, ⟨⟨_, rfl, ?_⟩, trivial⟩, trivial, ?_, ?_⟩
      · rw [gp]
        · rfl
        · rintro rfl
          exact hn ⟨_, by simp [az, compactC], hblk⟩
      · refine pF (kT _ _ (by rw [hheap]; exact q2)) (by rw [cU]; exact q3) (by rw [cU]; exact q4') (by omega) h2 (fun i hi => ?_) (fun n hn => hbd n (uf l n hn))
        rw [kh _ _ _ _ (by simp; omega) (by omega)]
        have hi2 : i < (Lib.compact l ++ A5 (l.length - (Lib.compact l).length) 0).length := by simp; omega
        have : (Lib.compact l ++ A5 (l.length - (Lib.compact l).length) 0).toArray[i]! = (Lib.compact l)[i] := by
          rw [getElem!_pos _ _ (by simpa using hi2)]
          simp [List.getElem_append, hi]
        rw [this]
      · show cm [_]
        exact JI _ _
      · intro v hv b' hb'
        have hv : v = .slice (some ⟨b, off, none⟩) (Lib.compact l).length cap := by simpa [bS, aO, ba, compactC] using hv
        subst hv
        have : b' = b := by have h9 := hb'; simp [HB, HB1, hcap] at h9; exact h9.symm
        subst this
        exact ⟨.inr ⟨_, by simp [az, compactC], hblk⟩, hown.1, by rw [eN]; exact hb⟩
end Go.Vm

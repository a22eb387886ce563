/-
  Contracts of the functions that the law reaches.
-/
import Derived.Test.YtganppkchbnikaaGreatDoorVmExt
open List renaming mem_cons->A8,pairwise_cons->Jr,pairwise_singleton->JI
set_option linter.unusedVariables false
set_option linter.unusedSimpArgs false
namespace Go.Vm
open Go.Sort
def vU (a : Int) : List Int -> List Int
  | [] => [a]
  | b :: l => cond (decide (a <= b)) (a :: b :: l) (b :: vU a l)
def cR : List Int -> List Int
  | [] => []
  | a :: l => vU a (cR l)
theorem oh (a : Int) : ∀ l, (vU a l).Perm (a :: l)
  | [] => .refl _
  | b :: l => by
    unfold vU
    cases decide (a <= b) with
    | true => exact .refl _
    | false => exact ((oh a l).cons b).trans (.swap a b l)
theorem iE : ∀ l, (cR l).Perm l
  | [] => .refl _
  | a :: l => (oh a _).trans ((iE l).cons a)
theorem oP (a : Int) : ∀ {l : List Int}, l.Pairwise (· <= ·) -> (vU a l).Pairwise (· <= ·)
  | [], _ => by simp [vU]
  | b :: l, h => by
    unfold vU
    by_cases hab : a <= b
    · rw [decide_eq_true hab, UA]
      refine Jr.2 ⟨fun c hc => ?_, h⟩
      rcases A8.1 hc with rfl | hc
      · exact hab
      · have := (Jr.1 h).1 c hc; omega
    · rw [decide_eq_false hab, UB]
      refine Jr.2 ⟨fun c hc => ?_, oP a (Jr.1 h).2⟩
      rcases A8.1 ((oh a l).mem_iff.1 hc) with rfl | hc
      · omega
      · exact (Jr.1 h).1 c hc
theorem iY : ∀ l, (cR l).Pairwise (· <= ·)
  | [] => .nil
  | a :: l => oP a (iY l)
theorem zq (l : List Int) : cR l = l.mergeSort (fun a b => decide (a <= b)) := by
  refine List.Perm.eq_of_pairwise (le := (· <= ·)) (fun a b _ _ h1 h2 => Int.le_antisymm h1 h2) (iY l) ?_ ((iE l).trans (List.mergeSort_perm l _).symm)
  refine (List.pairwise_mergeSort (le := fun a b : Int => decide (a <= b)) (fun a b c h1 h2 => ?_) (fun a b => ?_) l).imp ?_
  · simp only [decide_eq_true_eq] at h1 h2 ⊢; omega
  · simp only [Bool.or_eq_true, decide_eq_true_eq]; omega
  · intro a b hab; simpa using hab
def sortC : Con := { ins := [(.upd, .slice (.int .i64))], outs := [], fn := fun x => if x.1.length <= lim then some (cR x.1, ()) else none }
theorem vd {P : Program} {f : FuncId} (he : ∀ args w, (callFunc f args).run P w = .ok (.enter f args) w)
    (hS : ∀ (blk off cap : Nat) (zs : List Int) (w : World), Holds (Value.int .i64) w blk off zs.toArray -> blk < w.heap.size -> zs.length < 4611686018427387904 ->
      Calls P f #[.slice (some ⟨blk, off, none⟩) zs.length cap] w fun e w' => e = .returned (.tuple #[]) /\ ∃ n os, w' = grow (putRow (Value.int .i64) (Go.Sort.ahead w n) blk off (zs.mergeSort fun x y => decide (x <= y)).toArray) os)
    (hN : ∀ (p : Option Addr) (cap : Nat) (w : World), Calls P f #[.slice p 0 cap] w fun e w' => e = .returned (.tuple #[]) /\ w' = w)
    (glob : List (Nat × (Σ t : Ty, t.den))) : Con.Holds P glob f sortC := by
  refine Con.Holds.plain rfl ?_
  intro w F us x r hp hr
  obtain ⟨l, u0⟩ := x
  have hfn : (if l.length <= lim then some (cR l, ()) else none) = some r := hr
  rw [zq] at hfn
  have hl : l.length <= lim := by
    by_cases h : l.length <= lim
    · exact h
    · rw [if_neg h] at hfn; cases hfn
  rw [if_pos hl] at hfn
  cases hfn
  have hargs := hp.args
  match us, hargs with
  | [u], hargs =>
    have hu : HdrW w F u (.int .i64) l := hargs.1
    have hbd := kg hu
    refine .inl ⟨he _ _, ?_⟩
    obtain ⟨ad, cap, rfl, h1, h2, h3⟩ := hu
    by_cases h0 : l = []
    · subst h0
      refine (hN ad cap w).mono ?_
      rintro e w' ⟨rfl, rfl⟩
      have hms : ([] : List Int).mergeSort (fun a b => decide (a <= b)) = [] := by simp
      refine ⟨_, rfl, F, [], Kept.refl _ _, fun _ h => h, fun b hb => ⟨hp.fro b hb, .inl hb⟩, rfl, trivial, ⟨?_, trivial⟩, ?_, ?_⟩
      · show HdrW _ F _ (.int .i64) (([] : List Int).mergeSort (fun a b => decide (a <= b)))
        rw [hms]
        exact ⟨ad, cap, rfl, h1, h2, h3⟩
      · show cm [_]
        exact JI _ _
      · intro v hv b hb
        have hv : v = .slice ad 0 cap := by simpa [bS, aO, ba, sortC] using hv
        subst hv
        obtain ⟨o1, o2⟩ := hp.own _ (by simp [az, sortC]) b hb
        exact ⟨.inr ⟨_, by simp [az, sortC], hb⟩, o1, o2⟩
    · have hlen : 0 < l.length := List.length_pos_iff.2 h0
      obtain ⟨b, off, c, el, fz, rfl, q2, q3, q4, q5⟩ := h3 (by omega)
      have hH := mq q2 q3 (by simpa [Ty.size] using q4) h1 (by simpa [Ty.size] using q5)
      have hb : b < w.heap.size := by
        rcases Nat.lt_or_ge b w.heap.size with h | h
        · exact h
        · rw [Array.getElem?_eq_none h] at q2; cases q2
      have hlm : (l.mergeSort (fun a b => decide (a <= b))).length = l.length := List.length_mergeSort l
      refine (hS b off cap l w hH hb (by have : lim = 68719476736 := rfl; omega)).mono ?_
      rintro e w' ⟨rfl, q, os, rfl⟩
      have hcap : cap ≠ 0 := by omega
      have q4' : off + cap * 1 <= c.size := by simpa [Ty.size] using q4
      have hblk : HB (.slice (some ⟨b, off, none⟩) l.length cap) b := by simp [HB, HB1, hcap]
      have hown := hp.own (.slice (some ⟨b, off, none⟩) l.length cap) (by simp [az, sortC]) b hblk
      have hsz : (putRow (Value.int .i64) (Go.Sort.ahead w q) b off (l.mergeSort fun x y => decide (x <= y)).toArray).heap.size = w.heap.size := eN _ _ _ _ _
      refine ⟨_, rfl, F, [], ⟨rfl, rfl, rfl, by rw [size_grow, hsz]; omega, fun b' hb' hn => ?_⟩, fun _ h => h, fun b' hb' => ⟨by rw [size_grow, hsz]; have := hp.fro b' hb'; omega, .inl hb'⟩, rfl, trivial, ⟨?_, trivial⟩, ?_, ?_⟩
      · rw [ld _ _ (by rw [hsz]; exact hb'), gp]
        · rfl
        · rintro rfl
          exact hn ⟨_, by simp [az, sortC], hblk⟩
      · show HdrW _ F _ (.int .i64) (l.mergeSort (fun a b => decide (a <= b)))
        rw [<- hlm]
        refine pF (by rw [ld _ _ (by rw [hsz]; exact hb)]; exact kT _ _ q2) (by rw [cU]; exact q3) (by rw [cU]; exact q4') (by omega) h2 (fun i hi => ?_) (fun n hn => hbd n (List.mem_mergeSort.1 hn))
        rw [kh _ _ _ _ (by simpa using hi) (by omega)]
        rw [getElem!_pos _ _ (by simpa using hi)]
        simp
      · show cm [_]
        exact JI _ _
      · intro v hv b' hb'
        have hv : v = .slice (some ⟨b, off, none⟩) l.length cap := by simpa [bS, aO, ba, sortC] using hv
        subst hv
        have : b' = b := by have h9 := hb'; simp [HB, HB1, hcap] at h9; exact h9.symm
        subst this
        exact ⟨.inr ⟨_, by simp [az, sortC], hblk⟩, hown.1, by rw [size_grow, hsz]; omega⟩
end Go.Vm

/-
 The places in a direction, in the reference.
-/
import Derived.Test.YtpgfkljmcacegaaDoorN42J
set_option linter.unusedVariables false
set_option linter.unusedSimpArgs false
namespace Go.Vm
open Go.Proofs
set_option maxRecDepth 100000
attribute [local irreducible] loopFix
section
variable {N : Nat} {E : List Arc} {A : List (List Int)} {nx fw g : List Int} {B : List ByteArray} {o : Int} {k : Nat → Int} {a b : Int}
theorem ptail (h : RotOK (N : Nat) E A) {d : Nat} (hd : d < 2 * E.length) : Zbm (((N : Int), E, A, ()), (d : Int), ()) = some (((tln E d : Nat) : Int), ()) := by
 rw [Tail_eq h h.validB h.lists hd, (tln_eq h hd).1]
theorem rtail (h : RotOK (N : Nat) E A) {d : Nat} (hd : d < 2 * E.length) : Zat (((N : Int), E, A, ()), (d : Int), ()) = some (((tln E d : Nat) : Int), ()) := by
 have hm1 := h.m1
 have e2 : mulI .i64 2 (E.length : Nat) = ((2 * E.length : Nat) : Int) := by rw [mulI64 (by omega) (by omega)]; omega
 unfold Zat
 simp only
 rw [rvalid_eq ((N : Int), E, A, ()) h.lists, h.validB, Option.bind_some]
 simp only [Bool.not_true, cond_false]
 rw [ltI_f (by omega), cond_false, e2, geI_f (by omega), cond_false, tails_eq (N : Int) E A () hm1, Option.bind_some]
 simp only
 rw [idxI_of (by rw [tails_length]; exact hd), Option.bind_some, tails_get E d hd, (tln_eq h hd).1]
 rfl
structure Vals (N : Nat) (E : List Arc) (k : Nat → Int) (a : Int) (out : List Int) : Prop where
 len : out.length = N
 val : ∀ v, v < N → ∃ n : Nat, out[v]? = some (n : Int) ∧ Up (tln E) E.length k a n v
def plC (E : List Arc) (k : Nat → Int) (a : Int) (out : List Int) (d : Nat) : Prop := (k d = a → out.getD (tln E d) 0 + 1 ≤ out.getD (tln E (oth d)) 0) ∧ (k d % 2 ≠ a % 2 → out.getD (tln E d) 0 ≤ out.getD (tln E (oth d)) 0)
theorem Vals.put {out : List Int} (hv : Vals N E k a out) (hb : ∀ n v, v < N → Up (tln E) E.length k a n v → n < N) {v m : Nat} (hvN : v < N) (hm : Up (tln E) E.length k a m v) (hlt : out.getD v 0 < (m : Int)) :
  Vals N E k a (out.set v (m : Int)) ∧ tot (fun x => N - x.toNat) (out.set v (m : Int)) < tot (fun x => N - x.toNat) out := by
 have hlen := hv.len
 obtain ⟨n, n1, n2⟩ := hv.val v hvN
 have hg : out.getD v 0 = (n : Int) := by rw [List.getD_eq_getElem?_getD, n1]; rfl
 have hmN := hb m v hvN hm
 refine ⟨⟨by simp [hlen], fun w hw => ?_⟩, ?_⟩
 ·rw [List.getElem?_set]
  by_cases c : v = w
  ·subst c; rw [if_pos rfl, if_pos (by omega)]; exact ⟨m, rfl, hm⟩
  ·rw [if_neg c]; exact hv.val w hw
 ·have := tot_set (fun x => N - x.toNat) (y := (m : Int)) n1
  simp only [Int.toNat_natCast] at this
  omega
def rankL (R : Nat → Nat) (N : Nat) : List Int := (List.range N).map fun v => (R v : Int)
end
end Go.Vm

/-
  Contracts of library functions, out of the kit's own: how a row of numbers in memory is written.
-/
import Derived.Test.YtganppkchbnikaaGreatDoorVmE
import Derived.Sort.Grow
open Array renaming getElem?_modify->Li
set_option linter.unusedVariables false
set_option linter.unusedSimpArgs false
namespace Go.Vm
open Go.Sort
theorem gp {α : Type} [Inhabited α] (enc : α -> Value) (w : World) (b off : Nat) (d : Array α) {k : Nat} (hk : k ≠ b) : (putRow enc w b off d).heap[k]? = w.heap[k]? := by
  unfold putRow mapBlock
  simp only [Li]
  rw [if_neg (fun e => hk e.symm)]
theorem kT {α : Type} [Inhabited α] (enc : α -> Value) {w : World} {b off : Nat} (d : Array α) {c : Array Value} {el : TypeId} {fz : Nat × Nat} (h : w.heap[b]? = some (.cells c el fz)) :
    (putRow enc w b off d).heap[b]? = some (.cells (putCells enc off d c) el fz) := by
  unfold putRow mapBlock
  simp only [Li]
  simp only [if_true, h]; rfl
theorem eN {α : Type} [Inhabited α] (enc : α -> Value) (w : World) (b off : Nat) (d : Array α) : (putRow enc w b off d).heap.size = w.heap.size := by
  unfold putRow mapBlock; simp
theorem cU {α : Type} [Inhabited α] (enc : α -> Value) (off : Nat) (d : Array α) (c : Array Value) : (putCells enc off d c).size = c.size := by
  unfold putCells; simp
theorem ld (w : World) (os : Array Go.Obj) {k : Nat} (h : k < w.heap.size) : (grow w os).heap[k]? = w.heap[k]? := by
  unfold grow; simp [Array.getElem?_append, h]
theorem mq {w : World} {F : Nat -> Prop} {l : List Int} {b off cap : Nat} {c : Array Value} {el : TypeId} {fz : Nat × Nat} (h2 : w.heap[b]? = some (.cells c el fz)) (h3 : eo (.int .i64) c.size fz) (h4 : off + cap * 1 <= c.size) (hl : l.length <= cap)
    (h5 : ∀ i (h : i < l.length), Rd w F (.int .i64) (seg c (off + i * 1) 1) l[i]) : Holds (Value.int .i64) w b off l.toArray := by
  intro j hj
  have hj' : j < l.length := by simpa using hj
  refine ⟨?_, eS h2 h3 (off + j) (by omega)⟩
  rw [cC h2]
  have := (h5 j hj').1
  have e : (seg c (off + j * 1) 1)[0]? = c[off + j * 1 + 0]? := seg_getElem? c (off + j * 1) 1 0 (by omega)
  rw [this] at e
  simp only [Nat.mul_one, Nat.add_zero, List.getElem?_cons_zero] at e
  rw [<- e]
  simp [getElem!_pos, hj']
theorem kh {α : Type} [Inhabited α] (enc : α -> Value) (off : Nat) (d : Array α) (c : Array Value) {i : Nat} (hi : i < d.size) (hc : off + i < c.size) : (putCells enc off d c)[off + i]? = some (enc d[i]!) := by
  unfold putCells
  rw [Array.getElem?_mapIdx, Array.getElem?_eq_getElem hc, Option.map_some, if_pos ⟨by omega, by omega⟩, show off + i - off = i by omega]
theorem pF {w : World} {F : Nat -> Prop} {l : List Int} {b off cap : Nat} {c : Array Value} {el : TypeId} {fz : Nat × Nat} (h2 : w.heap[b]? = some (.cells c el fz)) (h3 : eo (.int .i64) c.size fz) (h4 : off + cap * 1 <= c.size) (hl : l.length <= cap) (hm : cap <= maxLen)
    (h5 : ∀ i (h : i < l.length), c[off + i]? = some (.int .i64 l[i])) (h6 : ∀ n ∈ l, IntKind.i64.min <= n /\ n <= IntKind.i64.max) : HdrW w F (.slice (some ⟨b, off, none⟩) l.length cap) (.int .i64) l := by
  refine ⟨_, cap, rfl, hl, hm, fun _ => ⟨b, off, c, el, fz, rfl, h2, h3, h4, fun i hi => ?_⟩⟩
  refine ⟨?_, h6 _ (List.getElem_mem hi)⟩
  have hc : off + i * 1 + 1 <= c.size := by omega
  refine List.ext_getElem? fun j => ?_
  cases j with
  | zero =>
    rw [show Ty.size (.int .i64) = 1 from rfl, seg_getElem? c (off + i * 1) 1 0 (by omega)]
    simpa using h5 i hi
  | succ j =>
    rw [List.getElem?_eq_none (by rw [show Ty.size (.int .i64) = 1 from rfl, dw c _ 1 hc]; omega)]
    simp
theorem kg {w : World} {F : Nat -> Prop} {u : Value} {l : List Int} (h : HdrW w F u (.int .i64) l) : ∀ n ∈ l, IntKind.i64.min <= n /\ n <= IntKind.i64.max := by
  obtain ⟨ad, cap, h1, h2, h3, h4⟩ := h
  intro n hn
  obtain ⟨i, hi, rfl⟩ := List.getElem_of_mem hn
  obtain ⟨b, off, c, el, fz, q1, q2, q3, q4, q5⟩ := h4 (by omega)
  exact (q5 i hi).2
end Go.Vm

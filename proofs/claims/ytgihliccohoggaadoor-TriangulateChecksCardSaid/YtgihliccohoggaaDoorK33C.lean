/-
  The insertion of an edge, in the program and in the reference.
-/
import Derived.Test.YtgihliccohoggaaDoorK33B
set_option linter.unusedVariables false
set_option linter.unusedSimpArgs false
namespace Go.Vm
open Go.Proofs
set_option maxRecDepth 100000
attribute [local irreducible] loopFix

/-- The lists with a new edge. -/
def insA (A : List (List Int)) (u v m : Nat) (d f : Int) : List (List Int) := (A.set u (bef (subL A u) (2 * m : Nat) d)).set v (bef (subL A v) (2 * m + 1 : Nat) f)

/-- What Edge gives where it gives no error. -/
structure EdgeOK (N : Nat) (E : List Arc) (A : List (List Int)) (d f u v : Nat) : Prop where
  rot : RotOK (N : Nat) E A
  val : validB ((N : Int), E, A, ()) = true
  d2 : d < 2 * E.length
  f2 : f < 2 * E.length
  tu : tl E d = u
  tv : tl E f = v
  un : u < N
  vn : v < N
  ne : u ≠ v
  m : E.length < 32768
  face : ∃ nx, Fol oth E A nx ∧ NxOK nx nx.length ∧ FsOK (2 * E.length) (facesOf nx) ∧ ∃ a : Int, (marksOf (2 * E.length) (facesOf nx))[d]? = some a ∧ (marksOf (2 * E.length) (facesOf nx))[f]? = some a

theorem edge33 (N : Int) (E : List Arc) (A : List (List Int)) (d f : Int) (hl : ∀ l ∈ A, l.length ≤ 9223372036854775807) :
    (∃ e, e ≠ 0 ∧ insert_Edge ((N, E, A, ()), d, f, ()) = some ((0, [], [], ()), e, ()) ∧ layoutref33_Edge ((N, E, A, ()), d, f, ()) = some ((0, [], [], ()), e, ())) ∨
    ∃ n k j u v : Nat, N = (n : Int) ∧ d = (k : Int) ∧ f = (j : Int) ∧ EdgeOK n E A k j u v ∧
      insert_Edge ((N, E, A, ()), d, f, ()) = some ((N, E ++ [((u : Int), (v : Int), ())], insA A u v E.length d f, ()), 0, ()) ∧ layoutref33_Edge ((N, E, A, ()), d, f, ()) = some ((N, E ++ [((u : Int), (v : Int), ())], insA A u v E.length d f, ()), 0, ()) := by
  unfold insert_Edge layoutref33_Edge
  dsimp only
  rw [valid_eq (N, E, A, ()) hl, rvalid_eq (N, E, A, ()) hl, Option.bind_some, Option.bind_some]
  cases hv : validB (N, E, A, ()) with
  | false => exact .inl ⟨13, by decide, rfl, rfl⟩
  | true =>
    have h := valid_ok hv
    have hm1 := h.m1
    have hn0 := h.n0
    obtain ⟨n, rfl⟩ : ∃ n : Nat, N = (n : Int) := ⟨N.toNat, (Int.toNat_of_nonneg hn0).symm⟩
    have hAl : A.length = n := by have := h.len; omega
    have hn16 : n ≤ 16384 := by have := h.n1; omega
    simp only [Bool.not_true, cond_false]
    have e2 : mulI .i64 2 (E.length : Nat) = ((2 * E.length : Nat) : Int) := by rw [mulI64 (by omega) (by omega)]; omega
    rw [e2]
    by_cases hd : 0 ≤ d ∧ d < ((2 * E.length : Nat) : Int) ∧ 0 ≤ f ∧ f < ((2 * E.length : Nat) : Int)
    · obtain ⟨d0, d1, f0, f1⟩ := hd
      obtain ⟨k, rfl⟩ : ∃ k : Nat, d = (k : Int) := ⟨d.toNat, (Int.toNat_of_nonneg d0).symm⟩
      obtain ⟨j, rfl⟩ : ∃ j : Nat, f = (j : Int) := ⟨f.toNat, (Int.toNat_of_nonneg f0).symm⟩
      have hk : k < 2 * E.length := by omega
      have hj : j < 2 * E.length := by omega
      obtain ⟨u, tu, un⟩ := h.tl_lt hk
      obtain ⟨v, tv, vn⟩ := h.tl_lt hj
      rw [ltI_f (by unfold minI; split <;> omega), cond_false, geI_f (by unfold maxI; split <;> omega), cond_false]
      rw [ltI_f d0, cond_false, geI_f d1, cond_false, ltI_f f0, cond_false, geI_f f1, cond_false]
      rw [Tail_eq h hv hl hk, Tail_eq h hv hl hj, rTail_eq h hv hl hk, rTail_eq h hv hl hj, tu, tv]
      simp only [Option.bind_some]
      by_cases huv : u = v
      · rw [eqI_t (by omega)]
        exact .inl ⟨8, by decide, rfl, rfl⟩
      · rw [eqI_f (by omega), cond_false, cond_false]
        obtain ⟨fs, hfs, r1, r2, nx, hn, rfl, hnx⟩ := faces32 h hv hl
        rw [ifaces_eq (facesOf nx) hfs hm1 r1, Option.bind_some]
        obtain ⟨a, b, ma, mb, hsh⟩ := shared_eq h hv hl hn hfs hnx hk hj
        rw [hsh, Option.bind_some]
        dsimp only
        rw [marksOf_len, idxI_of hk, idxI_of hj]
        simp only [Option.bind_some, ma, mb]
        by_cases hab : a = b
        · subst hab
          rw [neI_f rfl, cond_false, decide_eq_true rfl]
          simp only [Bool.not_true, cond_false]
          by_cases hE : E.length < 32768
          · rw [geI_f (by omega), cond_false, cond_false]
            have hll : ∀ l ∈ A, l.length ≤ 65536 := fun l hl' => by have := h.list_len hl'; omega
            rw [copied_eq _ _ _ (by omega) (by omega) (fun l hl' => by have := hll l hl'; omega)]
            simp only [Option.bind_some]
            have hu : u < A.length := by omega
            have hv2 : v < A.length := by omega
            have hAu : A[u]? = some A[u] := List.getElem?_eq_getElem hu
            have hAv : A[v]? = some A[v] := List.getElem?_eq_getElem hv2
            have hku : (k : Int) ∈ A[u] := h.around hk tu hAu
            have hjv : (j : Int) ∈ A[v] := h.around hj tv hAv
            have lu := hll _ (List.getElem_mem hu)
            have lv := hll _ (List.getElem_mem hv2)
            have e3 : addI .i64 ((2 * E.length : Nat) : Int) 1 = ((2 * E.length + 1 : Nat) : Int) := by rw [addI64 (by omega) (by omega)]; omega
            rw [app_of (by simp; omega), idxI_of hu]
            simp only [Option.bind_some]
            rw [subL_eq hu, before_eq _ _ _ (h.list_nodup (List.getElem_mem hu)) hku (by omega)]
            simp only [Option.bind_some, if_true]
            rw [List.length_set, idxI_of hv2]
            simp only [Option.bind_some]
            have hs : subL (A.set u (bef A[u] ((2 * E.length : Nat) : Int) (k : Int))) v = A[v] := by
              rw [subL_eq (by simpa using hv2), List.getElem_set_ne huv]
            rw [hs, e3, before_eq _ _ _ (h.list_nodup (List.getElem_mem hv2)) hjv (by omega)]
            simp only [Option.bind_some, if_true]
            rw [app_of (by simp; omega), app_of (by simp; omega)]
            simp only [Option.bind_some, List.nil_append]
            rw [app_of (by simp; omega), getI_of, hAu, getI_of, hAv]
            simp only [Option.bind_some]
            rw [rbefore_eq _ _ _ (by omega), rbefore_eq _ _ _ (by omega), idxI_of hu]
            simp only [Option.bind_some, hAu]
            rw [List.length_set, idxI_of hv2]
            simp only [Option.bind_some]
            rw [List.getElem?_set_ne huv, hAv]
            refine .inr ⟨n, k, j, u, v, rfl, rfl, rfl, ⟨h, hv, hk, hj, tu, tv, un, vn, huv, hE, nx, hn, hnx, hfs, a, ma, mb⟩, ?_, ?_⟩
            · unfold insA; rw [subL_eq hu, subL_eq hv2]
            · unfold insA; rw [subL_eq hu, subL_eq hv2]; rfl
          · rw [geI_t (by omega)]
            exact .inl ⟨2, by decide, rfl, rfl⟩
        · rw [neI_t hab, decide_eq_false hab]
          exact .inl ⟨15, by decide, rfl, rfl⟩
    · left
      refine ⟨3, by decide, ?_, ?_⟩
      · by_cases h1 : minI d f < 0
        · rw [ltI_t h1]; rfl
        · rw [ltI_f (by omega), cond_false, geI_t]
          · rfl
          · unfold minI at h1; unfold maxI
            split at h1 <;> split <;> omega
      · by_cases h1 : d < 0
        · rw [ltI_t h1]; rfl
        · rw [ltI_f (by omega), cond_false]
          by_cases h2 : d < ((2 * E.length : Nat) : Int)
          · rw [geI_f h2, cond_false]
            by_cases h3 : f < 0
            · rw [ltI_t h3]; rfl
            · rw [ltI_f (by omega), cond_false, geI_t (by omega)]; rfl
          · rw [geI_t (by omega)]; rfl
end Go.Vm

/-
  A new vertex on an edge, in the program and in the reference.
-/
import Derived.Test.YtgihliccohoggaaDoorK33Q
set_option linter.unusedVariables false
set_option linter.unusedSimpArgs false
namespace Go.Vm
open Go.Proofs
set_option maxRecDepth 100000
attribute [local irreducible] loopFix

/-! ### A new vertex on an edge -/

/-- A dart by another one. -/
def repD (b c x : Int) : Int := if x = b then c else x

def repL (b c : Int) (l : List Int) : List Int := l.map (repD b c)

def splE (E : List Arc) (N e : Nat) (x y : Nat) : List Arc := E.set e ((x : Int), (N : Int), ()) ++ [((N : Int), (y : Int), ())]

def splA (A : List (List Int)) (e m y : Nat) : List (List Int) := A.set y (repL (2 * e + 1 : Nat) (2 * m + 1 : Nat) (subL A y)) ++ [[((2 * e + 1 : Nat) : Int), ((2 * m : Nat) : Int)]]

structure SplitOK (N : Nat) (E : List Arc) (A : List (List Int)) (e x y : Nat) : Prop where
  rot : RotOK (N : Nat) E A
  val : validB ((N : Int), E, A, ()) = true
  he : e < E.length
  arc : E[e]? = some ((x : Int), (y : Int), ())
  xn : x < N
  yn : y < N
  ne : x ≠ y
  m : E.length < 32768
  n : N < 16384

theorem rep_set {l : List Int} (hn : l.Nodup) {k : Nat} {b c : Int} (hk : l[k]? = some b) : l.set k c = repL b c l := by
  obtain ⟨e, n1, n2⟩ := nodup_split hn hk
  have hlt : k < l.length := (List.getElem?_eq_some_iff.1 hk).1
  have keep : ∀ {s : List Int}, b ∉ s → s.map (repD b c) = s := by
    intro s hs
    refine (List.map_congr_left fun x hx => ?_).trans (List.map_id s)
    unfold repD
    rw [if_neg (fun e2 => hs (by rw [← e2]; exact hx))]; rfl
  unfold repL
  conv => rhs; rw [e]
  rw [List.map_append, List.map_cons, keep n1, keep n2]
  have : repD b c b = c := by unfold repD; rw [if_pos rfl]
  rw [this, List.set_eq_take_append_cons_drop, if_pos hlt]

theorem rsplit_inner (N : Int) (E : List Arc) (A : List (List Int)) (z n : Int) (F : List Arc) (B : List (List Int)) (e m v : Nat) (l : List Int) (hl : A[v]? = some l) (hlen : l.length ≤ 1000000) (he : e ≤ 1000000) (hm : m ≤ 1000000) :
    layoutref33_Split_L16 (N, E, A, z, n, [], F, B, (e : Int), (m : Int), (v : Int), 0, ()) = some (.inl (z, n, repL (2 * e + 1 : Nat) (2 * m + 1 : Nat) l, F, B, (e : Int), (m : Int), (v : Int), ())) := by
  have e1 : ∀ k : Nat, k ≤ 1000000 → addI .i64 (mulI .i64 2 (k : Int)) 1 = ((2 * k + 1 : Nat) : Int) := fun k hk => by
    rw [mulI64 (by omega) (by omega), addI64 (by omega) (by omega)]; omega
  have h := scanI (B := layoutref33_Split_B16) (fun i (s : List Int) => s.length = i) (fun s i => (N, E, A, z, n, s, F, B, (e : Int), (m : Int), (v : Int), (i : Int), ())) (fun s => .inl (z, n, s, F, B, (e : Int), (m : Int), (v : Int), ())) (fun (e : Empty) => e.elim)
    (fun i s (d : Int) => some (.inl (s ++ [repD (2 * e + 1 : Nat) (2 * m + 1 : Nat) d]))) l (by
      intro s i d hs hd
      have hi : i < l.length := (List.getElem?_eq_some_iff.1 hd).1
      unfold layoutref33_Split_B16
      simp only
      rw [getI_of, hl, Option.bind_some, ltI_t (by omega), cond_true, Option.bind_some, getI_of, hd, Option.bind_some, e1 e he, e1 m hm]
      unfold repD
      by_cases c1 : d = ((2 * e + 1 : Nat) : Int)
      · rw [eqI_t c1, cond_true, app_of (by simp; omega), Option.bind_some, add1 (by omega), if_pos c1]; rfl
      · rw [eqI_f c1, cond_false, Option.bind_some, getI_of, hd, Option.bind_some, app_of (by simp; omega), Option.bind_some, add1 (by omega), if_neg c1]; rfl) (by
      intro s i d t hs hd ht
      simp only [Option.some.injEq, Sum.inl.injEq] at ht
      subst ht
      simp [hs]) (by
      intro s _
      unfold layoutref33_Split_B16
      simp only
      rw [getI_of, hl, Option.bind_some, ltI_f (by omega)]; rfl) [] rfl
  have hf : ∀ (l : List Int) (i : Nat) (s : List Int), foldE (fun (_ : Nat) s (d : Int) => (some (.inl (s ++ [repD (2 * e + 1 : Nat) (2 * m + 1 : Nat) d])) : Option (List Int ⊕ Empty))) i s l = some (.inl (s ++ repL (2 * e + 1 : Nat) (2 * m + 1 : Nat) l)) := by
    intro l
    induction l with
    | nil => intro i s; simp [foldE, repL]
    | cons a l ih =>
      intro i s
      simp only [foldE, Option.bind_some, Sum.elim_inl]
      rw [ih]
      simp [repL]
  unfold layoutref33_Split_L16
  rw [show ((N, E, A, z, n, [], F, B, (e : Int), (m : Int), (v : Int), 0, ()) : Int × List Arc × List (List Int) × Int × Int × List Int × List Arc × List (List Int) × Int × Int × Int × Int × Unit) = (N, E, A, z, n, [], F, B, (e : Int), (m : Int), (v : Int), ((0 : Nat) : Int), ()) from rfl, h, hf]
  rfl

theorem split33 (N : Int) (E : List Arc) (A : List (List Int)) (d : Int) (hl : ∀ l ∈ A, l.length ≤ 9223372036854775807) :
    (∃ e, e ≠ 0 ∧ insert_Split ((N, E, A, ()), d, ()) = some ((0, [], [], ()), e, ()) ∧ layoutref33_Split ((N, E, A, ()), d, ()) = some ((0, [], [], ()), e, ())) ∨
    ∃ n e x y : Nat, N = (n : Int) ∧ d = (e : Int) ∧ SplitOK n E A e x y ∧
      insert_Split ((N, E, A, ()), d, ()) = some ((((n + 1 : Nat) : Int), splE E n e x y, splA A e E.length y, ()), 0, ()) ∧ layoutref33_Split ((N, E, A, ()), d, ()) = some ((((n + 1 : Nat) : Int), splE E n e x y, splA A e E.length y, ()), 0, ()) := by
  unfold insert_Split layoutref33_Split
  dsimp only
  rw [valid_eq (N, E, A, ()) hl, rvalid_eq (N, E, A, ()) hl, Option.bind_some, Option.bind_some]
  cases hv : validB (N, E, A, ()) with
  | false => exact .inl ⟨13, by decide, rfl, rfl⟩
  | true =>
    have h := valid_ok hv
    have hm1 := h.m1
    have hn0 := h.n0
    obtain ⟨n, rfl⟩ : ∃ n : Nat, N = (n : Int) := ⟨N.toNat, (Int.toNat_of_nonneg hn0).symm⟩
    have hal := h.al
    have hn16 := h.n16
    simp only [Bool.not_true, cond_false]
    by_cases hd : 0 ≤ d ∧ d < ((E.length : Nat) : Int)
    · obtain ⟨d0, d1⟩ := hd
      obtain ⟨e, rfl⟩ : ∃ e : Nat, d = (e : Int) := ⟨d.toNat, (Int.toNat_of_nonneg d0).symm⟩
      have he : e < E.length := by omega
      rw [ltI_f d0, cond_false, geI_f d1, cond_false, cond_false, cond_false]
      by_cases hlim : n < 16384 ∧ E.length < 32768
      · obtain ⟨hn, hm⟩ := hlim
        rw [geI_f (by omega), cond_false, geI_f (by omega), cond_false, cond_false, cond_false]
        have hll : ∀ l ∈ A, l.length ≤ 65536 := fun l hl' => by have := h.list_len hl'; omega
        rw [copied_eq _ _ _ (by omega) (by omega) (fun l hl' => by have := hll l hl'; omega)]
        simp only [Option.bind_some]
        have harc := List.getElem?_eq_getElem he
        obtain ⟨a1, a2, a3, a4, a5⟩ := h.edge E[e] (List.getElem_mem he)
        obtain ⟨x, hx⟩ : ∃ x : Nat, E[e].1 = (x : Int) := ⟨E[e].1.toNat, (Int.toNat_of_nonneg a1).symm⟩
        obtain ⟨y, hy⟩ : ∃ y : Nat, E[e].2.1 = (y : Int) := ⟨E[e].2.1.toNat, (Int.toNat_of_nonneg a3).symm⟩
        have harc2 : E[e] = ((x : Int), (y : Int), ()) := by rw [← hx, ← hy]
        have hyl : y < A.length := by omega
        have hAy := List.getElem?_eq_getElem hyl
        have hsub := subL_eq hyl
        have hyA := hll _ (List.getElem_mem hyl)
        have ht : tl E (2 * e + 1) = (y : Int) := by
          unfold tl
          rw [show (2 * e + 1) / 2 = e by omega, harc]
          simp only
          rw [if_neg (by omega), hy]
        have hin : ((2 * e + 1 : Nat) : Int) ∈ A[y] := h.around (by omega) ht hAy
        have hnd := h.list_nodup (List.getElem_mem hyl)
        have e1 : addI .i64 (mulI .i64 2 (e : Int)) 1 = ((2 * e + 1 : Nat) : Int) := by rw [mulI64 (by omega) (by omega), addI64 (by omega) (by omega)]; omega
        have e2 : mulI .i64 2 (E.length : Nat) = ((2 * E.length : Nat) : Int) := by rw [mulI64 (by omega) (by omega)]; omega
        have e3 : addI .i64 ((2 * E.length : Nat) : Int) 1 = ((2 * E.length + 1 : Nat) : Int) := by rw [addI64 (by omega) (by omega)]; omega
        have e4 : addI .i64 (n : Int) 1 = ((n + 1 : Nat) : Int) := by rw [addI64 (by omega) (by omega)]; omega
        rw [e1, e2, e3, e4, getI_of, harc, Option.bind_some, Option.bind_some, idxI_of he, Option.bind_some, harc, Option.bind_some, harc2]
        simp only
        rw [app_of (by simp; omega), Option.bind_some, idxI_of hyl]
        simp only [Option.bind_some]
        rw [hsub]
        rcases index_int A[y] ((2 * e + 1 : Nat) : Int) (by omega) with ⟨_, hno⟩ | ⟨k, k1, k2⟩
        · exact absurd hin hno
        have hkl : k < A[y].length := (List.getElem?_eq_some_iff.1 k1).1
        rw [k2]
        simp only [Option.bind_some]
        rw [idxI_of hkl, Option.bind_some, rep_set hnd k1, app_of (by simp; omega), Option.bind_some, app_of (by simp; omega)]
        simp only [Option.bind_some, List.nil_append]
        rw [idxI_of he]
        simp only [Option.bind_some]
        rw [harc]
        simp only [Option.bind_some]
        rw [harc2]
        simp only
        rw [app_of (by simp; omega)]
        simp only [Option.bind_some]
        rw [app_of (by simp; omega)]
        simp only [Option.bind_some, List.nil_append]
        rw [rsplit_inner _ _ _ _ _ _ _ _ _ _ A[y] hAy (by omega) (by omega) (by omega)]
        simp only [Option.bind_some, Sum.elim_inl]
        rw [idxI_of hyl]
        simp only [Option.bind_some]
        rw [hAy, Option.bind_some, e1, e2, app_of (by simp; omega)]
        refine .inr ⟨n, e, x, y, rfl, rfl, ⟨h, hv, he, by rw [harc, harc2], by omega, by omega, by rw [hx, hy] at a5; omega, hm, hn⟩, ?_, ?_⟩
        · unfold splE splA; rw [hsub]
        · unfold splE splA; rw [hsub]; rfl
      · left
        refine ⟨2, by decide, ?_, ?_⟩
        · by_cases h1 : n < 16384
          · rw [geI_f (by omega), cond_false, geI_t (by omega)]; rfl
          · rw [geI_t (by omega)]; rfl
        · by_cases h1 : E.length < 32768
          · rw [geI_f (by omega), cond_false, geI_t (by omega)]; rfl
          · rw [geI_t (by omega)]; rfl
    · left
      refine ⟨3, by decide, ?_, ?_⟩
      · by_cases h1 : d < 0
        · rw [ltI_t h1]; rfl
        · rw [ltI_f (by omega), cond_false, geI_t (by omega)]; rfl
      · by_cases h1 : d < 0
        · rw [ltI_t h1]; rfl
        · rw [ltI_f (by omega), cond_false, geI_t (by omega)]; rfl
end Go.Vm

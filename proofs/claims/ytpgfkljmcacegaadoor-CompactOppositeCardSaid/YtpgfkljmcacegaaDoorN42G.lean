/-
  The law CompactOpposite on values.
-/
import Derived.Test.YtpgfkljmcacegaaDoorN42F
set_option linter.unusedVariables false
set_option linter.unusedSimpArgs false
namespace Go.Vm
open Go.Proofs
set_option maxRecDepth 100000
attribute [local irreducible] loopFix
section
variable {N : Nat} {E : List Arc} {A : List (List Int)} {nx fw g : List Int} {B : List ByteArray} {o : Int} {k : Nat → Int}
theorem dirL_get {M d : Nat} (hd : d < 2 * M) : (dirL k M)[d]? = some (k d) := by
  unfold dirL
  rw [List.getElem?_map, List.getElem?_range hd]; rfl
theorem opp_inner (h : ShapeOK N E A g B o nx) (hk : Dirs E.length (nxN fw) (gN g) k) (ff : Fol id E A fw) (v : Int) {l : List Int} (lA : l ∈ A) : ∀ (r i : Nat), i + r = l.length →
    layoutlaw42_CompactOpposite_L11 ((N : Int), E, A, g, B, o, dirL k E.length, v, l, (i : Int), ()) = some (.inr (.inl ((N : Int), E, A, g, B, o, dirL k E.length, v, ())))
  | 0, i, hi => by
    refine loop_done ?_
    unfold layoutlaw42_CompactOpposite_B11
    simp only
    rw [ltI_f (by omega)]; rfl
  | r + 1, i, hi => by
    have hm1 := h.rot.m1
    have hll := h.rot.list_len lA
    have hlt : i < l.length := by omega
    obtain ⟨d, e, hd⟩ := h.rot.mem_of lA (List.getElem_mem hlt)
    have hli : l[i]? = some (d : Int) := by rw [List.getElem?_eq_getElem hlt, e]
    have hm : (i + 1) % l.length < l.length := Nat.mod_lt _ (by omega)
    have g1 := ff.get l lA i hlt
    rw [e, id, Int.toNat_natCast, List.getD_eq_getElem?_getD, List.getElem?_eq_getElem hm, Option.getD_some] at g1
    have g2 := nxN_eq (fw_ok h.rot h.folOK ff) hd
    rw [g1] at g2
    have g3 := Option.some.inj g2.1
    have hlx : l[(i + 1) % l.length]? = some ((nxN fw d : Nat) : Int) := by rw [List.getElem?_eq_getElem hm, g3]
    have hod := oth_lt hd
    have kd := hk.nn d hd
    have gd := shape_ang h d hd
    have hgl := h.turn.glen
    have gg : g[d]? = some (gN g d) := by
      unfold gN
      rw [List.getD_eq_getElem?_getD, List.getElem?_eq_getElem (by omega)]; rfl
    have e1 : remI (k d + gN g d) 4 = k (nxN fw d) := rem_dir (by omega) (hk.nn _ g2.2) (by have := hk.fw d hd; omega)
    have e2 : remI (k d + 2) 4 = k (oth d) := rem_dir (by omega) (hk.nn _ hod) (by have := hk.oth d hd; omega)
    refine (loop_step ?_).trans (opp_inner h hk ff v lA r (i + 1) (by omega))
    unfold layoutlaw42_CompactOpposite_B11
    simp only
    rw [ltI_t (by omega), cond_true, getI_of, hli, Option.bind_some, eqI_f (by omega), cond_false, add1 (by omega), remN, getI_of, hlx, Option.bind_some, xor1 (by omega)]
    have i1 : idxI (dirL k E.length).length (d : Int) = some d := idxI_of (by rw [dirL_len]; exact hd)
    have i2 : idxI (dirL k E.length).length ((nxN fw d : Nat) : Int) = some (nxN fw d) := idxI_of (by rw [dirL_len]; exact g2.2)
    have i3 : idxI (dirL k E.length).length ((oth d : Nat) : Int) = some (oth d) := idxI_of (by rw [dirL_len]; exact hod)
    simp only [i1, i2, i3, Option.bind_some, dirL_get hd, dirL_get g2.2, dirL_get hod, getI_of, gg]
    rw [ltI_f kd.1, cond_false, gtI_f (by omega), cond_false, addI64 (by omega) (by omega), e1, neI_f rfl, cond_false, addI64 (by omega) (by omega), e2, neI_f rfl, cond_false]
theorem opp_outer (h : ShapeOK N E A g B o nx) (hk : Dirs E.length (nxN fw) (gN g) k) (ff : Fol id E A fw) : ∀ (r v : Nat), v + r = N →
    layoutlaw42_CompactOpposite_L7 ((N : Int), E, A, g, B, o, dirL k E.length, (v : Int), ()) = some (.inr (.inl ()))
  | 0, v, hv => by
    refine loop_done ?_
    unfold layoutlaw42_CompactOpposite_B7
    simp only
    rw [ltI_f (by omega)]; rfl
  | r + 1, v, hv => by
    have hn16 := h.rot.n16
    have hvl : v < A.length := by have := h.rot.al; omega
    have gv := List.getElem?_eq_getElem hvl
    refine (loop_step ?_).trans (opp_outer h hk ff r (v + 1) (by omega))
    unfold layoutlaw42_CompactOpposite_B7
    simp only
    rw [ltI_t (by omega), cond_true, getI_of, gv, Option.bind_some]
    have := opp_inner h hk ff (v : Int) (List.getElem_mem hvl) A[v].length 0 (by omega)
    rw [show layoutlaw42_CompactOpposite_L11 ((N : Int), E, A, g, B, o, dirL k E.length, (v : Int), A[v], 0, ()) = _ from this]
    simp only [Option.bind_some, Sum.elim_inl, Sum.elim_inr]
    rw [add1 (by omega)]
end
theorem compactOpposite_law (N : Int) (E : List Arc) (A : List (List Int)) (g : List Int) (B : List ByteArray) (o : Int) (hA : ∀ l ∈ A, l.length ≤ 9223372036854775807) : layoutlaw42_CompactOpposite (((N, E, A, ()), g, B, o, ()), ()) = some (true, ()) := by
  obtain ⟨b0, s1, s2⟩ := small42 N E A g B o
  unfold layoutlaw42_CompactOpposite
  simp only
  rw [s1, awake42_true, Option.bind_some]
  cases b0 with
  | false => rfl
  | true =>
    simp only [Bool.not_true, cond_false]
    have hE := (s2 rfl).2.1
    obtain ⟨b, b1, _, hf, ht⟩ := directions_both N E A g B o hA
    obtain ⟨b', b1', _, _, hv⟩ := straight_both N E A g B o hA
    have hbb : b' = b := by rw [b1] at b1'; exact (congrArg Prod.fst (Option.some.inj b1')).symm
    subst hbb
    obtain ⟨bv, v1, v2, _⟩ := shape_valid_both N E A g B o hA
    rw [v2, Option.bind_some]
    cases bv with
    | false => rfl
    | true =>
      simp only [cond_true]
      rw [neI_f rfl, cond_false]
      obtain ⟨v, q1, q2⟩ := hv v2
      rw [q1, Option.bind_some]
      simp only
      by_cases hv0 : v = 0
      · rw [neI_f hv0, cond_false]
        obtain ⟨n, rfl, nx, fw, k, h, ff, hk, _, _, _, t1, _⟩ := ht (q2.1 hv0)
        have e2 : mulI .i64 2 (E.length : Nat) = ((2 * E.length : Nat) : Int) := by rw [mulI64 (by omega) (by omega)]; omega
        rw [t1, Option.bind_some]
        simp only
        rw [neI_f rfl, cond_false, e2, neI_f (by rw [dirL_len]), cond_false]
        rw [show layoutlaw42_CompactOpposite_L7 ((n : Int), E, A, g, B, o, dirL k E.length, 0, ()) = _ from opp_outer h hk ff n 0 (by omega)]
        rfl
      · rw [neI_t hv0]; rfl
theorem compactOpposite_plain (x : (tupTy (layoutlaw42_CompactOpposite_c.ins.map (·.2))).den) (h : WfIns layoutlaw42_CompactOpposite_c.ins x) : layoutlaw42_CompactOpposite x = some (true, ()) := by
  obtain ⟨⟨⟨N, E, A, u1⟩, g, B, o, u2⟩, u3⟩ := x
  exact compactOpposite_law N E A g B o (wf_lists h.1.1)
end Go.Vm

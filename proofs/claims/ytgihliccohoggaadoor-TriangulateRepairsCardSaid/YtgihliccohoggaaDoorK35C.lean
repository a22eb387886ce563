/-
  Corners that may be joined.
-/
import Derived.Test.YtgihliccohoggaaDoorK35B
import Derived.Test.YtgihliccohoggaaDoorK35M
import Derived.Test.YtgihliccohoggaaDoorK33H
set_option linter.unusedVariables false
set_option linter.unusedSimpArgs false
namespace Go.Vm
open Go.Proofs
set_option maxRecDepth 100000
attribute [local irreducible] loopFix
theorem edge_ok {N : Nat} {E : List Arc} {A : List (List Int)} {k j u v : Nat} (h : EdgeOK N E A k j u v) :
    insert_Edge (((N : Int), E, A, ()), (k : Int), (j : Int), ()) = some (((N : Int), E ++ [((u : Int), (v : Int), ())], insA A u v E.length k j, ()), 0, ()) := by
  have hm := h.m
  have hk := h.d2
  have hj := h.f2
  have hne := h.ne
  have hm1 := h.rot.m1
  have hal := h.rot.al
  have hn16 := h.rot.n16
  unfold insert_Edge
  dsimp only
  rw [valid_eq ((N : Int), E, A, ()) h.rot.lists, h.val, Option.bind_some]
  simp only [Bool.not_true, cond_false]
  have em : mulI .i64 2 (E.length : Nat) = ((2 * E.length : Nat) : Int) := by rw [mulI64 (by omega) (by omega)]; omega
  rw [em, ltI_f (by unfold minI; split <;> omega), cond_false, geI_f (by unfold maxI; split <;> omega), cond_false]
  rw [Tail_eq h.rot h.val h.rot.lists hk, Tail_eq h.rot h.val h.rot.lists hj, h.tu, h.tv]
  simp only [Option.bind_some]
  rw [eqI_f (by omega), cond_false]
  obtain ⟨nx, hn, _, hfs, a, ma, mb⟩ := h.face
  rw [ifaces_eq (facesOf nx) hfs h.rot.m1 (faces_val h.rot hn).1, Option.bind_some]
  dsimp only
  rw [marksOf_len, idxI_of hk, idxI_of hj]
  simp only [Option.bind_some, ma, mb]
  rw [neI_f rfl, cond_false, geI_f (by omega), cond_false]
  have hll : ∀ l ∈ A, l.length ≤ 65536 := fun l hl' => by have := h.rot.list_len hl'; omega
  rw [copied_eq _ _ _ (by omega) (by omega) (fun l hl' => by have := hll l hl'; omega)]
  simp only [Option.bind_some]
  have hu : u < A.length := by have := h.un; omega
  have hv2 : v < A.length := by have := h.vn; omega
  have hku : (k : Int) ∈ A[u] := h.rot.around hk h.tu (List.getElem?_eq_getElem hu)
  have hjv : (j : Int) ∈ A[v] := h.rot.around hj h.tv (List.getElem?_eq_getElem hv2)
  have lu := hll _ (List.getElem_mem hu)
  have lv := hll _ (List.getElem_mem hv2)
  have e3 : addI .i64 ((2 * E.length : Nat) : Int) 1 = ((2 * E.length + 1 : Nat) : Int) := by rw [addI64 (by omega) (by omega)]; omega
  rw [app_of (by simp; omega), idxI_of hu]
  simp only [Option.bind_some]
  rw [subL_eq hu, before_eq _ _ _ (h.rot.list_nodup (List.getElem_mem hu)) hku (by omega)]
  simp only [Option.bind_some, if_true]
  rw [List.length_set, idxI_of hv2]
  simp only [Option.bind_some]
  have hs : subL (A.set u (bef A[u] ((2 * E.length : Nat) : Int) (k : Int))) v = A[v] := by
    rw [subL_eq (by simpa using hv2), List.getElem_set_ne hne]
  rw [hs, e3, before_eq _ _ _ (h.rot.list_nodup (List.getElem_mem hv2)) hjv (by omega)]
  simp only [Option.bind_some, if_true]
  unfold insA; rw [subL_eq hu, subL_eq hv2]
def cor (f : List Int) (i : Nat) : Nat := (f.getD (i % f.length) 0).toNat
def goodB (E : List Arc) (f : List Int) (i : Nat) : Bool := neI (tl E (cor f i)) (tl E (cor f (i + 2))) && !joinedB E (tl E (cor f i)) (tl E (cor f (i + 2)))
section
variable {N : Nat} {E : List Arc} {A : List (List Int)} {nx : List Int}
theorem cor_nat {f : List Int} (hf : ∀ d ∈ f, ∃ k : Nat, d = (k : Int) ∧ k < 2 * E.length) (hne : 0 < f.length) (i : Nat) : f[i % f.length]? = some ((cor f i : Nat) : Int) ∧ cor f i < 2 * E.length ∧ ((cor f i : Nat) : Int) ∈ f := by
  have hm : i % f.length < f.length := Nat.mod_lt _ hne
  have g := List.getElem?_eq_getElem hm
  obtain ⟨k, e, hk⟩ := hf _ (List.getElem_mem hm)
  have hc : cor f i = k := by
    unfold cor
    rw [List.getD_eq_getElem?_getD, g, Option.getD_some, e]; rfl
  rw [hc, g, e]
  exact ⟨rfl, hk, e ▸ List.getElem_mem hm⟩
theorem corner_loop (h : RotOK (N : Nat) E A) {f : List Int} (hf : ∀ d ∈ f, ∃ k : Nat, d = (k : Int) ∧ k < 2 * E.length) (hl : f.length ≤ 100000) : ∀ (r i : Nat), i + r = f.length →
    (triangulate_corner_L4 ((N : Int), E, A, f, f, (f.length : Nat), (i : Int), ()) = some (.inr (.inl ())) ∧ ∀ t, i ≤ t → t < f.length → goodB E f t = false) ∨
    ∃ t, i ≤ t ∧ t < f.length ∧ goodB E f t = true ∧ triangulate_corner_L4 ((N : Int), E, A, f, f, (f.length : Nat), (i : Int), ()) = some (.inl ((t : Int), ()))
  | 0, i, hi => by
    refine .inl ⟨loop_done ?_, fun t h1 h2 => by omega⟩
    unfold triangulate_corner_B4
    simp only
    rw [ltI_f (by omega)]; rfl
  | r + 1, i, hi => by
    have hne : 0 < f.length := by omega
    have hv := h.validB
    have hm1 := h.m1
    obtain ⟨c1, c2, _⟩ := cor_nat (E := E) hf hne i
    obtain ⟨c3, c4, _⟩ := cor_nat (E := E) hf hne (i + 2)
    rw [Nat.mod_eq_of_lt (by omega : i < f.length)] at c1
    have e2 : addI .i64 (i : Int) 2 = ((i + 2 : Nat) : Int) := by rw [addI64 (by omega) (by omega)]; rfl
    have hstep : triangulate_corner_B4 ((N : Int), E, A, f, f, (f.length : Nat), (i : Int), ()) = cond (goodB E f i) (some (.inr (.inl ((i : Int), ())))) (some (.inl ((N : Int), E, A, f, f, (f.length : Nat), ((i + 1 : Nat) : Int), ()))) := by
      unfold triangulate_corner_B4
      simp only
      rw [ltI_t (by omega), cond_true, getI_of, c1, Option.bind_some, Tail_eq h hv h.lists c2, Option.bind_some, eqI_f (by omega), cond_false, e2, remN, getI_of, c3, Option.bind_some, Tail_eq h hv h.lists c4, Option.bind_some, joined_eq _ _ _ _ _ (by omega), add1 (by omega)]
      simp only [Option.bind_some]
      unfold goodB
      cases neI (tl E (cor f i)) (tl E (cor f (i + 2))) <;> cases joinedB E (tl E (cor f i)) (tl E (cor f (i + 2))) <;> rfl
    cases hg : goodB E f i with
    | true =>
      rw [hg, cond_true] at hstep
      exact .inr ⟨i, Nat.le_refl _, by omega, hg, loop_done hstep⟩
    | false =>
      rw [hg, cond_false] at hstep
      rcases corner_loop h hf hl r (i + 1) (by omega) with ⟨h1, h2⟩ | ⟨t, h1, h2, h3, h4⟩
      · refine .inl ⟨(loop_step hstep).trans h1, fun t q1 q2 => ?_⟩
        rcases Nat.eq_or_lt_of_le q1 with rfl | q1
        · exact hg
        · exact h2 t q1 q2
      · exact .inr ⟨t, by omega, h2, h3, (loop_step hstep).trans h4⟩
def Flat (E : List Arc) (f : List Int) : Prop := f.length = 3 ∨ ∀ t, t < f.length → goodB E f t = false
theorem corner_eq (h : RotOK (N : Nat) E A) {f : List Int} (hf : ∀ d ∈ f, ∃ k : Nat, d = (k : Int) ∧ k < 2 * E.length) (hl : f.length ≤ 100000) :
    (triangulate_corner (((N : Int), E, A, ()), f, ()) = some (-1, ()) ∧ Flat E f) ∨ ∃ t : Nat, t < f.length ∧ goodB E f t = true ∧ f.length ≠ 3 ∧ triangulate_corner (((N : Int), E, A, ()), f, ()) = some ((t : Int), ()) := by
  unfold triangulate_corner
  dsimp only
  by_cases h3 : f.length = 3
  · rw [eqI_t (by omega)]; exact .inl ⟨rfl, .inl h3⟩
  · rw [eqI_f (by omega), cond_false]
    rcases corner_loop h hf hl f.length 0 (by omega) with ⟨h1, h2⟩ | ⟨t, _, h2, h4, h5⟩
    · left
      rw [show ((0 : Int)) = ((0 : Nat) : Int) from rfl, h1]
      exact ⟨rfl, .inr fun t ht => h2 t (Nat.zero_le _) ht⟩
    · right
      rw [show ((0 : Int)) = ((0 : Nat) : Int) from rfl, h5]
      exact ⟨t, h2, h4, h3, rfl⟩
structure Tri (N : Nat) (E : List Arc) (A : List (List Int)) : Prop where
  rot : RotOK (N : Nat) E A
  three : 3 ≤ N
  conn : Conn N E
  simp : Simp E
  plane : ∀ nx, Fol oth E A nx → genZ N E A (facesOf nx).length = 0
theorem neI_iff {a b : Int} : neI a b = true ↔ a ≠ b := by simp [neI]
theorem Tri.edge (h : Tri N E A) (hn : Fol oth E A nx) (hm : E.length < 32768) {f : List Int} (hf : f ∈ facesOf nx) {t : Nat} (hg : goodB E f t = true) :
    ∃ u v : Nat, tl E (cor f t) = (u : Int) ∧ tl E (cor f (t + 2)) = (v : Int) ∧ joinedB E (u : Int) (v : Int) = false ∧ EdgeOK N E A (cor f t) (cor f (t + 2)) u v := by
  obtain ⟨hfs, _⟩ := facesOf_fs h.rot hn
  obtain ⟨hne, hel⟩ := hfs.elem f hf
  have hlen : 0 < f.length := List.length_pos_iff.2 hne
  obtain ⟨_, c2, c3⟩ := cor_nat (E := E) hel hlen t
  obtain ⟨_, d2, d3⟩ := cor_nat (E := E) hel hlen (t + 2)
  obtain ⟨u, hu, un⟩ := h.rot.tl_lt c2
  obtain ⟨v, hv, vn⟩ := h.rot.tl_lt d2
  unfold goodB at hg
  rw [hu, hv] at hg
  simp only [Bool.and_eq_true, Bool.not_eq_true'] at hg
  obtain ⟨g1, g2⟩ := hg
  have hne2 : u ≠ v := by have := neI_iff.1 g1; omega
  obtain ⟨j, hj⟩ := List.mem_iff_getElem?.1 hf
  exact ⟨u, v, hu, hv, g2, h.rot, h.rot.validB, c2, d2, hu, hv, un, vn, hne2, hm, nx, hn, Fol.nxOK h.rot hn, hfs, _, marksOf_at hfs hj c3, marksOf_at hfs hj d3⟩
theorem simp_more {u v : Int} (h : Simp E) (hj : joinedB E u v = false) : Simp (E ++ [(u, v, ())]) := by
  intro i b hb
  by_cases hi : i < E.length
  · rw [List.getElem?_append_left hi] at hb
    rw [List.take_append_of_le_length (by omega)]
    exact h i b hb
  · have : i = E.length := by
      have := (List.getElem?_eq_some_iff.1 hb).1
      simp at this
      omega
    subst this
    rw [List.getElem?_append_right (Nat.le_refl _)] at hb
    simp at hb
    subst hb
    rw [List.take_append_of_le_length (Nat.le_refl _), List.take_length]
    exact hj
theorem Tri.more {d f u v : Nat} (h : Tri N E A) (he : EdgeOK N E A d f u v) (hj : joinedB E (u : Int) (v : Int) = false) : Tri N (E ++ [((u : Int), (v : Int), ())]) (insA A u v E.length d f) := by
  refine ⟨he.rot', h.three, fun w hw => reach_more (h.conn w hw), simp_more h.simp hj, fun mx hmx => ?_⟩
  obtain ⟨nx, _, hn⟩ := follow_eq h.rot ()
  rw [he.genus hn hmx]
  exact h.plane nx hn
theorem Tri.few (h : Tri N E A) : E.length ≤ N * N := by
  have hed : ∀ i, i < E.length → ∃ a b : Nat, E[i]? = some ((a : Int), (b : Int), ()) ∧ a < N ∧ b < N := by
    intro i hi
    obtain ⟨q1, q2, q3, q4, _⟩ := h.rot.edge E[i] (List.getElem_mem hi)
    refine ⟨E[i].1.toNat, E[i].2.1.toNat, ?_, by omega, by omega⟩
    rw [List.getElem?_eq_getElem hi, Int.toNat_of_nonneg q1, Int.toNat_of_nonneg q3]
  refine pigeon (fun i => if hi : i < E.length then (hed i hi).choose * N + (hed i hi).choose_spec.choose else 0) (fun i hi => ?_) (fun i j hi hj e => ?_)
  · simp only [hi, dif_pos]
    obtain ⟨_, q2, q3⟩ := (hed i hi).choose_spec.choose_spec
    have : (hed i hi).choose * N + N ≤ N * N := by
      have := Nat.mul_le_mul_right N (Nat.succ_le_of_lt q2)
      rw [Nat.succ_mul] at this
      exact this
    omega
  · simp only [hi, hj, dif_pos] at e
    obtain ⟨p1, p2, p3⟩ := (hed i hi).choose_spec.choose_spec
    obtain ⟨q1, q2, q3⟩ := (hed j hj).choose_spec.choose_spec
    generalize (hed i hi).choose_spec.choose = b at p1 p2 p3 e
    generalize (hed j hj).choose_spec.choose = b' at q1 q2 q3 e
    generalize (hed i hi).choose = a at p1 p2 p3 e
    generalize (hed j hj).choose = a' at q1 q2 q3 e
    have hb : b = b' := by
      have h1 : (a * N + b) % N = b := by rw [Nat.mul_comm, Nat.mul_add_mod]; exact Nat.mod_eq_of_lt p3
      have h2 : (a' * N + b') % N = b' := by rw [Nat.mul_comm, Nat.mul_add_mod]; exact Nat.mod_eq_of_lt q3
      rw [e] at h1; omega
    subst hb
    have ha : a = a' := Nat.eq_of_mul_eq_mul_right (by have := h.three; omega : 0 < N) (by omega)
    subst ha
    have dup : ∀ x y : Nat, x < y → E[x]? = some ((a : Int), (b : Int), ()) → E[y]? = some ((a : Int), (b : Int), ()) → False := by
      intro x y hxy hx hy
      have := h.simp y _ hy
      unfold joinedB at this
      rw [List.any_eq_false] at this
      have hm : ((a : Int), (b : Int), ()) ∈ E.take y := List.mem_of_getElem? (i := x) (by rw [List.getElem?_take, if_pos hxy]; exact hx)
      have := this _ hm
      simp [jn, eqI] at this
    rcases Nat.lt_trichotomy i j with c | c | c
    · exact absurd (dup i j c p1 q1) id
    · exact c
    · exact absurd (dup j i c q1 p1) id
end
end Go.Vm

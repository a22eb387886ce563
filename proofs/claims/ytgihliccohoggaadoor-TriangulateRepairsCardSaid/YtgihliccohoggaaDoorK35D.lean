/-
  The run of the program.
-/
import Derived.Test.YtgihliccohoggaaDoorK35C
set_option linter.unusedVariables false
set_option linter.unusedSimpArgs false
namespace Go.Vm
open Go.Proofs
set_option maxRecDepth 100000
attribute [local irreducible] loopFix
structure Grown (E : List Arc) (A : List (List Int)) (E' : List Arc) (A' : List (List Int)) : Prop where
  edges : ∃ F, E' = E ++ F
  lists : A'.map (fun l => l.filter fun d => decide (d < ((2 * E.length : Nat) : Int))) = A
section
variable {N : Nat} {E : List Arc} {A : List (List Int)} {nx : List Int}
theorem small_filter {m : Nat} {l : List Int} (h : ∀ x ∈ l, x < (m : Int)) : l.filter (fun d => decide (d < (m : Int))) = l := by
  rw [List.filter_eq_self]
  intro x hx
  simpa using h x hx
theorem RotOK.small (h : RotOK (N : Nat) E A) : ∀ l ∈ A, ∀ x ∈ l, x < ((2 * E.length : Nat) : Int) := fun l hl x hx => by
  obtain ⟨k, e, hk⟩ := h.mem_of hl hx
  omega
theorem Grown.refl (h : RotOK (N : Nat) E A) : Grown E A E A := by
  refine ⟨⟨[], by simp⟩, ?_⟩
  conv => rhs; rw [← List.map_id A]
  exact List.map_congr_left fun l hl => small_filter (h.small l hl)
theorem bef_filter {m x f : Int} (hx : ¬ x < m) : ∀ {l : List Int}, (bef l x f).filter (fun d => decide (d < m)) = l.filter fun d => decide (d < m)
  | [] => rfl
  | a :: l => by
    have ih := bef_filter (f := f) hx (l := l)
    unfold bef at ih ⊢
    rw [List.flatMap_cons, List.filter_append, ih]
    split
    · simp [List.filter_cons, hx]
      split <;> rfl
    · simp [List.filter_cons]
      split <;> rfl
theorem Grown.more {E0 : List Arc} {A0 : List (List Int)} {d f u v : Nat} (h : Grown E0 A0 E A) (he : EdgeOK N E A d f u v) : Grown E0 A0 (E ++ [((u : Int), (v : Int), ())]) (insA A u v E.length d f) := by
  obtain ⟨F, hF⟩ := h.edges
  have hle : E0.length ≤ E.length := by rw [hF]; simp
  have hal := he.al
  have hu : u < A.length := by rw [hal]; exact he.un
  have hv : v < A.length := by rw [hal]; exact he.vn
  refine ⟨⟨F ++ [((u : Int), (v : Int), ())], by rw [hF, List.append_assoc]⟩, ?_⟩
  rw [← h.lists]
  refine List.ext_getElem? fun w => ?_
  rw [List.getElem?_map, List.getElem?_map, insA_get he.ne hu hv]
  split
  · rename_i e
    subst e
    rw [List.getElem?_eq_getElem hv, subL_eq hv, Option.map_some, Option.map_some, bef_filter (by omega)]
  · split
    · rename_i e
      subst e
      rw [List.getElem?_eq_getElem hu, subL_eq hu, Option.map_some, Option.map_some, bef_filter (by omega)]
    · rfl
theorem run_faces (h : Tri N E A) (hm : E.length < 32768) (hn : Fol oth E A nx) (ad : List Int) (hadl : ad.length ≤ 100000) {fs : List (List Int)} (hfs : fs = facesOf nx) : ∀ (r j : Nat), j + r = fs.length →
    (triangulate_Run_L10 (0, (N : Int), E, A, ad, fs, false, (fs.length : Nat), (j : Int), ()) = some (.inr (.inl (0, (N : Int), E, A, ad, false, ()))) ∧ ∀ t f, j ≤ t → fs[t]? = some f → Flat E f) ∨
    ∃ d f u v : Nat, EdgeOK N E A d f u v ∧ joinedB E (u : Int) (v : Int) = false ∧
      triangulate_Run_L10 (0, (N : Int), E, A, ad, fs, false, (fs.length : Nat), (j : Int), ()) = some (.inr (.inl (0, (N : Int), E ++ [((u : Int), (v : Int), ())], insA A u v E.length d f, ad ++ [((E.length : Nat) : Int)], true, ())))
  | 0, j, hj => by
    refine .inl ⟨loop_done ?_, fun t f h1 h2 => by have := (List.getElem?_eq_some_iff.1 h2).1; omega⟩
    unfold triangulate_Run_B10
    simp only
    rw [ltI_f (by omega)]; rfl
  | r + 1, j, hj => by
    have hlt : j < fs.length := by omega
    obtain ⟨f, hf⟩ : ∃ f, fs[j]? = some f := ⟨_, List.getElem?_eq_getElem hlt⟩
    have hfm : f ∈ facesOf nx := hfs ▸ List.mem_of_getElem? hf
    obtain ⟨hFs, _⟩ := facesOf_fs h.rot hn
    obtain ⟨hne, hel⟩ := hFs.elem f hfm
    have hlen : 0 < f.length := List.length_pos_iff.2 hne
    have hnum := hFs.num
    have hfl := hFs.flen (by omega) f hfm
    rcases corner_eq h.rot hel (by omega) with ⟨c1, c2⟩ | ⟨t, t1, t2, t3, t4⟩
    · have hs : triangulate_Run_B10 (0, (N : Int), E, A, ad, fs, false, (fs.length : Nat), (j : Int), ()) = some (.inl (0, (N : Int), E, A, ad, fs, false, (fs.length : Nat), ((j + 1 : Nat) : Int), ())) := by
        unfold triangulate_Run_B10
        simp only
        rw [ltI_t (by omega), cond_true, idxI_of hlt, Option.bind_some, hf, Option.bind_some, c1, Option.bind_some, ltI_t (by decide), cond_true, add1 (by rw [hfs] at hlt; omega)]
      rcases run_faces h hm hn ad hadl hfs r (j + 1) (by omega) with ⟨h1, h2⟩ | ⟨d, f', u, v, h1, h2, h3⟩
      · refine .inl ⟨(loop_step hs).trans h1, fun t f' q1 q2 => ?_⟩
        rcases Nat.eq_or_lt_of_le q1 with rfl | q1
        · rw [hf] at q2; cases q2; exact c2
        · exact h2 t f' q1 q2
      · exact .inr ⟨d, f', u, v, h1, h2, (loop_step hs).trans h3⟩
    · right
      obtain ⟨u, v, e1, e2, e3, e4⟩ := h.edge hn hm hfm t2
      obtain ⟨g1, _, _⟩ := cor_nat (E := E) hel hlen t
      obtain ⟨g2, _, _⟩ := cor_nat (E := E) hel hlen (t + 2)
      rw [Nat.mod_eq_of_lt t1] at g1
      have e5 : addI .i64 (t : Int) 2 = ((t + 2 : Nat) : Int) := by rw [addI64 (by omega) (by omega)]; rfl
      refine ⟨_, _, u, v, e4, e3, loop_done ?_⟩
      unfold triangulate_Run_B10
      simp only
      rw [ltI_t (by omega), cond_true, idxI_of hlt, Option.bind_some, hf, Option.bind_some, t4, Option.bind_some, ltI_f (by omega), cond_false, getI_of, g1, Option.bind_some, eqI_f (by omega), cond_false, e5, remN, getI_of, g2, Option.bind_some, edge_ok e4, Option.bind_some]
      simp only
      rw [neI_f rfl, cond_false, app_of (by simp; omega)]
      rfl
def nums (a b : Nat) : List Int := (List.range' a (b - a)).map fun k : Nat => (k : Int)
theorem nums_more {a b : Nat} (h : a ≤ b) : nums a (b + 1) = nums a b ++ [(b : Int)] := by
  unfold nums
  rw [show b + 1 - a = (b - a) + 1 by omega, List.range'_concat, List.map_append]
  simp
  omega
theorem nums_len {a b : Nat} : (nums a b).length = b - a := by simp [nums]
theorem run_loop (hN : N ≤ 100) {E0 : List Arc} {A0 : List (List Int)} : ∀ (k : Nat) (E : List Arc) (A : List (List Int)), N * N - E.length ≤ k → Tri N E A → Grown E0 A0 E A →
    ∃ E' A', triangulate_Run_L7 (0, (N : Int), E, A, nums E0.length E.length, true, ()) = some (.inr (.inl (0, (N : Int), E', A', nums E0.length E'.length, ()))) ∧ Tri N E' A' ∧ Grown E0 A0 E' A' ∧ ∀ nx, Fol oth E' A' nx → ∀ f ∈ facesOf nx, Flat E' f := by
  intro k
  induction k with
  | zero =>
    intro E A hk h hx
    have hNN : N * N ≤ 10000 := Nat.mul_le_mul hN hN
    have hfew := h.few
    obtain ⟨nx, _, hn⟩ := follow_eq h.rot ()
    rcases run_faces h (by omega) hn (nums E0.length E.length) (by rw [nums_len]; omega) rfl (facesOf nx).length 0 (by omega) with ⟨h1, h2⟩ | ⟨d, f, u, v, h1, h2, h3⟩
    · refine ⟨E, A, ?_, h, hx, fun mx hmx f hf => ?_⟩
      · refine (loop_step (t := (0, (N : Int), E, A, nums E0.length E.length, false, ())) ?_).trans (loop_done ?_)
        · unfold triangulate_Run_B7
          simp only [cond_true]
          rw [(faces_val h.rot hn).1, Option.bind_some]
          have h1' : triangulate_Run_L10 (0, (N : Int), E, A, nums E0.length E.length, facesOf nx, false, ((facesOf nx).length : Nat), 0, ()) = _ := h1
          simp only
          rw [h1']
          rfl
        · rfl
      · rw [fol_uniq h.rot hn hmx] at hf
        obtain ⟨t, ht⟩ := List.mem_iff_getElem?.1 hf
        exact h2 t f (Nat.zero_le _) ht
    · have := (h.more h1 h2).few
      simp at this
      omega
  | succ k ih =>
    intro E A hk h hx
    have hNN : N * N ≤ 10000 := Nat.mul_le_mul hN hN
    have hfew := h.few
    obtain ⟨nx, _, hn⟩ := follow_eq h.rot ()
    rcases run_faces h (by omega) hn (nums E0.length E.length) (by rw [nums_len]; omega) rfl (facesOf nx).length 0 (by omega) with ⟨h1, h2⟩ | ⟨d, f, u, v, h1, h2, h3⟩
    · refine ⟨E, A, ?_, h, hx, fun mx hmx f hf => ?_⟩
      · refine (loop_step (t := (0, (N : Int), E, A, nums E0.length E.length, false, ())) ?_).trans (loop_done ?_)
        · unfold triangulate_Run_B7
          simp only [cond_true]
          rw [(faces_val h.rot hn).1, Option.bind_some]
          have h1' : triangulate_Run_L10 (0, (N : Int), E, A, nums E0.length E.length, facesOf nx, false, ((facesOf nx).length : Nat), 0, ()) = _ := h1
          simp only
          rw [h1']
          rfl
        · rfl
      · rw [fol_uniq h.rot hn hmx] at hf
        obtain ⟨t, ht⟩ := List.mem_iff_getElem?.1 hf
        exact h2 t f (Nat.zero_le _) ht
    · obtain ⟨F, hF⟩ := hx.edges
      have hle : E0.length ≤ E.length := by rw [hF]; simp
      obtain ⟨E', A', q1, q2, q3, q4⟩ := ih (E ++ [((u : Int), (v : Int), ())]) (insA A u v E.length d f) (by simp; omega) (h.more h1 h2) (hx.more h1)
      refine ⟨E', A', (loop_step (t := (0, (N : Int), E ++ [((u : Int), (v : Int), ())], insA A u v E.length d f, nums E0.length (E ++ [((u : Int), (v : Int), ())]).length, true, ())) ?_).trans q1, q2, q3, q4⟩
      unfold triangulate_Run_B7
      simp only [cond_true]
      rw [(faces_val h.rot hn).1, Option.bind_some]
      have h3' : triangulate_Run_L10 (0, (N : Int), E, A, nums E0.length E.length, facesOf nx, false, ((facesOf nx).length : Nat), 0, ()) = _ := h3
      simp only
      rw [h3']
      simp only [Option.bind_some, Sum.elim_inr, Sum.elim_inl]
      rw [show (E ++ [((u : Int), (v : Int), ())]).length = E.length + 1 by simp, nums_more hle]
theorem map_rev (A : List (List Int)) : (A.map List.reverse).map List.reverse = A := by
  rw [List.map_map]
  conv => rhs; rw [← List.map_id A]
  exact List.map_congr_left fun l _ => List.reverse_reverse l
theorem run_eq (hN : N ≤ 100) (h : Tri N E A) (hc : triangulate_check (((N : Int), E, A, ()), ()) = some (0, ())) :
    ∃ E' A', triangulate_Run (((N : Int), E, A, ()), ()) = some (((N : Int), E', A', ()), nums E.length E'.length, 0, ()) ∧ Tri N E' A' ∧ Grown E A E' A' ∧ ∀ nx, Fol oth E' A' nx → ∀ f ∈ facesOf nx, Flat E' f := by
  obtain ⟨E', A', q1, q2, q3, q4⟩ := run_loop hN (E0 := E) (A0 := A) (N * N) E A (by omega) h (Grown.refl h.rot)
  refine ⟨E', A', ?_, q2, q3, q4⟩
  have hr := h.rot.mirror
  unfold triangulate_Run
  simp only
  rw [hc, Option.bind_some]
  simp only
  rw [neI_f rfl, cond_false, rot_mirror h.rot h.rot.validB h.rot.lists, Option.bind_some]
  simp only
  rw [rot_mirror hr hr.validB hr.lists, Option.bind_some, map_rev]
  have : nums E.length E.length = [] := by simp [nums]
  rw [this] at q1
  simp only
  rw [q1]
  rfl
end
end Go.Vm

/-
  The run of the reference; triangulated systems.
-/
import Derived.Test.YtgihliccohoggaaDoorK35D
set_option linter.unusedVariables false
set_option linter.unusedSimpArgs false
namespace Go.Vm
open Go.Proofs
set_option maxRecDepth 100000
attribute [local irreducible] loopFix

/-! ### The reference puts in an edge -/

def ins2 (m : Nat) (d f x : Int) : List Int := (if x = d then [((2 * m : Nat) : Int)] else []) ++ (if x = f then [((2 * m + 1 : Nat) : Int)] else []) ++ [x]

theorem rins_inner (N : Int) (E : List Arc) (A : List (List Int)) (z n : Int) (F : List Arc) (B : List (List Int)) (d f : Int) (m v : Nat) (l : List Int) (hl : A[v]? = some l) (hlen : l.length ≤ 1000000) (hm : m ≤ 1000000) :
    layoutref35_Insert_L11 (N, E, A, z, n, [], F, B, d, f, (m : Int), (v : Int), 0, ()) = some (.inl (N, E, A, z, n, l.flatMap (ins2 m d f), F, B, d, f, (m : Int), (v : Int), ())) := by
  have e1 : mulI .i64 2 (m : Int) = ((2 * m : Nat) : Int) := by rw [mulI64 (by omega) (by omega)]; omega
  have e2 : addI .i64 ((2 * m : Nat) : Int) 1 = ((2 * m + 1 : Nat) : Int) := by rw [addI64 (by omega) (by omega)]; omega
  have h := scanI (B := layoutref35_Insert_B11) (fun i (s : List Int) => s.length ≤ 3 * i) (fun s i => (N, E, A, z, n, s, F, B, d, f, (m : Int), (v : Int), (i : Int), ())) (fun s => .inl (N, E, A, z, n, s, F, B, d, f, (m : Int), (v : Int), ())) (fun (e : Empty) => e.elim)
    (fun i s (x : Int) => some (.inl (s ++ ins2 m d f x))) l (by
      intro s i x hs hx
      have hi : i < l.length := (List.getElem?_eq_some_iff.1 hx).1
      unfold layoutref35_Insert_B11
      simp only
      rw [getI_of, hl, Option.bind_some, ltI_t (by omega), cond_true, Option.bind_some, getI_of, hx, Option.bind_some, e1, e2]
      unfold ins2
      by_cases c1 : x = d
      · rw [eqI_t c1, cond_true, app_of (by simp; omega), Option.bind_some, if_pos c1]
        by_cases c2 : x = f
        · rw [eqI_t c2, cond_true, app_of (by simp; omega), Option.bind_some, app_of (by simp; omega), Option.bind_some, add1 (by omega), if_pos c2]
          simp
        · rw [eqI_f c2, cond_false, app_of (by simp; omega), Option.bind_some, add1 (by omega), if_neg c2]
          simp
      · rw [eqI_f c1, cond_false, if_neg c1]
        by_cases c2 : x = f
        · rw [eqI_t c2, cond_true, app_of (by simp; omega), Option.bind_some, app_of (by simp; omega), Option.bind_some, add1 (by omega), if_pos c2]
          simp
        · rw [eqI_f c2, cond_false, app_of (by simp; omega), Option.bind_some, add1 (by omega), if_neg c2]
          simp) (by
      intro s i x t hs hx ht
      simp only [Option.some.injEq, Sum.inl.injEq] at ht
      subst ht
      have : (ins2 m d f x).length ≤ 3 := by
        unfold ins2
        rw [List.length_append, List.length_append]
        split <;> split <;> simp
      rw [List.length_append]
      omega) (by
      intro s _
      unfold layoutref35_Insert_B11
      simp only
      rw [getI_of, hl, Option.bind_some, ltI_f (by omega)]; rfl) [] (by simp)
  have hf : ∀ (l : List Int) (i : Nat) (s : List Int), foldE (fun (_ : Nat) s (x : Int) => (some (.inl (s ++ ins2 m d f x)) : Option (List Int ⊕ Empty))) i s l = some (.inl (s ++ l.flatMap (ins2 m d f))) := by
    intro l
    induction l with
    | nil => intro i s; simp [foldE]
    | cons a l ih =>
      intro i s
      simp only [foldE, Option.bind_some, Sum.elim_inl]
      rw [ih]
      simp [List.flatMap_cons]
  unfold layoutref35_Insert_L11
  rw [show ((N, E, A, z, n, [], F, B, d, f, (m : Int), (v : Int), 0, ()) : Int × List Arc × List (List Int) × Int × Int × List Int × List Arc × List (List Int) × Int × Int × Int × Int × Int × Unit) = (N, E, A, z, n, [], F, B, d, f, (m : Int), (v : Int), ((0 : Nat) : Int), ()) from rfl, h, hf]
  rfl

section
variable {N : Nat} {E : List Arc} {A : List (List Int)} {nx : List Int} {d f u v : Nat}

theorem ins2_bef {m : Nat} {d f : Int} (hdf : d ≠ f) : ∀ {l : List Int}, (d ∉ l → l.flatMap (ins2 m d f) = bef l ((2 * m + 1 : Nat) : Int) f) ∧ (f ∉ l → l.flatMap (ins2 m d f) = bef l ((2 * m : Nat) : Int) d)
  | [] => ⟨fun _ => rfl, fun _ => rfl⟩
  | x :: l => by
    obtain ⟨i1, i2⟩ := ins2_bef hdf (m := m) (l := l)
    unfold bef at i1 i2 ⊢
    constructor
    · intro h
      have hx : x ≠ d := fun e => h (by simp [e])
      rw [List.flatMap_cons, List.flatMap_cons, i1 (fun hm => h (by simp [hm]))]
      unfold ins2
      rw [if_neg hx]
      split <;> simp
    · intro h
      have hx : x ≠ f := fun e => h (by simp [e])
      rw [List.flatMap_cons, List.flatMap_cons, i2 (fun hm => h (by simp [hm]))]
      unfold ins2
      rw [if_neg hx]
      split <;> simp

theorem EdgeOK.map2 (h : EdgeOK N E A d f u v) : A.map (fun l => l.flatMap (ins2 E.length d f)) = insA A u v E.length d f := by
  have hal := h.al
  have hu : u < A.length := by rw [hal]; exact h.un
  have hv : v < A.length := by rw [hal]; exact h.vn
  have hdf : (d : Int) ≠ f := by have := h.df; omega
  have hdv : ∀ {w : Nat} {l : List Int}, A[w]? = some l → w ≠ u → (d : Int) ∉ l := fun hl hw hm => by
    obtain ⟨k, e1, e2, e3⟩ := h.rot.dart _ _ hl _ hm
    have : k = d := by omega
    subst this
    have := h.tu
    omega
  have hfu : ∀ {w : Nat} {l : List Int}, A[w]? = some l → w ≠ v → (f : Int) ∉ l := fun hl hw hm => by
    obtain ⟨k, e1, e2, e3⟩ := h.rot.dart _ _ hl _ hm
    have : k = f := by omega
    subst this
    have := h.tv
    omega
  refine List.ext_getElem? fun w => ?_
  rw [List.getElem?_map, insA_get h.ne hu hv]
  split
  · rename_i e
    subst e
    rw [List.getElem?_eq_getElem hv, subL_eq hv, Option.map_some, (ins2_bef hdf).1 (hdv (List.getElem?_eq_getElem hv) (Ne.symm h.ne))]
  · rename_i e1
    split
    · rename_i e
      subst e
      rw [List.getElem?_eq_getElem hu, subL_eq hu, Option.map_some, (ins2_bef hdf).2 (hfu (List.getElem?_eq_getElem hu) h.ne)]
    · rename_i e2
      cases hw : A[w]? with
      | none => rfl
      | some l => rw [Option.map_some, (ins2_bef hdf).1 (hdv hw e2), bef_not _ _ _ (hfu hw e1)]

theorem rinsert_eq (h : EdgeOK N E A d f u v) : layoutref35_Insert (((N : Int), E, A, ()), (d : Int), (f : Int), ()) = some (((N : Int), E ++ [((u : Int), (v : Int), ())], insA A u v E.length d f, ()), ()) := by
  have hal := h.al
  have hm1 := h.rot.m1
  have hn16 := h.rot.n16
  have hd := h.d2
  have hf := h.f2
  unfold layoutref35_Insert
  simp only
  rw [tails_eq _ _ _ _ hm1, Option.bind_some, app_of (by simp; omega), Option.bind_some]
  simp only
  rw [idxI_of (by rw [tails_length]; exact hd), Option.bind_some, tails_get E d hd, Option.bind_some, idxI_of (by rw [tails_length]; exact hf), Option.bind_some, tails_get E f hf, Option.bind_some, h.tu, h.tv, app_of (by simp; omega), Option.bind_some, List.nil_append]
  have hs := scanI (B := layoutref35_Insert_B7) (fun i (s : List (List Int)) => s.length = i) (fun s i => (((A.length : Nat) : Int), E, A, 0, (N : Int), E ++ [((u : Int), (v : Int), ())], s, (d : Int), (f : Int), ((E.length : Nat) : Int), (i : Int), ())) (fun s => .inl (0, (N : Int), E ++ [((u : Int), (v : Int), ())], s, ())) (fun (e : Empty) => e.elim)
    (fun i s (l : List Int) => some (.inl (s ++ [l.flatMap (ins2 E.length d f)]))) A (by
      intro s i l hs hl
      have hi : i < A.length := (List.getElem?_eq_some_iff.1 hl).1
      have hll := h.rot.list_len (List.mem_of_getElem? hl)
      unfold layoutref35_Insert_B7
      simp only
      rw [ltI_t (by omega), cond_true, rins_inner _ _ _ _ _ _ _ _ _ _ _ l hl (by omega) (by omega)]
      simp only [Option.bind_some, Sum.elim_inl]
      rw [app_of (by simp; omega), Option.bind_some, add1 (by omega)]) (by
      intro s i l t hs hl ht
      simp only [Option.some.injEq, Sum.inl.injEq] at ht
      subst ht
      simp [hs]) (by
      intro s _
      unfold layoutref35_Insert_B7
      simp only
      rw [ltI_f (by omega)]; rfl) [] rfl
  rw [fold_app, List.nil_append, h.map2] at hs
  have hs' : layoutref35_Insert_L7 ((N : Int), E, A, 0, (N : Int), E ++ [((u : Int), (v : Int), ())], [], (d : Int), (f : Int), ((E.length : Nat) : Int), 0, ()) = some (.inl (0, (N : Int), E ++ [((u : Int), (v : Int), ())], insA A u v E.length d f, ())) := by
    rw [show (N : Int) = ((A.length : Nat) : Int) by omega] at hs ⊢
    exact hs
  rw [hs']
  rfl

/-! ### The reference looks for a chord -/

theorem chord_inner (h : Tri N E A) (hm : E.length < 32768) (hn : Fol oth E A nx) {fs : List (List Int)} (jx : Int) {g : List Int} (hg : g ∈ facesOf nx) : ∀ (r i : Nat), i + r = g.length →
    layoutref35_chord_L8 ((N : Int), E, A, 0, fs, tails E, jx, g, (i : Int), ()) = some (.inr (.inl ((N : Int), E, A, 0, fs, tails E, jx, ()))) ∨
    ∃ d f u v : Nat, EdgeOK N E A d f u v ∧ joinedB E (u : Int) (v : Int) = false ∧ layoutref35_chord_L8 ((N : Int), E, A, 0, fs, tails E, jx, g, (i : Int), ()) = some (.inl ((N : Int), E ++ [((u : Int), (v : Int), ())], insA A u v E.length d f, true, ()))
  | 0, i, hi => by
    left
    refine loop_done ?_
    unfold layoutref35_chord_B8
    simp only
    rw [ltI_f (by omega)]; rfl
  | r + 1, i, hi => by
    obtain ⟨hFs, _⟩ := facesOf_fs h.rot hn
    obtain ⟨hne, hel⟩ := hFs.elem g hg
    have hlen : 0 < g.length := List.length_pos_iff.2 hne
    have hfl := hFs.flen (by omega) g hg
    by_cases h3 : 3 < g.length
    · obtain ⟨c1, c2, _⟩ := cor_nat (E := E) hel hlen i
      obtain ⟨c3, c4, _⟩ := cor_nat (E := E) hel hlen (i + 2)
      rw [Nat.mod_eq_of_lt (by omega : i < g.length)] at c1
      have e2 : addI .i64 (i : Int) 2 = ((i + 2 : Nat) : Int) := by rw [addI64 (by omega) (by omega)]; rfl
      have t1 := tails_get E _ c2
      have t2 := tails_get E _ c4
      have htl := tails_length E
      cases hgd : goodB E g i with
      | true =>
        right
        obtain ⟨u, v, q1, q2, q3, q4⟩ := h.edge hn hm hg hgd
        refine ⟨_, _, u, v, q4, q3, loop_done ?_⟩
        unfold layoutref35_chord_B8
        simp only
        rw [ltI_t (by omega), cond_true, gtI_t (by omega), cond_true, getI_of, c1, Option.bind_some, eqI_f (by omega), cond_false, e2, remN, getI_of, c3, Option.bind_some, idxI_of (by omega), Option.bind_some, t1, Option.bind_some, idxI_of (by omega), Option.bind_some, t2, Option.bind_some, q1, q2]
        have hne2 := q4.ne
        rw [neI_t (by omega), cond_true, Option.bind_some, t1, Option.bind_some, Option.bind_some, t2, Option.bind_some, q1, q2, rjoined_eq _ _ _ _ _ (by omega), Option.bind_some, q3]
        simp only [Bool.not_false, cond_true]
        rw [rinsert_eq q4]; rfl
      | false =>
        have hs : layoutref35_chord_B8 ((N : Int), E, A, 0, fs, tails E, jx, g, (i : Int), ()) = some (.inl ((N : Int), E, A, 0, fs, tails E, jx, g, ((i + 1 : Nat) : Int), ())) := by
          unfold layoutref35_chord_B8
          simp only
          rw [ltI_t (by omega), cond_true, gtI_t (by omega), cond_true, getI_of, c1, Option.bind_some, eqI_f (by omega), cond_false, e2, remN, getI_of, c3, Option.bind_some, idxI_of (by omega), Option.bind_some, t1, Option.bind_some, idxI_of (by omega), Option.bind_some, t2, Option.bind_some, add1 (by omega)]
          unfold goodB at hgd
          cases hne2 : neI (tl E (cor g i)) (tl E (cor g (i + 2))) with
          | false => rfl
          | true =>
            rw [hne2] at hgd
            have hj : joinedB E (tl E (cor g i)) (tl E (cor g (i + 2))) = true := by simpa using hgd
            rw [cond_true, Option.bind_some, t1, Option.bind_some, Option.bind_some, t2, Option.bind_some, rjoined_eq _ _ _ _ _ (by omega), Option.bind_some, hj]
            rfl
        rcases chord_inner h hm hn jx hg r (i + 1) (by omega) with h1 | ⟨d, f, u, v, q1, q2, q3⟩
        · exact .inl ((loop_step hs).trans h1)
        · exact .inr ⟨d, f, u, v, q1, q2, (loop_step hs).trans q3⟩
    · left
      refine loop_done ?_
      unfold layoutref35_chord_B8
      simp only
      have : gtI (g.length : Nat) 3 = false := by simp [gtI]; omega
      rw [ltI_t (by omega), cond_true, this]; rfl

theorem chord_outer (h : Tri N E A) (hm : E.length < 32768) (hn : Fol oth E A nx) {fs : List (List Int)} (hfs : fs = facesOf nx) : ∀ (r j : Nat), j + r = fs.length →
    layoutref35_chord_L4 ((N : Int), E, A, 0, fs, tails E, (j : Int), ()) = some (.inr (.inl ((N : Int), E, A, 0, ()))) ∨
    ∃ d f u v : Nat, EdgeOK N E A d f u v ∧ joinedB E (u : Int) (v : Int) = false ∧ layoutref35_chord_L4 ((N : Int), E, A, 0, fs, tails E, (j : Int), ()) = some (.inl ((N : Int), E ++ [((u : Int), (v : Int), ())], insA A u v E.length d f, true, ()))
  | 0, j, hj => by
    left
    refine loop_done ?_
    unfold layoutref35_chord_B4
    simp only
    rw [ltI_f (by omega)]; rfl
  | r + 1, j, hj => by
    have hlt : j < fs.length := by omega
    obtain ⟨g, hg⟩ : ∃ g, fs[j]? = some g := ⟨_, List.getElem?_eq_getElem hlt⟩
    have hgm : g ∈ facesOf nx := hfs ▸ List.mem_of_getElem? hg
    have hnum := (facesOf_fs h.rot hn).1.num
    rw [← hfs] at hnum
    rcases chord_inner h hm hn (fs := fs) (j : Int) hgm g.length 0 (by omega) with h1 | ⟨d, f, u, v, q1, q2, q3⟩
    · have hs : layoutref35_chord_B4 ((N : Int), E, A, 0, fs, tails E, (j : Int), ()) = some (.inl ((N : Int), E, A, 0, fs, tails E, ((j + 1 : Nat) : Int), ())) := by
        unfold layoutref35_chord_B4
        simp only
        rw [ltI_t (by omega), cond_true, idxI_of hlt, Option.bind_some, hg, Option.bind_some]
        have h1' : layoutref35_chord_L8 ((N : Int), E, A, 0, fs, tails E, (j : Int), g, 0, ()) = _ := h1
        rw [h1']
        simp only [Option.bind_some, Sum.elim_inr, Sum.elim_inl]
        rw [add1 (by omega)]
      rcases chord_outer h hm hn hfs r (j + 1) (by omega) with h2 | ⟨d, f, u, v, q1, q2, q3⟩
      · exact .inl ((loop_step hs).trans h2)
      · exact .inr ⟨d, f, u, v, q1, q2, (loop_step hs).trans q3⟩
    · right
      refine ⟨d, f, u, v, q1, q2, loop_done ?_⟩
      unfold layoutref35_chord_B4
      simp only
      rw [ltI_t (by omega), cond_true, idxI_of hlt, Option.bind_some, hg, Option.bind_some]
      have h1' : layoutref35_chord_L8 ((N : Int), E, A, 0, fs, tails E, (j : Int), g, 0, ()) = _ := q3
      rw [h1']
      rfl

theorem chord_eq (h : Tri N E A) (hm : E.length < 32768) :
    layoutref35_chord (((N : Int), E, A, ()), ()) = some (((N : Int), E, A, ()), false, ()) ∨
    ∃ d f u v : Nat, EdgeOK N E A d f u v ∧ joinedB E (u : Int) (v : Int) = false ∧ layoutref35_chord (((N : Int), E, A, ()), ()) = some (((N : Int), E ++ [((u : Int), (v : Int), ())], insA A u v E.length d f, ()), true, ()) := by
  obtain ⟨nx, _, hn⟩ := follow_eq h.rot ()
  unfold layoutref35_chord
  simp only
  rw [(faces_val h.rot hn).2, Option.bind_some, tails_eq _ _ _ _ h.rot.m1, Option.bind_some]
  simp only
  rcases chord_outer h hm hn rfl (facesOf nx).length 0 (by omega) with h1 | ⟨d, f, u, v, q1, q2, q3⟩
  · left
    rw [show layoutref35_chord_L4 ((N : Int), E, A, 0, facesOf nx, tails E, 0, ()) = _ from h1]
    rfl
  · right
    refine ⟨d, f, u, v, q1, q2, ?_⟩
    rw [show layoutref35_chord_L4 ((N : Int), E, A, 0, facesOf nx, tails E, 0, ()) = _ from q3]
    rfl

/-! ### The run of the reference -/

theorem rrun_loop (hN : N ≤ 100) : ∀ (k : Nat) (E Ep : List Arc) (A Ap : List (List Int)) (ad : List Int), N * N + 1 - E.length ≤ k → Tri N E A → ad.length ≤ E.length →
    ∃ x, layoutref35_Run_L11 (0, (N : Int), Ep, Ap, ad, (N : Int), E, A, true, ()) = some (.inl x) := by
  intro k
  induction k with
  | zero => intro E Ep A Ap ad hk h _; have := h.few; omega
  | succ k ih =>
    intro E Ep A Ap ad hk h had
    have hNN : N * N ≤ 10000 := Nat.mul_le_mul hN hN
    have hfew := h.few
    have happ : ∀ y : Int, app ad [y] = some (ad ++ [y]) := fun y => app_of (by simp; omega)
    rcases chord_eq h (by omega) with h1 | ⟨d, f, u, v, q1, q2, q3⟩
    · refine ⟨(0, (N : Int), E, A, ad ++ [subI .i64 (E.length : Nat) 1], ()), (loop_step (t := (0, (N : Int), E, A, ad ++ [subI .i64 (E.length : Nat) 1], (N : Int), E, A, false, ())) ?_).trans (loop_done ?_)⟩
      · unfold layoutref35_Run_B11
        simp only [cond_true]
        rw [happ, Option.bind_some, h1]; rfl
      · rfl
    · obtain ⟨x, hx⟩ := ih (E ++ [((u : Int), (v : Int), ())]) E (insA A u v E.length d f) A (ad ++ [subI .i64 (E.length : Nat) 1]) (by simp; omega) (h.more q1 q2) (by simp; omega)
      refine ⟨x, (loop_step ?_).trans hx⟩
      unfold layoutref35_Run_B11
      simp only [cond_true]
      rw [happ, Option.bind_some, q3]; rfl

theorem rrun_eq (hN : N ≤ 100) (h : Tri N E A) (hc : layoutref35_check (((N : Int), E, A, ()), ()) = some (0, ())) : ∃ s l, layoutref35_Run (((N : Int), E, A, ()), ()) = some (s, l, 0, ()) := by
  have hal := h.rot.al
  have hm1 := h.rot.m1
  have hn16 := h.rot.n16
  have hNN : N * N ≤ 10000 := Nat.mul_le_mul hN hN
  have hfew := h.few
  unfold layoutref35_Run
  simp only
  rw [hc, Option.bind_some]
  simp only
  rw [neI_f rfl, cond_false, app_of (by simp; omega), Option.bind_some, List.nil_append]
  have hs := scanI (B := layoutref35_Run_B6) (fun i (s : List (List Int)) => s.length = i) (fun s i => (((A.length : Nat) : Int), E, A, 0, (N : Int), E, s, (i : Int), ())) (fun s => .inl (0, (N : Int), E, s, ())) (fun (e : Empty) => e.elim)
    (fun i s (l : List Int) => some (.inl (s ++ [id l]))) A (by
      intro s i l hs hl
      have hi : i < A.length := (List.getElem?_eq_some_iff.1 hl).1
      have hll := h.rot.list_len (List.mem_of_getElem? hl)
      unfold layoutref35_Run_B6
      simp only
      rw [ltI_t (by omega), cond_true, getI_of, hl, Option.bind_some, app_of (by simp; omega), Option.bind_some, app_of (by simp; omega), Option.bind_some, add1 (by omega)]
      rfl) (by
      intro s i l t hs hl ht
      simp only [Option.some.injEq, Sum.inl.injEq] at ht
      subst ht
      simp [hs]) (by
      intro s _
      unfold layoutref35_Run_B6
      simp only
      rw [ltI_f (by omega)]; rfl) [] rfl
  rw [fold_app, List.nil_append, List.map_id] at hs
  have hs' : layoutref35_Run_L6 ((N : Int), E, A, 0, (N : Int), E, [], 0, ()) = some (.inl (0, (N : Int), E, A, ())) := by
    rw [show (N : Int) = ((A.length : Nat) : Int) by omega] at hs ⊢
    exact hs
  rw [hs']
  simp only [Option.bind_some, Sum.elim_inl]
  rcases chord_eq h (by omega) with h1 | ⟨d, f, u, v, q1, q2, q3⟩
  · rw [h1]
    simp only [Option.bind_some]
    have : layoutref35_Run_L11 (0, (N : Int), E, A, [], (N : Int), E, A, false, ()) = some (.inl (0, (N : Int), E, A, [], ())) := loop_done rfl
    rw [this]
    exact ⟨_, _, rfl⟩
  · rw [q3]
    simp only [Option.bind_some]
    obtain ⟨x, hx⟩ := rrun_loop hN (N * N + 1) (E ++ [((u : Int), (v : Int), ())]) E (insA A u v E.length d f) A [] (by omega) (h.more q1 q2) (by simp)
    rw [hx]
    exact ⟨_, _, rfl⟩

/-! ### All faces triangles -/

theorem tri_both (N : Int) (E : List Arc) (A : List (List Int)) (hl : ∀ l ∈ A, l.length ≤ 9223372036854775807) : ∃ b, triangulate_Triangulated ((N, E, A, ()), ()) = some (b, ()) ∧ layoutref35_Triangulated ((N, E, A, ()), ()) = some (b, ()) ∧
    (b = true ↔ triangulate_check ((N, E, A, ()), ()) = some (0, ()) ∧ ∀ nx, Fol oth E A nx → ∀ f ∈ facesOf nx, f.length = 3) := by
  obtain ⟨e, c1, c2, c3⟩ := check35 N E A hl
  unfold triangulate_Triangulated layoutref35_Triangulated
  simp only
  rw [c1, c2, Option.bind_some, Option.bind_some]
  simp only
  by_cases he : e = 0
  · subst he
    obtain ⟨n, rfl, h, _⟩ := c3 rfl
    obtain ⟨nx, _, hn⟩ := follow_eq h ()
    have hnum := (facesOf_fs h hn).1.num
    have hm1 := h.m1
    rw [neI_f rfl, cond_false, cond_false, (faces_val h hn).1, (faces_val h hn).2, Option.bind_some, Option.bind_some]
    simp only
    have k1 := scan (B := triangulate_Triangulated_B4) (fun (_ : Unit) i => (facesOf nx, (((facesOf nx).length : Nat) : Int), (i : Int), ())) (fun _ => .inr (.inl ())) (fun (_ : Unit) => .inl (false, ()))
      (fun _ (_ : Unit) (f : List Int) => some (cond (neI (f.length : Nat) 3) (.inr ()) (.inl ()))) (facesOf nx) (by
        intro _ i f hf
        have hi : i < (facesOf nx).length := (List.getElem?_eq_some_iff.1 hf).1
        unfold triangulate_Triangulated_B4
        simp only
        rw [ltI_t (by omega), cond_true, idxI_of hi, Option.bind_some, hf, Option.bind_some, add1 (by omega)]
        cases neI (f.length : Nat) 3 <;> rfl) (by
        intro _
        unfold triangulate_Triangulated_B4
        simp only
        rw [ltI_f (by omega)]; rfl) ()
    have k2 := scan (B := layoutref35_Triangulated_B5) (fun (_ : Unit) i => (facesOf nx, (i : Int), ())) (fun _ => .inr (.inl ())) (fun (_ : Unit) => .inl (false, ()))
      (fun _ (_ : Unit) (f : List Int) => some (cond (neI (f.length : Nat) 3) (.inr ()) (.inl ()))) (facesOf nx) (by
        intro _ i f hf
        have hi : i < (facesOf nx).length := (List.getElem?_eq_some_iff.1 hf).1
        unfold layoutref35_Triangulated_B5
        simp only
        rw [ltI_t (by omega), cond_true, idxI_of hi, Option.bind_some, hf, Option.bind_some, add1 (by omega)]
        cases neI (f.length : Nat) 3 <;> rfl) (by
        intro _
        unfold layoutref35_Triangulated_B5
        simp only
        rw [ltI_f (by omega)]; rfl) ()
    rw [any_val] at k1 k2
    rw [show triangulate_Triangulated_L4 (facesOf nx, ((facesOf nx).length : Nat), 0, ()) = _ from k1, show layoutref35_Triangulated_L5 (facesOf nx, 0, ()) = _ from k2]
    cases ha : (facesOf nx).any fun f => neI (f.length : Nat) 3 with
    | true =>
      refine ⟨false, rfl, rfl, ?_⟩
      simp only [Bool.false_eq_true, false_iff]
      rintro ⟨_, h2⟩
      obtain ⟨f, hf, hb⟩ := List.any_eq_true.1 ha
      have := h2 nx hn f hf
      rw [neI_f (by omega)] at hb; cases hb
    | false =>
      refine ⟨true, rfl, rfl, ?_⟩
      simp only [true_iff]
      refine ⟨trivial, fun mx hmx f hf => ?_⟩
      rw [fol_uniq h hn hmx] at hf
      rw [List.any_eq_false] at ha
      have := ha f hf
      simp [neI] at this
      omega
  · rw [neI_t he]
    refine ⟨false, rfl, rfl, ?_⟩
    simp only [Bool.false_eq_true, false_iff]
    rintro ⟨h1, _⟩
    have := Option.some.inj h1
    exact he (by simpa using this)
end
end Go.Vm

/-
  At, in the program and in the reference.
-/
import Derived.Test.YtkedmhafnkafdaaDoorM32C
set_option linter.unusedVariables false
set_option linter.unusedSimpArgs false
namespace Go.Vm
open Go.Proofs
set_option maxRecDepth 100000
attribute [local irreducible] loopFix

/-! ### Sorted lists -/

theorem sorted_uniq : ∀ {a b : List Int}, a.Pairwise (· < ·) → b.Pairwise (· < ·) → (∀ x, x ∈ a ↔ x ∈ b) → a = b
  | [], [], _, _, _ => rfl
  | [], y :: b, _, _, h => by have := (h y).2 (by simp); simp at this
  | x :: a, [], _, _, h => by have := (h x).1 (by simp); simp at this
  | x :: a, y :: b, h1, h2, h => by
    obtain ⟨p1, p2⟩ := List.pairwise_cons.1 h1
    obtain ⟨q1, q2⟩ := List.pairwise_cons.1 h2
    have hxy : x = y := by
      rcases List.mem_cons.1 ((h x).1 (by simp)) with e | e
      · exact e
      · rcases List.mem_cons.1 ((h y).2 (by simp)) with e' | e'
        · exact e'.symm
        · have := q1 x e; have := p1 y e'; omega
    subst hxy
    congr 1
    refine sorted_uniq p2 q2 fun z => ⟨fun hz => ?_, fun hz => ?_⟩
    · rcases List.mem_cons.1 ((h z).1 (by simp [hz])) with rfl | e
      · have := p1 z hz; omega
      · exact e
    · rcases List.mem_cons.1 ((h z).2 (by simp [hz])) with rfl | e
      · have := q1 z hz; omega
      · exact e

theorem compact_sorted {zs : List Int} (h : zs.Pairwise (· ≤ ·)) : (Lib.compact zs).Pairwise (· < ·) ∧ ∀ x, x ∈ Lib.compact zs ↔ x ∈ zs := by
  have hget : ∀ i, i < zs.length → zs.toArray[i]! = zs.getD i 0 := by
    intro i hi
    rw [getElem!_pos _ _ (by simpa using hi)]
    simp [hi]
  have hle : ∀ i j, i ≤ j → j < zs.length → zs.getD i 0 ≤ zs.getD j 0 := by
    intro i j hij hj
    rcases Nat.lt_or_ge i j with h1 | h1
    · have := List.pairwise_iff_getElem.1 h i j (by omega) hj h1
      simpa [List.getD_eq_getElem?_getD, hj, show i < zs.length by omega] using this
    · have : i = j := by omega
      rw [this]; exact Int.le_refl _
  unfold Lib.compact Lib.compactUpTo
  refine ⟨?_, fun x => ⟨fun hx => ?_, fun hx => ?_⟩⟩
  · refine List.pairwise_map.2 (List.Pairwise.imp_of_mem (fun {i j} hi hj hij => ?_) (List.Pairwise.filter _ List.pairwise_lt_range))
    obtain ⟨hj1, hj2⟩ := List.mem_filter.1 hj
    have hj1 := List.mem_range.1 hj1
    unfold Lib.keeps at hj2
    simp only [decide_eq_true_eq] at hj2
    rcases hj2 with hj2 | hj2
    · omega
    · rw [hget _ (by omega), hget _ (by omega)] at hj2
      rw [hget _ (by omega), hget _ (by omega)]
      have a1 := hle i (j - 1) (by omega) (by omega)
      have a2 := hle (j - 1) j (by omega) (by omega)
      omega
  · obtain ⟨i, hi, rfl⟩ := List.mem_map.1 hx
    have hi := List.mem_range.1 (List.mem_filter.1 hi).1
    rw [hget i hi]
    rw [List.getD_eq_getElem?_getD, List.getElem?_eq_getElem hi]
    exact List.getElem_mem hi
  · obtain ⟨k, hk, rfl⟩ := List.getElem_of_mem hx
    have key : ∀ k, k < zs.length → ∃ j, j < zs.length ∧ Lib.keeps zs.toArray j = true ∧ zs.getD j 0 = zs.getD k 0 := by
      intro k
      induction k with
      | zero => intro hk; exact ⟨0, hk, by simp [Lib.keeps], rfl⟩
      | succ k ih =>
        intro hk
        by_cases e : zs.getD (k + 1) 0 = zs.getD k 0
        · obtain ⟨j, j1, j2, j3⟩ := ih (by omega)
          exact ⟨j, j1, j2, j3.trans e.symm⟩
        · refine ⟨k + 1, hk, ?_, rfl⟩
          unfold Lib.keeps
          simp only [decide_eq_true_eq]
          right
          rw [hget _ hk, hget _ (by omega)]
          simpa using e
    obtain ⟨j, j1, j2, j3⟩ := key k hk
    refine List.mem_map.2 ⟨j, List.mem_filter.2 ⟨List.mem_range.2 j1, j2⟩, ?_⟩
    rw [hget j j1, j3, List.getD_eq_getElem?_getD, List.getElem?_eq_getElem hk]
    rfl

/-! ### The faces around a vertex, in the program -/

def facesAt (m l : List Int) : List Int := l.map fun d => mk2 m d.toNat
def aroundL (m l : List Int) : List Int := Lib.compact (isortI (cond (l.isEmpty) [0] (facesAt m l)))
theorem around_sorted (m l : List Int) : (aroundL m l).Pairwise (· < ·) ∧ ∀ x, x ∈ aroundL m l ↔ x ∈ cond (l.isEmpty) [0] (facesAt m l) := by
  obtain ⟨h1, h2⟩ := compact_sorted (isortI_sorted (cond (l.isEmpty) [0] (facesAt m l)))
  exact ⟨h1, fun x => (h2 x).trans (isortI_perm _).mem_iff⟩

theorem fa_fold (m : List Int) : ∀ (l : List Int) (i : Nat) (out : List Int), foldE (fun _ out (d : Int) => some (.inl (out ++ [mk2 m d.toNat]) : List Int ⊕ Empty)) i out l = some (.inl (out ++ facesAt m l))
  | [], i, out => by simp [foldE, facesAt]
  | d :: l, i, out => by
    simp only [foldE, Option.bind_some, Sum.elim_inl]
    rw [fa_fold m l (i + 1)]
    simp [facesAt]

theorem around_eq (N : Int) (E : List Arc) (A : List (List Int)) (m l : List Int) (v : Nat) (hv : A[v]? = some l) (hd : ∀ d ∈ l, ∃ k : Nat, d = (k : Int) ∧ k < m.length) (hl : l.length ≤ 100000) :
    dual_around ((N, E, A, ()), m, (v : Int), ()) = some (aroundL m l, ()) := by
  unfold dual_around
  simp only
  rw [getI_of, hv, Option.bind_some]
  have := scanI (B := dual_around_B3) (fun i (s : List Int) => s.length = i) (fun s j => (s, m, l, ((l.length : Nat) : Int), (j : Int), ())) (fun s => .inl (s, ())) (fun (e : Empty) => e.elim)
    (fun _ s (d : Int) => some (.inl (s ++ [mk2 m d.toNat]))) l (by
      intro s j d hs hdj
      have hj : j < l.length := (List.getElem?_eq_some_iff.1 hdj).1
      obtain ⟨k, rfl, hk⟩ := hd d (List.mem_of_getElem? hdj)
      unfold dual_around_B3
      simp only
      rw [ltI_t (by omega), cond_true, getI_of, hdj, Option.bind_some, getI_of, List.getElem?_eq_getElem hk, Option.bind_some, app_of (by simp; omega), Option.bind_some, add1 (by omega)]
      simp [mk2, hk]) (by
      intro s j d t hs _ ht
      simp only [Option.some.injEq, Sum.inl.injEq] at ht
      subst ht
      simp [hs]) (by
      intro s _
      unfold dual_around_B3
      simp only
      rw [ltI_f (by omega)]; rfl) [] rfl
  unfold dual_around_L3
  rw [show (([], m, l, ((l.length : Nat) : Int), 0, ()) : List Int × List Int × List Int × Int × Int × Unit) = ([], m, l, ((l.length : Nat) : Int), ((0 : Nat) : Int), ()) from rfl, this, fa_fold]
  have hsort : ∀ z : List Int, z.length ≤ 68719476736 → slices_Sort_int (z, ()) = some (isortI z, ()) := by
    intro z hz
    show (if z.length ≤ lim then some (isortI z, ()) else none) = _
    rw [if_pos (by rw [lim_val]; exact hz)]
  have hcomp : ∀ z : List Int, z.length ≤ 68719476736 → slices_Compact_int (z, ()) = some (Lib.compact z, ()) := by
    intro z hz
    show (if z.length ≤ lim then some (Lib.compact z, ()) else none) = _
    rw [if_pos (by rw [lim_val]; exact hz)]
  simp only [List.nil_append, Option.bind_some, Sum.elim_inl]
  unfold aroundL
  have hfl : (facesAt m l).length = l.length := by simp [facesAt]
  cases l with
  | nil =>
    rw [eqI_t (by rfl), cond_true, hsort _ (by simp), Option.bind_some, hcomp _ (by rw [(isortI_perm _).length_eq]; simp)]
    rfl
  | cons d l =>
    rw [eqI_f (by rw [hfl]; simp; omega), cond_false, hsort _ (by rw [hfl]; omega), Option.bind_some, hcomp _ (by rw [(isortI_perm _).length_eq, hfl]; omega)]
    rfl

/-! ### .. and in the reference -/

def setT (m : List Int) (out : List Bool) (l : List Int) : List Bool := l.foldl (fun o d => o.set (mk2 m d.toNat).toNat true) out
theorem setT_len (m : List Int) : ∀ (l : List Int) (out : List Bool), (setT m out l).length = out.length
  | [], _ => rfl
  | d :: l, out => by
    show (setT m (out.set _ true) l).length = _
    rw [setT_len m l]; simp
theorem setT_at (m : List Int) {f : Nat} : ∀ (l : List Int) (out : List Bool), f < out.length → ((setT m out l)[f]? = some true ↔ out[f]? = some true ∨ ∃ d ∈ l, (mk2 m d.toNat).toNat = f)
  | [], _, _ => by simp [setT]
  | d :: l, out, hf => by
    show (setT m (out.set _ true) l)[f]? = some true ↔ _
    rw [setT_at m l _ (by simpa using hf), List.getElem?_set]
    constructor
    · rintro (h | ⟨e, he, h⟩)
      · split at h
        · rename_i e; exact .inr ⟨d, by simp, e⟩
        · exact .inl h
      · exact .inr ⟨e, by simp [he], h⟩
    · rintro (h | ⟨e, he, h⟩)
      · left
        split
        · simp_all
        · exact h
      · rcases List.mem_cons.1 he with rfl | he
        · left
          rw [if_pos h]
          simp_all
        · exact .inr ⟨e, he, h⟩
theorem setT_fold (m : List Int) : ∀ (l : List Int) (i : Nat) (out : List Bool), foldE (fun _ out (d : Int) => some (.inl (out.set (mk2 m d.toNat).toNat true) : List Bool ⊕ Empty)) i out l = some (.inl (setT m out l))
  | [], _, _ => rfl
  | d :: l, i, out => by
    simp only [foldE, Option.bind_some, Sum.elim_inl]
    exact setT_fold m l (i + 1) _

theorem raround_eq (N : Int) (E : List Arc) (A : List (List Int)) (m l : List Int) (arcs : List Arc) (v n : Nat) (hv : A[v]? = some l) (hn : 0 < n) (hn2 : n ≤ 100000) (hd : ∀ d ∈ l, ∃ k : Nat, d = (k : Int) ∧ k < m.length ∧ ∃ j : Nat, m[k]? = some (j : Int) ∧ j < n) (hl : l.length ≤ 100000)
    (hm : layoutref32_Marks ((N, E, A, ()), ()) = some (m, ())) :
    layoutref32_around ((N, E, A, ()), ((n : Int), arcs, ()), (v : Int), ()) = some (setT m ((List.replicate n false).set 0 (decide (E = []))) l, ()) := by
  unfold layoutref32_around
  simp only
  rw [hm, Option.bind_some, makeL_of (Nat.le_refl _) (by omega), Option.bind_some]
  have e1 : idxI (List.replicate n (zeroVal Ty.bool)).length 0 = some 0 := idxI_of (i := 0) (by simpa using hn)
  have e2 : (List.replicate n (zeroVal Ty.bool))[0]? = some (zeroVal Ty.bool) := by rw [List.getElem?_replicate, if_pos hn]
  have e3 : eqI (E.length : Nat) 0 = decide (E = []) := by
    unfold eqI
    cases E with
    | nil => rfl
    | cons a E => simp; omega
  rw [e1, Option.bind_some, e2, Option.bind_some, e3]
  have := scanI (B := layoutref32_around_B5) (fun _ (s : List Bool) => s.length = n) (fun s j => (N, E, A, m, s, (v : Int), (j : Int), ())) (fun s => .inl (s, ())) (fun (e : Empty) => e.elim)
    (fun _ s (d : Int) => some (.inl (s.set (mk2 m d.toNat).toNat true))) l (by
      intro s j d hs hdj
      have hj : j < l.length := (List.getElem?_eq_some_iff.1 hdj).1
      obtain ⟨k, rfl, hk, x, hx, hxn⟩ := hd d (List.mem_of_getElem? hdj)
      have hxs : x < s.length := by omega
      unfold layoutref32_around_B5
      simp only
      rw [getI_of, hv, Option.bind_some, ltI_t (by omega), cond_true, Option.bind_some, getI_of, hdj, Option.bind_some, idxI_of hk, Option.bind_some, hx, Option.bind_some, idxI_of hxs, Option.bind_some, List.getElem?_eq_getElem hxs, Option.bind_some, add1 (by omega)]
      simp [mk2, hx]) (by
      intro s j d t hs _ ht
      simp only [Option.some.injEq, Sum.inl.injEq] at ht
      subst ht
      simpa using hs) (by
      intro s _
      unfold layoutref32_around_B5
      simp only
      rw [getI_of, hv, Option.bind_some, ltI_f (by omega)]; rfl) ((List.replicate n false).set 0 (decide (E = []))) (by simp)
  unfold layoutref32_around_L5
  rw [show ((N, E, A, m, (List.replicate n (zeroVal Ty.bool)).set 0 (decide (E = [])), (v : Int), 0, ()) : Int × List Arc × List (List Int) × List Int × List Bool × Int × Int × Unit) = (N, E, A, m, (List.replicate n false).set 0 (decide (E = [])), (v : Int), ((0 : Nat) : Int), ()) from rfl, this, setT_fold]
  rfl

def listT : Nat → List Bool → List Int
  | _, [] => []
  | i, b :: bs => cond b ((i : Int) :: listT (i + 1) bs) (listT (i + 1) bs)
theorem listT_mem : ∀ {bs : List Bool} {i : Nat} {x : Int}, x ∈ listT i bs ↔ ∃ j : Nat, bs[j]? = some true ∧ x = ((i + j : Nat) : Int)
  | [], i, x => by simp [listT]
  | b :: bs, i, x => by
    have ih := listT_mem (bs := bs) (i := i + 1) (x := x)
    unfold listT
    constructor
    · intro h
      cases b with
      | true =>
        rcases List.mem_cons.1 h with rfl | h
        · exact ⟨0, rfl, rfl⟩
        · obtain ⟨j, h1, h2⟩ := ih.1 h
          exact ⟨j + 1, by simpa using h1, by rw [h2]; congr 1; omega⟩
      | false =>
        obtain ⟨j, h1, h2⟩ := ih.1 h
        exact ⟨j + 1, by simpa using h1, by rw [h2]; congr 1; omega⟩
    · rintro ⟨j, h1, h2⟩
      cases j with
      | zero =>
        simp at h1
        subst h1
        rw [cond_true, h2]; simp
      | succ j =>
        have : x ∈ listT (i + 1) bs := ih.2 ⟨j, by simpa using h1, by rw [h2]; congr 1; omega⟩
        cases b with
        | true => rw [cond_true]; exact List.mem_cons_of_mem _ this
        | false => exact this
theorem listT_sorted : ∀ (bs : List Bool) (i : Nat), (listT i bs).Pairwise (· < ·)
  | [], _ => .nil
  | b :: bs, i => by
    unfold listT
    cases b with
    | true =>
      refine List.pairwise_cons.2 ⟨fun x hx => ?_, listT_sorted bs (i + 1)⟩
      obtain ⟨j, _, rfl⟩ := listT_mem.1 hx
      omega
    | false => exact listT_sorted bs (i + 1)
theorem listT_fold : ∀ (bs : List Bool) (i : Nat) (out : List Int), foldE (fun i out (b : Bool) => some (.inl (cond b (out ++ [(i : Int)]) out) : List Int ⊕ Empty)) i out bs = some (.inl (out ++ listT i bs))
  | [], i, out => by simp [foldE, listT]
  | b :: bs, i, out => by
    simp only [foldE, Option.bind_some, Sum.elim_inl]
    rw [listT_fold bs (i + 1), show listT i (b :: bs) = cond b ((i : Int) :: listT (i + 1) bs) (listT (i + 1) bs) from rfl]
    cases b <;> simp
theorem rat_loop (arcs : List Arc) (bs : List Bool) (hb : bs.length ≤ 100000) : layoutref32_At_L7 ([], (bs.length : Nat), arcs, bs, 0, ()) = some (.inl (listT 0 bs, ())) := by
  have := scanI (B := layoutref32_At_B7) (fun i (s : List Int) => s.length ≤ i) (fun s j => (s, ((bs.length : Nat) : Int), arcs, bs, (j : Int), ())) (fun s => .inl (s, ())) (fun (e : Empty) => e.elim)
    (fun i s (b : Bool) => some (.inl (cond b (s ++ [(i : Int)]) s))) bs (by
      intro s j b hs hbj
      have hj : j < bs.length := (List.getElem?_eq_some_iff.1 hbj).1
      unfold layoutref32_At_B7
      simp only
      rw [ltI_t (by omega), cond_true, idxI_of hj, Option.bind_some, hbj, Option.bind_some, add1 (by omega)]
      cases b with
      | true => rw [cond_true, app_of (by simp; omega)]; rfl
      | false => rfl) (by
      intro s j b t hs _ ht
      simp only [Option.some.injEq, Sum.inl.injEq] at ht
      subst ht
      cases b with
      | true => simp; omega
      | false => simp; omega) (by
      intro s _
      unfold layoutref32_At_B7
      simp only
      rw [ltI_f (by omega)]; rfl) [] (Nat.le_refl _)
  unfold layoutref32_At_L7
  rw [show (([], ((bs.length : Nat) : Int), arcs, bs, 0, ()) : List Int × Int × List Arc × List Bool × Int × Unit) = ([], ((bs.length : Nat) : Int), arcs, bs, ((0 : Nat) : Int), ()) from rfl, this, listT_fold]
  simp

/-! ### Who stands alone -/
section
variable {N : Nat} {E : List Arc} {A : List (List Int)}

theorem reach_in {u v : Nat} (h : Reach E u v) : u ≠ v → ∃ k : Nat, k < 2 * E.length ∧ hd E k = v := by
  induction h with
  | refl => intro e; exact absurd rfl e
  | step _ hk _ e2 _ => intro _; exact ⟨_, hk, e2⟩

theorem around_ne (h : RotOK (N : Nat) E A) (hc : Conn N E) (hE : E ≠ []) {v : Nat} (hv : v < N) {l : List Int} (hl : A[v]? = some l) : l ≠ [] := by
  rintro rfl
  obtain ⟨a, ha⟩ := List.exists_mem_of_ne_nil E hE
  obtain ⟨a1, a2, a3, a4, a5⟩ := h.edge a ha
  obtain ⟨u, hu, hur⟩ : ∃ u, u ≠ v ∧ Reach E u v := by
    by_cases e : a.1.toNat = v
    · refine ⟨a.2.1.toNat, by omega, (hc a.2.1.toNat (by omega)).symm.trans (hc v hv)⟩
    · exact ⟨a.1.toNat, e, (hc a.1.toNat (by omega)).symm.trans (hc v hv)⟩
  obtain ⟨k, hk, hkv⟩ := reach_in hur hu
  have := h.around (oth_lt hk) (v := v) (by exact hkv) hl
  simp at this
end

/-- What At gives, in the program and in the reference. -/
theorem at32 (N : Int) (E : List Arc) (A : List (List Int)) (v : Int) (hE : E.length ≤ 100) (hl : ∀ l ∈ A, l.length ≤ 100) :
    ∃ x, dual_At ((N, E, A, ()), v, ()) = some (x, ()) ∧ layoutref32_At ((N, E, A, ()), v, ()) = some (x, ()) ∧ x.length ≤ 100000 := by
  have hl' : ∀ l ∈ A, l.length ≤ 9223372036854775807 := fun l h => by have := hl l h; omega
  unfold dual_At layoutref32_At
  simp only
  rcases build32 N E A hE hl' with ⟨e, he, c1, c2, c3⟩ | ⟨n, fs, rfl, h, hvv, hn, hc, hf, _, c1, r1, r2, k1, k2, b1, b2⟩
  · refine ⟨[], ?_, ?_, by simp⟩
    · rw [c1, Option.bind_some]; simp only; rw [neI_t he]; rfl
    · rw [c3, Option.bind_some]; simp only; rw [neI_t he]; rfl
  · rw [c1, b2, Option.bind_some, Option.bind_some]
    simp only
    rw [neI_f (by rfl), cond_false, cond_false]
    by_cases h0 : v < 0
    · rw [ltI_t h0]; exact ⟨[], rfl, rfl, by simp⟩
    · rw [ltI_f (by omega), cond_false, cond_false]
      by_cases h1 : (n : Int) ≤ v
      · rw [geI_t h1]; exact ⟨[], rfl, rfl, by simp⟩
      · rw [geI_f (by omega), cond_false, cond_false]
        obtain ⟨x, rfl⟩ : ∃ x : Nat, v = (x : Int) := ⟨v.toNat, by omega⟩
        have hAl : A.length = n := by have := h.len; omega
        obtain ⟨l, hlx⟩ : ∃ l, A[x]? = some l := ⟨_, List.getElem?_eq_getElem (by omega)⟩
        have hlm := List.mem_of_getElem? hlx
        have hll := hl l hlm
        have hnum := hf.num
        have hml : (marksOf (2 * E.length) fs).length = 2 * E.length := marksOf_len
        have hmx : maxI 1 (fs.length : Nat) = ((max 1 fs.length : Nat) : Int) := by unfold maxI; split <;> omega
        have hdk : ∀ d ∈ l, ∃ k : Nat, d = (k : Int) ∧ k < (marksOf (2 * E.length) fs).length ∧ ∃ j : Nat, (marksOf (2 * E.length) fs)[k]? = some (j : Int) ∧ j < max 1 fs.length := by
          intro d hd
          obtain ⟨k, rfl, hk⟩ := h.mem_of hlm hd
          obtain ⟨j, j1, j2, _⟩ := marksOf_some hf hk
          exact ⟨k, rfl, by omega, j, j2, by omega⟩
        have hne : l = [] ↔ E = [] := by
          constructor
          · intro e
            by_cases hE0 : E = []
            · exact hE0
            · exact absurd e (around_ne h hc hE0 (by omega) hlx)
          · rintro rfl
            cases l with
            | nil => rfl
            | cons d l =>
              obtain ⟨k, _, hk⟩ := h.mem_of hlm (d := d) (by simp)
              simp at hk
        have p1 := around_eq (n : Int) E A (marksOf (2 * E.length) fs) l x hlx (fun d hd => by obtain ⟨k, e, hk, _⟩ := hdk d hd; exact ⟨k, e, hk⟩) (by omega)
        have p2 := raround_eq (n : Int) E A (marksOf (2 * E.length) fs) l (arcsFrom (marksOf (2 * E.length) fs) 0 E.length) x (max 1 fs.length) hlx (by omega) (by omega) hdk (by omega) k2
        obtain ⟨bs, hbs⟩ : ∃ bs, bs = setT (marksOf (2 * E.length) fs) ((List.replicate (max 1 fs.length) false).set 0 (decide (E = []))) l := ⟨_, rfl⟩
        rw [← hbs] at p2
        have hbl : bs.length = max 1 fs.length := by rw [hbs, setT_len]; simp
        have p3 := rat_loop (arcsFrom (marksOf (2 * E.length) fs) 0 E.length) bs (by omega)
        obtain ⟨s1, s2⟩ := around_sorted (marksOf (2 * E.length) fs) l
        have heq : aroundL (marksOf (2 * E.length) fs) l = listT 0 bs := by
          refine sorted_uniq s1 (listT_sorted bs 0) fun y => ?_
          rw [s2, listT_mem]
          have hset : ∀ j : Nat, j < max 1 fs.length → (bs[j]? = some true ↔ (j = 0 ∧ E = []) ∨ ∃ d ∈ l, (mk2 (marksOf (2 * E.length) fs) d.toNat).toNat = j) := by
            intro j hj
            rw [hbs, setT_at _ _ _ (by simpa using hj), List.getElem?_set]
            constructor
            · rintro (h | h)
              · left
                split at h
                · rename_i e
                  rw [if_pos (by simp; omega)] at h
                  exact ⟨e.symm, by simpa using h⟩
                · rw [List.getElem?_replicate] at h
                  split at h <;> simp at h
              · exact .inr h
            · rintro (⟨rfl, h⟩ | h)
              · left
                rw [if_pos rfl, if_pos (by simp; omega)]
                simp [h]
              · exact .inr h
          cases hle : l.isEmpty with
          | true =>
            have hl0 : l = [] := by simpa using hle
            have hE0 := hne.1 hl0
            rw [cond_true]
            constructor
            · intro hy
              simp at hy
              subst hy
              exact ⟨0, (hset 0 (by omega)).2 (.inl ⟨rfl, hE0⟩), by simp⟩
            · rintro ⟨j, h1, rfl⟩
              have hj : j < max 1 fs.length := by rw [← hbl]; exact (List.getElem?_eq_some_iff.1 h1).1
              rcases (hset j hj).1 h1 with ⟨rfl, _⟩ | ⟨d, hd, _⟩
              · simp
              · rw [hl0] at hd; simp at hd
          | false =>
            have hl0 : l ≠ [] := by intro e; rw [e] at hle; simp at hle
            have hE0 : E ≠ [] := fun e => hl0 (hne.2 e)
            rw [cond_false]
            unfold facesAt
            constructor
            · intro hy
              obtain ⟨d, hd, rfl⟩ := List.mem_map.1 hy
              obtain ⟨k, rfl, hk, j, hj, hjn⟩ := hdk d hd
              refine ⟨j, (hset j hjn).2 (.inr ⟨_, hd, ?_⟩), ?_⟩
              · simp [mk2, hj]
              · simp [mk2, hj]
            · rintro ⟨j, h1, rfl⟩
              have hj : j < max 1 fs.length := by rw [← hbl]; exact (List.getElem?_eq_some_iff.1 h1).1
              rcases (hset j hj).1 h1 with ⟨_, e⟩ | ⟨d, hd, hdj⟩
              · exact absurd e hE0
              · obtain ⟨k, rfl, hk, j', hj', _⟩ := hdk d hd
                refine List.mem_map.2 ⟨_, hd, ?_⟩
                simp [mk2, hj'] at hdj ⊢
                omega
        have hlenx : (aroundL (marksOf (2 * E.length) fs) l).length ≤ 100000 := by
          unfold aroundL
          refine Nat.le_trans (compact_le _) ?_
          rw [(isortI_perm _).length_eq]
          cases l.isEmpty with
          | true => simp
          | false => simp [facesAt]; omega
        refine ⟨aroundL (marksOf (2 * E.length) fs) l, ?_, ?_, hlenx⟩
        · rw [k1, Option.bind_some]
          simp only
          rw [p1]; rfl
        · rw [hmx, p2, Option.bind_some]
          simp only
          rw [← hbl, p3, heq]
          rfl

/-! ### DualFaces -/
theorem same_refl32 (l : List Int) (hl : l.length ≤ 68719476736) : layoutlaw32_same (l, l, ()) = some (true, ()) := by
  unfold layoutlaw32_same
  dsimp only
  rw [neI_f rfl, cond_false]
  have h := scan (B := layoutlaw32_same_B4) (fun (_ : Unit) i => (l, l, (i : Int), ()))
    (fun _ => .inr (.inl ())) (fun (e : Empty) => e.elim) (fun _ (_ : Unit) _ => some (.inl ())) l (by
      intro _ i a ha
      have hi : i < l.length := (List.getElem?_eq_some_iff.1 ha).1
      unfold layoutlaw32_same_B4
      simp only
      rw [ltI_t (by omega), cond_true, getI_of, ha, Option.bind_some, Option.bind_some, neI_f rfl, cond_false, add1 (by omega)]
      rfl) (by
      intro _
      unfold layoutlaw32_same_B4
      simp only
      rw [ltI_f (by omega)]; rfl) ()
  unfold layoutlaw32_same_L4
  rw [show ((0 : Int)) = ((0 : Nat) : Int) from rfl, h]
  have hf : ∀ (l : List Int) (i : Nat), foldE (fun _ (_ : Unit) (_ : Int) => some (.inl () : Unit ⊕ Empty)) i () l = some (.inl ()) := by
    intro l
    induction l with
    | nil => intro i; rfl
    | cons a l ih => intro i; simp [foldE, ih]
  rw [hf]
  rfl

theorem arcs_same (N : Int) (E : List Arc) (A : List (List Int)) (n n' d : Int) (g : List Arc) (hg : g.length ≤ 68719476736) : layoutlaw32_DualFaces_L8 (N, E, A, n, g, n', g, d, 0, ()) = some (.inr (.inl (N, E, A, d, ()))) := by
  have h := scan (B := layoutlaw32_DualFaces_B8) (fun (_ : Unit) i => (N, E, A, n, g, n', g, d, (i : Int), ()))
    (fun _ => .inr (.inl (N, E, A, d, ()))) (fun (e : Empty) => e.elim) (fun _ (_ : Unit) _ => some (.inl ())) g (by
      intro _ i a ha
      have hi : i < g.length := (List.getElem?_eq_some_iff.1 ha).1
      unfold layoutlaw32_DualFaces_B8
      simp only
      rw [ltI_t (by omega), cond_true, idxI_of hi, Option.bind_some, ha, Option.bind_some, Option.bind_some, ha, Option.bind_some, eqI_t rfl, eqI_t rfl, add1 (by omega)]
      rfl) (by
      intro _
      unfold layoutlaw32_DualFaces_B8
      simp only
      rw [ltI_f (by omega)]; rfl) ()
  unfold layoutlaw32_DualFaces_L8
  rw [show ((N, E, A, n, g, n', g, d, 0, ()) : Int × List Arc × List (List Int) × Int × List Arc × Int × List Arc × Int × Int × Unit) = (N, E, A, n, g, n', g, d, ((0 : Nat) : Int), ()) from rfl, h]
  have hf : ∀ (l : List Arc) (i : Nat), foldE (fun _ (_ : Unit) (_ : Arc) => some (.inl () : Unit ⊕ Empty)) i () l = some (.inl ()) := by
    intro l
    induction l with
    | nil => intro i; rfl
    | cons a l ih => intro i; simp [foldE, ih]
  rw [hf]
  rfl

theorem dualFaces_law (N : Int) (E : List Arc) (A : List (List Int)) (d : Int) : layoutlaw32_DualFaces ((N, E, A, ()), d, ()) = some (true, ()) := by
  unfold layoutlaw32_DualFaces
  simp only
  rw [awake32_true]
  obtain ⟨b, f1, f2⟩ := few_eq N E A
  rw [f1, Option.bind_some]
  cases b with
  | false => rfl
  | true =>
    obtain ⟨hE, hA, hl⟩ := f2 rfl
    have hl' : ∀ l ∈ A, l.length ≤ 9223372036854775807 := fun l h => by have := hl l h; omega
    simp only [Bool.not_true, cond_false]
    obtain ⟨x, x1, x2⟩ := face32 N E A d hE hl'
    obtain ⟨y, y1, y2, y3⟩ := at32 N E A d hE hl
    obtain ⟨n, g, e, hg, b1, b2⟩ : ∃ n g e, g.length ≤ 68719476736 ∧ dual_Build ((N, E, A, ()), ()) = some ((n, g, ()), e, ()) ∧ layoutref32_Build ((N, E, A, ()), ()) = some ((n, g, ()), e, ()) := by
      rcases build32 N E A hE hl' with ⟨e, he, c1, c2, c3⟩ | ⟨n, fs, rfl, h, hvv, hn, hc, hf, _, c1, r1, r2, k1, k2, b1, b2⟩
      · exact ⟨0, [], e, by simp, c2, c3⟩
      · exact ⟨_, _, _, by simp [arcsFrom]; omega, b1, b2⟩
    rw [b1, b2, Option.bind_some, Option.bind_some]
    simp only
    rw [neI_f rfl, cond_false, neI_f rfl, cond_false, neI_f rfl, cond_false, arcs_same N E A n n d g hg, Option.bind_some]
    simp only [Sum.elim_inr, Sum.elim_inl]
    rw [x1, Option.bind_some, x2, Option.bind_some]
    simp only
    rw [eqI_t rfl, cond_true, y1, Option.bind_some, y2, Option.bind_some, same_refl32 y (by omega)]
    rfl
theorem dualFaces_plain (x : (tupTy (layoutlaw32_DualFaces_c.ins.map (·.2))).den) (h : WfIns layoutlaw32_DualFaces_c.ins x) : layoutlaw32_DualFaces x = some (true, ()) := dualFaces_law x.1.1 x.1.2.1 x.1.2.2.1 x.2.1
end Go.Vm

/-
  The angles of a mirrored shape.
-/
import Derived.Test.YtgeebcgkjcnneaaDoorL39M
set_option linter.unusedVariables false
set_option linter.unusedSimpArgs false
namespace Go.Vm
open Go.Proofs
set_option maxRecDepth 100000
attribute [local irreducible] loopFix

theorem nxt_prev {n j : Nat} (h : j < n) : ((j + n - 1) % n + 1) % n = j := by
  cases j with
  | zero =>
    have h1 : (0 + n - 1) % n = n - 1 := by rw [Nat.zero_add]; exact Nat.mod_eq_of_lt (by omega)
    have h2 : n - 1 + 1 = n := by omega
    rw [h1, h2, Nat.mod_self]
  | succ j =>
    have h1 : (j + 1 + n - 1) % n = j := by
      rw [show j + 1 + n - 1 = j + n by omega, Nat.add_mod_right]; exact Nat.mod_eq_of_lt (by omega)
    rw [h1]; exact Nat.mod_eq_of_lt h
theorem prev_nxt {n i : Nat} (h : i < n) : ((i + 1) % n + n - 1) % n = i := by
  by_cases e : i + 1 < n
  · rw [Nat.mod_eq_of_lt e, show i + 1 + n - 1 = i + n by omega, Nat.add_mod_right]; exact Nat.mod_eq_of_lt h
  · have h1 : i + 1 = n := by omega
    have h2 : (i + 1) % n = 0 := by rw [h1, Nat.mod_self]
    rw [h2, Nat.zero_add]
    have h3 : (n - 1) % n = n - 1 := Nat.mod_eq_of_lt (by omega)
    rw [h3]; omega

/-- What a list around a vertex gives to the angles of the mirrored shape. -/
def MirL (g : List Int) (T : Nat → Int) (L : Nat) (l : List Int) : Prop :=
  l.length ≤ 65536 ∧ ∀ i, i < l.length → ∃ k q : Nat, l[i]? = some (k : Int) ∧ l[(i + l.length - 1) % l.length]? = some (q : Int) ∧ k < L ∧ g[q]? = some (T k)

abbrev HitL (T : Nat → Int) (l : List Int) (out out' : List Int) : Prop :=
  out'.length = out.length ∧ (∀ k, k < out.length → out[k]? = some (T k) → out'[k]? = some (T k)) ∧ ∀ k : Nat, (k : Int) ∈ l → out'[k]? = some (T k)

theorem set_keep {T : Nat → Int} {out : List Int} {k j : Nat} (hk : k < out.length) : (out[j]? = some (T j) ∨ j = k) → (out.set k (T k))[j]? = some (T j) := by
  intro h
  rw [List.getElem?_set]
  by_cases e : k = j
  · subst e; simp [hk]
  · rw [if_neg e]
    exact h.resolve_right (Ne.symm e)

theorem mir_inner {g : List Int} {T : Nat → Int} {L : Nat} {l : List Int} (hm : MirL g T L l) (N : Int) (E : List Arc) (A : List (List Int)) (B : List ByteArray) (o x6 x7 x8 x9 : Int) (E' : List Arc) (M A' : List (List Int)) (c v : Int) :
    ∀ (r i : Nat) (out : List Int), i + r = l.length → out.length = L →
    ∃ out', shape_Mirror_L8 (N, E, A, g, B, o, x6, x7, x8, x9, E', M, out, l, A', c, v, l, (l.length : Nat), (i : Int), ()) = some (.inl (N, E, A, g, B, o, x6, x7, x8, x9, E', M, out', A', c, v, ())) ∧
      out'.length = out.length ∧ (∀ k, out[k]? = some (T k) → out'[k]? = some (T k)) ∧ ∀ j, i ≤ j → j < l.length → ∀ k : Nat, l[j]? = some (k : Int) → out'[k]? = some (T k) := by
  intro r
  induction r with
  | zero =>
    intro i out hi ho
    refine ⟨out, loop_done ?_, rfl, fun _ h => h, fun j h1 h2 => by omega⟩
    simp only [shape_Mirror_B8]
    rw [ltI_f (by omega)]; rfl
  | succ r ih =>
    intro i out hi ho
    obtain ⟨k, q, h1, h2, h3, h4⟩ := hm.2 i (by omega)
    have hlen := hm.1
    obtain ⟨out', s1, s2, s3, s4⟩ := ih (i + 1) (out.set k (T k)) (by omega) (by simpa using ho)
    obtain ⟨y, hy⟩ : ∃ y, out[k]? = some y := ⟨_, List.getElem?_eq_getElem (by omega)⟩
    have hko : k < out.length := by omega
    refine ⟨out', (loop_step ?_).trans s1, by simpa using s2, fun j hj => s3 j (set_keep hko (.inl hj)), fun j j1 j2 k' hk' => ?_⟩
    · simp only [shape_Mirror_B8]
      rw [ltI_t (by omega), cond_true, getI_of, h1, Option.bind_some, eqI_f (by omega), cond_false, addI64 (by omega) (by omega), subI64 (by omega) (by omega),
        show ((i : Int) + (l.length : Nat) - 1) = ((i + l.length - 1 : Nat) : Int) by omega, remN, getI_of, h2, Option.bind_some, getI_of, h4, Option.bind_some, idxI_of hko, Option.bind_some, hy, Option.bind_some, add1 (by omega)]
    · by_cases e : j = i
      · subst e
        rw [h1] at hk'
        have : (k : Int) = k' := by simpa using hk'
        have : k = k' := by omega
        subst this
        exact s3 k (set_keep hko (.inr rfl))
      · exact s4 j (by omega) j2 k' hk'

theorem rmirA_inner {g : List Int} {T : Nat → Int} {L : Nat} {l : List Int} (hm : MirL g T L l) (N : Int) (E : List Arc) (A : List (List Int)) (B : List ByteArray) (o x6 x7 x8 x9 : Int) (E' : List Arc) (M : List (List Int)) (c v : Int) :
    ∀ (r i : Nat) (out : List Int), i + r = l.length → out.length = L →
    ∃ out', layoutref39_Mirror_L10 (N, E, A, g, B, o, x6, x7, x8, x9, E', M, out, c, v, l, (i : Int), ()) = some (.inl (N, E, A, g, B, o, x6, x7, x8, x9, E', M, out', c, v, ())) ∧
      out'.length = out.length ∧ (∀ k, out[k]? = some (T k) → out'[k]? = some (T k)) ∧ ∀ j, i ≤ j → j < l.length → ∀ k : Nat, l[(j + 1) % l.length]? = some (k : Int) → out'[k]? = some (T k) := by
  intro r
  induction r with
  | zero =>
    intro i out hi ho
    refine ⟨out, loop_done ?_, rfl, fun _ h => h, fun j h1 h2 => by omega⟩
    simp only [layoutref39_Mirror_B10]
    rw [ltI_f (by omega)]; rfl
  | succ r ih =>
    intro i out hi ho
    have hpos : 0 < l.length := by omega
    have hprev : ((i + 1) % l.length + l.length - 1) % l.length = i := prev_nxt (by omega)
    obtain ⟨k, q, h1, h2, h3, h4⟩ := hm.2 ((i + 1) % l.length) (Nat.mod_lt _ hpos)
    rw [hprev] at h2
    have hlen := hm.1
    obtain ⟨out', s1, s2, s3, s4⟩ := ih (i + 1) (out.set k (T k)) (by omega) (by simpa using ho)
    obtain ⟨y, hy⟩ : ∃ y, out[k]? = some y := ⟨_, List.getElem?_eq_getElem (by omega)⟩
    have hko : k < out.length := by omega
    refine ⟨out', (loop_step ?_).trans s1, by simpa using s2, fun j hj => s3 j (set_keep hko (.inl hj)), fun j j1 j2 k' hk' => ?_⟩
    · simp only [layoutref39_Mirror_B10]
      rw [ltI_t (by omega), cond_true, eqI_f (by omega), cond_false, add1 (by omega), remN, getI_of, h1, Option.bind_some, getI_of, h2, Option.bind_some, getI_of, h4, Option.bind_some, idxI_of hko, Option.bind_some, hy, Option.bind_some]
    · by_cases e : j = i
      · subst e
        rw [h1] at hk'
        have : (k : Int) = k' := by simpa using hk'
        have : k = k' := by omega
        subst this
        exact s3 k (set_keep hko (.inr rfl))
      · exact s4 j (by omega) j2 k' hk'

theorem mir_outer {g : List Int} {T : Nat → Int} {L : Nat} (N : Int) (E : List Arc) (A : List (List Int)) (B : List ByteArray) (o x6 x7 x8 x9 : Int) (E' : List Arc) (M : List (List Int)) (hA : A.length < 1000000) (hm : ∀ l ∈ A, MirL g T L l) :
    ∀ (r p : List (List Int)) (out : List Int), p ++ r = A → out.length = L →
    ∃ out', shape_Mirror_L5 (N, E, A, g, B, o, x6, x7, x8, x9, E', M, out, A, (A.length : Nat), ((p.length : Nat) : Int), ()) = some (.inl (N, E, A, g, B, o, x6, x7, x8, x9, E', M, out', ())) ∧
      out'.length = out.length ∧ (∀ k, out[k]? = some (T k) → out'[k]? = some (T k)) ∧ ∀ k : Nat, (k : Int) ∈ r.flatten → out'[k]? = some (T k) := by
  intro r
  induction r with
  | nil =>
    intro p out hp ho
    have : p.length = A.length := by rw [← hp]; simp
    refine ⟨out, loop_done ?_, rfl, fun _ h => h, fun k h => by simp at h⟩
    simp only [shape_Mirror_B5]
    rw [ltI_f (by omega)]; rfl
  | cons l r ih =>
    intro p out hp ho
    have hpl : p.length < A.length := by rw [← hp]; simp
    have hl : A[p.length]? = some l := by rw [← hp]; simp
    obtain ⟨o1, a1, a2, a3, a4⟩ := mir_inner (hm l (List.mem_of_getElem? hl)) N E A B o x6 x7 x8 x9 E' M A ((A.length : Nat) : Int) ((p.length : Nat) : Int) l.length 0 out (by omega) ho
    obtain ⟨o2, b1, b2, b3, b4⟩ := ih (p ++ [l]) o1 (by simp [hp]) (by omega)
    refine ⟨o2, (loop_step ?_).trans b1, by omega, fun k hk => b3 k (a3 k hk), fun k hk => ?_⟩
    · simp only [shape_Mirror_B5]
      rw [ltI_t (by omega), cond_true, getI_of, hl, Option.bind_some, show shape_Mirror_L8 (N, E, A, g, B, o, x6, x7, x8, x9, E', M, out, l, A, (A.length : Nat), ((p.length : Nat) : Int), l, (l.length : Nat), 0, ()) = _ from a1, Option.bind_some]
      simp only [Sum.elim_inl]
      rw [add1 (by omega)]
      simp
    · rw [List.flatten_cons, List.mem_append] at hk
      rcases hk with hk | hk
      · obtain ⟨j, hj, e⟩ := List.mem_iff_getElem.1 hk
        exact b3 k (a4 j (by omega) hj k (by rw [List.getElem?_eq_getElem hj, e]))
      · exact b4 k hk

theorem rmir_outer {g : List Int} {T : Nat → Int} {L : Nat} (E : List Arc) (A : List (List Int)) (B : List ByteArray) (o x6 x7 x8 x9 c : Int) (E' : List Arc) (M : List (List Int)) (hA : A.length < 1000000) (hm : ∀ l ∈ A, MirL g T L l) :
    ∀ (r p : List (List Int)) (out : List Int), p ++ r = A → out.length = L →
    ∃ out', layoutref39_Mirror_L6 (((A.length : Nat) : Int), E, A, g, B, o, x6, x7, x8, x9, E', M, out, c, ((p.length : Nat) : Int), ()) = some (.inl (((A.length : Nat) : Int), E, A, g, B, o, x6, x7, x8, x9, E', M, out', c, ())) ∧
      out'.length = out.length ∧ (∀ k, out[k]? = some (T k) → out'[k]? = some (T k)) ∧ ∀ k : Nat, (k : Int) ∈ r.flatten → out'[k]? = some (T k) := by
  intro r
  induction r with
  | nil =>
    intro p out hp ho
    have : p.length = A.length := by rw [← hp]; simp
    refine ⟨out, loop_done ?_, rfl, fun _ h => h, fun k h => by simp at h⟩
    simp only [layoutref39_Mirror_B6]
    rw [ltI_f (by omega)]; rfl
  | cons l r ih =>
    intro p out hp ho
    have hpl : p.length < A.length := by rw [← hp]; simp
    have hl : A[p.length]? = some l := by rw [← hp]; simp
    obtain ⟨o1, a1, a2, a3, a4⟩ := rmirA_inner (hm l (List.mem_of_getElem? hl)) ((A.length : Nat) : Int) E A B o x6 x7 x8 x9 E' M c ((p.length : Nat) : Int) l.length 0 out (by omega) ho
    obtain ⟨o2, b1, b2, b3, b4⟩ := ih (p ++ [l]) o1 (by simp [hp]) (by omega)
    refine ⟨o2, (loop_step ?_).trans b1, by omega, fun k hk => b3 k (a3 k hk), fun k hk => ?_⟩
    · simp only [layoutref39_Mirror_B6]
      rw [ltI_t (by omega), cond_true, getI_of, hl, Option.bind_some, show layoutref39_Mirror_L10 (((A.length : Nat) : Int), E, A, g, B, o, x6, x7, x8, x9, E', M, out, c, ((p.length : Nat) : Int), l, 0, ()) = _ from a1, Option.bind_some]
      simp only [Sum.elim_inl]
      rw [add1 (by omega)]
      simp
    · rw [List.flatten_cons, List.mem_append] at hk
      rcases hk with hk | hk
      · obtain ⟨j, hj, e⟩ := List.mem_iff_getElem.1 hk
        have hpos : 0 < l.length := by omega
        refine b3 k (a4 ((j + l.length - 1) % l.length) (Nat.zero_le _) (Nat.mod_lt _ hpos) k ?_)
        rw [nxt_prev hj, List.getElem?_eq_getElem hj, e]
      · exact b4 k hk

theorem mirB_loop (N : Int) (E : List Arc) (A : List (List Int)) (g : List Int) (B : List ByteArray) (o x6 x7 x8 x9 : Int) (E' : List Arc) (M : List (List Int)) (g' : List Int) (hB : B.length ≤ 1000000) (hs : ∀ s ∈ B, s.size ≤ 64) :
    shape_Mirror_L14 (N, E, A, g, B, o, x6, x7, x8, x9, E', M, g', [], B, (B.length : Nat), 0, ()) = some (.inl (N, E, A, g, B, o, x6, x7, x8, x9, E', M, g', B.map exch, ())) := by
  have key := scanI (B := shape_Mirror_B14) (ε := Empty) (fun i (acc : List ByteArray) => acc.length = i) (fun acc i => (N, E, A, g, B, o, x6, x7, x8, x9, E', M, g', acc, B, ((B.length : Nat) : Int), (i : Int), ())) (fun acc => .inl (N, E, A, g, B, o, x6, x7, x8, x9, E', M, g', acc, ())) (fun e => nomatch e)
    (fun _ acc s => some (.inl (acc ++ [exch s]))) B (by
      intro acc i s hI hd'
      have hi : i < B.length := (List.getElem?_eq_some_iff.1 hd').1
      have hss := hs s (List.mem_of_getElem? hd')
      simp only [shape_Mirror_B14]
      rw [ltI_t (by omega), cond_true, getI_of, hd', Option.bind_some, exch_eq s (by omega), Option.bind_some, app_of (by simp; omega), Option.bind_some, add1 (by omega)]
      rfl) (by
      intro acc i l t hI _ hg
      cases hg
      simp [hI]) (by
      intro acc _
      simp only [shape_Mirror_B14]
      rw [ltI_f (by omega)]; rfl) [] rfl
  rw [show shape_Mirror_L14 (N, E, A, g, B, o, x6, x7, x8, x9, E', M, g', [], B, ((B.length : Nat) : Int), 0, ()) = _ from key, fold_app]
  rfl

theorem rmirB_loop (N : Int) (E : List Arc) (A : List (List Int)) (g : List Int) (B : List ByteArray) (o x6 x7 x8 x9 : Int) (E' : List Arc) (M : List (List Int)) (g' : List Int) (hB : B.length ≤ 1000000) (hs : ∀ s ∈ B, s.size ≤ 64) :
    layoutref39_Mirror_L14 (N, E, A, g, B, o, x6, x7, x8, x9, E', M, g', [], (B.length : Nat), 0, ()) = some (.inl (N, E, A, g, B, o, x6, x7, x8, x9, E', M, g', B.map exch, (B.length : Nat), ())) := by
  have key := scanI (B := layoutref39_Mirror_B14) (ε := Empty) (fun i (acc : List ByteArray) => acc.length = i) (fun acc i => (N, E, A, g, B, o, x6, x7, x8, x9, E', M, g', acc, ((B.length : Nat) : Int), (i : Int), ())) (fun acc => .inl (N, E, A, g, B, o, x6, x7, x8, x9, E', M, g', acc, ((B.length : Nat) : Int), ())) (fun e => nomatch e)
    (fun _ acc s => some (.inl (acc ++ [exch s]))) B (by
      intro acc i s hI hd'
      have hi : i < B.length := (List.getElem?_eq_some_iff.1 hd').1
      have hss := hs s (List.mem_of_getElem? hd')
      simp only [layoutref39_Mirror_B14]
      rw [ltI_t (by omega), cond_true, getI_of, hd', Option.bind_some, rexch_eq s (by omega), Option.bind_some, app_of (by simp; omega), Option.bind_some, add1 (by omega)]
      rfl) (by
      intro acc i l t hI _ hg
      cases hg
      simp [hI]) (by
      intro acc _
      simp only [layoutref39_Mirror_B14]
      rw [ltI_f (by omega)]; rfl) [] rfl
  rw [show layoutref39_Mirror_L14 (N, E, A, g, B, o, x6, x7, x8, x9, E', M, g', [], ((B.length : Nat) : Int), 0, ()) = _ from key, fold_app]
  rfl
end Go.Vm

/-
  Is a system connected?
-/
import Derived.Test.YtgihliccohoggaaDoorK33P
set_option linter.unusedVariables false
set_option linter.unusedSimpArgs false
namespace Go.Vm
open Go.Proofs
set_option maxRecDepth 100000
attribute [local irreducible] loopFix
section
variable {N : Nat} {E : List Arc} {A : List (List Int)}
theorem arc_oth (h : RotOK (N : Nat) E A) {k v : Nat} (hk : k < 2 * E.length) (hv : tl E k = v) : ∃ a, E[k / 2]? = some a ∧ ∃ w : Nat, hd E k = w ∧ w < N ∧ subI .i64 (addI .i64 a.1 a.2.1) (v : Int) = (w : Int) := by
  have hke : k / 2 < E.length := by omega
  obtain ⟨a, ha⟩ : ∃ a, E[k / 2]? = some a := ⟨_, List.getElem?_eq_getElem hke⟩
  obtain ⟨w, hw, hwN⟩ := h.hd_lt hk
  obtain ⟨v', hv', hvN⟩ := h.tl_lt hk
  have h16 : N ≤ 16384 := by have := h.n1; omega
  have hvv : v = v' := by omega
  subst hvv
  refine ⟨a, ha, w, hw, hwN, ?_⟩
  have e : a.1 + a.2.1 = (v : Int) + w := by
    unfold hd at hw
    unfold tl at hv hw
    rw [ha] at hv
    rw [oth_div, ha, oth_mod] at hw
    simp only at hv hw
    rcases Nat.mod_two_eq_zero_or_one k with e | e
    · rw [e] at hv hw
      simp at hv hw
      omega
    · rw [e] at hv hw
      simp at hv hw
      omega
  rw [addI64 (by omega) (by omega), subI64 (by omega) (by omega)]
  omega
theorem tconn_inner (h : RotOK (N : Nat) E A) (seen : List Bool) (q : List Int) (i v : Nat) (l : List Int) (hs : seen.length = N) (hst : q.length + unm seen ≤ 100000) (hq : q[i]? = some (v : Int)) (hl : ∀ d ∈ l, ∃ k : Nat, d = (k : Int) ∧ k < 2 * E.length ∧ tl E k = v) (hll : l.length ≤ 65536) :
    triangulate_connected_L10 ((N : Int), E, A, seen, q, (i : Int), l, (l.length : Nat), 0, ()) = (foldE (expl E) 0 (seen, q) l).bind (Sum.elim (fun t => some (.inl ((N : Int), E, A, t.1, t.2, (i : Int), ()))) (fun e => nomatch e)) := by
  refine (scanI (B := triangulate_connected_B10) (fun _ s => s.1.length = N ∧ s.2.length + unm s.1 ≤ 100000 ∧ s.2[i]? = some (v : Int)) (fun s j => ((N : Int), E, A, s.1, s.2, (i : Int), l, ((l.length : Nat) : Int), (j : Int), ())) (fun s => .inl ((N : Int), E, A, s.1, s.2, (i : Int), ())) (fun e => nomatch e) (expl E) l ?_ ?_ ?_ (seen, q) ⟨hs, hst, hq⟩).trans ?_
  · rintro ⟨seen, st⟩ j d ⟨hs, hst, hq⟩ hd'
    simp only at hs hst hq
    have hi : j < l.length := (List.getElem?_eq_some_iff.1 hd').1
    have hiq : i < st.length := (List.getElem?_eq_some_iff.1 hq).1
    have hm1 := h.m1
    obtain ⟨k, rfl, hk, hkv⟩ := hl d (List.mem_of_getElem? hd')
    obtain ⟨a, ha, w, hw, hwN, hsub⟩ := arc_oth h hk hkv
    simp only [triangulate_connected_B10]
    rw [ltI_t (by omega), cond_true, getI_of, hd', Option.bind_some, quo2 (by omega), getI_of, ha, Option.bind_some, idxI_of hiq, Option.bind_some, hq, Option.bind_some, hsub]
    obtain ⟨b, hb⟩ : ∃ b, seen[w]? = some b := ⟨_, List.getElem?_eq_getElem (by omega)⟩
    rw [idxI_of (by omega), Option.bind_some, hb, Option.bind_some, add1 (by omega)]
    simp only [expl, Int.toNat_natCast, hw, hb]
    cases b with
    | true => rfl
    | false =>
      have := unm_set hb
      simp only [Bool.not_false, cond_true, Option.bind_some, hb]
      rw [app_of (by simp only [List.length_singleton]; omega)]
      rfl
  · rintro ⟨seen, st⟩ j d t ⟨hs, hst, hq⟩ hd' hg
    simp only at hs hst hq
    simp only [expl] at hg
    cases hg
    split
    · rename_i hb
      have := unm_set hb
      have hiq : i < st.length := (List.getElem?_eq_some_iff.1 hq).1
      exact ⟨by simpa using hs, by simp only [List.length_append, List.length_singleton]; omega, by rw [List.getElem?_append_left hiq]; exact hq⟩
    · exact ⟨hs, hst, hq⟩
  · intro s hs
    simp only [triangulate_connected_B10]
    rw [ltI_f (by omega)]; rfl
  · cases foldE (expl E) 0 (seen, q) l with
    | none => rfl
    | some x => cases x with
      | inl t => rfl
      | inr e => exact nomatch e
theorem tconn_loop (h : RotOK (N : Nat) E A) (hN0 : 0 < N) :
    ∃ q, triangulate_connected_L7 ((N : Int), E, A, (List.replicate N false).set 0 true, [0], 0, ()) = some (.inl ((N : Int), E, A, q, ())) ∧ (q.length = N ↔ Conn N E) := by
  have h16 : N ≤ 16384 := by have := h.n1; omega
  have hAl : A.length = N := by have := h.len; omega
  obtain ⟨r, h1, h2⟩ := loop_rule (f := triangulate_connected_B7) (fun s => ∃ seen q, ∃ i : Nat, s = ((N : Int), E, A, seen, q, (i : Int), ()) ∧ Look N E seen (q.drop i) ∧ q.length + unm seen = N ∧ i ≤ q.length)
    (fun s => N - s.2.2.2.2.2.1.toNat) (fun r => ∃ q, r = .inl ((N : Int), E, A, q, ()) ∧ (q.length = N ↔ Conn N E)) (by
      rintro _ ⟨seen, q, i, rfl, hL, hc', hiq⟩
      by_cases hi : i < q.length
      · left
        have hdrop : q.drop i = q[i] :: q.drop (i + 1) := List.drop_eq_getElem_cons hi
        obtain ⟨u, hu, huN, hus⟩ := hL.stk q[i] (by rw [hdrop]; exact List.mem_cons_self)
        have hq : q[i]? = some (u : Int) := by rw [List.getElem?_eq_getElem hi, hu]
        obtain ⟨l, hl⟩ : ∃ l, A[u]? = some l := ⟨_, List.getElem?_eq_getElem (by omega)⟩
        have hlm := List.mem_of_getElem? hl
        have hll := h.list_len hlm
        have hm1 := h.m1
        have hu0 := unm_le seen
        rw [hL.len] at hu0
        obtain ⟨seen', new, q1, q2, q3, q4, q5, q6⟩ := expl_spec (fun k hk => h.hd_lt hk) l 0 seen q hL.len (fun d hd' => h.mem_of hlm hd')
        refine ⟨((N : Int), E, A, seen', q ++ new, ((i + 1 : Nat) : Int), ()), ?_, ⟨seen', q ++ new, i + 1, rfl, ?_, ?_, by simp; omega⟩, ?_⟩
        · simp only [triangulate_connected_B7]
          rw [ltI_t (by omega), cond_true, idxI_of hi, Option.bind_some, hq, Option.bind_some, getI_of, hl, Option.bind_some,
            tconn_inner h seen q i u l hL.len (by omega) hq (fun d hd' => by obtain ⟨k, e1, e2, e3⟩ := h.dart u l hl d hd'; exact ⟨k, e1, e2, e3⟩) (by omega), q1]
          simp only [Option.bind_some, Sum.elim_inl]
          rw [add1 (by omega)]
        · rw [List.drop_append_of_le_length (by omega)]
          exact hL.step h huN (by rw [hdrop, hu]; exact List.mem_cons_self) hl (q.drop (i + 1)) (fun d => by rw [hdrop, hu]; exact List.mem_cons) q2 q4 q5 q6
        · simp only [List.length_append]; omega
        · simp only [Int.toNat_natCast]; omega
      · right
        refine ⟨.inl ((N : Int), E, A, q, ()), ?_, q, rfl, ?_⟩
        · simp only [triangulate_connected_B7]
          rw [ltI_f (by omega)]; rfl
        · have hd0 : q.drop i = [] := List.drop_eq_nil_of_le (by omega)
          rw [hd0] at hL
          rw [← hL.all h]
          have hz : unm seen = 0 ↔ ∀ v, v < seen.length → seen[v]? = some true := unm_zero
          rw [hL.len] at hz
          rw [← hz]
          omega) ((N : Int), E, A, (List.replicate N false).set 0 true, [0], 0, ()) (by
      have hr0 : (List.replicate N false)[0]? = some false := by simp [List.getElem?_replicate, hN0]
      have hu := unm_set hr0
      rw [unm_rep] at hu
      have hset : ∀ v, ((List.replicate N false).set 0 true)[v]? = some true → v = 0 := by
        intro v hv
        rw [List.getElem?_set] at hv
        by_cases e : 0 = v
        · exact e.symm
        · rw [if_neg e, List.getElem?_replicate] at hv
          split at hv <;> simp at hv
      refine ⟨_, [0], 0, rfl, ⟨by simp, ?_, ?_, ?_, ?_⟩, by simp; omega, by simp⟩
      · intro d hd'
        simp at hd'
        subst hd'
        exact ⟨0, rfl, hN0, by simp [hN0]⟩
      · intro v hv hs hn
        have := hset v hs
        subst this
        simp at hn
      · intro v hv hs
        rw [hset v hs]; exact .refl 0
      · simp [hN0])
  obtain ⟨q, rfl, h3⟩ := h2
  exact ⟨q, h1, h3⟩
theorem tconnected_eq (h : RotOK (N : Nat) E A) : ∃ b, triangulate_connected (((N : Int), E, A, ()), ()) = some (b, ()) ∧ (b = true ↔ 0 < N ∧ Conn N E) := by
  have h16 : N ≤ 16384 := by have := h.n1; omega
  unfold triangulate_connected
  simp only
  by_cases h0 : N = 0
  · subst h0
    exact ⟨false, by rw [eqI_t (by rfl)]; rfl, by simp⟩
  · obtain ⟨q, h1, h2⟩ := tconn_loop h (by omega)
    refine ⟨eqI (q.length : Nat) (N : Int), ?_, ?_⟩
    · rw [eqI_f (by omega), cond_false, makeL_of (Nat.le_refl _) (by omega), Option.bind_some]
      have e1 : idxI (List.replicate N (zeroVal Ty.bool)).length 0 = some 0 := by
        rw [List.length_replicate]; exact idxI_of (i := 0) (by omega)
      have e2 : (List.replicate N (zeroVal Ty.bool))[0]? = some (zeroVal Ty.bool) := by
        rw [List.getElem?_replicate, if_pos (by omega)]
      rw [e1, Option.bind_some, e2, Option.bind_some, show (List.replicate N (zeroVal Ty.bool)).set 0 true = (List.replicate N false).set 0 true from rfl, h1]
      rfl
    · rw [← h2]
      unfold eqI
      simp
      omega
end
end Go.Vm

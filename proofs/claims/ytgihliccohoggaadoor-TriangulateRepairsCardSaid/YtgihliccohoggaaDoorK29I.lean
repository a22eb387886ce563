/-
  Components, counted.
-/
import Derived.Test.YtgihliccohoggaaDoorK29V
set_option linter.unusedVariables false
set_option linter.unusedSimpArgs false
namespace Go.Vm
open Go.Proofs
set_option maxRecDepth 100000
attribute [local irreducible] loopFix
section
variable {N : Nat} {E : List Arc} {A : List (List Int)}
def MinV (E : List Arc) (v : Nat) : Prop := ∀ u, u < v → ¬ Reach E u v
open Classical in
noncomputable def minB (E : List Arc) (v : Nat) : Bool := decide (MinV E v)
theorem minB_iff {v : Nat} : minB E v = true ↔ MinV E v := by unfold minB; simp
noncomputable def comps (N : Nat) (E : List Arc) : Nat := (List.range N).countP (minB E)
theorem same_rt (h : RotOK (N : Nat) E A) {s : List Int × Int} (hI : CompInv N E E.length s) : ∀ {u v : Nat}, Reach E u v → u < N → rt s.1 N u = rt s.1 N v := by
  intro u v hr
  induction hr with
  | refl => intro _; rfl
  | @step v w k hr' hk e1 e2 ih =>
    intro hu0
    rw [ih hu0]
    have hj : k / 2 < E.length := by omega
    obtain ⟨a, ha⟩ : ∃ a, E[k / 2]? = some a := ⟨_, List.getElem?_eq_getElem hj⟩
    have hs := hI.same (k / 2) a hj ha
    have e1' : tl E k = (if k % 2 = 0 then a.1 else a.2.1) := by simp [tl, ha]
    have e2' : hd E k = (if k % 2 = 0 then a.2.1 else a.1) := by
      unfold hd tl
      rw [oth_div, ha, oth_mod]
      rcases Nat.mod_two_eq_zero_or_one k with e | e <;> simp [e]
    rw [e1'] at e1
    rw [e2'] at e2
    rcases Nat.mod_two_eq_zero_or_one k with e | e
    · simp only [e, if_true] at e1 e2
      rw [e1, e2] at hs
      simpa using hs
    · simp only [e, if_neg (by omega : ¬ (1 = 0))] at e1 e2
      rw [e1, e2] at hs
      simpa using hs.symm
theorem roots_comps (h : RotOK (N : Nat) E A) {s : List Int × Int} (hI : CompInv N E E.length s) : roots N s.1 = comps N E := by
  unfold roots comps
  refine List.countP_congr fun v hv => ?_
  have hvN := List.mem_range.1 hv
  rw [minB_iff]
  constructor
  · intro hr u hu hR
    have e1 : s.1[v]? = some (v : Int) := by simpa [isRoot] using hr
    have e2 := same_rt h hI hR (by omega)
    rw [rt_up hI.up hvN e1, if_pos rfl] at e2
    have := rt_le hI.up N u (by omega)
    omega
  · intro hm
    have h1 := rt_le hI.up N v hvN
    have h2 := hI.reach v hvN
    have h3 : rt s.1 N v = v := by
      rcases Nat.eq_or_lt_of_le h1 with e | hlt
      · exact e
      · exact absurd h2.symm (hm _ hlt)
    have := rt_root hI.up v hvN
    rw [h3] at this
    simp [isRoot, this]
theorem rcomps_val (h : RotOK (N : Nat) E A) : layoutref29_Components (((N : Int), E, A, ()), ()) = some ((comps N E : Int), ()) := by
  obtain ⟨up, c, h1, h2⟩ := comp_run h
  have hc : c = comps N E := by
    rw [← roots_comps h h2]
    have : (c : Int) = (roots N up : Int) := h2.num
    show c = roots N up
    omega
  obtain ⟨c', e1, _⟩ := rcomps_eq h
  -- the value is that of the run
  have : layoutref29_Components (((N : Int), E, A, ()), ()) = some ((c : Int), ()) := by
    unfold layoutref29_Components at e1 ⊢
    simp only at e1 ⊢
    have h16 : N ≤ 16384 := by have := h.n1; omega
    have key : ∀ (d k : Nat), k + d = N → layoutref29_Components_L3 ((N : Int), E, A, (List.range k).map Int.ofNat, (k : Int), ()) = some (.inl ((N : Int), E, A, (List.range N).map Int.ofNat, ())) := by
      intro d
      induction d with
      | zero =>
        intro k hk
        have : k = N := by omega
        subst this
        refine loop_done ?_
        simp only [layoutref29_Components_B3]
        rw [ltI_f (by omega)]; rfl
      | succ d ih =>
        intro k hk
        have hs : layoutref29_Components_B3 ((N : Int), E, A, (List.range k).map Int.ofNat, (k : Int), ()) = some (.inl ((N : Int), E, A, (List.range (k + 1)).map Int.ofNat, ((k + 1 : Nat) : Int), ())) := by
          simp only [layoutref29_Components_B3]
          rw [ltI_t (by omega), cond_true, app_of (by simp; omega), Option.bind_some, add1 (by omega), List.range_succ, List.map_append]
          rfl
        exact (loop_step hs).trans (ih (k + 1) (by omega))
    have hk := key N 0 (by omega)
    rw [show layoutref29_Components_L3 ((N : Int), E, A, [], 0, ()) = _ from hk]
    simp only [Option.bind_some, Sum.elim_inl]
    rw [h1]
    rfl
  rw [this, hc]
structure LookQ (N : Nat) (E : List Arc) (Q : Nat → Prop) (seen0 seen : List Bool) (st : List Int) : Prop where
  len : seen.length = N
  stk : ∀ d ∈ st, ∃ v : Nat, d = (v : Int) ∧ v < N ∧ seen[v]? = some true
  closed : ∀ v : Nat, v < N → seen[v]? = some true → (v : Int) ∉ st → ∀ k w : Nat, k < 2 * E.length → tl E k = v → hd E k = w → seen[w]? = some true
  reach : ∀ v : Nat, v < N → seen[v]? = some true → Q v
  keep : ∀ v : Nat, v < N → seen0[v]? = some true → seen[v]? = some true
theorem LookQ.step (h : RotOK (N : Nat) E A) {Q : Nat → Prop} (hQ : ∀ v w k : Nat, Q v → k < 2 * E.length → tl E k = v → hd E k = w → Q w) {seen0 seen seen' : List Bool} {st new : List Int} {v : Nat} {l : List Int} (hL : LookQ N E Q seen0 seen st) (hvN : v < N) (hv : (v : Int) ∈ st) (hl : A[v]? = some l) (rest : List Int) (hrest : ∀ d, d ∈ st ↔ d = (v : Int) ∨ d ∈ rest)
    (h2 : seen'.length = N) (h4 : ∀ v, v < N → (seen'[v]? = some true ↔ seen[v]? = some true ∨ ∃ k : Nat, (k : Int) ∈ l ∧ hd E k = v)) (h5 : ∀ v : Nat, v < N → seen'[v]? = some true → seen[v]? = some true ∨ (v : Int) ∈ new)
    (h6 : ∀ d ∈ new, ∃ v : Nat, d = (v : Int) ∧ v < N ∧ seen'[v]? = some true) : LookQ N E Q seen0 seen' (rest ++ new) := by
  refine ⟨h2, ?_, ?_, ?_, ?_⟩
  · intro d hd'
    rcases List.mem_append.1 hd' with hd' | hd'
    · obtain ⟨u, e1, e2, e3⟩ := hL.stk d ((hrest d).2 (.inr hd'))
      exact ⟨u, e1, e2, (h4 u e2).2 (.inl e3)⟩
    · exact h6 d hd'
  · intro u hu hus hun k w hk hkt hkh
    obtain ⟨w', hw', hwN⟩ := h.hd_lt hk
    have : w = w' := by omega
    subst this
    rcases h5 u hu hus with hus | hus
    · by_cases e : u = v
      · subst e
        exact (h4 w hwN).2 (.inr ⟨k, h.around hk hkt hl, hkh⟩)
      · refine (h4 w hwN).2 (.inl (hL.closed u hu hus (fun hin => ?_) k w hk hkt hkh))
        rcases (hrest u).1 hin with e2 | e2
        · exact e (by omega)
        · exact hun (List.mem_append.2 (.inl e2))
    · exact absurd (List.mem_append.2 (.inr hus)) hun
  · intro u hu hus
    rcases (h4 u hu).1 hus with hus | ⟨k, hk, hkh⟩
    · exact hL.reach u hu hus
    · obtain ⟨_, e1, e2, e3⟩ := hL.stk v hv
      have hvv : v = _ := Int.ofNat.inj e1
      obtain ⟨k', f1, f2, f3⟩ := h.dart v l hl _ hk
      have : k = k' := by omega
      subst this
      exact hQ v u k (hL.reach v hvN (by rw [hvv]; exact e3)) f2 f3 hkh
  · intro u hu hus
    exact (h4 u hu).2 (.inl (hL.keep u hu hus))
theorem comp_queueQ (h : RotOK (N : Nat) E A) {Q : Nat → Prop} (hQ : ∀ v w k : Nat, Q v → k < 2 * E.length → tl E k = v → hd E k = w → Q w) (seen0 : List Bool) (st0 : List Int) (hst : st0.length + unm seen0 ≤ N) (h0 : LookQ N E Q seen0 seen0 st0) (n c v : Int) :
    ∃ seen, rotation_components_L10 ((N : Int), E, A, seen0, st0, n, c, v, ()) = some (.inl ((N : Int), E, A, seen, n, c, v, ())) ∧ LookQ N E Q seen0 seen [] := by
  have h16 : N ≤ 16384 := by have := h.n1; omega
  have hAl : A.length = N := by have := h.len; omega
  obtain ⟨r, h1, h2⟩ := loop_rule (f := rotation_components_B10) (fun s => ∃ seen st, s = ((N : Int), E, A, seen, st, n, c, v, ()) ∧ LookQ N E Q seen0 seen st ∧ st.length + unm seen ≤ N)
    (fun s => s.2.2.2.2.1.length + 2 * unm s.2.2.2.1) (fun r => ∃ seen, r = .inl ((N : Int), E, A, seen, n, c, v, ()) ∧ LookQ N E Q seen0 seen []) (by
      rintro _ ⟨seen, st, rfl, hL, hc'⟩
      match st with
      | [] =>
        right
        refine ⟨.inl ((N : Int), E, A, seen, n, c, v, ()), ?_, seen, rfl, hL⟩
        simp only [rotation_components_B10]
        rw [gtI_f (by simp)]; rfl
      | d :: q =>
        left
        obtain ⟨u, rfl, huN, hus⟩ := hL.stk d (by simp)
        obtain ⟨l, hl⟩ : ∃ l, A[u]? = some l := ⟨_, List.getElem?_eq_getElem (by omega)⟩
        have hlm := List.mem_of_getElem? hl
        have hll := h.list_len hlm
        have hm1 := h.m1
        simp only [List.length_cons] at hc'
        obtain ⟨seen', new, q1, q2, q3, q4, q5, q6⟩ := expl_spec (fun k hk => h.hd_lt hk) l 0 seen ((u : Int) :: q) hL.len (fun d hd' => h.mem_of hlm hd')
        refine ⟨((N : Int), E, A, seen', q ++ new, n, c, v, ()), ?_, ⟨seen', q ++ new, rfl, ?_, ?_⟩, ?_⟩
        · simp only [rotation_components_B10]
          rw [gtI_t (by simp), cond_true]
          have e1 : idxI ((u : Int) :: q).length 0 = some 0 := idxI_of (i := 0) (by simp)
          rw [e1, Option.bind_some]
          simp only [List.getElem?_cons_zero, Option.bind_some]
          rw [getI_of, hl, Option.bind_some, comp_inner h seen ((u : Int) :: q) n c v l hL.len (by simp only [List.length_cons]; omega) (fun d hd' => h.mem_of hlm hd') (by omega), q1]
          simp only [Option.bind_some, Sum.elim_inl]
          have e3 : viewB ((u : Int) :: q ++ new).length 1 (((u : Int) :: q ++ new).length : Nat) = some (1, (q ++ new).length) := by
            simp only [viewB, List.cons_append, List.length_cons]
            rw [if_pos (by omega)]
            congr 2 <;> omega
          rw [e3, Option.bind_some]
          have e4 : (List.drop 1 ((u : Int) :: q ++ new)).take (q ++ new).length = q ++ new := by
            rw [show List.drop 1 ((u : Int) :: q ++ new) = q ++ new from rfl, List.take_length]
          simp only
          rw [e4]
        · exact hL.step h hQ huN (by simp) hl q (fun d => by simp) q2 q4 q5 q6
        · simp only [List.length_append]; omega
        · simp only [List.length_append, List.length_cons]; omega) ((N : Int), E, A, seen0, st0, n, c, v, ()) ⟨seen0, st0, rfl, h0, hst⟩
  obtain ⟨seen, rfl, h3⟩ := h2
  exact ⟨seen, h1, h3⟩
structure Done (N : Nat) (E : List Arc) (k : Nat) (seen : List Bool) : Prop where
  len : seen.length = N
  closed : ∀ v : Nat, v < N → seen[v]? = some true → ∀ d w : Nat, d < 2 * E.length → tl E d = v → hd E d = w → seen[w]? = some true
  old : ∀ v : Nat, v < k → v < N → seen[v]? = some true
  from' : ∀ v : Nat, v < N → seen[v]? = some true → ∃ u, u < k ∧ Reach E u v
theorem Done.reach (h : RotOK (N : Nat) E A) {k : Nat} {seen : List Bool} (hD : Done N E k seen) : ∀ {u v : Nat}, Reach E u v → u < N → seen[u]? = some true → seen[v]? = some true := by
  intro u v hr
  induction hr with
  | refl => intro _ h; exact h
  | step hr' hk e1 e2 ih =>
    intro hu hs
    obtain ⟨u', e3, e4⟩ := h.tl_lt hk
    rw [e1] at e3
    have : _ = u' := Int.ofNat.inj e3
    subst this
    exact hD.closed _ e4 (ih hu hs) _ _ hk e1 e2
theorem countP_range_succ (p : Nat → Bool) (k : Nat) : (List.range (k + 1)).countP p = (List.range k).countP p + cond (p k) 1 0 := by
  rw [List.range_succ, List.countP_append]
  cases h : p k <;> simp [h]
theorem comps_val (h : RotOK (N : Nat) E A) : rotation_components (((N : Int), E, A, ()), ()) = some ((comps N E : Int), ()) := by
  have h16 : N ≤ 16384 := by have := h.n1; omega
  have outer : ∀ (d k : Nat) (seen : List Bool), k + d = N → Done N E k seen → rotation_components_L4 ((N : Int), E, A, seen, (((List.range k).countP (minB E) : Nat) : Int), (N : Int), (k : Int), ()) = some (.inl (((comps N E : Nat) : Int), ())) := by
    intro d
    induction d with
    | zero =>
      intro k seen hk hD
      have : k = N := by omega
      subst this
      refine loop_done ?_
      simp only [rotation_components_B4]
      rw [ltI_f (by omega)]; rfl
    | succ d ih =>
      intro k seen hk hD
      have hkN : k < N := by omega
      have hcle : (List.range k).countP (minB E) ≤ k := by
        have := List.countP_le_length (p := minB E) (l := List.range k)
        simpa using this
      obtain ⟨b, hb⟩ : ∃ b, seen[k]? = some b := ⟨_, List.getElem?_eq_getElem (by rw [hD.len]; exact hkN)⟩
      cases b with
      | true =>
        have hm : minB E k = false := by
          cases e : minB E k with
          | false => rfl
          | true =>
            obtain ⟨u, hu, hR⟩ := hD.from' k hkN hb
            exact absurd hR (minB_iff.1 e u hu)
        have hc : (List.range (k + 1)).countP (minB E) = (List.range k).countP (minB E) := by rw [countP_range_succ, hm]; rfl
        have hs : rotation_components_B4 ((N : Int), E, A, seen, (((List.range k).countP (minB E) : Nat) : Int), (N : Int), (k : Int), ()) = some (.inl ((N : Int), E, A, seen, (((List.range (k + 1)).countP (minB E) : Nat) : Int), (N : Int), ((k + 1 : Nat) : Int), ())) := by
          simp only [rotation_components_B4]
          rw [ltI_t (by omega), cond_true, idxI_of (by rw [hD.len]; exact hkN), Option.bind_some, hb, Option.bind_some, cond_true, add1 (by omega), hc]
        refine (loop_step hs).trans (ih (k + 1) seen (by omega) ⟨hD.len, hD.closed, fun v hv hvN => ?_, fun v hv hvs => ?_⟩)
        · rcases Nat.eq_or_lt_of_le (Nat.le_of_lt_succ hv) with rfl | hlt
          · exact hb
          · exact hD.old v hlt hvN
        · obtain ⟨u, hu, hR⟩ := hD.from' v hv hvs
          exact ⟨u, by omega, hR⟩
      | false =>
        have hm : minB E k = true := by
          rw [minB_iff]
          intro u hu hR
          have := hD.reach h hR (by omega) (hD.old u hu (by omega))
          rw [hb] at this
          cases this
        have hc : (List.range (k + 1)).countP (minB E) = (List.range k).countP (minB E) + 1 := by rw [countP_range_succ, hm]; rfl
        have hun := unm_set hb
        have hunl := unm_le seen
        rw [hD.len] at hunl
        have hset : ∀ v : Nat, (seen.set k true)[v]? = some true → v = k ∨ seen[v]? = some true := by
          intro v hv
          rw [List.getElem?_set] at hv
          by_cases e : k = v
          · exact .inl e.symm
          · rw [if_neg e] at hv; exact .inr hv
        have hQ : ∀ v w d : Nat, ((seen[v]? = some true ∧ v < N) ∨ Reach E k v) → d < 2 * E.length → tl E d = v → hd E d = w → ((seen[w]? = some true ∧ w < N) ∨ Reach E k w) := by
          intro v w d hv hd' e1 e2
          rcases hv with ⟨hv, hvN⟩ | hv
          · obtain ⟨w', e3, e4⟩ := h.hd_lt hd'
            have : w = w' := by omega
            subst this
            exact .inl ⟨hD.closed v hvN hv d w hd' e1 e2, e4⟩
          · exact .inr (.step hv hd' e1 e2)
        obtain ⟨seen', q1, q2⟩ := comp_queueQ h hQ (seen.set k true) [(k : Int)] (by simp; omega) ⟨by simpa using hD.len, fun d hd' => by
            simp at hd'; subst hd'
            exact ⟨k, rfl, hkN, by simp [hD.len, hkN]⟩, fun v hv hvs hn d w hd' e1 e2 => by
            rcases hset v hvs with rfl | hvs
            · simp at hn
            · obtain ⟨w', e3, e4⟩ := h.hd_lt hd'
              have : w = w' := by omega
              subst this
              have := hD.closed v hv hvs d w hd' e1 e2
              rw [List.getElem?_set]
              by_cases e : k = w
              · subst e; simp [hD.len, hkN]
              · rw [if_neg e]; exact this, fun v hv hvs => by
            rcases hset v hvs with rfl | hvs
            · exact .inr (.refl _)
            · exact .inl ⟨hvs, hv⟩, fun _ _ h => h⟩ (((List.range k).countP (minB E) : Nat) + 1 : Nat) (N : Int) (k : Int)
        have hs : rotation_components_B4 ((N : Int), E, A, seen, (((List.range k).countP (minB E) : Nat) : Int), (N : Int), (k : Int), ()) = some (.inl ((N : Int), E, A, seen', (((List.range (k + 1)).countP (minB E) : Nat) : Int), (N : Int), ((k + 1 : Nat) : Int), ())) := by
          simp only [rotation_components_B4]
          rw [ltI_t (by omega), cond_true, idxI_of (by rw [hD.len]; exact hkN), Option.bind_some, hb, Option.bind_some, cond_false]
          simp only [idxI_of (show k < seen.length by rw [hD.len]; exact hkN), Option.bind_some, hb]
          rw [add1 (a := (List.range k).countP (minB E)) (by omega), q1]
          simp only [Option.bind_some, Sum.elim_inl]
          rw [add1 (a := k) (by omega), hc]
        refine (loop_step hs).trans (ih (k + 1) seen' (by omega) ⟨q2.len, fun v hv hvs d w hd' e1 e2 => q2.closed v hv hvs (by simp) d w hd' e1 e2, fun v hv hvN => ?_, fun v hv hvs => ?_⟩)
        · refine q2.keep v hvN ?_
          rw [List.getElem?_set]
          by_cases e : k = v
          · subst e; simp [hD.len, hkN]
          · rw [if_neg e]; exact hD.old v (by omega) hvN
        · rcases q2.reach v hv hvs with ⟨hvs, _⟩ | hR
          · obtain ⟨u, hu, hR⟩ := hD.from' v hv hvs
            exact ⟨u, by omega, hR⟩
          · exact ⟨k, by omega, hR⟩
  have := outer N 0 (List.replicate N false) (by omega) ⟨by simp, fun v hv hvs => by simp [List.getElem?_replicate, hv] at hvs, fun v hv => by omega, fun v hv hvs => by simp [List.getElem?_replicate, hv] at hvs⟩
  unfold rotation_components
  simp only
  rw [makeL_of (Nat.le_refl _) (by omega), Option.bind_some, show List.replicate N (zeroVal Ty.bool) = List.replicate N false from rfl,
    show rotation_components_L4 ((N : Int), E, A, List.replicate N false, 0, (N : Int), 0, ()) = _ from this]
  rfl
end
end Go.Vm

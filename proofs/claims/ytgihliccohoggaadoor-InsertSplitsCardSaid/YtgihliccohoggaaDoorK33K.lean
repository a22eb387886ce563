/-
  The system with a new vertex on an edge.
-/
import Derived.Test.YtgihliccohoggaaDoorK33J
set_option linter.unusedVariables false
set_option linter.unusedSimpArgs false
namespace Go.Vm
open Go.Proofs
set_option maxRecDepth 100000
attribute [local irreducible] loopFix

section

variable {N : Nat} {E : List Arc} {A : List (List Int)} {e x y : Nat}

theorem splE_len : (splE E N e x y).length = E.length + 1 := by simp [splE]

theorem splA_len {m : Nat} : (splA A e m y).length = A.length + 1 := by simp [splA]

theorem SplitOK.tl0 (h : SplitOK N E A e x y) : tl E (2 * e) = (x : Int) := by
  unfold tl
  rw [show 2 * e / 2 = e by omega, h.arc]
  simp only
  rw [if_pos (by omega)]

theorem SplitOK.tl1 (h : SplitOK N E A e x y) : tl E (2 * e + 1) = (y : Int) := by
  unfold tl
  rw [show (2 * e + 1) / 2 = e by omega, h.arc]
  simp only
  rw [if_neg (by omega)]

/-- The tails of the new system. -/
theorem SplitOK.tails (h : SplitOK N E A e x y) : tl (splE E N e x y) (2 * e) = (x : Int) ∧ tl (splE E N e x y) (2 * e + 1) = (N : Int) ∧ tl (splE E N e x y) (2 * E.length) = (N : Int) ∧ tl (splE E N e x y) (2 * E.length + 1) = (y : Int) ∧
    ∀ k, k < 2 * E.length → k ≠ 2 * e + 1 → tl (splE E N e x y) k = tl E k := by
  have he := h.he
  have hs : ∀ k, k < E.length → (splE E N e x y)[k]? = if k = e then some ((x : Int), (N : Int), ()) else E[k]? := by
    intro k hk
    unfold splE
    rw [List.getElem?_append_left (by simpa using hk), List.getElem?_set]
    by_cases c : e = k
    · subst c; simp [he]
    · rw [if_neg c, if_neg (Ne.symm c)]
  have hlast : (splE E N e x y)[E.length]? = some ((N : Int), (y : Int), ()) := by
    unfold splE
    rw [List.getElem?_append_right (by simp)]
    simp
  have h0 : tl (splE E N e x y) (2 * e) = (x : Int) := by
    unfold tl
    rw [show 2 * e / 2 = e by omega, hs e he, if_pos rfl]
    simp only
    rw [if_pos (by omega)]
  refine ⟨h0, ?_, ?_, ?_, fun k hk hne => ?_⟩
  · unfold tl
    rw [show (2 * e + 1) / 2 = e by omega, hs e he, if_pos rfl]
    simp only
    rw [if_neg (by omega)]
  · unfold tl
    rw [show 2 * E.length / 2 = E.length by omega, hlast]
    simp only
    rw [if_pos (by omega)]
  · unfold tl
    rw [show (2 * E.length + 1) / 2 = E.length by omega, hlast]
    simp only
    rw [if_neg (by omega)]
  · by_cases c : k = 2 * e
    · subst c; rw [h0, h.tl0]
    · unfold tl
      rw [hs _ (by omega), if_neg (by omega)]

theorem splA_get {m : Nat} (hy : y < A.length) (w : Nat) : (splA A e m y)[w]? = if w = y then some (repL (2 * e + 1 : Nat) (2 * m + 1 : Nat) (subL A y)) else if w = A.length then some [((2 * e + 1 : Nat) : Int), ((2 * m : Nat) : Int)] else A[w]? := by
  unfold splA
  by_cases c1 : w < A.length
  · rw [List.getElem?_append_left (by simpa using c1), List.getElem?_set]
    by_cases c2 : y = w
    · subst c2; simp [hy]
    · rw [if_neg c2, if_neg (Ne.symm c2), if_neg (by omega)]
  · rw [List.getElem?_append_right (by simp; omega), if_neg (by omega)]
    by_cases c2 : w = A.length
    · subst c2; simp
    · rw [if_neg c2, List.getElem?_eq_none (by simp; omega), List.getElem?_eq_none (by omega)]

theorem repL_mem {b c z : Int} {l : List Int} : z ∈ repL b c l ↔ (z ∈ l ∧ z ≠ b) ∨ (z = c ∧ b ∈ l) := by
  unfold repL repD
  rw [List.mem_map]
  constructor
  · rintro ⟨w, hw, he⟩
    split at he
    · rename_i e1; subst e1; exact .inr ⟨he.symm, hw⟩
    · rename_i e1; subst he; exact .inl ⟨hw, e1⟩
  · rintro (⟨h1, h2⟩ | ⟨rfl, h2⟩)
    · exact ⟨z, h1, by rw [if_neg h2]⟩
    · exact ⟨b, h2, by rw [if_pos rfl]⟩

theorem repL_split {b c : Int} {p q : List Int} (hp : b ∉ p) (hq : b ∉ q) : repL b c (p ++ b :: q) = p ++ c :: q := by
  have keep : ∀ {s : List Int}, b ∉ s → s.map (repD b c) = s := by
    intro s hs
    refine (List.map_congr_left fun x hx => ?_).trans (List.map_id s)
    unfold repD
    rw [if_neg (fun e2 => hs (by rw [← e2]; exact hx))]; rfl
  have : repD b c b = c := by unfold repD; rw [if_pos rfl]
  unfold repL
  rw [List.map_append, List.map_cons, keep hp, keep hq, this]

theorem SplitOK.al (h : SplitOK N E A e x y) : A.length = N := h.rot.al

theorem SplitOK.split (h : SplitOK N E A e x y) : ∃ p q, A[y]? = some (p ++ ((2 * e + 1 : Nat) : Int) :: q) ∧ ((2 * e + 1 : Nat) : Int) ∉ p ∧ ((2 * e + 1 : Nat) : Int) ∉ q ∧
    repL (2 * e + 1 : Nat) (2 * E.length + 1 : Nat) (subL A y) = p ++ ((2 * E.length + 1 : Nat) : Int) :: q := by
  have he := h.he
  obtain ⟨p, q, h1, h2, h3, h4⟩ := h.rot.split (k := 2 * e + 1) (by omega) h.tl1 h.yn
  exact ⟨p, q, h1, h3, h4, by rw [h2]; exact repL_split h3 h4⟩

theorem SplitOK.rot' (h : SplitOK N E A e x y) : RotOK ((N + 1 : Nat) : Nat) (splE E N e x y) (splA A e E.length y) := by
  have hal := h.al
  have he := h.he
  have hm := h.m
  have hn := h.n
  have hx := h.xn
  have hy := h.yn
  have hne := h.ne
  have hyl : y < A.length := by omega
  obtain ⟨t0, t1, t2, t3, t4⟩ := h.tails
  obtain ⟨p, q, s1, s2, s3, s4⟩ := h.split
  have hlen : (splE E N e x y).length = E.length + 1 := splE_len
  have hdart := h.rot.dart
  refine rotOK_of (by omega) (by omega) (by rw [splA_len]; omega) ?_ ?_ ?_ ?_
  · intro a ha
    unfold splE at ha
    rcases List.mem_append.1 ha with ha | ha
    · rcases List.mem_or_eq_of_mem_set ha with ha | rfl
      · obtain ⟨q1, q2, q3, q4, q5⟩ := h.rot.edge a ha
        exact ⟨q1, by omega, q3, by omega, q5⟩
      · refine ⟨by show (0 : Int) ≤ x; omega, by show (x : Int) < (N + 1 : Nat); omega, by show (0 : Int) ≤ N; omega, by show (N : Int) < (N + 1 : Nat); omega, ?_⟩
        show (x : Int) ≠ N
        omega
    · rw [List.mem_singleton] at ha
      subst ha
      refine ⟨by show (0 : Int) ≤ N; omega, by show (N : Int) < (N + 1 : Nat); omega, by show (0 : Int) ≤ y; omega, by show (y : Int) < (N + 1 : Nat); omega, ?_⟩
      show (N : Int) ≠ y
      omega
  · intro l hl
    obtain ⟨w, hw⟩ := List.mem_iff_getElem?.1 hl
    rw [splA_get hyl] at hw
    split at hw
    · cases hw
      rw [s4]
      have hnd := h.rot.list_nodup (List.mem_of_getElem? s1)
      have hno : ((2 * E.length + 1 : Nat) : Int) ∉ p ++ ((2 * e + 1 : Nat) : Int) :: q := fun hm2 => by
        obtain ⟨z, e1, e2, _⟩ := hdart y _ s1 _ hm2
        omega
      rw [List.nodup_append, List.nodup_cons] at hnd ⊢
      refine ⟨hnd.1, ⟨fun hm2 => hno (List.mem_append.2 (.inr (List.mem_cons_of_mem _ hm2))), hnd.2.1.2⟩, ?_⟩
      intro a ha b hb e1
      rcases List.mem_cons.1 hb with rfl | hb
      · subst e1; exact hno (List.mem_append.2 (.inl ha))
      · exact hnd.2.2 a ha b (List.mem_cons_of_mem _ hb) e1
    · split at hw
      · cases hw
        rw [List.nodup_cons]
        exact ⟨by simp; omega, by simp⟩
      · exact h.rot.list_nodup (List.mem_of_getElem? hw)
  · intro w l hw z hz
    rw [splA_get hyl] at hw
    have old : ∀ {w : Nat} {l : List Int}, A[w]? = some l → ∀ z ∈ l, z ≠ ((2 * e + 1 : Nat) : Int) → ∃ k : Nat, z = (k : Int) ∧ k < 2 * (splE E N e x y).length ∧ tl (splE E N e x y) k = w := by
      intro w l hl z hz hnz
      obtain ⟨k, e1, e2, e3⟩ := hdart w l hl z hz
      exact ⟨k, e1, by rw [hlen]; omega, by rw [t4 k e2 (by omega)]; exact e3⟩
    split at hw
    · rename_i e1
      cases hw
      subst e1
      rcases repL_mem.1 hz with ⟨h1, h2⟩ | ⟨rfl, _⟩
      · exact old (by rw [List.getElem?_eq_getElem hyl, ← subL_eq hyl]) z h1 h2
      · exact ⟨2 * E.length + 1, rfl, by rw [hlen]; omega, t3⟩
    · split at hw
      · rename_i e1
        cases hw
        subst e1
        rw [hal]
        rcases List.mem_cons.1 hz with rfl | hz
        · exact ⟨2 * e + 1, rfl, by rw [hlen]; omega, t1⟩
        · rw [List.mem_singleton] at hz
          exact ⟨2 * E.length, hz, by rw [hlen]; omega, t2⟩
      · rename_i e1 _
        refine old hw z hz fun e2 => e1 ?_
        subst e2
        obtain ⟨k, f1, f2, f3⟩ := hdart w l hw _ hz
        have : k = 2 * e + 1 := by omega
        subst this
        rw [h.tl1] at f3
        omega
  · intro k hk
    rw [hlen] at hk
    have into : ∀ w l, (splA A e E.length y)[w]? = some l → (k : Int) ∈ l → ∃ l ∈ splA A e E.length y, (k : Int) ∈ l := fun w l h1 h2 => ⟨l, List.mem_of_getElem? h1, h2⟩
    have gy := splA_get (e := e) (m := E.length) hyl y
    have gN := splA_get (e := e) (m := E.length) hyl A.length
    rw [if_pos rfl] at gy
    rw [if_neg (by omega), if_pos rfl] at gN
    by_cases c1 : k = 2 * e + 1
    · subst c1; exact into _ _ gN (by simp)
    · rcases Nat.lt_or_ge k (2 * E.length) with hk2 | hk2
      · obtain ⟨w, hw, hwN⟩ := h.rot.tl_lt hk2
        have hwA : w < A.length := by omega
        have hm2 := h.rot.around hk2 hw (List.getElem?_eq_getElem hwA)
        by_cases e1 : w = y
        · subst e1
          exact into _ _ gy (repL_mem.2 (.inl ⟨by rw [subL_eq hwA]; exact hm2, by omega⟩))
        · have gw := splA_get (e := e) (m := E.length) hyl w
          rw [if_neg e1, if_neg (by omega), List.getElem?_eq_getElem hwA] at gw
          exact into _ _ gw hm2
      · by_cases c2 : k = 2 * E.length
        · subst c2; exact into _ _ gN (by simp)
        · have : k = 2 * E.length + 1 := by omega
          subst this
          refine into _ _ gy ?_
          rw [s4]; simp

/-! ### What comes next in the new system -/

theorem list_rep {fw fw' : List Int} {p q : List Int} {b c : Int} (h : Cyc fw (p ++ b :: q)) (h' : Cyc fw' (p ++ c :: q)) (hp : b ∉ p) (hq : b ∉ q) :
    (∀ z, fw[b.toNat]? = some z → fw'[c.toNat]? = some (repD b c z)) ∧ ∀ z ∈ p ++ b :: q, z ≠ b → ∀ t, fw[z.toNat]? = some t → fw'[z.toNat]? = some (repD b c t) := by
  have h1 := cyc_path (cyc_rot h)
  have h2 := cyc_path (cyc_rot h')
  obtain ⟨_, y1, w1, r1⟩ := h1
  obtain ⟨_, y2, w2, r2⟩ := h2
  have r1 : Path fw y1 (q ++ p) b := r1
  have r2 : Path fw' y2 (q ++ p) c := r2
  have hs : b ∉ q ++ p := by simp [hp, hq]
  cases hqp : q ++ p with
  | nil =>
    rw [hqp] at r1 r2
    have e1 : y1 = b := r1
    have e2 : y2 = c := r2
    subst e1; subst e2
    refine ⟨fun z hz => ?_, fun z hz hne => ?_⟩
    · rw [w1] at hz
      have : y1 = z := Option.some.inj hz
      subst this
      unfold repD
      rw [if_pos rfl]; exact w2
    · have : z ∈ q ++ p := by
        simp at hz ⊢
        rcases hz with h | h | h
        · exact .inr h
        · exact absurd h hne
        · exact .inl h
      rw [hqp] at this
      simp at this
  | cons a s =>
    rw [hqp] at r1 r2 hs
    have e1 : a = y1 := r1.1
    have e2 : a = y2 := r2.1
    subst e1; subst e2
    have hab : a ≠ b := fun e => hs (by simp [e])
    have two := path_two r1 r2 (fun hm => hs (List.mem_of_mem_tail hm))
    refine ⟨fun z hz => ?_, fun z hz hne t ht => ?_⟩
    · rw [w1] at hz
      have : a = z := Option.some.inj hz
      subst this
      unfold repD
      rw [if_neg hab]; exact w2
    · have hzm : z ∈ a :: s := by
        rw [← hqp]
        simp at hz ⊢
        rcases hz with h | h | h
        · exact .inr h
        · exact absurd h hne
        · exact .inl h
      obtain ⟨q1, q2⟩ := two z hzm
      unfold repD
      by_cases c1 : t = b
      · subst c1
        rw [if_pos rfl]; exact q1 ht
      · rw [if_neg c1, q2 (by rw [ht]; exact fun e => c1 (Option.some.inj e)), ht]

theorem SplitOK.next (h : SplitOK N E A e x y) {nx nx' : List Int} (hn : Fol oth E A nx) (hn' : Fol oth (splE E N e x y) (splA A e E.length y) nx') :
    nx'[2 * e]? = some ((2 * E.length : Nat) : Int) ∧ nx'[2 * E.length + 1]? = some ((2 * e + 1 : Nat) : Int) ∧
    (∀ z, nx[2 * e]? = some z → nx'[2 * E.length]? = some (repD (2 * e + 1 : Nat) (2 * E.length + 1 : Nat) z)) ∧
    ∀ k, k < 2 * E.length → k ≠ 2 * e → ∀ z, nx[k]? = some z → nx'[k]? = some (repD (2 * e + 1 : Nat) (2 * E.length + 1 : Nat) z) := by
  have hr' := h.rot'
  have hal := h.al
  have he := h.he
  have hy := h.yn
  have hyl : y < A.length := by omega
  have hlen : (splE E N e x y).length = E.length + 1 := splE_len
  obtain ⟨fw, _, ff⟩ := rfollow_eq h.rot ()
  obtain ⟨fw', _, ff'⟩ := rfollow_eq hr' ()
  have gy := splA_get (e := e) (m := E.length) hyl y
  have gN := splA_get (e := e) (m := E.length) hyl A.length
  rw [if_pos rfl] at gy
  rw [if_neg (by omega), if_pos rfl] at gN
  obtain ⟨p, q, s1, s2, s3, s4⟩ := h.split
  rw [s4] at gy
  obtain ⟨l1, l2⟩ := list_rep (ff.cyc (List.mem_of_getElem? s1) (by simp)) (ff'.cyc (List.mem_of_getElem? gy) (by simp)) s2 s3
  obtain ⟨_, z1, w1, w2, z2, w3, w4⟩ := cyc_path (ff'.cyc (List.mem_of_getElem? gN) (by simp))
  have w2 : ((2 * E.length : Nat) : Int) = z1 := w2
  have w4 : z2 = ((2 * e + 1 : Nat) : Int) := w4
  subst w2; subst w4
  rw [Int.toNat_natCast] at w1 w3
  have conv : ∀ k, k < 2 * E.length → nx[k]? = fw[oth k]? := fun k hk => by
    obtain ⟨y, _, h1, h2⟩ := fol_both h.rot hn ff hk; rw [h1, h2]
  have conv' : ∀ k, k < 2 * E.length + 2 → nx'[k]? = fw'[oth k]? := fun k hk => by
    obtain ⟨y, _, h1, h2⟩ := fol_both hr' hn' ff' (k := k) (by rw [hlen]; omega); rw [h1, h2]
  refine ⟨?_, ?_, fun z hz => ?_, fun k hk hne z hz => ?_⟩
  · rw [conv' _ (by omega), oth2]; exact w1
  · rw [conv' _ (by omega), oth21]; exact w3
  · rw [conv _ (by omega), oth2] at hz
    rw [conv' _ (by omega), oth2]
    have := l1 z (by rw [Int.toNat_natCast]; exact hz)
    rwa [Int.toNat_natCast] at this
  · rw [conv k hk] at hz
    rw [conv' k (by omega)]
    have hok := oth_lt hk
    have hko : oth k ≠ 2 * e + 1 := fun e1 => hne (by rw [← oth_oth k, e1, oth21])
    obtain ⟨w, hw, hwN⟩ := h.rot.tl_lt hok
    have hwA : w < A.length := by omega
    have hm := h.rot.around hok hw (List.getElem?_eq_getElem hwA)
    by_cases e1 : w = y
    · subst e1
      have hm2 : ((oth k : Nat) : Int) ∈ p ++ ((2 * e + 1 : Nat) : Int) :: q := by
        rw [List.getElem?_eq_getElem hwA] at s1; rw [← Option.some.inj s1]; exact hm
      have := l2 _ hm2 (by omega) z (by rw [Int.toNat_natCast]; exact hz)
      rwa [Int.toNat_natCast] at this
    · have gw := splA_get (e := e) (m := E.length) hyl w
      rw [if_neg e1, if_neg (by omega), List.getElem?_eq_getElem hwA] at gw
      obtain ⟨i, hi, e2⟩ := List.getElem_of_mem hm
      have q1 := ff.get _ (List.getElem_mem hwA) i hi
      have q2 := ff'.get _ (List.mem_of_getElem? gw) i hi
      rw [e2] at q1 q2
      simp only [id, Int.toNat_natCast] at q1 q2
      rw [q1] at hz
      have hz2 := Option.some.inj hz
      have hzin : z ∈ A[w] := by
        have hm3 : (i + 1) % A[w].length < A[w].length := Nat.mod_lt _ (by omega)
        rw [← hz2, List.getD_eq_getElem?_getD, List.getElem?_eq_getElem hm3]; exact List.getElem_mem hm3
      have hzb : z ≠ ((2 * e + 1 : Nat) : Int) := fun e3 => by
        obtain ⟨k', f1, f2, f3⟩ := h.rot.dart w _ (List.getElem?_eq_getElem hwA) z hzin
        have : k' = 2 * e + 1 := by omega
        subst this
        rw [h.tl1] at f3
        omega
      unfold repD
      rw [q2, hz2, if_neg hzb]

/-! ### The faces -/

def sig (e m : Nat) (z : Int) : List Int := if z = ((2 * e : Nat) : Int) then [z, ((2 * m : Nat) : Int)] else if z = ((2 * e + 1 : Nat) : Int) then [((2 * m + 1 : Nat) : Int), z] else [z]

theorem path_sig {nx nx' : List Int} {e m : Nat} (n0 : nx'[2 * e]? = some ((2 * m : Nat) : Int)) (n1 : nx'[2 * m + 1]? = some ((2 * e + 1 : Nat) : Int))
    (n2 : ∀ z, nx[2 * e]? = some z → nx'[2 * m]? = some (repD (2 * e + 1 : Nat) (2 * m + 1 : Nat) z)) (n3 : ∀ k, k < 2 * m → k ≠ 2 * e → ∀ z, nx[k]? = some z → nx'[k]? = some (repD (2 * e + 1 : Nat) (2 * m + 1 : Nat) z)) (he : e < m) :
    ∀ {s : List Int} {x z : Int}, (∀ d ∈ s, ∃ k : Nat, d = (k : Int) ∧ k < 2 * m) → Path nx x s z → Path nx' (repD (2 * e + 1 : Nat) (2 * m + 1 : Nat) x) (s.flatMap (sig e m)) (repD (2 * e + 1 : Nat) (2 * m + 1 : Nat) z)
  | [], x, z, _, h => by have : x = z := h; subst this; exact rfl
  | a :: s, x, z, hs, ⟨e1, y, e2, e3⟩ => by
    subst e1
    have ih := path_sig n0 n1 n2 n3 he (fun d hd => hs d (by simp [hd])) e3
    obtain ⟨k, rfl, hk⟩ := hs a (by simp)
    rw [Int.toNat_natCast] at e2
    rw [List.flatMap_cons]
    refine path_app.2 ⟨_, ?_, ih⟩
    by_cases c1 : k = 2 * e
    · subst c1
      have : repD ((2 * e + 1 : Nat) : Int) ((2 * m + 1 : Nat) : Int) ((2 * e : Nat) : Int) = ((2 * e : Nat) : Int) := by unfold repD; rw [if_neg (by omega)]
      rw [this]
      unfold sig
      rw [if_pos rfl]
      exact ⟨rfl, _, n0, rfl, _, by rw [Int.toNat_natCast]; exact n2 y e2, rfl⟩
    · by_cases c2 : k = 2 * e + 1
      · subst c2
        have : repD ((2 * e + 1 : Nat) : Int) ((2 * m + 1 : Nat) : Int) ((2 * e + 1 : Nat) : Int) = ((2 * m + 1 : Nat) : Int) := by unfold repD; rw [if_pos rfl]
        rw [this]
        unfold sig
        rw [if_neg (by omega), if_pos rfl]
        exact ⟨rfl, _, n1, rfl, _, by rw [Int.toNat_natCast]; exact n3 _ (by omega) (by omega) y e2, rfl⟩
      · have : repD ((2 * e + 1 : Nat) : Int) ((2 * m + 1 : Nat) : Int) (k : Int) = (k : Int) := by unfold repD; rw [if_neg (by omega)]
        rw [this]
        unfold sig
        rw [if_neg (by omega), if_neg (by omega)]
        exact ⟨rfl, _, by rw [Int.toNat_natCast]; exact n3 k hk c1 y e2, rfl⟩

theorem sig_count {e m : Nat} (he : e < m) : ∀ {s : List Int}, (∀ d ∈ s, ∃ k : Nat, d = (k : Int) ∧ k < 2 * m) → (∀ k : Nat, k < 2 * m → (s.flatMap (sig e m)).count (k : Int) = s.count (k : Int)) ∧
    (s.flatMap (sig e m)).count ((2 * m : Nat) : Int) = s.count ((2 * e : Nat) : Int) ∧ (s.flatMap (sig e m)).count ((2 * m + 1 : Nat) : Int) = s.count ((2 * e + 1 : Nat) : Int)
  | [], _ => by simp
  | a :: s, hs => by
    obtain ⟨i1, i2, i3⟩ := sig_count he (s := s) (fun d hd => hs d (by simp [hd]))
    obtain ⟨k, rfl, hk⟩ := hs a (by simp)
    rw [List.flatMap_cons]
    have hc : ∀ z : Int, (sig e m (k : Int)).count z = (if k = 2 * e then (if ((2 * e : Nat) : Int) = z then 1 else 0) + (if ((2 * m : Nat) : Int) = z then 1 else 0) else if k = 2 * e + 1 then (if ((2 * m + 1 : Nat) : Int) = z then 1 else 0) + (if ((2 * e + 1 : Nat) : Int) = z then 1 else 0) else if (k : Int) = z then 1 else 0) := by
      intro z
      unfold sig
      by_cases c1 : k = 2 * e
      · subst c1
        rw [if_pos rfl, if_pos rfl]
        simp only [List.count_cons, List.count_nil, beq_iff_eq]; omega
      · by_cases c2 : k = 2 * e + 1
        · subst c2
          rw [if_neg (by omega), if_pos rfl, if_neg (by omega), if_pos rfl]
          simp only [List.count_cons, List.count_nil, beq_iff_eq]; omega
        · rw [if_neg (by omega), if_neg (by omega), if_neg c1, if_neg c2]
          simp only [List.count_cons, List.count_nil, beq_iff_eq]; omega
    have hd : ∀ z : Int, ((k : Int) :: s).count z = s.count z + if (k : Int) = z then 1 else 0 := fun z => by
      rw [List.count_cons]; simp only [beq_iff_eq]
    refine ⟨fun j hj => ?_, ?_, ?_⟩
    · rw [List.count_append, i1 j hj, hc, hd]
      by_cases c1 : k = 2 * e
      · subst c1
        rw [if_pos rfl, if_neg (by omega : ¬ ((2 * m : Nat) : Int) = (j : Int))]; omega
      · by_cases c2 : k = 2 * e + 1
        · subst c2
          rw [if_neg (by omega), if_pos rfl, if_neg (by omega : ¬ ((2 * m + 1 : Nat) : Int) = (j : Int))]; omega
        · rw [if_neg c1, if_neg c2]; omega
    · rw [List.count_append, i2, hc, hd]
      by_cases c1 : k = 2 * e
      · subst c1
        rw [if_pos rfl, if_neg (by omega : ¬ ((2 * e : Nat) : Int) = ((2 * m : Nat) : Int)), if_pos rfl, if_pos rfl]; omega
      · by_cases c2 : k = 2 * e + 1
        · subst c2
          rw [if_neg (by omega), if_pos rfl, if_neg (by omega : ¬ ((2 * m + 1 : Nat) : Int) = ((2 * m : Nat) : Int)), if_neg (by omega : ¬ ((2 * e + 1 : Nat) : Int) = ((2 * m : Nat) : Int)), if_neg (by omega)]; omega
        · rw [if_neg c1, if_neg c2, if_neg (by omega), if_neg (by omega)]; omega
    · rw [List.count_append, i3, hc, hd]
      by_cases c1 : k = 2 * e
      · subst c1
        rw [if_pos rfl, if_neg (by omega : ¬ ((2 * e : Nat) : Int) = ((2 * m + 1 : Nat) : Int)), if_neg (by omega : ¬ ((2 * m : Nat) : Int) = ((2 * m + 1 : Nat) : Int)), if_neg (by omega)]; omega
      · by_cases c2 : k = 2 * e + 1
        · subst c2
          rw [if_neg (by omega), if_pos rfl, if_pos rfl, if_neg (by omega : ¬ ((2 * e + 1 : Nat) : Int) = ((2 * m + 1 : Nat) : Int)), if_pos rfl]; omega
        · rw [if_neg c1, if_neg c2, if_neg (by omega), if_neg (by omega)]; omega

theorem flat_sig (e m : Nat) : ∀ fs : List (List Int), (fs.map fun f => f.flatMap (sig e m)).flatten = fs.flatten.flatMap (sig e m)
  | [] => rfl
  | f :: fs => by rw [List.map_cons, List.flatten_cons, flat_sig e m fs, List.flatten_cons, List.flatMap_append]

theorem sig_mem {e m : Nat} {s : List Int} (he : e < m) (hs : ∀ d ∈ s, ∃ k : Nat, d = (k : Int) ∧ k < 2 * m) : ∀ d ∈ s.flatMap (sig e m), ∃ k : Nat, d = (k : Int) ∧ k < 2 * m + 2 := by
  intro d hd
  obtain ⟨z, hz, hdz⟩ := List.mem_flatMap.1 hd
  obtain ⟨k, rfl, hk⟩ := hs z hz
  unfold sig at hdz
  split at hdz
  · simp at hdz
    rcases hdz with h | h
    · exact ⟨k, h, by omega⟩
    · exact ⟨2 * m, by omega, by omega⟩
  · split at hdz
    · simp at hdz
      rcases hdz with h | h
      · exact ⟨2 * m + 1, by omega, by omega⟩
      · exact ⟨k, h, by omega⟩
    · simp at hdz
      exact ⟨k, hdz, by omega⟩

theorem SplitOK.faces (h : SplitOK N E A e x y) {nx nx' : List Int} (hn : Fol oth E A nx) (hn' : Fol oth (splE E N e x y) (splA A e E.length y) nx') : (facesOf nx').length = (facesOf nx).length := by
  have he := h.he
  obtain ⟨hf, cf⟩ := facesOf_fs h.rot hn
  obtain ⟨hf', cf'⟩ := facesOf_fs h.rot' hn'
  have hlen : (splE E N e x y).length = E.length + 1 := splE_len
  obtain ⟨n0, n1, n2, n3⟩ := h.next hn hn'
  rw [hlen] at hf'
  have hel : ∀ d ∈ (facesOf nx).flatten, ∃ k : Nat, d = (k : Int) ∧ k < 2 * E.length := fun d hd => by
    obtain ⟨l, hl, hdl⟩ := List.mem_flatten.1 hd
    exact (hf.elem l hl).2 d hdl
  obtain ⟨c1, c2, c3⟩ := sig_count he hel
  have hone := List.nodup_iff_count.1 hf.nodup
  have hg : FsOK (2 * (E.length + 1)) ((facesOf nx).map fun f => f.flatMap (sig e E.length)) := by
    refine ⟨?_, ?_, ?_, ?_⟩
    · intro g hg
      obtain ⟨f, hfm, rfl⟩ := List.mem_map.1 hg
      obtain ⟨q1, q2⟩ := hf.elem f hfm
      refine ⟨?_, fun d hd => ?_⟩
      · cases f with
        | nil => exact absurd rfl q1
        | cons a s =>
          rw [List.flatMap_cons]
          unfold sig
          split
          · simp
          · split <;> simp
      · obtain ⟨k, e1, e2⟩ := sig_mem he q2 d hd
        exact ⟨k, e1, by omega⟩
    · rw [flat_sig, List.nodup_iff_count]
      intro z
      by_cases hz : z ∈ (facesOf nx).flatten.flatMap (sig e E.length)
      · obtain ⟨k, rfl, hk⟩ := sig_mem he hel z hz
        rcases Nat.lt_or_ge k (2 * E.length) with c | c
        · rw [c1 k c]; exact hone _
        · by_cases c4 : k = 2 * E.length
          · subst c4; rw [c2]; exact hone _
          · have : k = 2 * E.length + 1 := by omega
            subst this; rw [c3]; exact hone _
      · rw [List.count_eq_zero.2 hz]; omega
    · intro k hk
      rw [flat_sig]
      refine List.count_pos_iff.1 ?_
      rcases Nat.lt_or_ge k (2 * E.length) with c | c
      · rw [c1 k c]; exact List.count_pos_iff.2 (hf.cover k c)
      · by_cases c4 : k = 2 * E.length
        · subst c4; rw [c2]; exact List.count_pos_iff.2 (hf.cover _ (by omega))
        · have : k = 2 * E.length + 1 := by omega
          subst this; rw [c3]; exact List.count_pos_iff.2 (hf.cover _ (by omega))
    · have := hf.num
      rw [List.length_map]; omega
  have cg : ∀ g ∈ ((facesOf nx).map fun f => f.flatMap (sig e E.length)), Cyc nx' g := by
    intro g hgm
    obtain ⟨f, hfm, rfl⟩ := List.mem_map.1 hgm
    have hc := cf f hfm
    cases f with
    | nil => exact absurd rfl hc.1
    | cons a s =>
      exact path_cyc (path_sig n0 n1 n2 n3 he (hf.elem _ hfm).2 (cyc_path hc)) ((hg.elem _ hgm).1)
  rw [parts_eq hf' hg cf' cg, List.length_map]

/-! ### What is reached -/

theorem SplitOK.reach (h : SplitOK N E A e x y) {a b : Nat} (ha : a < N) (hb : b < N) : Reach (splE E N e x y) a b ↔ Reach E a b := by
  have he := h.he
  have hlen : (splE E N e x y).length = E.length + 1 := splE_len
  obtain ⟨t0, t1, t2, t3, t4⟩ := h.tails
  have hxN := h.xn
  have hyN := h.yn
  have exy : Reach E x y := .step (.refl _) (k := 2 * e) (by omega) h.tl0 (by unfold hd; rw [oth2]; exact h.tl1)
  constructor
  · intro hr
    have key : ∀ {a b : Nat}, Reach (splE E N e x y) a b → Reach E (if a = N then x else a) (if b = N then x else b) := by
      intro a b hr
      induction hr with
      | refl => exact .refl _
      | @step v w k _ hk e1 e2 ih =>
        refine ih.trans ?_
        rw [hlen] at hk
        unfold hd at e2
        by_cases c1 : k = 2 * e
        · subst c1
          rw [t0] at e1
          rw [oth2, t1] at e2
          rw [if_neg (by omega), if_pos (by omega), show v = x by omega]
          exact .refl _
        · by_cases c2 : k = 2 * e + 1
          · subst c2
            rw [t1] at e1
            rw [oth21, t0] at e2
            rw [if_pos (by omega), if_neg (by omega), show w = x by omega]
            exact .refl _
          · by_cases c3 : k = 2 * E.length
            · subst c3
              rw [t2] at e1
              rw [oth2, t3] at e2
              rw [if_pos (by omega), if_neg (by omega), show w = y by omega]
              exact exy
            · by_cases c4 : k = 2 * E.length + 1
              · subst c4
                rw [t3] at e1
                rw [oth21, t2] at e2
                rw [if_neg (by omega), if_pos (by omega), show v = y by omega]
                exact exy.symm
              · have hk2 : k < 2 * E.length := by omega
                have hok : oth k ≠ 2 * e + 1 := fun e3 => c1 (by rw [← oth_oth k, e3, oth21])
                rw [t4 k hk2 c2] at e1
                rw [t4 _ (oth_lt hk2) hok] at e2
                obtain ⟨v', q1, q2⟩ := h.rot.tl_lt hk2
                obtain ⟨w', q3, q4⟩ := h.rot.tl_lt (oth_lt hk2)
                rw [if_neg (by omega), if_neg (by omega)]
                exact .step (.refl _) hk2 e1 e2
    have := key hr
    rwa [if_neg (by omega), if_neg (by omega)] at this
  · intro hr
    clear ha hb
    induction hr with
    | refl => exact .refl _
    | @step v w k _ hk e1 e2 ih =>
      refine ih.trans ?_
      unfold hd at e2
      have s0 : Reach (splE E N e x y) x N := .step (.refl _) (k := 2 * e) (by rw [hlen]; omega) t0 (by unfold hd; rw [oth2]; exact t1)
      have s1 : Reach (splE E N e x y) N y := .step (.refl _) (k := 2 * E.length) (by rw [hlen]; omega) t2 (by unfold hd; rw [oth2]; exact t3)
      by_cases c1 : k = 2 * e
      · subst c1
        rw [h.tl0] at e1
        rw [oth2, h.tl1] at e2
        rw [show v = x by omega, show w = y by omega]
        exact s0.trans s1
      · by_cases c2 : k = 2 * e + 1
        · subst c2
          rw [h.tl1] at e1
          rw [oth21, h.tl0] at e2
          rw [show v = y by omega, show w = x by omega]
          exact (s0.trans s1).symm
        · have hok : oth k ≠ 2 * e + 1 := fun e3 => c1 (by rw [← oth_oth k, e3, oth21])
          exact .step (.refl _) (k := k) (by rw [hlen]; omega) (by rw [t4 k hk c2]; exact e1) (by unfold hd; rw [t4 _ (oth_lt hk) hok]; exact e2)

theorem SplitOK.toN (h : SplitOK N E A e x y) : Reach (splE E N e x y) x N := by
  have he := h.he
  obtain ⟨t0, t1, _⟩ := h.tails
  exact .step (.refl _) (k := 2 * e) (by rw [splE_len]; omega) t0 (by unfold hd; rw [oth2]; exact t1)

theorem SplitOK.comps (h : SplitOK N E A e x y) : comps (N + 1) (splE E N e x y) = comps N E := by
  unfold Go.Vm.comps
  rw [List.range_succ, List.countP_append]
  have h1 : minB (splE E N e x y) N = false := by
    cases hb : minB (splE E N e x y) N with
    | false => rfl
    | true => exact absurd h.toN (minB_iff.1 hb x h.xn)
  have h2 : List.countP (minB (splE E N e x y)) (List.range N) = List.countP (minB E) (List.range N) := by
    refine List.countP_congr fun v hv => ?_
    have hv := List.mem_range.1 hv
    rw [minB_iff, minB_iff]
    unfold MinV
    exact forall_congr' fun u => forall_congr' fun hu => not_congr (h.reach (by omega) hv)
  rw [h2]
  simp [h1]

theorem SplitOK.emp (h : SplitOK N E A e x y) : emp (splA A e E.length y) = emp A := by
  have hyl : y < A.length := by rw [h.al]; exact h.yn
  obtain ⟨p, q, s1, s2, s3, s4⟩ := h.split
  unfold splA
  have e0 : ∀ (a b : List (List Int)), Go.Vm.emp (a ++ b) = Go.Vm.emp a + Go.Vm.emp b := fun a b => List.countP_append ..
  rw [e0, emp_set hyl]
  · rfl
  · rw [s4, subL_eq hyl]
    rw [List.getElem?_eq_getElem hyl] at s1
    rw [Option.some.inj s1]
    cases p <;> rfl

/-- The genus stays. -/
theorem SplitOK.genus (h : SplitOK N E A e x y) {nx nx' : List Int} (hn : Fol oth E A nx) (hn' : Fol oth (splE E N e x y) (splA A e E.length y) nx') :
    genZ (N + 1) (splE E N e x y) (splA A e E.length y) (facesOf nx').length = genZ N E A (facesOf nx).length := by
  unfold genZ
  rw [h.faces hn hn', h.emp, h.comps, splE_len]
  congr 2
  omega

end
end Go.Vm

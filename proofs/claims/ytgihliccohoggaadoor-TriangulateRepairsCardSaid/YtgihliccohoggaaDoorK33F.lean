/-
  A system with a new edge.
-/
import Derived.Test.YtgihliccohoggaaDoorK33D
set_option linter.unusedVariables false
set_option linter.unusedSimpArgs false
namespace Go.Vm
open Go.Proofs
set_option maxRecDepth 100000
attribute [local irreducible] loopFix
section
variable {N : Nat} {E : List Arc} {A : List (List Int)} {d f u v : Nat}
theorem EdgeOK.rot' (h : EdgeOK N E A d f u v) : RotOK (N : Nat) (E ++ [((u : Int), (v : Int), ())]) (insA A u v E.length d f) := by
  have hal := h.al
  have hu : u < A.length := by rw [hal]; exact h.un
  have hv : v < A.length := by rw [hal]; exact h.vn
  have hlen : (E ++ [((u : Int), (v : Int), ())]).length = E.length + 1 := by simp
  have hn16 : N ≤ 16384 := by have := h.rot.n1; omega
  have hm := h.m
  refine rotOK_of hn16 (by omega) (by rw [insA_len]; exact hal) ?_ ?_ ?_ ?_
  · intro a ha
    rcases List.mem_append.1 ha with ha | ha
    · exact h.rot.edge a ha
    · rw [List.mem_singleton] at ha
      subst ha
      have := h.un; have := h.vn; have := h.ne
      refine ⟨by show (0 : Int) ≤ u; omega, by show (u : Int) < N; omega, by show (0 : Int) ≤ v; omega, by show (v : Int) < N; omega, ?_⟩
      show (u : Int) ≠ v
      omega
  · intro l hl
    obtain ⟨w, hw⟩ := List.mem_iff_getElem?.1 hl
    rw [insA_get h.ne hu hv] at hw
    have fresh : ∀ {w k x : Nat}, 2 * E.length ≤ x → tl E k = w → k < 2 * E.length → w < N → (bef (subL A w) (x : Int) (k : Int)).Nodup := by
      intro w k x hx hk hk2 hwN
      obtain ⟨p, q, h1, h2, h3, h4⟩ := h.rot.split hk2 hk hwN
      rw [h2, bef_split _ _ _ _ h3 h4]
      have hn := h.nu hwN
      rw [h2] at hn
      have hno : (x : Int) ∉ p ++ (k : Int) :: q := fun hm => by
        obtain ⟨y, e1, e2, _⟩ := h.rot.dart w _ h1 _ hm
        omega
      rw [List.nodup_append] at hn ⊢
      refine ⟨hn.1, List.nodup_cons.2 ⟨fun hm => hno (List.mem_append.2 (.inr hm)), hn.2.1⟩, ?_⟩
      intro a ha b hb e
      rcases List.mem_cons.1 hb with rfl | hb
      · subst e; exact hno (by simp [ha])
      · exact hn.2.2 a ha b hb e
    split at hw
    · cases hw; exact fresh (by omega) h.tv h.f2 h.vn
    · split at hw
      · cases hw; exact fresh (by omega) h.tu h.d2 h.un
      · exact h.rot.list_nodup (List.mem_of_getElem? hw)
  · intro w l hw x hx
    rw [insA_get h.ne hu hv] at hw
    have old : ∀ {w : Nat} {l : List Int}, A[w]? = some l → ∀ x ∈ l, ∃ k : Nat, x = (k : Int) ∧ k < 2 * (E ++ [((u : Int), (v : Int), ())]).length ∧ tl (E ++ [((u : Int), (v : Int), ())]) k = w := by
      intro w l hl x hx
      obtain ⟨k, e1, e2, e3⟩ := h.rot.dart w l hl x hx
      exact ⟨k, e1, by rw [hlen]; omega, by rw [tl_old e2]; exact e3⟩
    split at hw
    · rename_i e
      cases hw
      subst e
      rcases bef_mem.1 hx with hx | ⟨rfl, _⟩
      · exact old (by rw [List.getElem?_eq_getElem hv, ← subL_eq hv]) x hx
      · exact ⟨2 * E.length + 1, rfl, by rw [hlen]; omega, by rw [tl_new1]⟩
    · split at hw
      · rename_i e
        cases hw
        subst e
        rcases bef_mem.1 hx with hx | ⟨rfl, _⟩
        · exact old (by rw [List.getElem?_eq_getElem hu, ← subL_eq hu]) x hx
        · exact ⟨2 * E.length, rfl, by rw [hlen]; omega, by rw [tl_new0]⟩
      · exact old hw x hx
  · intro k hk
    rw [hlen] at hk
    have into : ∀ w l, (insA A u v E.length d f)[w]? = some l → (k : Int) ∈ l → ∃ l ∈ insA A u v E.length d f, (k : Int) ∈ l := fun w l h1 h2 => ⟨l, List.mem_of_getElem? h1, h2⟩
    have gu := insA_get (m := E.length) (d := (d : Int)) (f := (f : Int)) h.ne hu hv u
    have gv := insA_get (m := E.length) (d := (d : Int)) (f := (f : Int)) h.ne hu hv v
    rw [if_neg h.ne, if_pos rfl] at gu
    rw [if_pos rfl] at gv
    rcases Nat.lt_or_ge k (2 * E.length) with hk2 | hk2
    · obtain ⟨w, hw, hwN⟩ := h.rot.tl_lt hk2
      have hwA : w < A.length := by omega
      have hm := h.rot.around hk2 hw (List.getElem?_eq_getElem hwA)
      have gw := insA_get (m := E.length) (d := (d : Int)) (f := (f : Int)) h.ne hu hv w
      by_cases e1 : w = v
      · subst e1
        exact into _ _ gv (bef_mem.2 (.inl (by rw [subL_eq hwA]; exact hm)))
      · by_cases e2 : w = u
        · subst e2
          exact into _ _ gu (bef_mem.2 (.inl (by rw [subL_eq hwA]; exact hm)))
        · rw [if_neg e1, if_neg e2, List.getElem?_eq_getElem hwA] at gw
          exact into _ _ gw hm
    · by_cases e : k = 2 * E.length
      · subst e; exact into _ _ gu (bef_mem.2 (.inr ⟨rfl, h.mu⟩))
      · have : k = 2 * E.length + 1 := by omega
        subst this; exact into _ _ gv (bef_mem.2 (.inr ⟨rfl, h.mv⟩))
theorem list_turn {fw fw' : List Int} {p q : List Int} {x a : Int} (h : Cyc fw (p ++ x :: q)) (h' : Cyc fw' (p ++ a :: x :: q)) (hp : x ∉ p) (hq : x ∉ q) :
    fw'[a.toNat]? = some x ∧ ∀ y ∈ p ++ x :: q, (fw[y.toNat]? = some x → fw'[y.toNat]? = some a) ∧ (fw[y.toNat]? ≠ some x → fw'[y.toNat]? = fw[y.toNat]?) := by
  have h1 := cyc_path (cyc_rot h)
  have h2 : Cyc fw' ((x :: q) ++ (p ++ [a])) := cyc_rot (p := p ++ [a]) (q := x :: q) (by simpa using h')
  have h3 := cyc_path (x := x) (f := q ++ (p ++ [a])) h2
  obtain ⟨y, h4, h5⟩ := path_app (f := (x :: q) ++ p) (g := [a]).1 (by simpa using h3)
  obtain ⟨rfl, w, w1, w2⟩ := h5
  have w2 : w = x := w2
  subst w2
  refine ⟨w1, fun y hy => ?_⟩
  refine path_two h1 h4 ?_ y ?_
  · show w ∉ q ++ p
    simp [hp, hq]
  · simp at hy ⊢
    rcases hy with h | h | h <;> simp [h]
structure NextOK (E : List Arc) (nx nx' : List Int) (d f : Nat) : Prop where
  a : nx'[2 * E.length]? = some (f : Int)
  b : nx'[2 * E.length + 1]? = some (d : Int)
  old : ∀ k, k < 2 * E.length → (nx[k]? = some (d : Int) → nx'[k]? = some ((2 * E.length : Nat) : Int)) ∧ (nx[k]? = some (f : Int) → nx'[k]? = some ((2 * E.length + 1 : Nat) : Int)) ∧ (nx[k]? ≠ some (d : Int) → nx[k]? ≠ some (f : Int) → nx'[k]? = nx[k]?)
theorem EdgeOK.next (h : EdgeOK N E A d f u v) {nx nx' : List Int} (hn : Fol oth E A nx) (hn' : Fol oth (E ++ [((u : Int), (v : Int), ())]) (insA A u v E.length d f) nx') : NextOK E nx nx' d f := by
  have hr' := h.rot'
  have hal := h.al
  have hu : u < A.length := by rw [hal]; exact h.un
  have hv : v < A.length := by rw [hal]; exact h.vn
  have hlen : (E ++ [((u : Int), (v : Int), ())]).length = E.length + 1 := by simp
  obtain ⟨fw, _, ff⟩ := rfollow_eq h.rot ()
  obtain ⟨fw', _, ff'⟩ := rfollow_eq hr' ()
  have gu := insA_get (m := E.length) (d := (d : Int)) (f := (f : Int)) h.ne hu hv u
  have gv := insA_get (m := E.length) (d := (d : Int)) (f := (f : Int)) h.ne hu hv v
  rw [if_neg h.ne, if_pos rfl] at gu
  rw [if_pos rfl] at gv
  obtain ⟨pu, qu, su1, su2, su3, su4⟩ := h.rot.split h.d2 h.tu h.un
  obtain ⟨pv, qv, sv1, sv2, sv3, sv4⟩ := h.rot.split h.f2 h.tv h.vn
  rw [su2, bef_split _ _ _ _ su3 su4] at gu
  rw [sv2, bef_split _ _ _ _ sv3 sv4] at gv
  obtain ⟨tu1, tu2⟩ := list_turn (ff.cyc (List.mem_of_getElem? su1) (by simp)) (ff'.cyc (List.mem_of_getElem? gu) (by simp)) su3 su4
  obtain ⟨tv1, tv2⟩ := list_turn (ff.cyc (List.mem_of_getElem? sv1) (by simp)) (ff'.cyc (List.mem_of_getElem? gv) (by simp)) sv3 sv4
  have conv : ∀ k, k < 2 * E.length → nx[k]? = fw[oth k]? := fun k hk => by
    obtain ⟨y, _, h1, h2⟩ := fol_both h.rot hn ff hk; rw [h1, h2]
  have conv' : ∀ k, k < 2 * E.length + 2 → nx'[k]? = fw'[oth k]? := fun k hk => by
    obtain ⟨y, _, h1, h2⟩ := fol_both hr' hn' ff' (k := k) (by rw [hlen]; omega); rw [h1, h2]
  refine ⟨?_, ?_, fun k hk => ?_⟩
  · rw [conv' _ (by omega), oth2]; exact tv1
  · rw [conv' _ (by omega), oth21]; exact tu1
  · rw [conv k hk, conv' k (by omega)]
    have hok := oth_lt hk
    obtain ⟨w, hw, hwN⟩ := h.rot.tl_lt hok
    have hwA : w < A.length := by omega
    have hm := h.rot.around hok hw (List.getElem?_eq_getElem hwA)
    have closed : ∀ {x : Nat} {t : Nat}, x < 2 * E.length → fw[oth k]? = some (x : Int) → tl E x = t → t = w := by
      intro x t hx h1 h2
      have hc := ff.cyc (List.getElem_mem hwA) (fun e => by rw [e] at hm; simp at hm)
      have := cyc_closed hc hm h1
      obtain ⟨y, e1, _, e3⟩ := h.rot.dart w _ (List.getElem?_eq_getElem hwA) _ this
      have : y = x := by omega
      subst this
      omega
    by_cases e1 : w = u
    · subst e1
      have hm2 : ((oth k : Nat) : Int) ∈ pu ++ (d : Int) :: qu := by
        rw [List.getElem?_eq_getElem hwA] at su1; rw [← Option.some.inj su1]; exact hm
      have := tu2 _ hm2
      rw [Int.toNat_natCast] at this
      refine ⟨this.1, fun hf => absurd (closed h.f2 hf h.tv).symm h.ne, fun h1 _ => this.2 h1⟩
    · by_cases e2 : w = v
      · subst e2
        have hm2 : ((oth k : Nat) : Int) ∈ pv ++ (f : Int) :: qv := by
          rw [List.getElem?_eq_getElem hwA] at sv1; rw [← Option.some.inj sv1]; exact hm
        have := tv2 _ hm2
        rw [Int.toNat_natCast] at this
        exact ⟨fun hd => absurd (closed h.d2 hd h.tu) h.ne, this.1, fun _ h1 => this.2 h1⟩
      · refine ⟨fun hd => absurd (closed h.d2 hd h.tu).symm e1, fun hf => absurd (closed h.f2 hf h.tv).symm e2, fun _ _ => ?_⟩
        have gw := insA_get (m := E.length) (d := (d : Int)) (f := (f : Int)) h.ne hu hv w
        rw [if_neg e2, if_neg e1, List.getElem?_eq_getElem hwA] at gw
        obtain ⟨i, hi, e⟩ := List.getElem_of_mem hm
        have q1 := ff.get _ (List.getElem_mem hwA) i hi
        have q2 := ff'.get _ (List.mem_of_getElem? gw) i hi
        rw [e] at q1 q2
        simp only [id, Int.toNat_natCast] at q1 q2
        rw [q1, q2]
end
end Go.Vm

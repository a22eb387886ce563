/-
  Small lemmas on systems and lists.
-/
import Derived.Test.YtgihliccohoggaaDoorK33M
import Derived.Test.YtgihliccohoggaaDoorK39J
set_option linter.unusedVariables false
set_option linter.unusedSimpArgs false
namespace Go.Vm
open Go.Proofs
set_option maxRecDepth 100000
attribute [local irreducible] loopFix
theorem cyc_loop (l : List Int) (hl : l.length ≤ 1000000) : ∀ (r j : Nat), j + r = l.length → layoutref29_cyclic_L8 (l, l, 0, true, (j : Int), ()) = some (.inl (l, l, 0, true, ())) := by
  intro r
  induction r with
  | zero =>
    intro j hj
    refine loop_done ?_
    simp only [layoutref29_cyclic_B8]
    rw [ltI_f (by omega)]; rfl
  | succ r ih =>
    intro j hj
    refine (loop_step ?_).trans (ih (j + 1) (by omega))
    obtain ⟨y, hy⟩ : ∃ y, l[j]? = some y := ⟨_, List.getElem?_eq_getElem (by omega)⟩
    simp only [layoutref29_cyclic_B8]
    rw [ltI_t (by omega), cond_true, cond_true, eqI_f (by omega), cond_false, addI64 (by omega) (by omega), show (0 : Int) + (j : Int) = ((j : Nat) : Int) by omega, remN, Nat.mod_eq_of_lt (by omega), getI_of, hy, Option.bind_some, Option.bind_some, eqI_t rfl, add1 (by omega)]
theorem cyclic_refl (l : List Int) (hl : l.length ≤ 1000000) : layoutref29_cyclic (l, l, ()) = some (true, ()) := by
  unfold layoutref29_cyclic
  simp only
  rw [neI_f rfl, cond_false]
  by_cases h : l.length = 0
  · have : layoutref29_cyclic_L4 (l, l, 0, ()) = some (.inr (.inl (l, ()))) := by
      refine loop_done ?_
      simp only [layoutref29_cyclic_B4]
      rw [ltI_f (by omega)]; rfl
    rw [this, Option.bind_some]
    simp only [Sum.elim_inr, Sum.elim_inl]
    rw [eqI_t (by omega)]
  · have : layoutref29_cyclic_L4 (l, l, 0, ()) = some (.inl (true, ())) := by
      refine loop_done ?_
      simp only [layoutref29_cyclic_B4]
      rw [ltI_t (by omega), cond_true, show layoutref29_cyclic_L8 (l, l, 0, true, 0, ()) = _ from cyc_loop l hl l.length 0 (by omega), Option.bind_some]
      rfl
    rw [this]; rfl
theorem same29_refl (N : Int) (E : List Arc) (A : List (List Int)) (hE : E.length ≤ 1000000) (hA : A.length ≤ 1000000) (hl : ∀ l ∈ A, l.length ≤ 1000000) : layoutref29_Same ((N, E, A, ()), (N, E, A, ()), ()) = some (true, ()) := by
  unfold layoutref29_Same
  simp only
  rw [neI_f rfl, cond_false, neI_f rfl, cond_false, neI_f rfl, cond_false]
  have k1 := scan (B := layoutref29_Same_B4) (fun (_ : Unit) i => (N, E, A, N, E, A, (i : Int), ())) (fun _ => .inr (.inl (N, E, A, N, E, A, ()))) (fun (_ : Unit) => .inl (false, ())) (fun (_ : Nat) (_ : Unit) (_ : Arc) => some (Sum.inl ())) E (by
      intro u i a hd'
      have hi : i < E.length := (List.getElem?_eq_some_iff.1 hd').1
      simp only [layoutref29_Same_B4]
      rw [ltI_t (by omega), cond_true, getI_of, hd', Option.bind_some, Option.bind_some, eqI_t rfl, eqI_t rfl, add1 (by omega)]
      rfl) (by
      intro u
      simp only [layoutref29_Same_B4]
      rw [ltI_f (by omega)]; rfl) ()
  obtain ⟨t, ht⟩ := foldE_inl (g := fun (_ : Nat) (_ : Unit) (_ : Arc) => (some (Sum.inl ()) : Option (Unit ⊕ Unit))) (fun _ _ _ => ()) (l := E) (i := 0) (s := ()) (fun _ _ _ _ => rfl)
  rw [ht] at k1
  have k2 := scan (B := layoutref29_Same_B9) (fun (_ : Unit) i => (N, E, A, N, E, A, (i : Int), ())) (fun _ => .inr (.inl ())) (fun (_ : Unit) => .inl (false, ())) (fun (_ : Nat) (_ : Unit) (_ : List Int) => some (Sum.inl ())) A (by
      intro u i a hd'
      have hi : i < A.length := (List.getElem?_eq_some_iff.1 hd').1
      simp only [layoutref29_Same_B9]
      rw [ltI_t (by omega), cond_true, getI_of, hd', Option.bind_some, Option.bind_some, cyclic_refl a (hl a (List.mem_of_getElem? hd')), Option.bind_some, add1 (by omega)]
      rfl) (by
      intro u
      simp only [layoutref29_Same_B9]
      rw [ltI_f (by omega)]; rfl) ()
  obtain ⟨t, ht⟩ := foldE_inl (g := fun (_ : Nat) (_ : Unit) (_ : List Int) => (some (Sum.inl ()) : Option (Unit ⊕ Unit))) (fun _ _ _ => ()) (l := A) (i := 0) (s := ()) (fun _ _ _ _ => rfl)
  rw [ht] at k2
  rw [show layoutref29_Same_L4 (N, E, A, N, E, A, 0, ()) = _ from k1]
  simp only [Option.bind_some, Sum.elim_inr, Sum.elim_inl]
  rw [show layoutref29_Same_L9 (N, E, A, N, E, A, 0, ()) = _ from k2]
  rfl
theorem fold_find {α : Type} (p : α → Bool) : ∀ (l : List α) (i : Nat), (foldE (fun i (_ : Unit) a => some (cond (p a) (.inr (i : Nat)) (.inl ()))) i () l = some (.inl ()) ∧ ∀ a ∈ l, p a = false) ∨
    ∃ k a, l[k]? = some a ∧ p a = true ∧ foldE (fun i (_ : Unit) a => some (cond (p a) (.inr (i : Nat)) (.inl ()))) i () l = some (.inr (i + k))
  | [], i => .inl ⟨rfl, by simp⟩
  | a :: l, i => by
    simp only [foldE, Option.bind_some]
    cases h : p a with
    | true => exact .inr ⟨0, a, rfl, h, rfl⟩
    | false =>
      simp only [cond_false, Sum.elim_inl]
      rcases fold_find p l (i + 1) with ⟨h1, h2⟩ | ⟨k, b, h1, h2, h3⟩
      · exact .inl ⟨h1, fun b hb => by
          rcases List.mem_cons.1 hb with rfl | hb
          · exact h
          · exact h2 b hb⟩
      · exact .inr ⟨k + 1, b, by simpa using h1, h2, by rw [h3]; congr 2; omega⟩
theorem succ_mod {i j n : Nat} (hi : i < n) (hj : j < n) (e : (i + 1) % n = (j + 1) % n) : i = j := by
  rcases Nat.lt_or_ge (i + 1) n with a | a <;> rcases Nat.lt_or_ge (j + 1) n with b | b
  · rw [Nat.mod_eq_of_lt a, Nat.mod_eq_of_lt b] at e; omega
  · have : j + 1 = n := by omega
    rw [Nat.mod_eq_of_lt a, this, Nat.mod_self] at e; omega
  · have : i + 1 = n := by omega
    rw [this, Nat.mod_self, Nat.mod_eq_of_lt b] at e; omega
  · omega
section
variable {N : Nat} {E : List Arc} {A : List (List Int)} {nx : List Int}
theorem fol_at (h : RotOK (N : Nat) E A) (hn : Fol oth E A nx) {a : Nat} {y : Int} (ha : nx[a]? = some y) :
    ∃ (v : Nat) (l : List Int) (i : Nat), A[v]? = some l ∧ i < l.length ∧ l.getD i 0 = ((oth a : Nat) : Int) ∧ y = l.getD ((i + 1) % l.length) 0 ∧ y ∈ l := by
  have hk : a < 2 * E.length := by
    have := (List.getElem?_eq_some_iff.1 ha).1
    rw [hn.len] at this; exact this
  obtain ⟨l, hl, hd⟩ := List.mem_flatten.1 (h.mem (oth_lt hk))
  obtain ⟨v, hv⟩ := List.mem_iff_getElem?.1 hl
  obtain ⟨i, hi, hid⟩ := List.getElem_of_mem hd
  have g1 := hn.get l hl i hi
  have hm : (i + 1) % l.length < l.length := Nat.mod_lt _ (by omega)
  rw [hid, Int.toNat_natCast, oth_oth, ha] at g1
  have g1 := Option.some.inj g1
  refine ⟨v, l, i, hv, hi, ?_, g1, ?_⟩
  · rw [List.getD_eq_getElem?_getD, List.getElem?_eq_getElem hi, hid]; rfl
  · rw [g1, List.getD_eq_getElem?_getD, List.getElem?_eq_getElem hm]; exact List.getElem_mem hm
theorem fol_inj32 (h : RotOK (N : Nat) E A) (hn : Fol oth E A nx) : Inj nx := by
  intro a b y ha hb
  obtain ⟨v, l, i, hv, hi, e1, e2, e3⟩ := fol_at h hn ha
  obtain ⟨v', l', i', hv', hi', e1', e2', e3'⟩ := fol_at h hn hb
  obtain ⟨k, rfl, _, hk⟩ := h.dart v l hv y e3
  obtain ⟨k', hkk, _, hk'⟩ := h.dart v' l' hv' _ e3'
  have : k = k' := by omega
  subst this
  have : v = v' := by omega
  subst this
  rw [hv] at hv'
  have : l = l' := Option.some.inj hv'
  subst this
  have hnd : l.Nodup := h.nodup.sublist (List.sublist_flatten_of_mem (List.mem_of_getElem? hv))
  have hm : (i + 1) % l.length < l.length := Nat.mod_lt _ (by omega)
  have hm' : (i' + 1) % l.length < l.length := Nat.mod_lt _ (by omega)
  rw [e2, List.getD_eq_getElem?_getD, List.getD_eq_getElem?_getD, List.getElem?_eq_getElem hm, List.getElem?_eq_getElem hm'] at e2'
  have e2' : l[(i + 1) % l.length] = l[(i' + 1) % l.length] := e2'
  have e : (i + 1) % l.length = (i' + 1) % l.length := by
    rcases Nat.lt_trichotomy ((i + 1) % l.length) ((i' + 1) % l.length) with c | c | c
    · exact absurd e2' (List.pairwise_iff_getElem.1 hnd _ _ hm hm' c)
    · exact c
    · exact absurd e2'.symm (List.pairwise_iff_getElem.1 hnd _ _ hm' hm c)
  have : i = i' := succ_mod hi hi' e
  subst this
  rw [e1] at e1'
  have : oth a = oth b := by omega
  rw [← oth_oth a, this, oth_oth]
end
end Go.Vm

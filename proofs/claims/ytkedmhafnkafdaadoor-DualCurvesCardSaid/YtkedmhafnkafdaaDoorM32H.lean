/-
  The steps of a route.
-/
import Derived.Test.YtkedmhafnkafdaaDoorM32G
set_option linter.unusedVariables false
set_option linter.unusedSimpArgs false
namespace Go.Vm
open Go.Proofs
set_option maxRecDepth 100000
attribute [local irreducible] loopFix

/-! ### Routes, plain -/

section
variable {M : Nat} {fc D : Nat → Nat}

def Cnd (fc D : Nat → Nat) (P : Nat → Prop) (s k : Nat) : Prop := P (fc k) ∧ D (fc k) = s + 1 ∧ D (fc (oth k)) = s
def Rt (M : Nat) (fc D : Nat → Nat) : (Nat → Prop) → Nat → List Int → Prop
  | _, 0, l => l = []
  | P, s + 1, l => ∃ k l', k < 2 * M ∧ Cnd fc D P s k ∧ (∀ j, j < k → ¬ Cnd fc D P s j) ∧ l = ((k / 2 : Nat) : Int) :: l' ∧ Rt M fc D (fun f => f = fc (oth k)) s l'
theorem Rt.len : ∀ {s : Nat} {P : Nat → Prop} {l : List Int}, Rt M fc D P s l → l.length = s
  | 0, _, _, h => by subst h; rfl
  | s + 1, _, _, ⟨_, _, _, _, _, e, h⟩ => by subst e; simp [h.len]
theorem Rt.uniq : ∀ {s : Nat} {P P' : Nat → Prop} {l l' : List Int}, Rt M fc D P s l → Rt M fc D P' s l' → (∀ f, D f = s → (P f ↔ P' f)) → l = l'
  | 0, _, _, _, _, h, h', _ => by rw [h, h']
  | s + 1, P, P', l, l', ⟨k, t, a1, a2, a3, a4, a5⟩, ⟨k', t', b1, b2, b3, b4, b5⟩, hP => by
    have hc : ∀ j, Cnd fc D P s j ↔ Cnd fc D P' s j := by
      intro j
      unfold Cnd
      constructor
      · rintro ⟨x, y, z⟩; exact ⟨(hP _ y).1 x, y, z⟩
      · rintro ⟨x, y, z⟩; exact ⟨(hP _ y).2 x, y, z⟩
    have hk : k = k' := by
      rcases Nat.lt_trichotomy k k' with c | c | c
      · exact absurd ((hc k).1 a2) (b3 k c)
      · exact c
      · exact absurd ((hc k').2 b2) (a3 k' c)
    subst hk
    rw [a4, b4, Rt.uniq a5 b5 (fun _ _ => Iff.rfl)]
end

/-! ### The least of a list, and what is as far as it -/
section
variable {dist : List Int}

theorem least_loop (l : List Int) (hl : ∀ x ∈ l, ∃ f : Nat, x = (f : Int) ∧ f < dist.length) (hd : ∀ f, f < dist.length → 0 ≤ lab dist f ∧ lab dist f ≤ 1000) (hlen : l.length ≤ 1000) : ∀ (c i : Nat) (x : Int), i + c = l.length → x ∈ l → (∀ y ∈ l.take i, lab dist x.toNat ≤ lab dist y.toNat) →
    ∃ z, slices_MinFunc_int_of_dual_Route_1_L5 (l, (dist, ()), x, (i : Int), ()) = some (.inl (z, ())) ∧ z ∈ l ∧ ∀ y ∈ l, lab dist z.toNat ≤ lab dist y.toNat
  | 0, i, x, hc, hx, hm => by
    refine ⟨x, ?_, hx, fun y hy => hm y (by rw [List.take_of_length_le (by omega)]; exact hy)⟩
    unfold slices_MinFunc_int_of_dual_Route_1_L5
    refine loop_done ?_
    unfold slices_MinFunc_int_of_dual_Route_1_B5
    simp only
    rw [ltI_f (by omega)]; rfl
  | c + 1, i, x, hc, hx, hm => by
    have hi : i < l.length := by omega
    have hy := List.getElem_mem hi
    obtain ⟨f, ef, hf⟩ := hl _ hy
    obtain ⟨g, eg, hg⟩ := hl _ hx
    have hdf := hd f hf
    have hdg := hd g hg
    have hr : slices_MinFunc_int_of_dual_Route_1_B5 (l, (dist, ()), x, (i : Int), ()) = some (.inl (l, (dist, ()), (if lab dist f < lab dist g then (f : Int) else x), ((i + 1 : Nat) : Int), ())) := by
      unfold slices_MinFunc_int_of_dual_Route_1_B5 dual_Route_1
      simp only
      rw [ltI_t (by omega), cond_true, getI_of, List.getElem?_eq_getElem hi, ef, eg]
      simp only [Option.bind_some]
      rw [getI_of, lab_get hf, Option.bind_some, getI_of, lab_get hg, Option.bind_some, subI64 (by omega) (by omega)]
      simp only [Option.bind_some]
      rw [add1 (by omega)]
      by_cases e : lab dist f < lab dist g
      · rw [ltI_t (by omega), if_pos e]; rfl
      · rw [ltI_f (by omega), if_neg e]; rfl
    have ht : l.take (i + 1) = l.take i ++ [(f : Int)] := by rw [List.take_add_one, List.getElem?_eq_getElem hi, ef]; rfl
    obtain ⟨z, z1, z2, z3⟩ := least_loop l hl hd hlen c (i + 1) (if lab dist f < lab dist g then (f : Int) else x) (by omega) (by split; exact ef ▸ hy; exact hx) (by
      intro y hy'
      rw [ht] at hy'
      rcases List.mem_append.1 hy' with h | h
      · have := hm y h
        rw [eg] at this ⊢
        split
        · simp only [Int.toNat_natCast] at this ⊢; omega
        · exact this
      · simp at h
        subst h
        rw [eg]
        split
        · simp
        · simp only [Int.toNat_natCast]; omega)
    refine ⟨z, ?_, z2, z3⟩
    rw [← z1]
    unfold slices_MinFunc_int_of_dual_Route_1_L5
    exact loop_step hr
theorem least_eq (l : List Int) (h0 : l ≠ []) (hl : ∀ x ∈ l, ∃ f : Nat, x = (f : Int) ∧ f < dist.length) (hd : ∀ f, f < dist.length → 0 ≤ lab dist f ∧ lab dist f ≤ 1000) (hlen : l.length ≤ 1000) :
    ∃ z, slices_MinFunc_int_of_dual_Route_1 (l, (dist, ()), ()) = some (z, ()) ∧ z ∈ l ∧ ∀ y ∈ l, lab dist z.toNat ≤ lab dist y.toNat := by
  have hp : 0 < l.length := List.length_pos_iff.2 h0
  obtain ⟨z, z1, z2⟩ := least_loop l hl hd hlen (l.length - 1) 1 l[0] (by omega) (List.getElem_mem hp) (by
    intro y hy
    have : l.take 1 = [l[0]] := by
      cases l with
      | nil => exact absurd rfl h0
      | cons a l => rfl
    rw [this] at hy
    simp at hy
    subst hy
    exact Int.le_refl _)
  refine ⟨z, ?_, z2⟩
  unfold slices_MinFunc_int_of_dual_Route_1
  simp only
  rw [ltI_f (by omega), cond_false, show ((0 : Int)) = ((0 : Nat) : Int) from rfl, getI_of, List.getElem?_eq_getElem hp, Option.bind_some]
  rw [show ((1 : Int)) = ((1 : Nat) : Int) from rfl, z1]
  rfl

variable {left : Int}
theorem route2_eq {f : Nat} (hf : f < dist.length) : dual_Route_2 ((f : Int), dist, left, ()) = some (neI (lab dist f) left, ()) := by
  unfold dual_Route_2
  simp only
  rw [getI_of, lab_get hf]; rfl
def keep (dist : List Int) (left : Int) (l : List Int) : List Int := l.filter fun x => decide (lab dist x.toNat = left)

theorem index2 (l : List Int) (hl : ∀ x ∈ l, ∃ f : Nat, x = (f : Int) ∧ f < dist.length) (hlen : l.length ≤ 1000) :
    (slices_IndexFunc_int_of_dual_Route_2 (l, (dist, left, ()), ()) = some (-1, ()) ∧ keep dist left l = l) ∨
    ∃ i : Nat, i < l.length ∧ slices_IndexFunc_int_of_dual_Route_2 (l, (dist, left, ()), ()) = some ((i : Int), ()) ∧ keep dist left (l.take (i + 1)) = l.take i := by
  have h := scan (B := slices_IndexFunc_int_of_dual_Route_2_B2) (fun (_ : Unit) i => (l, (dist, left, ()), ((l.length : Nat) : Int), (i : Int), ()))
    (fun _ => .inr (.inl ())) (fun (k : Nat) => .inl ((k : Int), ())) (fun i (_ : Unit) a => some (cond (neI (lab dist a.toNat) left) (.inr i) (.inl ()))) l (by
      intro _ i a ha
      have hi : i < l.length := (List.getElem?_eq_some_iff.1 ha).1
      obtain ⟨f, rfl, hf⟩ := hl a (List.mem_of_getElem? ha)
      unfold slices_IndexFunc_int_of_dual_Route_2_B2
      simp only
      rw [ltI_t (by omega), cond_true, getI_of, ha, Option.bind_some, Option.bind_some, route2_eq hf, Option.bind_some]
      simp only [Int.toNat_natCast]
      cases neI (lab dist f) left with
      | true => rfl
      | false => rw [cond_false, add1 (by omega)]; rfl) (by
      intro _
      unfold slices_IndexFunc_int_of_dual_Route_2_B2
      simp only
      rw [ltI_f (by omega)]; rfl) ()
  have hu : slices_IndexFunc_int_of_dual_Route_2 (l, (dist, left, ()), ()) = (loopFix slices_IndexFunc_int_of_dual_Route_2_B2 (l, (dist, left, ()), ((l.length : Nat) : Int), ((0 : Nat) : Int), ())).bind (Sum.elim (fun z2 => some (z2.1, ())) (Sum.elim (fun z3 => some ((-1), ())) (fun _ => none))) := rfl
  rw [hu, h]
  have hk : ∀ (l : List Int) (i : Nat), (foldE (fun i (_ : Unit) (a : Int) => some (cond (neI (lab dist a.toNat) left) (.inr i) (.inl ()) : Unit ⊕ Nat)) i () l = some (.inl ()) ∧ keep dist left l = l) ∨
      ∃ k, k < l.length ∧ foldE (fun i (_ : Unit) (a : Int) => some (cond (neI (lab dist a.toNat) left) (.inr i) (.inl ()) : Unit ⊕ Nat)) i () l = some (.inr (i + k)) ∧ keep dist left (l.take (k + 1)) = l.take k := by
    intro l
    induction l with
    | nil => intro i; exact .inl ⟨rfl, rfl⟩
    | cons a l ih =>
      intro i
      cases e : neI (lab dist a.toNat) left with
      | true =>
        refine .inr ⟨0, by simp, by simp [foldE, e], ?_⟩
        have : ¬ lab dist a.toNat = left := by simpa [neI] using e
        simp [keep, this]
      | false =>
        have e' : lab dist a.toNat = left := by simpa [neI] using e
        rcases ih (i + 1) with ⟨h1, h2⟩ | ⟨k, h1, h2, h3⟩
        · refine .inl ⟨by simp [foldE, e, h1], ?_⟩
          unfold keep at h2 ⊢
          rw [List.filter_cons_of_pos (by simpa using e'), h2]
        · refine .inr ⟨k + 1, by simpa using h1, ?_, ?_⟩
          · simp only [foldE, e, cond_false, Option.bind_some, Sum.elim_inl]
            rw [h2]; congr 2; omega
          · unfold keep at h3 ⊢
            rw [List.take_succ_cons, List.filter_cons_of_pos (by simpa using e'), h3, List.take_succ_cons]
  rcases hk l 0 with ⟨h1, h2⟩ | ⟨k, h1, h2, h3⟩
  · exact .inl ⟨by rw [h1]; rfl, h2⟩
  · refine .inr ⟨k, h1, ?_, h3⟩
    rw [h2]
    simp

theorem delete_loop (l : List Int) (hl : ∀ x ∈ l, ∃ f : Nat, x = (f : Int) ∧ f < dist.length) (hlen : l.length ≤ 1000) : ∀ (c j i : Nat) (a : List Int), j + c = l.length → i < j → a.length = l.length → a.take i = keep dist left (l.take j) → a.drop j = l.drop j →
    ∃ a' i' : _, slices_DeleteFunc_int_of_dual_Route_2_L5 (a, (dist, left, ()), (i : Int), (j : Int), ()) = some (.inl (a', ((i' : Nat) : Int), ())) ∧ i' < l.length ∧ a'.length = l.length ∧ a'.take i' = keep dist left l
  | 0, j, i, a, hc, hij, ha, ht, hdr => by
    refine ⟨a, i, ?_, by omega, ha, by rw [ht, List.take_of_length_le (by omega)]⟩
    unfold slices_DeleteFunc_int_of_dual_Route_2_L5
    refine loop_done ?_
    unfold slices_DeleteFunc_int_of_dual_Route_2_B5
    simp only
    rw [ltI_f (by omega)]; rfl
  | c + 1, j, i, a, hc, hij, ha, ht, hdr => by
    have hj : j < l.length := by omega
    have haj : a[j]? = some l[j] := by
      have := congrArg (fun t : List Int => t[0]?) hdr
      simpa [List.getElem?_drop, List.getElem?_eq_getElem hj] using this
    obtain ⟨f, ef, hf⟩ := hl _ (List.getElem_mem hj)
    have htl : l.take (j + 1) = l.take j ++ [(f : Int)] := by rw [List.take_add_one, List.getElem?_eq_getElem hj, ef]; rfl
    have hdr2 : a.drop (j + 1) = l.drop (j + 1) := by
      have := congrArg (List.drop 1) hdr
      simpa [List.drop_drop] using this
    have hr : slices_DeleteFunc_int_of_dual_Route_2_B5 (a, (dist, left, ()), (i : Int), (j : Int), ()) = some (.inl ((if lab dist f = left then a.set i (f : Int) else a), (dist, left, ()), ((if lab dist f = left then i + 1 else i : Nat) : Int), ((j + 1 : Nat) : Int), ())) := by
      unfold slices_DeleteFunc_int_of_dual_Route_2_B5
      simp only
      rw [ltI_t (by omega), cond_true, idxI_of (by omega), Option.bind_some, haj, ef, Option.bind_some, route2_eq hf, Option.bind_some]
      simp only
      by_cases e : lab dist f = left
      · rw [neI_f e, Bool.not_false, cond_true, idxI_of (by omega), Option.bind_some, List.getElem?_eq_getElem (by omega), Option.bind_some, if_pos e, if_pos e, add1 (by omega), add1 (by omega)]
      · rw [neI_t e, Bool.not_true, cond_false, if_neg e, if_neg e, add1 (by omega)]
    have hL : slices_DeleteFunc_int_of_dual_Route_2_L5 (a, (dist, left, ()), (i : Int), (j : Int), ()) = slices_DeleteFunc_int_of_dual_Route_2_L5 ((if lab dist f = left then a.set i (f : Int) else a), (dist, left, ()), ((if lab dist f = left then i + 1 else i : Nat) : Int), ((j + 1 : Nat) : Int), ()) := by
      unfold slices_DeleteFunc_int_of_dual_Route_2_L5
      exact loop_step hr
    rw [hL]
    by_cases e : lab dist f = left
    · rw [if_pos e, if_pos e]
      refine delete_loop l hl hlen c (j + 1) (i + 1) (a.set i (f : Int)) (by omega) (by omega) (by simpa using ha) ?_ ?_
      · rw [List.take_add_one, List.getElem?_set_self (by omega), List.take_set_of_le (by omega), ht, htl]
        unfold keep
        rw [List.filter_append]
        simp [e]
      · rw [List.drop_set_of_lt (by omega)]; exact hdr2
    · rw [if_neg e, if_neg e]
      refine delete_loop l hl hlen c (j + 1) i a (by omega) (by omega) ha ?_ hdr2
      rw [ht, htl]
      unfold keep
      rw [List.filter_append]
      simp [e]

theorem delete_eq (l : List Int) (hl : ∀ x ∈ l, ∃ f : Nat, x = (f : Int) ∧ f < dist.length) (hlen : l.length ≤ 1000) : slices_DeleteFunc_int_of_dual_Route_2 (l, (dist, left, ()), ()) = some (keep dist left l, ()) := by
  unfold slices_DeleteFunc_int_of_dual_Route_2
  simp only
  rcases index2 (left := left) l hl hlen with ⟨h1, h2⟩ | ⟨i, hi, h1, h2⟩
  · rw [h1, Option.bind_some, h2]; rfl
  · rw [h1, Option.bind_some]
    simp only
    rw [eqI_f (by omega), cond_false, add1 (by omega)]
    obtain ⟨a', i', d1, d2, d3, d4⟩ := delete_loop (left := left) l hl hlen (l.length - (i + 1)) (i + 1) i l (by omega) (by omega) rfl h2.symm rfl
    rw [d1]
    simp only [Option.bind_some, Sum.elim_inl]
    have v1 : viewB a'.length (i' : Int) (a'.length : Nat) = some (i', a'.length - i') := by
      unfold viewB
      rw [if_pos ⟨by omega, by omega, by omega⟩]; rfl
    rw [v1]
    simp only [Option.bind_some]
    rw [show (Nat.ble (i' + (a'.length - i')) a'.length && Nat.ble 1 (a'.length - i')) = true by simp; omega, cond_true]
    have hc : clearL I a' i' (a'.length - i') = a'.take i' ++ List.replicate (a'.length - i') 0 := by
      unfold clearL
      rw [show i' + (a'.length - i') = a'.length by omega, List.drop_length, List.append_nil]
      rfl
    have hcl : (clearL I a' i' (a'.length - i')).length = a'.length := by rw [hc]; simp; omega
    have v2 : viewB (clearL I a' i' (a'.length - i')).length 0 (i' : Int) = some (0, i') := by
      rw [hcl]
      unfold viewB
      rw [if_pos ⟨by omega, by omega, by omega⟩]; rfl
    rw [v2]
    simp only [Option.bind_some]
    rw [hc, List.drop_zero, List.take_append_of_le_length (by simp; omega), List.take_take, Nat.min_self, d4]
end

/-! ### One step -/
section
variable {N : Int} {E : List Arc} {A : List (List Int)} {n : Nat} {fc D : Nat → Nat} {m dist : List Int}

theorem step_round (hF : Fc (2 * E.length) n m fc) (hE : E.length ≤ 100) (hD : ∀ f, f < n → dist[f]? = some (D f : Int)) (hn : ∀ f, f < n → D f ≤ 1000) (at_ : List Int) (hat : at_.length ≤ 1000) (s k e : Nat) (hs : s ≤ 1000) (hk : k < 2 * E.length) (hke : k ≤ 2 * e + 1) (he : e < E.length) (c e' : Int) :
    (Cnd fc D (fun f => (f : Int) ∈ at_) s k → dual_step_B5 (m, dist, at_, ((s + 1 : Nat) : Int), (e : Int), (k : Int), c, e', ()) = some (.inr (.inl ((e : Int), (fc (oth k) : Int), ())))) ∧
    (¬ Cnd fc D (fun f => (f : Int) ∈ at_) s k → dual_step_B5 (m, dist, at_, ((s + 1 : Nat) : Int), (e : Int), (k : Int), c, e', ()) = some (.inl (m, dist, at_, ((s + 1 : Nat) : Int), (e : Int), ((k + 1 : Nat) : Int), c, e', ()))) := by
  have hok := oth_lt hk
  have e2 : mulI .i64 2 (e : Int) = ((2 * e : Nat) : Int) := by rw [mulI64 (by omega) (by omega)]; omega
  obtain ⟨b, hb, hb2⟩ := contains_int at_ (fc k : Int) (by omega)
  have d1 := hD _ (hF.lt k hk)
  have d2 := hD _ (hF.lt _ hok)
  unfold dual_step_B5
  simp only
  rw [e2, add1 (by omega), leI_t (by omega), cond_true, getI_of, hF.get _ hk, Option.bind_some, xor1 (by omega), getI_of, hF.get _ hok, Option.bind_some, hb, Option.bind_some, add1 (by omega)]
  simp only
  cases b with
  | false =>
    rw [cond_false]
    exact ⟨fun h => absurd (hb2.2 h.1) (by simp), fun _ => rfl⟩
  | true =>
    have hm := hb2.1 rfl
    rw [cond_true, getI_of, d1, Option.bind_some, getI_of, d2, Option.bind_some, sub1 (by omega)]
    by_cases h1 : D (fc k) = s + 1
    · by_cases h2 : D (fc (oth k)) = s
      · rw [eqI_t (by omega), eqI_t (by omega)]
        exact ⟨fun _ => rfl, fun h => absurd ⟨hm, h1, h2⟩ h⟩
      · rw [eqI_t (by omega), eqI_f (by omega)]
        exact ⟨fun h => absurd h.2.2 h2, fun _ => rfl⟩
    · rw [eqI_f (by omega)]
      exact ⟨fun h => absurd h.2.1 h1, fun _ => rfl⟩

theorem step_edges (hF : Fc (2 * E.length) n m fc) (hE : E.length ≤ 100) (hD : ∀ f, f < n → dist[f]? = some (D f : Int)) (hn : ∀ f, f < n → D f ≤ 1000) (at_ : List Int) (hat : at_.length ≤ 1000) (s k : Nat) (hs : s ≤ 1000) (hk : k < 2 * E.length) (hc : Cnd fc D (fun f => (f : Int) ∈ at_) s k) (hmin : ∀ j, j < k → ¬ Cnd fc D (fun f => (f : Int) ∈ at_) s j) : ∀ (c e : Nat), e + c = k / 2 →
    dual_step_L2 (m, dist, at_, ((s + 1 : Nat) : Int), (E.length : Nat), (e : Int), ()) = some (.inl (((k / 2 : Nat) : Int), (fc (oth k) : Int), ()))
  | 0, e, h => by
    have he : e < E.length := by omega
    have e2 : mulI .i64 2 (e : Int) = ((2 * e : Nat) : Int) := by rw [mulI64 (by omega) (by omega)]; omega
    unfold dual_step_L2
    refine loop_done ?_
    unfold dual_step_B2
    simp only
    rw [ltI_t (by omega), cond_true, e2]
    have hL : dual_step_L5 (m, dist, at_, ((s + 1 : Nat) : Int), (e : Int), ((2 * e : Nat) : Int), ((E.length : Nat) : Int), (e : Int), ()) = some (.inl ((e : Int), (fc (oth k) : Int), ())) := by
      unfold dual_step_L5
      rcases Nat.lt_or_ge (2 * e) k with h1 | h1
      · have hke : k = 2 * e + 1 := by omega
        rw [loop_step ((step_round hF hE hD hn at_ hat s (2 * e) e hs (by omega) (by omega) he _ _).2 (hmin _ h1)), ← hke]
        exact loop_done ((step_round hF hE hD hn at_ hat s k e hs hk (by omega) he _ _).1 hc)
      · have hke : 2 * e = k := by omega
        rw [hke]
        exact loop_done ((step_round hF hE hD hn at_ hat s k e hs hk (by omega) he _ _).1 hc)
    rw [hL]
    have : e = k / 2 := by omega
    rw [this]; rfl
  | c + 1, e, h => by
    have he : e < E.length := by omega
    have e2 : mulI .i64 2 (e : Int) = ((2 * e : Nat) : Int) := by rw [mulI64 (by omega) (by omega)]; omega
    rw [← step_edges hF hE hD hn at_ hat s k hs hk hc hmin c (e + 1) (by omega)]
    unfold dual_step_L2
    refine loop_step ?_
    unfold dual_step_B2
    simp only
    rw [ltI_t (by omega), cond_true, e2]
    have hL : dual_step_L5 (m, dist, at_, ((s + 1 : Nat) : Int), (e : Int), ((2 * e : Nat) : Int), ((E.length : Nat) : Int), (e : Int), ()) = some (.inr (.inl (m, dist, at_, ((s + 1 : Nat) : Int), ((E.length : Nat) : Int), (e : Int), ()))) := by
      unfold dual_step_L5
      rw [loop_step ((step_round hF hE hD hn at_ hat s (2 * e) e hs (by omega) (by omega) he _ _).2 (hmin _ (by omega))),
        loop_step ((step_round hF hE hD hn at_ hat s (2 * e + 1) e hs (by omega) (by omega) he _ _).2 (hmin _ (by omega)))]
      refine loop_done ?_
      unfold dual_step_B5
      simp only
      rw [e2, add1 (by omega)]
      have : leI ((2 * e + 1 + 1 : Nat) : Int) ((2 * e + 1 : Nat) : Int) = false := leI_f (by omega)
      rw [this]
      rfl
    rw [hL]
    simp only [Option.bind_some, Sum.elim_inr, Sum.elim_inl]
    rw [add1 (by omega)]

theorem step_eq (hF : Fc (2 * E.length) n m fc) (hE : E.length ≤ 100) (hD : ∀ f, f < n → dist[f]? = some (D f : Int)) (hn : ∀ f, f < n → D f ≤ 1000) (at_ : List Int) (hat : at_.length ≤ 1000) (s k : Nat) (hs : s ≤ 1000) (hk : k < 2 * E.length) (hc : Cnd fc D (fun f => (f : Int) ∈ at_) s k) (hmin : ∀ j, j < k → ¬ Cnd fc D (fun f => (f : Int) ∈ at_) s j) :
    dual_step ((N, E, A, ()), m, dist, at_, ((s + 1 : Nat) : Int), ()) = some (((k / 2 : Nat) : Int), (fc (oth k) : Int), ()) := by
  unfold dual_step
  simp only
  rw [show ((0 : Int)) = ((0 : Nat) : Int) from rfl, step_edges hF hE hD hn at_ hat s k hs hk hc hmin (k / 2) 0 (by omega)]
  rfl

/-- The least dart that leads on. -/
theorem least_dart {P : Nat → Prop} : ∀ (k : Nat), P k → ∃ k0, k0 ≤ k ∧ P k0 ∧ ∀ j, j < k0 → ¬ P j := by
  intro k
  induction k using Nat.strongRecOn with
  | _ k ih =>
    intro hk
    by_cases hx : ∃ j, j < k ∧ P j
    · obtain ⟨j, hj, hp⟩ := hx
      obtain ⟨k0, h1, h2, h3⟩ := ih j hj hp
      exact ⟨k0, by omega, h2, h3⟩
    · exact ⟨k, Nat.le_refl _, hk, fun j hj hp => hx ⟨j, hj, hp⟩⟩

variable {S : Nat → Prop}
theorem next_dart (hDs : ∀ f, f < n → IsDist (AdjF (2 * E.length) fc) S f (D f)) (hF : Fc (2 * E.length) n m fc) {P : Nat → Prop} {f s : Nat} (hf : f < n) (hP : P f) (hd : D f = s + 1) :
    ∃ k, k < 2 * E.length ∧ Cnd fc D P s k ∧ ∀ j, j < k → ¬ Cnd fc D P s j := by
  have h := hDs f hf
  rw [hd] at h
  obtain ⟨g, ⟨k, hk, k1, k2⟩, hg⟩ := h.step
  have hgn : g < n := by rw [← k2]; exact hF.lt _ (oth_lt hk)
  have hgd : D g = s := (hDs g hgn).uniq hg
  obtain ⟨k0, a, b, c⟩ := least_dart (P := Cnd fc D P s) k ⟨by rw [k1]; exact hP, by rw [k1]; exact hd, by rw [k2]; exact hgd⟩
  exact ⟨k0, by omega, b, c⟩

theorem route_loop (hDs : ∀ f, f < n → IsDist (AdjF (2 * E.length) fc) S f (D f)) (hF : Fc (2 * E.length) n m fc) (hE : E.length ≤ 100) (hD : ∀ f, f < n → dist[f]? = some (D f : Int)) (hn : ∀ f, f < n → D f ≤ 1000) : ∀ (s : Nat) (at_ : List Int) (out : List Int), at_.length ≤ 1000 → s ≤ 1000 → out.length + s ≤ 2000 → (∃ f : Nat, (f : Int) ∈ at_ ∧ f < n ∧ D f = s) →
    ∃ l, dual_Route_L14 (N, E, A, m, at_, (s : Int), out, dist, ()) = some (.inl (out ++ l, ())) ∧ Rt E.length fc D (fun f => (f : Int) ∈ at_) s l
  | 0, at_, out, _, _, _, _ => by
    refine ⟨[], ?_, rfl⟩
    unfold dual_Route_L14
    refine loop_done ?_
    unfold dual_Route_B14
    simp only
    rw [gtI_f (by omega), cond_false, List.append_nil]
  | s + 1, at_, out, h1, h2, h3, ⟨f, f1, f2, f3⟩ => by
    obtain ⟨k, k1, k2, k3⟩ := next_dart (P := fun f => (f : Int) ∈ at_) hDs hF f2 f1 f3
    obtain ⟨l, l1, l2⟩ := route_loop hDs hF hE hD hn s [(fc (oth k) : Int)] (out ++ [((k / 2 : Nat) : Int)]) (by simp) (by omega) (by simp; omega) ⟨fc (oth k), by simp, hF.lt _ (oth_lt k1), k2.2.2⟩
    refine ⟨((k / 2 : Nat) : Int) :: l, ?_, k, l, k1, k2, k3, rfl, ?_⟩
    · rw [show out ++ ((k / 2 : Nat) : Int) :: l = (out ++ [((k / 2 : Nat) : Int)]) ++ l by simp, ← l1]
      unfold dual_Route_L14
      refine loop_step ?_
      unfold dual_Route_B14
      simp only
      rw [gtI_t (by omega), cond_true, step_eq hF hE hD hn at_ h1 s k (by omega) k1 k2 k3, Option.bind_some]
      simp only
      rw [app_of (by simp; omega), Option.bind_some, sub1 (by omega)]
      congr 9
      omega
    · have : (fun g : Nat => (g : Int) ∈ [(fc (oth k) : Int)]) = fun g => g = fc (oth k) := by
        funext g
        simp
        omega
      rw [this] at l2
      exact l2
end
end Go.Vm

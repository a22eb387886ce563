/-
  Turns, bends and angles of a mirrored shape.
-/
import Derived.Test.YtgeebcgkjcnneaaDoorL39Q
set_option linter.unusedVariables false
set_option linter.unusedSimpArgs false
namespace Go.Vm
open Go.Proofs
set_option maxRecDepth 100000
attribute [local irreducible] loopFix

/-! ### Bends, exchanged -/

theorem bz_append : ∀ a b : List Int, bz (a ++ b) = bz a + bz b
  | [], b => by simp [bz]
  | c :: a, b => by simp only [List.cons_append, bz, bz_append a b]; omega
theorem bz_reverse : ∀ l : List Int, bz l.reverse = bz l
  | [] => rfl
  | c :: l => by rw [List.reverse_cons, bz_append, bz_reverse l]; simp only [bz]; omega

theorem bytes_exch (s : ByteArray) : bytesOf (exch s) = (bytesOf s).map sw := by
  unfold exch
  refine bytesOf_ofBytes fun n hn => ?_
  obtain ⟨c, hc, rfl⟩ := List.mem_map.1 hn
  exact sw_range (bytesOf_range c hc)
theorem exch_size (s : ByteArray) : (exch s).size = s.size := by
  have := bytesOf_length s
  unfold exch
  rw [size_ofBytes]; simp [this]
theorem sw_comp : sw ∘ sw = id := by funext c; exact sw_sw c
theorem exch_exch (s : ByteArray) : exch (exch s) = s := by
  rw [exch, bytes_exch, List.map_map, sw_comp, List.map_id, ofBytes_bytesOf]
theorem bent_exch (s : ByteArray) : bentB (exch s) = bentB s := by
  unfold bentB
  rw [exch_size, bytes_exch, List.all_map]
  have : lr ∘ sw = lr := by funext c; exact sw_lr c
  rw [this]
theorem exch_rev (s : ByteArray) : exch (rev s) = rev (exch s) := by
  rw [exch, bytes_rev, rev, bytes_exch, List.map_reverse, List.map_reverse]
theorem bz_exch_rev (s : ByteArray) : bz (bytesOf (exch (rev s))) = bz (bytesOf s) := by
  rw [bytes_exch, bytes_rev, List.map_map, sw_comp, List.map_id, bz_reverse]
theorem at0_exch {B : List ByteArray} {k : Nat} (h : k < B.length) : at0 (B.map exch) k = exch (at0 B k) := by
  unfold at0
  rw [List.getD_eq_getElem?_getD, List.getD_eq_getElem?_getD, List.getElem?_map, List.getElem?_eq_getElem h]; rfl

theorem bend_mirror {B : List ByteArray} {L : Nat} (hB : B.length = L) (he : ∀ k, k < L → oth k < L) (h : allFrom (bendR B) 0 L = true) : allFrom (bendR (B.map exch)) 0 L = true := by
  rw [allFrom_iff] at h ⊢
  intro i h0 hi
  have := h i h0 hi
  unfold bendR at this ⊢
  rw [at0_exch (by omega), at0_exch (by rw [hB]; exact he i (by omega)), bent_exch]
  simp only [Bool.and_eq_true, eqS_iff] at this ⊢
  exact ⟨this.1, by rw [this.2, exch_rev]⟩

/-! ### The turns of the mirrored faces -/

theorem chk_mirror {L : Nat} {nx nx' p g g' : List Int} {B : List ByteArray} (t : Two L nx nx' p) (hT : TurnOK g B L) (hb : allFrom (bendR B) 0 L = true) (hg' : ∀ k, k < L → g'[k]? = some (angM g p k)) (o : Nat)
    (hc : facesChk g B (o : Int) (facesOf nx) = true) : facesChk g' (B.map exch) ((oth o : Nat) : Int) (facesOf nx') = true := by
  unfold facesChk at hc ⊢
  rw [List.all_eq_true] at hc ⊢
  intro f' hf'
  obtain ⟨f, hf, hp, hboth⟩ := t.face hf'
  obtain ⟨m, i⟩ := t.inv
  have h1 := hc f hf
  have hin : inB f' ((oth o : Nat) : Int) = inB f (o : Int) := decide_eq_decide.2 (hboth o).symm
  have hel := (i.elem f hf).2
  have hts : tsZ g' (B.map exch) f' = tsZ g B f := by
    rw [tsZ_sum, tsZ_sum, sumZ_perm _ hp, othL, sumZ_map]
    have e1 : sumZ (fun d => tnZ g' (B.map exch) ((oth d.toNat : Nat) : Int).toNat) f = sumZ (fun d => (bz (bytesOf (at0 B d.toNat)) + 2) - angM g p d.toNat) f := by
      refine sumZ_congr fun d hd => ?_
      obtain ⟨k, rfl, hk⟩ := hel d hd
      rw [Int.toNat_natCast, Int.toNat_natCast]
      have hbk := allFrom_iff.1 hb k (Nat.zero_le _) (by omega)
      unfold bendR at hbk
      simp only [Bool.and_eq_true, eqS_iff] at hbk
      unfold tnZ
      rw [at0_exch (by rw [hT.blen]; exact t.even k hk), hbk.2, bz_exch_rev, oth_oth, List.getD_eq_getElem?_getD, hg' k hk]
      rfl
    have e2 : sumZ (fun d => tnZ g B d.toNat) f = sumZ (fun d => (bz (bytesOf (at0 B d.toNat)) + 2) - g.getD (oth d.toNat) 0) f := rfl
    have e3 : sumZ (fun d => angM g p d.toNat) f = sumZ (fun d => g.getD (oth d.toNat) 0) f := by
      rw [← sumZ_perm _ (cyc_perm (t.cyc f hf)), sumZ_map]
      refine sumZ_congr fun d hd => ?_
      obtain ⟨k, rfl, hk⟩ := hel d hd
      obtain ⟨y, hy, hny⟩ := t.nxl k hk
      have := t.prev k y hny
      unfold angM
      rw [Int.toNat_natCast, List.getD_eq_getElem?_getD (l := nx), hny]
      simp only [Option.getD_some, Int.toNat_natCast]
      rw [List.getD_eq_getElem?_getD (l := p), this]
      simp only [Option.getD_some, Int.toNat_natCast]
    rw [e1, e2, sumZ_sub, sumZ_sub, e3]
  unfold faceChk at h1 ⊢
  rw [hin, hts]
  exact h1

/-! ### The angles of the mirrored shape -/

def GoodL (g : List Int) (l : List Int) : Prop := ∀ d ∈ l, ∃ k : Nat, d = (k : Int) ∧ ∃ a, g[k]? = some a ∧ 1 ≤ a ∧ a ≤ 4

theorem ang_fold (g : List Int) : ∀ (l : List Int) (i : Nat) (n : Int), GoodL g l → 0 ≤ n → n + 4 * l.length ≤ 1000000 → foldE (angStep g) i n l = some (.inl (n + sumZ (fun d => g.getD d.toNat 0) l))
  | [], i, n, _, _, _ => by simp [foldE, sumZ]
  | d :: l, i, n, h, h0, h1 => by
    obtain ⟨k, rfl, a, ha, a1, a2⟩ := h d (by simp)
    simp only [List.length_cons] at h1
    simp only [foldE, angStep]
    rw [getI_of, ha, Option.bind_some, ltI_f a1, gtI_f a2]
    simp only [Bool.or_false, cond_false, Option.bind_some, Sum.elim_inl, sumZ]
    rw [addI64 (by omega) (by omega), ang_fold g l (i + 1) (n + a) (fun x hx => h x (by simp [hx])) (by omega) (by omega), Int.toNat_natCast, List.getD_eq_getElem?_getD, ha]
    simp only [Option.getD_some]
    rw [show n + a + sumZ (fun d => g.getD d.toNat 0) l = n + (a + sumZ (fun d => g.getD d.toNat 0) l) by omega]

theorem angList_eq (g : List Int) (l : List Int) (j : Nat) (h : GoodL g l) (hl : l.length ≤ 65536) : angList g j () l = some (cond (gtI (l.length : Nat) 0 && neI (sumZ (fun d => g.getD d.toNat 0) l) 4) (.inr ()) (.inl ())) := by
  unfold angList
  rw [ang_fold g l 0 0 h (by omega) (by omega), Int.zero_add]
  rfl

theorem ang_all (g : List Int) : ∀ (A : List (List Int)) (i : Nat), (∀ l ∈ A, ∀ j, angList g j () l = some (.inl ())) → foldE (angList g) i () A = some (.inl ())
  | [], i, _ => rfl
  | l :: A, i, h => by
    simp only [foldE]
    rw [h l (by simp) i]
    exact ang_all g A (i + 1) fun l hl => h l (by simp [hl])

section
variable {E : List Arc} {A : List (List Int)} {N : Nat}

theorem ang_mirror (h : RotOK (N : Nat) E A) {g g' p : List Int} {B : List ByteArray} (hp : Fol id E (A.map List.reverse) p) (hT : TurnOK g B (2 * E.length)) (hg' : ∀ k, k < 2 * E.length → g'[k]? = some (angM g p k))
    (hgo : ∀ k, k < 2 * E.length → ∃ q, q < 2 * E.length ∧ p[k]? = some ((q : Nat) : Int)) (ha : angAll g A = some (.inl ())) : angAll g' (A.map List.reverse) = some (.inl ()) := by
  have hm1 := h.m1
  have good : ∀ l ∈ A, GoodL g l := by
    intro l hl d hd
    obtain ⟨k, rfl, hk⟩ := h.mem_of hl hd
    exact ⟨k, rfl, hT.ang k hk⟩
  have good' : ∀ l ∈ A.map List.reverse, GoodL g' l := by
    intro l hl d hd
    obtain ⟨k, rfl, hk⟩ := h.mirror.mem_of hl hd
    obtain ⟨q, hq, hq2⟩ := hgo k hk
    obtain ⟨a, ha, a1, a2⟩ := hT.ang q hq
    refine ⟨k, rfl, a, ?_, a1, a2⟩
    rw [hg' k hk]
    unfold angM
    rw [List.getD_eq_getElem?_getD (l := p), hq2]
    simp only [Option.getD_some, Int.toNat_natCast]
    rw [List.getD_eq_getElem?_getD, ha]; rfl
  refine ang_all g' _ 0 fun l' hl' j => ?_
  obtain ⟨l, hl, rfl⟩ := List.mem_map.1 hl'
  have hll := h.list_len hl
  rw [angList_eq g' _ j (good' _ hl') (by simp; omega)]
  obtain ⟨j', hj'⟩ := ang_mem g A 0 ha l hl
  rw [angList_eq g l j' (good l hl) (by omega)] at hj'
  have hs : sumZ (fun d => g'.getD d.toNat 0) l.reverse = sumZ (fun d => g.getD d.toNat 0) l := by
    by_cases hne : l = []
    · subst hne; rfl
    · have hc : Cyc p l.reverse := ⟨by simpa using hne, fun i hi => hp.get _ hl' i hi⟩
      rw [← sumZ_perm (fun d => g.getD d.toNat 0) (List.reverse_perm l), ← sumZ_perm (fun d => g.getD d.toNat 0) (cyc_perm hc), sumZ_map]
      refine sumZ_congr fun d hd => ?_
      obtain ⟨k, rfl, hk⟩ := h.mirror.mem_of hl' hd
      rw [List.getD_eq_getElem?_getD, Int.toNat_natCast, hg' k hk]
      rfl
  rw [hs, List.length_reverse]
  exact hj'

/-! ### A system that is as it must be is valid -/

theorem valList_go {v : Nat} : ∀ (l : List Int) (i : Nat) (S : List Int) (met : List Bool) (n : Int), met.length = 2 * E.length → (∀ k : Nat, k < 2 * E.length → (met[k]? = some true ↔ (k : Int) ∈ S)) →
    (∀ d ∈ l, ∃ k : Nat, d = (k : Int) ∧ k < 2 * E.length ∧ tl E k = v) → (S ++ l).Nodup → ∃ t, foldE (valStep E v) i (met, n) l = some (.inl t)
  | [], i, S, met, n, _, _, _, _ => ⟨(met, n), rfl⟩
  | d :: l, i, S, met, n, hm, hS, hl, hnd => by
    obtain ⟨k, rfl, hk, htl⟩ := hl d (by simp)
    have hns : (k : Int) ∉ S := by
      rw [List.nodup_append] at hnd
      intro hin
      exact hnd.2.2 _ hin (k : Int) (by simp) rfl
    have hf : met[k]? = some false := by
      obtain ⟨b, hb⟩ : ∃ b, met[k]? = some b := ⟨_, List.getElem?_eq_getElem (by omega)⟩
      cases b with
      | false => exact hb
      | true => exact absurd ((hS k hk).1 hb) hns
    simp only [foldE]
    unfold valStep
    rw [if_pos ⟨by omega, by simp only; omega, by simpa using hf, by simpa using htl⟩]
    simp only [Option.bind_some, Sum.elim_inl, Int.toNat_natCast]
    refine valList_go l (i + 1) (S ++ [(k : Int)]) (met.set k true) _ (by simpa using hm) (fun j hj => ?_) (fun d hd => hl d (by simp [hd])) (by simpa using hnd)
    rw [List.getElem?_set]
    by_cases e : k = j
    · subst e
      rw [if_pos rfl, if_pos (by omega)]
      simp
    · rw [if_neg e, hS j hj]
      simp only [List.mem_append, List.mem_singleton]
      exact ⟨.inl, fun h => h.resolve_right (by omega)⟩

theorem valAll_go (hE : E.length ≤ 32768) : ∀ (A : List (List Int)) (i : Nat) (S : List Int) (met : List Bool) (n : Int), met.length = 2 * E.length → (∀ k : Nat, k < 2 * E.length → (met[k]? = some true ↔ (k : Int) ∈ S)) →
    n = S.length → (∀ d ∈ S, ∃ k : Nat, d = (k : Int) ∧ k < 2 * E.length) → (∀ (v : Nat) (l : List Int), A[v]? = some l → ∀ d ∈ l, ∃ k : Nat, d = (k : Int) ∧ k < 2 * E.length ∧ tl E k = ((i + v : Nat) : Int)) → (S ++ A.flatten).Nodup →
    ∃ t, foldE (fun v s l => valList E v s l) i (met, n) A = some (.inl t)
  | [], i, S, met, n, _, _, _, _, _, _ => ⟨(met, n), rfl⟩
  | l :: A, i, S, met, n, hm, hS, hn, hr, hA, hnd => by
    have hl := hA 0 l rfl
    rw [List.flatten_cons, ← List.append_assoc] at hnd
    have hnd1 : (S ++ l).Nodup := (List.nodup_append.1 hnd).1
    have hndS : S.Nodup := (List.nodup_append.1 hnd1).1
    obtain ⟨t, ht⟩ := valList_go (v := i) l 0 S met n hm hS (fun d hd => by simpa using hl d hd) hnd1
    obtain ⟨q1, q2, q3, q4, q5⟩ := valList_ok hm hS hn hndS hr hE ht
    obtain ⟨t2, ht2⟩ := valAll_go hE A (i + 1) (S ++ l) t.1 t.2 q5 q3 q4 (by
      intro d hd
      rcases List.mem_append.1 hd with hd | hd
      · exact hr d hd
      · obtain ⟨k, hk, hk2, _⟩ := q1 d hd; exact ⟨k, hk, hk2⟩) (by
      intro v l' hl' d hd
      obtain ⟨k, k1, k2, k3⟩ := hA (v + 1) l' (by simpa using hl') d hd
      exact ⟨k, k1, k2, by rw [k3]; omega⟩) hnd
    refine ⟨t2, ?_⟩
    simp only [foldE]
    rw [show valList E i (met, n) l = some (.inl t) from ht]
    exact ht2

theorem RotOK.validB (h : RotOK (N : Nat) E A) : validB ((N : Int), E, A, ()) = true := by
  have hm1 := h.m1
  have hn1 := h.n1
  have hlen := h.len
  obtain ⟨t, ht⟩ := valAll_go hm1 A 0 [] (List.replicate (2 * E.length) false) 0 (by simp) (by
    intro k hk
    simp [List.getElem?_replicate, hk]) rfl (by simp) (by
    intro v l hl d hd
    obtain ⟨k, k1, k2, k3⟩ := h.dart v l hl d hd
    exact ⟨k, k1, k2, by rw [k3]; omega⟩) (by simpa using h.nodup)
  have hl := valAll_len ht
  obtain ⟨_, _, _, q4⟩ := valAll_ok hm1 (A := A) (i := 0) (S := []) (met := List.replicate (2 * E.length) false) (n := 0) (t := t) (by simp) (by
      intro k hk
      simp [List.getElem?_replicate, hk]) rfl List.nodup_nil (by simp) ht
  have hall := h.all
  unfold Go.Vm.validB
  simp only
  rw [show valAll E A = some (.inl t) from ht]
  simp only [List.nil_append] at q4
  rw [ltI_f (by omega), gtI_f (by omega), gtI_f (by omega), neI_f (by omega)]
  have : E.any (edgeBad (N : Int)) = false := by
    rw [List.any_eq_false]
    intro a ha
    obtain ⟨e1, e2, e3, e4, e5⟩ := h.edge a ha
    unfold edgeBad
    rw [ltI_f e1, geI_f e2, ltI_f e3, geI_f e4, eqI_f e5]
    simp
  rw [this]
  have e5 : eqI t.2 ((t.1.length : Nat) : Int) = true := eqI_t (by omega)
  exact e5
end
end Go.Vm

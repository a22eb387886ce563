/-
  The faces of a system with a new edge.
-/
import Derived.Test.YtgihliccohoggaaDoorK33F
set_option linter.unusedVariables false
set_option linter.unusedSimpArgs false
namespace Go.Vm
open Go.Proofs
set_option maxRecDepth 100000
attribute [local irreducible] loopFix
theorem split_parts {L d f : Nat} {nx nx' : List Int} {fs : List (List Int)} (hL : nx.length = L) (hf : FsOK L fs) (cf : ∀ g ∈ fs, Cyc nx g) (hinj : Inj nx) {j : Nat} {g : List Int} (hj : fs[j]? = some g) (hd : (d : Int) ∈ g) (hfg : (f : Int) ∈ g) (hdf : d ≠ f)
    (na : nx'[L]? = some (f : Int)) (nb : nx'[L + 1]? = some (d : Int))
    (old : ∀ k, k < L → (nx[k]? = some (d : Int) → nx'[k]? = some (L : Int)) ∧ (nx[k]? = some (f : Int) → nx'[k]? = some ((L + 1 : Nat) : Int)) ∧ (nx[k]? ≠ some (d : Int) → nx[k]? ≠ some (f : Int) → nx'[k]? = nx[k]?)) :
    ∃ (a b : List (List Int)) (s1 s2 : List Int), fs = a ++ g :: b ∧ (∀ x : Int, g.count x = ((d : Int) :: s1).count x + ((f : Int) :: s2).count x) ∧ g.length = s1.length + s2.length + 2 ∧
      FsOK (L + 2) (((d : Int) :: s1 ++ [((L + 1 : Nat) : Int)]) :: ((f : Int) :: s2 ++ [(L : Int)]) :: (a ++ b)) ∧ ∀ h ∈ (((d : Int) :: s1 ++ [((L + 1 : Nat) : Int)]) :: ((f : Int) :: s2 ++ [(L : Int)]) :: (a ++ b)), Cyc nx' h := by
  have hgm := List.mem_of_getElem? hj
  obtain ⟨a, b, rfl⟩ := flat_split hj
  have hgel := (hf.elem g hgm).2
  have hgnd : g.Nodup := hf.nodup.sublist (List.sublist_flatten_of_mem hgm)
  obtain ⟨p, q, rfl⟩ := List.append_of_mem hd
  have hc : Cyc nx ((d : Int) :: (q ++ p)) := cyc_rot (cf _ hgm)
  have hmem : (f : Int) ∈ q ++ p := by
    simp at hfg ⊢
    rcases hfg with h | h | h
    · exact .inr h
    · omega
    · exact .inl h
  obtain ⟨s1, s2, es⟩ := List.append_of_mem hmem
  have hcount : ∀ x : Int, (p ++ (d : Int) :: q).count x = ((d : Int) :: s1).count x + ((f : Int) :: s2).count x := by
    intro x
    have := congrArg (List.count x) es
    simp only [List.count_append, List.count_cons] at this ⊢
    omega
  have hlen : (p ++ (d : Int) :: q).length = s1.length + s2.length + 2 := by
    have := congrArg List.length es
    simp at this ⊢
    omega
  have hone : ∀ x : Int, ((d : Int) :: s1).count x + ((f : Int) :: s2).count x ≤ 1 := fun x => by
    rw [← hcount]; exact List.nodup_iff_count.1 hgnd x
  have hsub1 : ∀ x ∈ (d : Int) :: s1, x ∈ p ++ (d : Int) :: q := fun x hx => by
    have := List.count_pos_iff.2 hx
    exact List.count_pos_iff.1 (by rw [hcount]; omega)
  have hsub2 : ∀ x ∈ (f : Int) :: s2, x ∈ p ++ (d : Int) :: q := fun x hx => by
    have := List.count_pos_iff.2 hx
    exact List.count_pos_iff.1 (by rw [hcount]; omega)
  have hdis : ∀ x ∈ (d : Int) :: s1, x ∉ (f : Int) :: s2 := fun x h1 h2 => by
    have := List.count_pos_iff.2 h1; have := List.count_pos_iff.2 h2; have := hone x; omega
  rw [es] at hc
  obtain ⟨y, h1, h2⟩ := path_app (f := (d : Int) :: s1) (g := (f : Int) :: s2).1 (cyc_path hc)
  have : (f : Int) = y := h2.1
  subst this
  have nat1 : ∀ x ∈ (d : Int) :: s1, ∃ k : Nat, x = (k : Int) ∧ k < L := fun x hx => hgel x (hsub1 x hx)
  have nat2 : ∀ x ∈ (f : Int) :: s2, ∃ k : Nat, x = (k : Int) ∧ k < L := fun x hx => hgel x (hsub2 x hx)
  have inj : ∀ x y : Int, (∃ k : Nat, x = (k : Int) ∧ k < L) → (∃ k : Nat, y = (k : Int) ∧ k < L) → ∀ z : Int, nx[x.toNat]? = some z → nx[y.toNat]? = some z → x = y := by
    rintro x y ⟨k, rfl, _⟩ ⟨k', rfl, _⟩ z e1 e2
    have := hinj _ _ _ e1 e2
    simp at this
    omega
  have last1 := path_last h1 (by simp)
  have last2 := path_last h2 (by simp)
  have t1 : Path nx' (d : Int) ((d : Int) :: s1) ((L + 1 : Nat) : Int) := by
    refine path_turn h1 (by simp) (fun hm => hdis _ (List.mem_of_mem_tail hm) (by simp)) fun y hy => ?_
    obtain ⟨k, rfl, hk⟩ := nat1 y hy
    rw [Int.toNat_natCast]
    refine ⟨(old k hk).2.1, fun hne => (old k hk).2.2 (fun hd2 => ?_) hne⟩
    obtain ⟨w, w1, w2⟩ := last2
    have := inj (k : Int) w ⟨k, rfl, hk⟩ (nat2 w w1) _ (by simpa using hd2) w2
    subst this
    exact hdis _ hy w1
  have t2 : Path nx' (f : Int) ((f : Int) :: s2) (L : Int) := by
    refine path_turn h2 (by simp) (fun hm => hdis _ (by simp) (List.mem_of_mem_tail hm)) fun y hy => ?_
    obtain ⟨k, rfl, hk⟩ := nat2 y hy
    rw [Int.toNat_natCast]
    refine ⟨(old k hk).1, fun hne => (old k hk).2.2 hne (fun hd2 => ?_)⟩
    obtain ⟨w, w1, w2⟩ := last1
    have := inj (k : Int) w ⟨k, rfl, hk⟩ (nat1 w w1) _ (by simpa using hd2) w2
    subst this
    exact hdis _ w1 hy
  have c1 : Cyc nx' ((d : Int) :: s1 ++ [((L + 1 : Nat) : Int)]) := path_cyc (x := (d : Int)) (path_app.2 ⟨_, t1, rfl, (d : Int), by simpa using nb, rfl⟩) (by simp)
  have c2 : Cyc nx' ((f : Int) :: s2 ++ [(L : Int)]) := path_cyc (x := (f : Int)) (path_app.2 ⟨_, t2, rfl, (f : Int), by simpa using na, rfl⟩) (by simp)
  have flat : ∀ x : Int, ((((d : Int) :: s1 ++ [((L + 1 : Nat) : Int)]) :: ((f : Int) :: s2 ++ [(L : Int)]) :: (a ++ b)).flatten).count x = (a ++ (p ++ (d : Int) :: q) :: b).flatten.count x + [(L : Int), ((L + 1 : Nat) : Int)].count x := by
    intro x
    rw [count_flat, hcount]
    simp only [List.flatten_cons, List.count_append, List.flatten_append, List.count_cons, List.count_nil]
    omega
  have small : ∀ x ∈ (a ++ (p ++ (d : Int) :: q) :: b).flatten, ∃ k : Nat, x = (k : Int) ∧ k < L := fun x hx => by
    obtain ⟨l, hl, hxl⟩ := List.mem_flatten.1 hx
    exact (hf.elem l hl).2 x hxl
  have other : ∀ h ∈ a ++ b, h ∈ a ++ (p ++ (d : Int) :: q) :: b ∧ ∀ x ∈ h, x ∉ p ++ (d : Int) :: q := by
    intro h hh
    have hhm : h ∈ a ++ (p ++ (d : Int) :: q) :: b := by simp at hh ⊢; rcases hh with hh | hh <;> simp [hh]
    refine ⟨hhm, fun x hx hx2 => ?_⟩
    have h1 := List.nodup_iff_count.1 hf.nodup x
    rw [count_flat] at h1
    have h2 := List.count_pos_iff.2 hx2
    rcases List.mem_append.1 hh with hh | hh
    · have := List.count_pos_iff.2 (List.mem_flatten.2 ⟨h, hh, hx⟩); omega
    · have := List.count_pos_iff.2 (List.mem_flatten.2 ⟨h, hh, hx⟩); omega
  refine ⟨a, b, s1, s2, rfl, hcount, hlen, ⟨?_, ?_, ?_, ?_⟩, ?_⟩
  · intro h hh
    rcases List.mem_cons.1 hh with rfl | hh
    · refine ⟨by simp, fun x hx => ?_⟩
      rcases List.mem_append.1 hx with hx | hx
      · obtain ⟨k, e, hk⟩ := nat1 x hx; exact ⟨k, e, by omega⟩
      · rw [List.mem_singleton] at hx; exact ⟨L + 1, hx, by omega⟩
    · rcases List.mem_cons.1 hh with rfl | hh
      · refine ⟨by simp, fun x hx => ?_⟩
        rcases List.mem_append.1 hx with hx | hx
        · obtain ⟨k, e, hk⟩ := nat2 x hx; exact ⟨k, e, by omega⟩
        · rw [List.mem_singleton] at hx; exact ⟨L, hx, by omega⟩
      · obtain ⟨e1, e2⟩ := hf.elem h (other h hh).1
        exact ⟨e1, fun x hx => by obtain ⟨k, e, hk⟩ := e2 x hx; exact ⟨k, e, by omega⟩⟩
  · rw [List.nodup_iff_count]
    intro x
    rw [flat]
    have h1 := List.nodup_iff_count.1 hf.nodup x
    simp only [List.count_cons, List.count_nil, beq_iff_eq]
    by_cases hx : x ∈ (a ++ (p ++ (d : Int) :: q) :: b).flatten
    · obtain ⟨k, rfl, hk⟩ := small x hx
      rw [if_neg (by omega), if_neg (by omega)]; omega
    · rw [List.count_eq_zero.2 hx]
      split <;> split <;> omega
  · intro k hk
    have : 0 < ((((d : Int) :: s1 ++ [((L + 1 : Nat) : Int)]) :: ((f : Int) :: s2 ++ [(L : Int)]) :: (a ++ b)).flatten).count (k : Int) := by
      rw [flat]
      rcases Nat.lt_or_ge k L with h | h
      · have := List.count_pos_iff.2 (hf.cover k h); omega
      · have hin : (k : Int) ∈ [(L : Int), ((L + 1 : Nat) : Int)] := by
          simp; omega
        have := List.count_pos_iff.2 hin; omega
    exact List.count_pos_iff.1 this
  · have := hf.num
    simp only [List.length_cons, List.length_append] at this ⊢
    omega
  · intro h hh
    rcases List.mem_cons.1 hh with rfl | hh
    · exact c1
    · rcases List.mem_cons.1 hh with rfl | hh
      · exact c2
      · obtain ⟨hm, hdj⟩ := other h hh
        have hcy := cf h hm
        have hne := hcy.1
        cases h with
        | nil => exact absurd rfl hne
        | cons x h =>
          refine path_cyc (path_keep (cyc_path hcy) fun y hy => ?_) (by simp)
          obtain ⟨k, rfl, hk⟩ := (hf.elem _ hm).2 y hy
          rw [Int.toNat_natCast]
          refine (old k hk).2.2 (fun e => ?_) (fun e => ?_)
          · exact hdj _ (cyc_closed hcy hy e) hd
          · exact hdj _ (cyc_closed hcy hy e) hfg
section
variable {N : Nat} {E : List Arc} {A : List (List Int)} {d f u v : Nat}
theorem EdgeOK.df (h : EdgeOK N E A d f u v) : d ≠ f := by
  rintro rfl
  have h1 := h.tu
  rw [h.tv] at h1
  have := h.ne
  omega
theorem EdgeOK.faces (h : EdgeOK N E A d f u v) {nx nx' : List Int} (hn : Fol oth E A nx) (hn' : Fol oth (E ++ [((u : Int), (v : Int), ())]) (insA A u v E.length d f) nx') : (facesOf nx').length = (facesOf nx).length + 1 := by
  obtain ⟨hf, cf⟩ := facesOf_fs h.rot hn
  obtain ⟨hf', cf'⟩ := facesOf_fs h.rot' hn'
  obtain ⟨mx, x1, x2, x3, a, ma, mb⟩ := h.face
  have : mx = nx := by
    refine List.ext_getElem? fun k => ?_
    by_cases hk : k < 2 * E.length
    · obtain ⟨fw, _, ff⟩ := rfollow_eq h.rot ()
      obtain ⟨y, _, h1, h2⟩ := fol_both h.rot hn ff hk
      obtain ⟨y', _, h1', h2'⟩ := fol_both h.rot x1 ff hk
      rw [h2] at h2'
      rw [h1, h1', h2']
    · rw [List.getElem?_eq_none (by rw [x1.len]; omega), List.getElem?_eq_none (by rw [hn.len]; omega)]
  subst this
  obtain ⟨j, j1, j2, g, j3, j4⟩ := marksOf_some hf h.d2
  obtain ⟨j', j1', j2', g', j3', j4'⟩ := marksOf_some hf h.f2
  rw [ma] at j2
  rw [mb] at j2'
  have : j = j' := by
    have e1 := Option.some.inj j2
    have e2 := Option.some.inj j2'
    omega
  subst this
  rw [j3] at j3'
  have : g = g' := Option.some.inj j3'
  subst this
  have hN := h.next hn hn'
  obtain ⟨a, b, s1, s2, e1, _, _, e2, e3⟩ := split_parts hn.len hf cf (fol_inj32 h.rot hn) j3 j4 j4' h.df hN.a hN.b hN.old
  have hlen : (E ++ [((u : Int), (v : Int), ())]).length = E.length + 1 := by simp
  rw [hlen] at hf'
  rw [parts_eq hf' (by rw [show 2 * (E.length + 1) = 2 * E.length + 2 by omega]; exact e2) cf' e3, e1]
  simp only [List.length_cons, List.length_append]
  omega
end
end Go.Vm

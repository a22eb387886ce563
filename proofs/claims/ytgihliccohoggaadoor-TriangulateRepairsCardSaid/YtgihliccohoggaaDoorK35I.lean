/-
  Vertices, edges and faces in number.
-/
import Derived.Test.YtgihliccohoggaaDoorK35D
import Derived.Test.YtgihliccohoggaaDoorK35H
set_option linter.unusedVariables false
set_option linter.unusedSimpArgs false
namespace Go.Vm
open Go.Proofs
set_option maxRecDepth 100000
attribute [local irreducible] loopFix
theorem quo_val {x : Int} (h1 : -1000000 ≤ x) (h2 : x ≤ 1000000) : -1000000 ≤ quoI .i64 x 2 ∧ quoI .i64 x 2 ≤ 1000000 ∧ (quoI .i64 x 2 = 1 → x = 2 ∨ x = 3) := by
  by_cases h0 : 0 ≤ x
  · obtain ⟨d, rfl⟩ : ∃ d : Nat, x = (d : Int) := ⟨x.toNat, (Int.toNat_of_nonneg h0).symm⟩
    rw [quo2 (by omega)]
    omega
  · obtain ⟨d, rfl⟩ : ∃ d : Nat, x = -(d : Int) := ⟨(-x).toNat, by omega⟩
    have e : quoI .i64 (-(d : Int)) 2 = -((d / 2 : Nat) : Int) := by
      unfold quoI
      have : (-(d : Int)).tdiv 2 = -((d / 2 : Nat) : Int) := by
        rw [Int.neg_tdiv, Int.tdiv_eq_ediv_of_nonneg (by omega)]; omega
      rw [this]
      exact IntWalk.i64_in _ ⟨by omega, by omega⟩
    rw [e]
    omega
section
variable {N : Nat} {E : List Arc} {A : List (List Int)} {nx fw : List Int}
structure Tri0 (N : Nat) (E : List Arc) (A : List (List Int)) : Prop where
  rot : RotOK (N : Nat) E A
  two : 2 ≤ N
  conn : Conn N E
theorem Tri.base (h : Tri N E A) : Tri0 N E A := ⟨h.rot, by have := h.three; omega, h.conn⟩
theorem Tri0.edges (h : Tri0 N E A) : 0 < E.length := by
  have h3 := h.two
  have hr := h.conn 1 (by omega)
  cases hr with
  | step _ hk _ _ => omega
theorem Tri0.noEmp (h : Tri0 N E A) : emp A = 0 := by
  unfold emp
  rw [List.countP_eq_zero]
  intro l hl he
  have hl0 : l = [] := by simpa using he
  obtain ⟨v, hv⟩ := List.mem_iff_getElem?.1 hl
  have hvN : v < N := by have := (List.getElem?_eq_some_iff.1 hv).1; have := h.rot.al; omega
  have h3 := h.two
  have nodart : ∀ k, k < 2 * E.length → tl E k ≠ (v : Int) := fun k hk e => by
    have := h.rot.around hk e hv
    rw [hl0] at this; simp at this
  have key : ∀ {a b : Nat}, Reach E a b → a = v → b = v := by
    intro a b hr
    induction hr with
    | refl => exact fun e => e
    | step _ hk e1 e2 ih =>
      intro e
      have := ih e
      subst this
      exact absurd e1 (nodart _ hk)
  have hto : ∀ w, w < N → w = v := fun w hw => key (((h.conn v hvN).symm).trans (h.conn w hw)) rfl
  have := hto 0 (by omega)
  have := hto 1 (by omega)
  omega
theorem Tri0.one (h : Tri0 N E A) : comps N E = 1 := by
  have hN := h.two
  unfold comps
  have hsplit : List.range N = 0 :: (List.range (N - 1)).map Nat.succ := by
    rw [← List.range_succ_eq_map]; congr 1; omega
  rw [hsplit, List.countP_cons]
  have h0 : minB E 0 = true := minB_iff.2 fun u hu => by omega
  have hz : List.countP (minB E) ((List.range (N - 1)).map Nat.succ) = 0 := by
    rw [List.countP_eq_zero]
    intro v hv hm
    obtain ⟨w, hw, rfl⟩ := List.mem_map.1 hv
    have hw := List.mem_range.1 hw
    exact minB_iff.1 hm 0 (Nat.succ_pos w) (h.conn _ (by omega))
  rw [hz, h0]; rfl
theorem Tri.edges (h : Tri N E A) : 0 < E.length := h.base.edges
theorem Tri.noEmp (h : Tri N E A) : emp A = 0 := h.base.noEmp
theorem Tri.one (h : Tri N E A) : comps N E = 1 := h.base.one
theorem Tri0.euler_le (h : Tri0 N E A) (hn : Fol oth E A nx) : N + (facesOf nx).length ≤ E.length + 2 := by
  have hN := h.two
  have hE := h.edges
  obtain ⟨fw, _, ff⟩ := rfollow_eq h.rot ()
  have hnx := Fol.nxOK h.rot hn
  have hlen : nx.length = 2 * E.length := hn.len
  rw [hlen] at hnx
  have hfs := (facesOf_fs h.rot hn).1
  have hnum := hfs.num
  have hm1 := h.rot.m1
  have hn16 := h.rot.n16
  have hF0 : 0 < (facesOf nx).length := by
    obtain ⟨_, _, _, q⟩ := fcn_face h.rot hn (k := 0) (by omega)
    omega
  have hH1 := plane_H1 (M := E.length) (nx := nxN nx) (fc := fcn E nx) (tl := tln E) (fun d hd => (nxN_eq hnx hd).2)
    (fun a b ha hb e => by
      have h1 := (nxN_eq hnx ha).1
      have h2 := (nxN_eq hnx hb).1
      rw [e] at h1
      exact fol_inj32 h.rot hn _ _ _ h1 h2)
    (fun d hd => fcn_next h.rot hn (nxN_eq hnx hd).1)
    (fun d hd => by
      have := (next_tail h.rot hn (nxN_eq hnx hd).1).2.2
      unfold tln; rw [this]; rfl)
  have both : ∀ (L p : Nat → Nat), (∀ i, i < E.length → L (p (2 * i)) = L (p (2 * i + 1))) → ∀ d, d < 2 * E.length → L (p d) = L (p (oth d)) := by
    intro L p hp d hd
    rcases Nat.mod_two_eq_zero_or_one d with e | e
    · have : d = 2 * (d / 2) := by omega
      rw [this, oth2]; exact hp _ (by omega)
    · have : d = 2 * (d / 2) + 1 := by omega
      rw [this, oth21]; exact (hp _ (by omega)).symm
  have hle := Go.Vm.euler_le (V := N) (F := (facesOf nx).length) (M := E.length) (t := fun i => tln E (2 * i)) (h := fun i => tln E (2 * i + 1)) (l := fun i => fcn E nx (2 * i)) (r := fun i => fcn E nx (2 * i + 1))
    (fun i hi => (tln_eq h.rot (by omega)).2) (fun i hi => (tln_eq h.rot (by omega)).2)
    (fun i hi => by obtain ⟨_, _, _, q⟩ := fcn_face h.rot hn (k := 2 * i) (by omega); exact q) (fun i hi => by obtain ⟨_, _, _, q⟩ := fcn_face h.rot hn (k := 2 * i + 1) (by omega); exact q)
    hH1 (fun L hL => verts_hang h.rot h.conn L (both L (tln E) hL))
    (fun L hL x hx => by
      have hang := faces_hang h.rot hn ff h.conn L (both L (fcn E nx) hL)
      have pick : ∀ x, x < (facesOf nx).length → ∃ k, k < 2 * E.length ∧ fcn E nx k = x := by
        intro x hx
        obtain ⟨q1, q2⟩ := hfs.elem _ (List.getElem_mem hx)
        obtain ⟨y, hy⟩ := List.exists_mem_of_ne_nil _ q1
        obtain ⟨k, rfl, hk⟩ := q2 y hy
        exact ⟨k, hk, fcn_of h.rot hn (List.getElem?_eq_getElem hx) hy⟩
      obtain ⟨k, hk, rfl⟩ := pick x hx
      obtain ⟨k', hk', e⟩ := pick 0 (by omega)
      rw [← e]
      exact hang k hk k' hk') (by omega) hF0
  exact hle
theorem Tri.euler (h : Tri N E A) (hn : Fol oth E A nx) : (facesOf nx).length + N = E.length + 2 := by
  have hN := h.three
  have hE := h.edges
  have hle := h.base.euler_le hn
  have hm1 := h.rot.m1
  have hn16 := h.rot.n16
  have hg := h.plane nx hn
  unfold genZ at hg
  rw [h.one, h.noEmp] at hg
  have e1 : ((N : Int) - E.length + ((facesOf nx).length + 0 : Nat)) = ((N + (facesOf nx).length : Nat) : Int) - E.length := by omega
  rw [e1] at hg
  obtain ⟨b1, b2, b3⟩ := quo_val (x := ((N + (facesOf nx).length : Nat) : Int) - E.length) (by omega) (by omega)
  rw [subI64 (by omega) (by omega)] at hg
  have := b3 (by omega)
  omega
end
end Go.Vm

/-
  Two chords of a face would cross.
-/
import Derived.Test.YtgihliccohoggaaDoorK35I
set_option linter.unusedVariables false
set_option linter.unusedSimpArgs false
namespace Go.Vm
open Go.Proofs
set_option maxRecDepth 100000
attribute [local irreducible] loopFix
def ind (p : Prop) [Decidable p] : Int := if p then 1 else 0
def dlt (e0 e1 e2 d : Nat) : Int := ind (d / 2 = e0) + ind (d / 2 = e1) + ind (d / 2 = e2)
theorem half_cases {d x : Nat} (h : d / 2 = x / 2) : d = x ∨ d = oth x := by
  unfold oth
  split <;> omega
theorem sum_edge (g : Nat → Nat) (v : Nat) {M e : Nat} (he : e < M) : sumTo (2 * M) (fun d => if g d = v then ind (d / 2 = e) else 0) = ind (g (2 * e) = v) + ind (g (2 * e + 1) = v) := by
  rw [sumTo_darts, sumTo_one (k := e) he]
  · have h1 : 2 * e / 2 = e := by omega
    have h2 : (2 * e + 1) / 2 = e := by omega
    simp only [ind, h1, h2, if_true]
  · intro i _ hne
    have h1 : ¬ (2 * i / 2 = e) := by omega
    have h2 : ¬ ((2 * i + 1) / 2 = e) := by omega
    simp [ind, h1, h2, hne]
theorem sum_dart (g : Nat → Nat) (v : Nat) {M x : Nat} (hx : x < 2 * M) : sumTo (2 * M) (fun d => if g d = v then ind (d / 2 = x / 2) else 0) = ind (g x = v) + ind (g (oth x) = v) := by
  rw [sum_edge g v (by omega)]
  rcases Nat.mod_two_eq_zero_or_one x with e | e
  · have h1 : 2 * (x / 2) = x := by omega
    have h2 : oth x = x + 1 := by unfold oth; rw [if_pos e]
    rw [h2, show 2 * (x / 2) + 1 = x + 1 by omega, h1]
  · have h1 : 2 * (x / 2) + 1 = x := by omega
    have h2 : oth x = 2 * (x / 2) := by unfold oth; rw [if_neg (by omega)]; omega
    rw [h1, h2]; omega
section
variable {N : Nat} {E : List Arc} {A : List (List Int)} {nx fw : List Int}
theorem Tri.colour (h : Tri N E A) (hn : Fol oth E A nx) {x0 x1 x2 : Nat} (h0 : x0 < 2 * E.length) (h1 : x1 < 2 * E.length) (h2 : x2 < 2 * E.length)
    (c0 : tln E (oth x0) = tln E x1) (c1 : tln E (oth x1) = tln E x2) (c2 : tln E (oth x2) = tln E x0) : ∃ φ : Nat → Int, ∀ d, d < 2 * E.length → (2 : Int) ∣ φ (fcn E nx (oth d)) - φ (fcn E nx d) - dlt (x0 / 2) (x1 / 2) (x2 / 2) d := by
  have hN := h.three
  have hE := h.edges
  obtain ⟨fw, _, ff⟩ := rfollow_eq h.rot ()
  have hfw := fw_ok h.rot hn ff
  have hfs := (facesOf_fs h.rot hn).1
  have hF0 : 0 < (facesOf nx).length := by
    obtain ⟨_, _, _, q⟩ := fcn_face h.rot hn (k := 0) (by omega)
    omega
  have num : ∀ d, d < 2 * E.length → ∃ y, nxN fw d = y ∧ tl E y = tl E d ∧ fcn E nx y = fcn E nx (oth d) ∧ y < 2 * E.length := by
    intro d hd
    obtain ⟨y, y1, y2, _, y4, y5⟩ := fw_next h.rot hn ff hd
    have q := (nxN_eq hfw hd).1
    rw [y2] at q
    have := Option.some.inj q
    exact ⟨y, by omega, y4, y5, y1⟩
  refine plane_potential (M := E.length) (V := (facesOf nx).length) (F := N) (tl := fcn E nx) (fc := tln E) (nx := nxN fw) (δ := dlt (x0 / 2) (x1 / 2) (x2 / 2)) 2
    (fun d hd => by obtain ⟨_, _, _, q⟩ := fcn_face h.rot hn hd; exact q) (fun d hd => (tln_eq h.rot hd).2) (fun d hd => (nxN_eq hfw hd).2) (fun a b ha hb e => fw_inj h.rot hn ff ha hb e)
    (fun d hd => by obtain ⟨y, e, e1, _⟩ := num d hd; rw [e]; unfold tln; rw [e1]) (fun d hd => by obtain ⟨y, e, _, e2, _⟩ := num d hd; rw [e]; exact e2) ?_ ?_ ?_ (fun L hL => verts_hang h.rot h.conn L hL) hF0 (by omega) (h.euler hn)
  · intro i hi
    unfold dlt
    rw [show 2 * i / 2 = i by omega, show (2 * i + 1) / 2 = i by omega]
    have key : ∀ s : Int, s + s = 2 * s := by intro s; omega
    exact ⟨_, key _⟩
  · intro v hv
    have e : sumTo (2 * E.length) (fun d => if tln E d = v then dlt (x0 / 2) (x1 / 2) (x2 / 2) d else 0) = sumTo (2 * E.length) (fun d => ((if tln E d = v then ind (d / 2 = x0 / 2) else 0) + (if tln E d = v then ind (d / 2 = x1 / 2) else 0)) + (if tln E d = v then ind (d / 2 = x2 / 2) else 0)) := by
      refine sumTo_congr fun d _ => ?_
      unfold dlt
      split <;> rfl
    rw [e, sumTo_add, sumTo_add, sum_dart _ v h0, sum_dart _ v h1, sum_dart _ v h2, c0, c1, c2]
    have key : ∀ a b c : Int, a + b + (b + c) + (c + a) = 2 * (a + b + c) := by intro a b c; omega
    exact ⟨_, key _ _ _⟩
  · intro L hL x hx
    have hang := faces_hang h.rot hn ff h.conn L hL
    have pick : ∀ x, x < (facesOf nx).length → ∃ k, k < 2 * E.length ∧ fcn E nx k = x := by
      intro x hx
      obtain ⟨q1, q2⟩ := hfs.elem _ (List.getElem_mem hx)
      obtain ⟨y, hy⟩ := List.exists_mem_of_ne_nil _ q1
      obtain ⟨k, rfl, hk⟩ := q2 y hy
      exact ⟨k, hk, fcn_of h.rot hn (List.getElem?_eq_getElem hx) hy⟩
    obtain ⟨k, hk, rfl⟩ := pick x hx
    obtain ⟨k', hk', e⟩ := pick 0 hF0
    rw [← e]
    exact hang k hk k' hk'
theorem joined_dart (h : RotOK (N : Nat) E A) {u v : Nat} (hj : joinedB E (u : Int) (v : Int) = true) : ∃ x, x < 2 * E.length ∧ tln E x = u ∧ tln E (oth x) = v := by
  unfold joinedB at hj
  obtain ⟨a, ha, hb⟩ := List.any_eq_true.1 hj
  obtain ⟨i, hi⟩ := List.mem_iff_getElem?.1 ha
  have hlt := (List.getElem?_eq_some_iff.1 hi).1
  have t0 : tl E (2 * i) = a.1 := by
    unfold tl
    rw [show 2 * i / 2 = i by omega, hi]
    simp only
    rw [if_pos (by omega)]
  have t1 : tl E (2 * i + 1) = a.2.1 := by
    unfold tl
    rw [show (2 * i + 1) / 2 = i by omega, hi]
    simp only
    rw [if_neg (by omega)]
  unfold jn at hb
  simp only [Bool.or_eq_true, Bool.and_eq_true, eqI, beq_iff_eq] at hb
  rcases hb with ⟨e1, e2⟩ | ⟨e1, e2⟩
  · refine ⟨2 * i, by omega, ?_, ?_⟩
    · unfold tln; rw [t0, e1]; rfl
    · unfold tln; rw [oth2, t1, e2]; rfl
  · refine ⟨2 * i + 1, by omega, ?_, ?_⟩
    · unfold tln; rw [t1, e2]; rfl
    · unfold tln; rw [oth21, t0, e1]; rfl
theorem Tri.no_cross (h : Tri N E A) (hn : Fol oth E A nx) {d0 d1 d2 d3 : Nat} (n0 : nx[d0]? = some (d1 : Int)) (n1 : nx[d1]? = some (d2 : Int)) (n2 : nx[d2]? = some (d3 : Int))
    (u01 : tln E d0 ≠ tln E d1) (u12 : tln E d1 ≠ tln E d2) (u23 : tln E d2 ≠ tln E d3) (u02 : tln E d0 ≠ tln E d2) (u13 : tln E d1 ≠ tln E d3) (u03 : tln E d0 ≠ tln E d3)
    (j02 : joinedB E (tln E d0 : Nat) (tln E d2 : Nat) = true) (j13 : joinedB E (tln E d1 : Nat) (tln E d3 : Nat) = true) : False := by
  obtain ⟨fw, _, ff⟩ := rfollow_eq h.rot ()
  obtain ⟨k0, k1, t1⟩ := next_tail h.rot hn n0
  obtain ⟨_, k2, t2⟩ := next_tail h.rot hn n1
  obtain ⟨_, k3, t3⟩ := next_tail h.rot hn n2
  have o0 : tln E (oth d0) = tln E d1 := by unfold tln; rw [t1]; rfl
  have o1 : tln E (oth d1) = tln E d2 := by unfold tln; rw [t2]; rfl
  obtain ⟨c, kc, c1, c2⟩ := joined_dart h.rot j02
  obtain ⟨e, ke, e1, e2⟩ := joined_dart h.rot j13
  -- the triangle d0 d1 (oth c)
  obtain ⟨φ, hφ⟩ := h.colour hn (x0 := d0) (x1 := d1) (x2 := oth c) k0 k1 (oth_lt kc) o0 (by rw [o1, c2]) (by rw [oth_oth, c1])
  -- darts whose edge is in the triangle
  have zero : ∀ k, tln E k ≠ tln E d0 → tln E k ≠ tln E d2 → k ≠ oth d0 → k ≠ d1 → dlt (d0 / 2) (d1 / 2) (oth c / 2) k = 0 := by
    intro k q1 q2 q3 q4
    unfold dlt ind
    rw [if_neg, if_neg, if_neg]
    · rfl
    · intro hh
      rcases half_cases hh with e | e
      · rw [e, c2] at q2; exact q2 rfl
      · rw [e, oth_oth, c1] at q1; exact q1 rfl
    · intro hh
      rcases half_cases hh with e | e
      · exact q4 e
      · rw [e, o1] at q2; exact q2 rfl
    · intro hh
      rcases half_cases hh with e | e
      · rw [e] at q1; exact q1 rfl
      · exact q3 e
  have far : ∀ k, tln E k = tln E d3 → dlt (d0 / 2) (d1 / 2) (oth c / 2) k = 0 := by
    intro k hk
    refine zero k (by rw [hk]; exact Ne.symm u03) (by rw [hk]; exact Ne.symm u23) (fun e => ?_) (fun e => ?_)
    · rw [e, o0] at hk; exact u13 hk
    · rw [e] at hk; exact u13 hk
  have one : dlt (d0 / 2) (d1 / 2) (oth c / 2) d1 = 1 := by
    unfold dlt ind
    rw [if_neg, if_pos rfl, if_neg]
    · rfl
    · intro hh
      rcases half_cases hh with e | e
      · rw [e, c2] at u12; exact u12 rfl
      · rw [e, oth_oth, c1] at u01; exact u01 rfl
    · intro hh
      rcases half_cases hh with e | e
      · rw [e] at u01; exact u01 rfl
      · rw [e, oth_oth] at o1
        exact u02 o1
  -- around the second vertex
  have around : ∀ (x : Nat), x < 2 * E.length → ∃ s, Path fw (x : Int) ((x : Int) :: s) (x : Int) ∧ (x : Int) ∉ s ∧ (∀ y ∈ s, ∃ j : Nat, y = (j : Int) ∧ j < 2 * E.length ∧ tln E j = tln E x) ∧ ∀ j, j < 2 * E.length → tln E j = tln E x → j ≠ x → (j : Int) ∈ s := by
    intro x hx
    obtain ⟨q1, q2⟩ := tln_eq h.rot hx
    have hvl : tln E x < A.length := by have := h.rot.al; omega
    have g := List.getElem?_eq_getElem hvl
    have m1 := h.rot.around hx q1 g
    have hcy := ff.cyc (List.getElem_mem hvl) (fun e => by rw [e] at m1; simp at m1)
    obtain ⟨s, s1, s2, s3⟩ := cyc_rest hcy m1
    refine ⟨s, s1, s3 (h.rot.list_nodup (List.getElem_mem hvl)), fun y hy => ?_, fun j hj ej hne => ?_⟩
    · obtain ⟨j, f1, f2, f3⟩ := h.rot.dart _ _ g y ((s2 y).2 (by simp [hy]))
      exact ⟨j, f1, f2, by unfold tln at f3 ⊢; rw [f3]; rfl⟩
    · have m2 := h.rot.around hj (by rw [(tln_eq h.rot hj).1, ej]) g
      rcases List.mem_cons.1 ((s2 _).1 m2) with q | q
      · omega
      · exact q
  have step : ∀ k y : Nat, k < 2 * E.length → fw[k]? = some (y : Int) → fcn E nx y = fcn E nx (oth k) ∧ y < 2 * E.length := by
    intro k y hk hy
    obtain ⟨z, z1, z2, _, _, z5⟩ := fw_next h.rot hn ff hk
    rw [z2] at hy
    have := Option.some.inj hy
    have : z = y := by omega
    subst this
    exact ⟨z5, z1⟩
  have fwd0 : fw[oth d0]? = some (d1 : Int) := by
    obtain ⟨z, _, z2, z3, _⟩ := fw_next h.rot hn ff (oth_lt k0)
    rw [oth_oth, n0] at z3
    rw [z2, ← z3]
  have P1 : ∀ k, k < 2 * E.length → tln E k = tln E d1 → k ≠ d1 → (2 : Int) ∣ φ (fcn E nx k) - φ (fcn E nx d1) - 1 := by
    intro k hk ek hne
    obtain ⟨s, ⟨_, w, w1, w2⟩, s2, s3, s4⟩ := around d1 k1
    rw [Int.toNat_natCast] at w1
    have hin := s4 k hk ek hne
    have hw : ∃ w' : Nat, w = (w' : Int) := by
      obtain ⟨z, _, z2, _⟩ := fw_next h.rot hn ff k1
      rw [z2] at w1
      exact ⟨z, (Option.some.inj w1).symm⟩
    obtain ⟨w', rfl⟩ := hw
    have hφ1 := hφ d1 k1
    rw [one] at hφ1
    have := path_all (P := fun y => (2 : Int) ∣ φ (fcn E nx y.toNat) - φ (fcn E nx d1) - 1) w2 (by
      rw [Int.toNat_natCast, (step d1 w' k1 w1).1]; exact hφ1) (fun y hy hP w hw hne2 => by
      obtain ⟨j, rfl, hj, ej⟩ := s3 y hy
      rw [Int.toNat_natCast] at hP hw
      obtain ⟨z, _, z2, _⟩ := fw_next h.rot hn ff hj
      rw [z2] at hw
      have hwz := Option.some.inj hw
      subst hwz
      rw [Int.toNat_natCast, (step j z hj z2).1]
      have hz := hφ j hj
      rw [zero j (by rw [ej]; exact Ne.symm u01) (by rw [ej]; exact u12) (fun e => by
        subst e
        rw [fwd0] at z2
        exact hne2 (Option.some.inj z2).symm) (fun e => by subst e; exact s2 hy)] at hz
      omega) s2 _ hin
    rwa [Int.toNat_natCast] at this
  have P3 : ∀ k, k < 2 * E.length → tln E k = tln E d3 → (2 : Int) ∣ φ (fcn E nx k) - φ (fcn E nx d3) := by
    intro k hk ek
    by_cases hne : k = d3
    · subst hne; exact ⟨0, by omega⟩
    · obtain ⟨s, ⟨_, w, w1, w2⟩, s2, s3, s4⟩ := around d3 k3
      rw [Int.toNat_natCast] at w1
      have hin := s4 k hk ek hne
      have hw : ∃ w' : Nat, w = (w' : Int) := by
        obtain ⟨z, _, z2, _⟩ := fw_next h.rot hn ff k3
        rw [z2] at w1
        exact ⟨z, (Option.some.inj w1).symm⟩
      obtain ⟨w', rfl⟩ := hw
      have hφ3 := hφ d3 k3
      rw [far d3 rfl] at hφ3
      have := path_all (P := fun y => (2 : Int) ∣ φ (fcn E nx y.toNat) - φ (fcn E nx d3)) w2 (by
        rw [Int.toNat_natCast, (step d3 w' k3 w1).1]; omega) (fun y hy hP w hw hne2 => by
        obtain ⟨j, rfl, hj, ej⟩ := s3 y hy
        rw [Int.toNat_natCast] at hP hw
        obtain ⟨z, _, z2, _⟩ := fw_next h.rot hn ff hj
        rw [z2] at hw
        have hwz := Option.some.inj hw
        subst hwz
        rw [Int.toNat_natCast, (step j z hj z2).1]
        have hz := hφ j hj
        rw [far j ej] at hz
        omega) s2 _ hin
      rwa [Int.toNat_natCast] at this
  have a1 := P1 e ke e1 (fun hh => by rw [hh, o1] at e2; exact u23 e2)
  have a2 := hφ e ke
  have a3 := P3 (oth e) (oth_lt ke) e2
  rw [zero e (by rw [e1]; exact Ne.symm u01) (by rw [e1]; exact u12) (fun hh => by rw [hh, oth_oth] at e2; exact u03 e2) (fun hh => by rw [hh, o1] at e2; exact u23 e2)] at a2
  have f1 := fcn_next h.rot hn n1
  have f2 := fcn_next h.rot hn n2
  rw [f2, f1] at a3
  omega
end
end Go.Vm

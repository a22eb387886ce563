/-
  A mirrored shape is valid, and goes back.
-/
import Derived.Test.YtgeebcgkjcnneaaDoorL39T
set_option linter.unusedVariables false
set_option linter.unusedSimpArgs false
namespace Go.Vm
open Go.Proofs
set_option maxRecDepth 100000
attribute [local irreducible] loopFix

section
variable {E : List Arc} {A : List (List Int)} {N : Nat}

theorem gen_prog (N : Int) (E : List Arc) (A : List (List Int)) (n n1 : Int) (hA : A.length < 9223372036854775807) (hn : foldE empStep 0 n A = some (.inl n1)) : rotation_Genus_L5 (N, E, A, n, A, (A.length : Nat), 0, ()) = some (.inl (N, E, A, n1, ())) := by
  have k1 := scan (B := rotation_Genus_B5) (fun n i => (N, E, A, n, A, ((A.length : Nat) : Int), (i : Int), ())) (fun n => .inl (N, E, A, n, ())) (fun e => nomatch e) empStep A (by
    intro n i l hd'
    have hi : i < A.length := (List.getElem?_eq_some_iff.1 hd').1
    simp only [rotation_Genus_B5, empStep]
    rw [ltI_t (by omega), cond_true, getI_of, hd', Option.bind_some, add1 (a := i) (by omega)]
    cases eqI ((l.length : Nat) : Int) 0 <;> rfl) (by
    intro n
    simp only [rotation_Genus_B5]
    rw [ltI_f (by omega)]; rfl) n
  rw [hn] at k1
  exact k1

theorem emp_mirror : ∀ (A : List (List Int)) (i : Nat) (n : Int), foldE empStep i n (A.map List.reverse) = foldE empStep i n A
  | [], _, _ => rfl
  | l :: A, i, n => by
    simp only [List.map_cons, foldE, empStep, List.length_reverse, Option.bind_some, Sum.elim_inl]
    exact emp_mirror A (i + 1) _

/-- The genus, by the number of faces. -/
theorem genus_val (h : RotOK (N : Nat) E A) (hl : ∀ l ∈ A, l.length ≤ 9223372036854775807) (hN : 0 < N) (hc : Conn N E) {fs : List (List Int)} (hf : rotation_Faces (((N : Int), E, A, ()), ()) = some (fs, ())) {n1 : Int}
    (hn : foldE empStep 0 ((fs.length : Nat) : Int) A = some (.inl n1)) : rotation_Genus (((N : Int), E, A, ()), ()) = some (subI .i64 1 (quoI .i64 (addI .i64 (subI .i64 (N : Int) (E.length : Nat)) n1) 2), ()) := by
  have hlen := h.len
  have hn1 := h.n1
  unfold rotation_Genus
  simp only
  rw [valid_eq ((N : Int), E, A, ()) hl, h.validB, Option.bind_some]
  simp only [Bool.not_true, cond_false]
  rw [hf, Option.bind_some]
  simp only
  rw [gen_prog (N : Int) E A _ n1 (by omega) hn]
  simp only [Option.bind_some, Sum.elim_inl]
  rw [comps_one h hN hc]
  rfl

theorem genus_mirror (h : RotOK (N : Nat) E A) (hl : ∀ l ∈ A, l.length ≤ 9223372036854775807) (hl' : ∀ l ∈ A.map List.reverse, l.length ≤ 9223372036854775807) (hN : 0 < N) (hc : Conn N E) {nx nx' : List Int}
    (hf : rotation_Faces (((N : Int), E, A, ()), ()) = some (facesOf nx, ())) (hf' : rotation_Faces (((N : Int), E, A.map List.reverse, ()), ()) = some (facesOf nx', ())) (hcount : (facesOf nx').length = (facesOf nx).length) :
    rotation_Genus (((N : Int), E, A.map List.reverse, ()), ()) = rotation_Genus (((N : Int), E, A, ()), ()) := by
  obtain ⟨n1, hn⟩ := foldE_inl (g := empStep) (l := A) (i := 0) (s := (((facesOf nx).length : Nat) : Int)) (fun _ n l => cond (eqI (l.length : Nat) 0) (addI .i64 n 1) n) (fun _ _ _ _ => rfl)
  rw [genus_val h hl hN hc hf hn, genus_val h.mirror hl' hN hc hf' (by rw [hcount, emp_mirror]; exact hn)]

/-- A shape that is as it must be is valid. -/
theorem valid_of (h : RotOK (N : Nat) E A) (hA : ∀ l ∈ A, l.length ≤ 9223372036854775807) {g : List Int} {B : List ByteArray} {o : Int} {nx : List Int} (hN : 0 < N) (hc : Conn N E) (hG : rotation_Genus (((N : Int), E, A, ()), ()) = some (0, ()))
    (hT : TurnOK g B (2 * E.length)) (ho0 : 0 ≤ o) (ho1 : o < 2 * E.length ∨ o = 0) (ha : angAll g A = some (.inl ())) (hb : allFrom (bendR B) 0 (2 * E.length) = true)
    (hf : rotation_Faces (((N : Int), E, A, ()), ()) = some (facesOf nx, ())) (hfi : FacesIn (2 * E.length) (facesOf nx)) (hchk : facesChk g B o (facesOf nx) = true) :
    shape_valid ((((N : Int), E, A, ()), g, B, o, ()), ()) = some (true, ()) := by
  have hm1 := h.m1
  have hn1 := h.n1
  have hlen := h.len
  have hv := h.validB
  have hgl := hT.glen
  have hBl := hT.blen
  obtain ⟨bc, c1, c2⟩ := connected_eq h hv hA
  have hbc : bc = true := c2.2 ⟨hN, hc⟩
  subst hbc
  have e2 : mulI .i64 2 (E.length : Nat) = ((2 * E.length : Nat) : Int) := by rw [mulI64 (by omega) (by omega)]; omega
  have hang := angled_eq (N : Int) E A g B o (by omega) hA
  rw [ha] at hang
  have hbp := bends_prog (N : Int) E A g B o E.length hBl hm1 E.length 0 (by omega)
  rw [bends_same, hb] at hbp
  have hbp' : shape_valid_L8 ((N : Int), E, A, g, B, o, (N : Int), E, A, ((2 * E.length : Nat) : Int), 0, ()) = _ := hbp
  have hmax : maxI ((2 * E.length : Nat) : Int) 1 = if 2 * E.length = 0 then 1 else ((2 * E.length : Nat) : Int) := by
    unfold maxI; split <;> split <;> omega
  have hp := faces_prog hT ((N : Int), E, A, ()) o (facesOf nx) hfi
  rw [hchk] at hp
  simp only at hp
  unfold shape_valid
  simp only
  rw [valid_eq ((N : Int), E, A, ()) hA, hv, Option.bind_some]
  simp only [Bool.not_true, cond_false]
  rw [c1, Option.bind_some]
  simp only [Bool.not_true, cond_false]
  rw [hG, Option.bind_some]
  simp only
  rw [neI_f rfl, cond_false, e2, neI_f (by omega), cond_false, neI_f (by omega), cond_false, ltI_f (by omega), cond_false, hmax, geI_f (by split <;> omega), cond_false, hang, hbp']
  simp only [cond_true, Option.bind_some, Sum.elim_inl, Sum.elim_inr, Bool.not_true, cond_false]
  rw [hf, Option.bind_some]
  simp only
  rw [hp]
  rfl

/-- The genus of a valid shape. -/
theorem genus_zero {g : List Int} {B : List ByteArray} {o : Int} {nx : List Int} (h : ShapeOK N E A g B o nx) (hA : ∀ l ∈ A, l.length ≤ 9223372036854775807) (v1 : shape_valid ((((N : Int), E, A, ()), g, B, o, ()), ()) = some (true, ())) :
    rotation_Genus (((N : Int), E, A, ()), ()) = some (0, ()) := by
  obtain ⟨X, x1, _⟩ := genus_both h.rot h.valid hA
  have hG := x1 h.pos h.conn
  obtain ⟨bc, c1, c2⟩ := connected_eq h.rot h.valid hA
  have hbc : bc = true := c2.2 ⟨h.pos, h.conn⟩
  subst hbc
  unfold shape_valid at v1
  simp only at v1
  rw [valid_eq ((N : Int), E, A, ()) hA, h.valid, Option.bind_some] at v1
  simp only [Bool.not_true, cond_false] at v1
  rw [c1, Option.bind_some] at v1
  simp only [Bool.not_true, cond_false] at v1
  rw [hG, Option.bind_some] at v1
  simp only at v1
  by_cases e : subI .i64 1 X = 0
  · rw [hG, e]
  · rw [neI_t e] at v1
    simp only [cond_true] at v1
    exact absurd v1 (by simp)

/-- The mirrored shape is valid. -/
theorem mirror_valid {g g' p : List Int} {B : List ByteArray} {o : Int} {nx : List Int} (h : ShapeOK N E A g B o nx) (hA : ∀ l ∈ A, l.length ≤ 9223372036854775807) (v1 : shape_valid ((((N : Int), E, A, ()), g, B, o, ()), ()) = some (true, ()))
    (hp : Fol id E (A.map List.reverse) p) (hgl : g'.length = 2 * E.length) (hg' : ∀ k, k < 2 * E.length → g'[k]? = some (angM g p k)) :
    shape_valid ((((N : Int), E, A.map List.reverse, ()), g', B.map exch, cond (gtI ((2 * E.length : Nat) : Int) 0) (xorI .i64 o 1) 0, ()), ()) = some (true, ()) := by
  have hm1 := h.rot.m1
  have hR := h.rot.mirror
  have hA' : ∀ l ∈ A.map List.reverse, l.length ≤ 9223372036854775807 := by
    intro l hl
    have := hR.list_len hl
    omega
  obtain ⟨nx', m, _, fol', inv', f', _⟩ := faces_both hR hR.validB hA'
  have two := two_of h.rot h.folOK fol' hp
  have hgo : ∀ k, k < 2 * E.length → ∃ q, q < 2 * E.length ∧ p[k]? = some ((q : Nat) : Int) := by
    intro k hk
    obtain ⟨y, y1, _, y3⟩ := fol_both hR fol' hp (oth_lt hk)
    rw [oth_oth] at y3
    exact ⟨y, y1, y3⟩
  have hT : TurnOK g' (B.map exch) (2 * E.length) := by
    refine ⟨by omega, hgl, by simpa using h.turn.blen, fun k hk => oth_lt hk, fun k hk => ?_, fun k hk => ?_⟩
    · obtain ⟨q, hq, hq2⟩ := hgo k hk
      obtain ⟨a, ha, a1, a2⟩ := h.turn.ang q hq
      refine ⟨a, ?_, a1, a2⟩
      rw [hg' k hk]
      unfold angM
      rw [List.getD_eq_getElem?_getD (l := p), hq2]
      simp only [Option.getD_some, Int.toNat_natCast]
      rw [List.getD_eq_getElem?_getD, ha]; rfl
    · rw [at0_exch (by rw [h.turn.blen]; exact hk), bent_exch]
      exact h.turn.bend k hk
  have ho0 := h.out0
  have hG := (genus_mirror h.rot hA hA' h.pos h.conn h.faces f' two.count).trans (genus_zero h hA v1)
  have hfi : FacesIn (2 * E.length) (facesOf nx') := by rw [← fol'.len]; exact facesIn_of (by rw [fol'.len]; omega) inv'
  by_cases hE : E.length = 0
  · have ho : o = 0 := by rcases h.out1 with h | h <;> omega
    rw [gtI_f (by omega), cond_false]
    have hnil : facesOf nx' = [] := by
      have := inv'.num
      rw [fol'.len] at this
      simp only at this
      exact List.length_eq_zero_iff.1 (by omega)
    exact valid_of hR hA' h.pos h.conn hG hT (Int.le_refl 0) (.inr rfl) (ang_mirror h.rot hp h.turn hg' hgo h.ang) (bend_mirror h.turn.blen (fun k hk => oth_lt hk) h.bend) f' hfi (by rw [hnil]; rfl)
  · have ho1 : o < 2 * E.length := by rcases h.out1 with h | h <;> omega
    obtain ⟨on, rfl⟩ : ∃ on : Nat, o = on := ⟨o.toNat, by omega⟩
    have hon : on < 2 * E.length := by omega
    have := oth_lt hon
    rw [gtI_t (by omega), cond_true, xor1 (by omega)]
    exact valid_of hR hA' h.pos h.conn hG hT (by omega) (.inl (by omega)) (ang_mirror h.rot hp h.turn hg' hgo h.ang) (bend_mirror h.turn.blen (fun k hk => oth_lt hk) h.bend) f' hfi (chk_mirror two h.turn h.bend hg' on h.chk)

/-- The same bends, before and after. -/
theorem bends_mirror (N : Int) (E : List Arc) (A A' : List (List Int)) (g g' : List Int) (B : List ByteArray) (o o' : Int) (m : Nat) (hB : B.length = 2 * m) (hm : m ≤ 32768) : ∀ (k j : Nat) (n : Int), j + k = m → ∃ v, shape_Bends_L5 (N, E, A, g, B, o, n, ((2 * j : Nat) : Int), ()) = some (.inl (v, ())) ∧
    shape_Bends_L5 (N, E, A', g', B.map exch, o', n, ((2 * j : Nat) : Int), ()) = some (.inl (v, ())) := by
  intro k
  induction k with
  | zero =>
    intro j n hj
    refine ⟨n, loop_done ?_, loop_done ?_⟩
    · simp only [shape_Bends_B5]
      rw [ltI_f (by omega)]; rfl
    · simp only [shape_Bends_B5]
      rw [ltI_f (by simp; omega)]; rfl
  | succ k ih =>
    intro j n hj
    have h0 : B[2 * j]? = some (at0 B (2 * j)) := at0_of (by omega)
    have h1 : (B.map exch)[2 * j]? = some (exch (at0 B (2 * j))) := by rw [List.getElem?_map, h0]; rfl
    have ea : addI .i64 ((2 * j : Nat) : Int) 2 = ((2 * (j + 1) : Nat) : Int) := by rw [addI64 (by omega) (by omega)]; omega
    obtain ⟨v, v1, v2⟩ := ih (j + 1) (addI .i64 n ((at0 B (2 * j)).size : Nat)) (by omega)
    refine ⟨v, (loop_step ?_).trans v1, (loop_step ?_).trans v2⟩
    · simp only [shape_Bends_B5]
      rw [ltI_t (by omega), cond_true, getI_of, h0, Option.bind_some, ea]
    · simp only [shape_Bends_B5]
      rw [ltI_t (by simp; omega), cond_true, getI_of, h1, Option.bind_some, ea, exch_size]

/-- Mirrored twice. -/
theorem ang_back (h : RotOK (N : Nat) E A) {g g' g2 p q : List Int} (hgl : g.length = 2 * E.length) (hp : Fol id E (A.map List.reverse) p) (hq : Fol id E ((A.map List.reverse).map List.reverse) q) (hg' : ∀ k, k < 2 * E.length → g'[k]? = some (angM g p k))
    (h2l : g2.length = 2 * E.length) (hg2 : ∀ k, k < 2 * E.length → g2[k]? = some (angM g' q k)) : g2 = g := by
  rw [rev_rev_map] at hq
  refine list_uniq (T := angM g' q) h2l hgl hg2 fun k hk => ?_
  obtain ⟨l, hl, hd⟩ := List.mem_flatten.1 (h.mem hk)
  obtain ⟨i, hi, hid⟩ := List.getElem_of_mem hd
  have hm : (i + 1) % l.length < l.length := Nat.mod_lt _ (by omega)
  have g1 := hq.get l hl i hi
  simp only [id] at g1
  obtain ⟨y, hy, hyL⟩ := h.mem_of hl (List.getElem_mem hm)
  rw [hid, Int.toNat_natCast, List.getD_eq_getElem?_getD, List.getElem?_eq_getElem hm, hy] at g1
  have g3 := prev_get hp hl hm
  rw [hy, Int.toNat_natCast, prev_nxt hi, List.getD_eq_getElem?_getD, List.getElem?_eq_getElem hi, hid] at g3
  simp only [Option.getD_some] at g1 g3
  have e : angM g' q k = angM g p y := by
    unfold angM
    rw [List.getD_eq_getElem?_getD (l := q), g1]
    simp only [Option.getD_some, Int.toNat_natCast]
    rw [List.getD_eq_getElem?_getD (l := g'), hg' y hyL]
    rfl
  rw [e]
  unfold angM
  rw [List.getD_eq_getElem?_getD (l := p), g3]
  simp only [Option.getD_some, Int.toNat_natCast]
  rw [List.getD_eq_getElem?_getD, List.getElem?_eq_getElem (by omega)]
  rfl
end

theorem shapeBack_plain (x : Shp × Unit) (hx : WfIns layoutlaw39_ShapeBack_c.ins x) : layoutlaw39_ShapeBack x = some (true, ()) := by
  obtain ⟨⟨⟨N0, E, A, u1⟩, g, B, o, u2⟩, u3⟩ := x
  have hA : ∀ l ∈ A, l.length ≤ 9223372036854775807 := by
    intro l hl
    have h1 : Wf (.slice (.slice (.int .i64))) A := hx.1.1.2.2.1
    exact (h1.2 l hl).1
  obtain ⟨b0, s1, _⟩ := small_some (N0, E, A, ()) g B o
  obtain ⟨b, v1, v2, hS⟩ := shape_valid_both N0 E A g B o hA
  unfold layoutlaw39_ShapeBack
  simp only at s1 ⊢
  rw [s1, Option.bind_some, awake39_true]
  cases b0 with
  | false => rfl
  | true =>
    simp only [Bool.not_true, cond_false]
    rw [v2, Option.bind_some]
    cases b with
    | false => rfl
    | true =>
      obtain ⟨N, rfl, nx, h⟩ := hS rfl
      have hm1 := h.rot.m1
      have hn1 := h.rot.n1
      have hlen := h.rot.len
      have hBl := h.turn.blen
      obtain ⟨p, g', hp, hgl, hg', m1, m2⟩ := mirror_both h hA v1 v2
      have hR := h.rot.mirror
      have hA' : ∀ l ∈ A.map List.reverse, l.length ≤ 9223372036854775807 := by
        intro l hl
        have := hR.list_len hl
        omega
      have mv := mirror_valid h hA v1 hp hgl hg'
      generalize ho' : cond (gtI ((2 * E.length : Nat) : Int) 0) (xorI .i64 o 1) 0 = o' at m1 m2 mv
      obtain ⟨b', w1, w2, hS'⟩ := shape_valid_both (N : Int) E (A.map List.reverse) g' (B.map exch) o' hA'
      rw [mv] at w1
      have hb' : b' = true := by
        have : (true, ()) = (b', ()) := Option.some.inj w1
        exact (congrArg Prod.fst this).symm
      subst hb'
      obtain ⟨N', hNN, nx', h'⟩ := hS' rfl
      have : N' = N := by omega
      subst this
      obtain ⟨q, g2, hq, h2l, hg2, k1, _⟩ := mirror_both h' hA' mv w2
      have eg : g2 = g := ang_back h.rot h.turn.glen hp hq hg' h2l hg2
      have eB : (B.map exch).map exch = B := by
        rw [List.map_map]
        have : exch ∘ exch = id := by funext s; exact exch_exch s
        rw [this, List.map_id]
      have eo : cond (gtI ((2 * E.length : Nat) : Int) 0) (xorI .i64 o' 1) 0 = o := by
        have ho0 := h.out0
        by_cases hE : E.length = 0
        · rw [gtI_f (by omega), cond_false]
          rcases h.out1 with h | h <;> omega
        · have ho1 : o < 2 * E.length := by rcases h.out1 with h | h <;> omega
          obtain ⟨on, rfl⟩ : ∃ on : Nat, o = on := ⟨o.toNat, by omega⟩
          have hon : on < 2 * E.length := by omega
          have := oth_lt hon
          rw [gtI_t (by omega), cond_true] at ho' ⊢
          rw [← ho', xor1 (by omega), xor1 (by omega), oth_oth]
      subst eg
      rw [rev_rev_map, eB, eo] at k1
      obtain ⟨v, b1, b2⟩ := bends_mirror (N' : Int) E A (A.map List.reverse) g2 g' B o o' E.length hBl hm1 E.length 0 0 (by omega)
      have sb1 : shape_Bends ((((N' : Int), E, A, ()), g2, B, o, ()), ()) = some (v, ()) := by
        unfold shape_Bends
        simp only
        rw [v1, Option.bind_some]
        simp only [Bool.not_true, cond_false]
        rw [show shape_Bends_L5 ((N' : Int), E, A, g2, B, o, 0, 0, ()) = _ from b1]; rfl
      have sb2 : shape_Bends ((((N' : Int), E, A.map List.reverse, ()), g', B.map exch, o', ()), ()) = some (v, ()) := by
        unfold shape_Bends
        simp only
        rw [mv, Option.bind_some]
        simp only [Bool.not_true, cond_false]
        rw [show shape_Bends_L5 ((N' : Int), E, A.map List.reverse, g', B.map exch, o', 0, 0, ()) = _ from b2]; rfl
      rw [show neI (cond true 0 13) 0 = false from rfl, cond_false, m1, Option.bind_some]
      simp only
      rw [w2, Option.bind_some, show eqI (cond true 0 13) 0 = true from rfl, cond_true, sb2, Option.bind_some, sb1, Option.bind_some, eqI_t rfl, cond_true, k1, Option.bind_some]
      simp only
      rw [same_refl _ _ _ _ _ _ (by omega) (by omega) (by
        intro l hl
        have := h.rot.list_len hl
        omega) (by have := h.turn.glen; omega) (by omega)]
      rfl
end Go.Vm

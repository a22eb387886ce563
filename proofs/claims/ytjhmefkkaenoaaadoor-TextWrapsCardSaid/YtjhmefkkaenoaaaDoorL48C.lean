/-
  What wrapped lines are.
-/
import Derived.Test.YtjhmefkkaenoaaaDoorL48D
set_option linter.unusedVariables false
set_option linter.unusedSimpArgs false
namespace Go.Vm
open Go.Proofs
set_option maxRecDepth 100000
attribute [local irreducible] loopFix

/-- Each line fits or is a single word. -/
def GoodG (f : List UInt8 → Bool) (g : List (List UInt8)) : Prop := g ≠ [] ∧ (g.length = 1 ∨ f (joinL g) = true)
/-- No line has room for the first word of the next one. -/
def ChainG (f : List UInt8 → Bool) : List (List (List UInt8)) → Prop
  | g :: g' :: r => f (joinL g ++ 32 :: g'.headD []) = false ∧ ChainG f (g' :: r)
  | _ => True
theorem chain_head {f : List UInt8 → Bool} {c c' : List (List UInt8)} (h : c'.headD [] = c.headD []) : ∀ {out : List (List (List UInt8))}, ChainG f (out ++ [c]) → ChainG f (out ++ [c'])
  | [], _ => trivial
  | [a], hc => ⟨by rw [h]; exact hc.1, trivial⟩
  | a :: b :: out, hc => ⟨hc.1, chain_head h (out := b :: out) hc.2⟩
theorem chain_snoc {f : List UInt8 → Bool} {c d : List (List UInt8)} (h : f (joinL c ++ 32 :: d.headD []) = false) : ∀ {out : List (List (List UInt8))}, ChainG f (out ++ [c]) → ChainG f (out ++ [c] ++ [d])
  | [], _ => ⟨h, trivial⟩
  | [a], hc => ⟨hc.1, h, trivial⟩
  | a :: b :: out, hc => ⟨hc.1, chain_snoc h (out := b :: out) hc.2⟩
theorem chain_at {f : List UInt8 → Bool} : ∀ {gs : List (List (List UInt8))} {i : Nat} {g g' : List (List UInt8)}, ChainG f gs → gs[i]? = some g → gs[i + 1]? = some g' → f (joinL g ++ 32 :: g'.headD []) = false
  | [], i, g, g', _, h, _ => by simp at h
  | [a], 0, g, g', _, _, h => by simp at h
  | [a], i + 1, g, g', _, h, _ => by simp at h
  | a :: b :: r, 0, g, g', hc, h, h' => by
    simp at h h'
    subst h
    subst h'
    exact hc.1
  | a :: b :: r, i + 1, g, g', hc, h, h' => chain_at (gs := b :: r) (i := i) hc.2 (by simpa using h) (by simpa using h')

theorem wrapG_spec {f : List UInt8 → Bool} : ∀ (r : List (List UInt8)) (out : List (List (List UInt8))) (cur : List (List UInt8)), (∀ g ∈ out, GoodG f g) → GoodG f cur → ChainG f (out ++ [cur]) →
    (wrapG f r out cur).flatten = out.flatten ++ cur ++ r ∧ (∀ g ∈ wrapG f r out cur, GoodG f g) ∧ ChainG f (wrapG f r out cur)
  | [], out, cur, h1, h2, h3 => by
    refine ⟨by simp [wrapG], ?_, h3⟩
    intro g hg
    unfold wrapG at hg
    rcases List.mem_append.1 hg with hg | hg
    · exact h1 g hg
    · simp at hg; subst hg; exact h2
  | w :: r, out, cur, h1, h2, h3 => by
    unfold wrapG
    cases hf : f (joinL (cur ++ [w])) with
    | true =>
      have := wrapG_spec r out (cur ++ [w]) h1 ⟨by simp, .inr hf⟩ (chain_head (by
        cases hc : cur with
        | nil => exact absurd hc h2.1
        | cons a c => rfl) h3)
      simpa using this
    | false =>
      have := wrapG_spec r (out ++ [cur]) [w] (by
        intro g hg
        rcases List.mem_append.1 hg with hg | hg
        · exact h1 g hg
        · simp at hg; subst hg; exact h2) ⟨by simp, .inl rfl⟩ (chain_snoc (by
          rw [joinL_snoc h2.1] at hf
          exact hf) h3)
      simpa using this

theorem parts_join : ∀ {g : List (List UInt8)}, g ≠ [] → (∀ w ∈ g, ∀ c ∈ w, c ≠ 32) → partsL (joinL g) = g
  | [], h, _ => absurd rfl h
  | [w], _, h => (partsL_pre w (h w (by simp))).2
  | w :: v :: r, _, h => by
    rw [joinL_cons w (by simp), (partsL_pre w (h w (by simp))).1, parts_join (by simp) (fun x hx => h x (by simp [hx]))]
theorem parts_nospace : ∀ l, ∀ w ∈ partsL l, ∀ c ∈ w, c ≠ 32
  | [] => by simp [partsL]
  | b :: r => by
    have ih := parts_nospace r
    unfold partsL
    cases hb : (b == 32) with
    | true =>
      rw [cond_true]
      intro w hw
      rcases List.mem_cons.1 hw with rfl | hw
      · simp
      · exact ih w hw
    | false =>
      rw [cond_false]
      split
      · rename_i hp; exact absurd hp (partsL_ne r)
      · rename_i a t hp
        rw [hp] at ih
        intro w hw
        rcases List.mem_cons.1 hw with rfl | hw
        · intro c hc
          rcases List.mem_cons.1 hc with rfl | hc
          · simpa using hb
          · exact ih a (by simp) c hc
        · exact ih w (by simp [hw])
theorem tot_append (a b : List (List UInt8)) : tot (a ++ b) = tot a + tot b := by simp [tot]
theorem tot_join : ∀ {g : List (List UInt8)}, g ≠ [] → tot g = (joinL g).length + 1
  | [], h => absurd rfl h
  | [w], _ => by simp [tot, joinL]
  | w :: v :: r, _ => by
    rw [tot_cons, tot_join (by simp), joinL_cons w (by simp)]; simp; omega
theorem tot_mem {gs : List (List (List UInt8))} {g : List (List UInt8)} (h : g ∈ gs) : tot g ≤ tot gs.flatten := by
  obtain ⟨a, b, rfl⟩ := List.append_of_mem h
  simp [tot_append]; omega
theorem join_flatten : ∀ {gs : List (List (List UInt8))}, (∀ g ∈ gs, g ≠ []) → joinL (gs.map joinL) = joinL gs.flatten
  | [], _ => rfl
  | [g], _ => by simp [joinL]
  | g :: g' :: r, h => by
    have ih := join_flatten (gs := g' :: r) (fun x hx => h x (by simp [hx]))
    have hg := h g (by simp)
    have hg' := h g' (by simp)
    rw [List.map_cons, joinL_cons _ (by simp), ih]
    show joinL g ++ 32 :: joinL (g' :: r).flatten = joinL (g ++ (g' :: r).flatten)
    rw [joinL_append hg (by
      cases g' with
      | nil => exact absurd rfl hg'
      | cons a b => simp)]

/-! ### Join -/
theorem ref_join_loop : ∀ (r done : List (List UInt8)), tot (done ++ r) ≤ 1073741824 → (done ++ r).length ≤ 1073741824 →
    loopFix layoutref48_Join_B3 ((done ++ r).map mk, mk (joinL done), (done.length : Nat), ()) = some (.inl (mk (joinL (done ++ r)), ()))
  | [], done, _, _ => by
    refine loop_done ?_
    unfold layoutref48_Join_B3
    simp only
    rw [ltI_f (by simp)]
    simp
  | w :: r, done, h1, h2 => by
    have el : done ++ w :: r = (done ++ [w]) ++ r := by simp
    have ih := ref_join_loop r (done ++ [w]) (by rw [← el]; exact h1) (by rw [← el]; exact h2)
    rw [← el] at ih
    rw [tot_append, tot_cons] at h1
    simp only [List.length_append, List.length_cons] at h2
    rw [← ih]
    refine loop_step ?_
    have e1 : getI ((done ++ w :: r).map mk) (done.length : Nat) = some (mk w) := by rw [getI_of]; simp
    unfold layoutref48_Join_B3
    simp only
    rw [ltI_t (by simp; omega), cond_true, e1]
    by_cases hd : done = []
    · subst hd
      rw [gtI_f (by simp), cond_false, Option.bind_some, show joinL [] = [] from rfl, catS_mk (by simp; omega), Option.bind_some, add1 (by simp)]
      simp [joinL]
    · have hpos := List.length_pos_iff.2 hd
      have ht := tot_join hd
      have h3 := cat3 (a := joinL done) (b := w) (by omega)
      rw [gtI_t (by omega), cond_true]
      cases h4 : catS (mk (joinL done)) (ByteArray.mk #[32]) with
      | none => rw [h4] at h3; cases h3
      | some t =>
        rw [h4, Option.bind_some] at h3
        rw [Option.bind_some, Option.bind_some, h3, Option.bind_some, add1 (by omega), joinL_snoc hd]
        simp
theorem ref_join (l : List (List UInt8)) (h1 : tot l ≤ 1073741824) (h2 : l.length ≤ 1073741824) : layoutref48_Join (l.map mk, ()) = some (mk (joinL l), ()) := by
  unfold layoutref48_Join layoutref48_Join_L3
  dsimp only
  have e : loopFix layoutref48_Join_B3 (l.map mk, ByteArray.mk #[], 0, ()) = some (.inl (mk (joinL l), ())) := ref_join_loop l [] (by simpa using h1) (by simpa using h2)
  rw [e]
  rfl

/-! ### TextWraps -/
theorem lines_look (s : ByteArray) (width : Int) (gs : List (List (List UInt8))) (hg : ∀ g ∈ gs, GoodG (fits width) g) (hc : ChainG (fits width) gs) (hw : ∀ g ∈ gs, ∀ w ∈ g, w ≠ [] ∧ ∀ c ∈ w, c ≠ 32) (ht : ∀ g ∈ gs, tot g ≤ 10000) (hn : gs.length ≤ 10000) :
    layoutlaw48_TextWraps_L7 (s, width, gs.map jm, 0, ()) = some (.inr (.inl (s, gs.map jm, ()))) := by
  have h := scan (B := layoutlaw48_TextWraps_B7) (fun (_ : Unit) i => (s, width, gs.map jm, (i : Int), ()))
    (fun _ => .inr (.inl (s, gs.map jm, ()))) (fun (e : Empty) => e.elim) (fun _ (_ : Unit) (_ : ByteArray) => some (.inl ())) (gs.map jm) (by
      intro _ i a ha
      have hi : i < (gs.map jm).length := (List.getElem?_eq_some_iff.1 ha).1
      have hi2 := hi
      rw [List.length_map] at hi2
      obtain ⟨g, hgi, rfl⟩ : ∃ g, gs[i]? = some g ∧ jm g = a := by rw [List.getElem?_map] at ha; exact Option.map_eq_some_iff.1 ha
      have hgm := List.mem_of_getElem? hgi
      obtain ⟨g1, g2⟩ := hg g hgm
      have htg := ht g hgm
      have hjt := tot_join g1
      have hpj := parts_join g1 (fun w hw' => (hw g hgm w hw').2)
      have hwd : layoutref48_Words (jm g, ()) = some (g.map mk, ()) := by
        unfold jm
        rw [ref_words _ (by omega), hpj]
      have hwi : layoutref48_Width (jm g, ()) = some (widthL (joinL g), ()) := ref_width_mk (by omega)
      have hes : eqS (jm g) (ByteArray.mk #[]) = false := by
        rw [show (ByteArray.mk #[]) = mk [] from rfl]
        unfold jm
        rw [eqS_mk, decide_eq_false_iff_not]
        intro e
        match g, g1, e, hw g hgm with
        | [w], _, e, hw => exact (hw w (by simp)).1 e
        | w :: v :: r, _, e, _ => rw [joinL_cons w (by simp)] at e; simp at e
      have tail : ∀ (K : Option ((ByteArray × Int × List ByteArray × Int × Unit) ⊕ ((Bool × Unit) ⊕ ((ByteArray × List ByteArray × Unit) ⊕ Empty)))),
          K = (getI (gs.map jm) (i : Nat)).bind (fun y14 => cond (eqS y14 (ByteArray.mk #[])) (some (.inr (.inl (false, ())))) (cond (ltI (addI .i64 (i : Nat) 1) ((gs.map jm).length : Nat)) ((getI (gs.map jm) (i : Nat)).bind fun y15 => (catS y15 (ByteArray.mk #[32])).bind fun y16 => (getI (gs.map jm) (addI .i64 (i : Nat) 1)).bind fun y17 => (layoutref48_Words (y17, ())).bind fun r18 => (idxI r18.1.length 0).bind fun j19 => (r18.1[j19]?).bind fun y20 => (catS y16 y20).bind fun y21 => (layoutref48_Width (y21, ())).bind fun r22 => cond (leI r22.1 width) (some (.inr (.inl (false, ())))) (some (.inl (s, (width, (gs.map jm, ((addI .i64 (i : Nat) 1), ()))))))) (some (.inl (s, (width, (gs.map jm, ((addI .i64 (i : Nat) 1), ())))))))) →
          K = some (.inl (s, width, gs.map jm, ((i + 1 : Nat) : Int), ())) := by
        rintro K rfl
        rw [getI_of, ha, Option.bind_some, hes, cond_false, add1 (by omega)]
        by_cases hlt : i + 1 < gs.length
        · rw [ltI_t (by rw [List.length_map]; omega), cond_true, Option.bind_some]
          obtain ⟨g', hg'⟩ : ∃ g', gs[i + 1]? = some g' := ⟨_, List.getElem?_eq_getElem hlt⟩
          have hgm' := List.mem_of_getElem? hg'
          obtain ⟨g1', g2'⟩ := hg g' hgm'
          have htg' := ht g' hgm'
          have hjt' := tot_join g1'
          have hpj' := parts_join g1' (fun w hw' => (hw g' hgm' w hw').2)
          have hwd' : layoutref48_Words (jm g', ()) = some (g'.map mk, ()) := by
            unfold jm
            rw [ref_words _ (by omega), hpj']
          have hch := chain_at hc hgi hg'
          have hgi' : getI (gs.map jm) ((i + 1 : Nat) : Int) = some (jm g') := by rw [getI_of, List.getElem?_map, hg']; rfl
          rw [hgi']
          match g', g1', hwd', hch, htg' with
          | w :: r', _, hwd', hch, htg' =>
            rw [tot_cons] at htg'
            have h3 := cat3 (a := joinL g) (b := w) (by omega)
            have hwn : layoutref48_Width (mk (joinL g ++ 32 :: w), ()) = some (widthL (joinL g ++ 32 :: w), ()) := ref_width_mk (by simp; omega)
            have hid : idxI ((w :: r').map mk).length 0 = some 0 := idxI_of (n := ((w :: r').map mk).length) (i := 0) (by simp)
            have hch' : leI (widthL (joinL g ++ 32 :: w)) width = false := hch
            cases h4 : catS (jm g) (ByteArray.mk #[32]) with
            | none => unfold jm at h4; rw [h4] at h3; cases h3
            | some t =>
              unfold jm at h4
              rw [h4, Option.bind_some] at h3
              rw [Option.bind_some, Option.bind_some, hwd', Option.bind_some]
              simp only
              rw [hid, Option.bind_some]
              simp only [List.map_cons, List.getElem?_cons_zero, Option.bind_some]
              rw [h3, Option.bind_some, hwn, Option.bind_some, hch', cond_false]
        · rw [ltI_f (by rw [List.length_map]; omega), cond_false]
      unfold layoutlaw48_TextWraps_B7
      simp only
      have tail' := tail _ rfl
      rw [ltI_t (by omega), cond_true]
      have hget : getI (gs.map jm) (i : Nat) = some (jm g) := by rw [getI_of]; exact ha
      have e1 : ∀ {β : Type} (F : ByteArray → Option β), (getI (gs.map jm) (i : Nat)).bind F = F (jm g) := by intro β F; rw [hget]; rfl
      rw [e1, hwd, Option.bind_some, e1, hwi, Option.bind_some]
      cases hgt : gtI (widthL (joinL g)) width with
      | true =>
        have hl1 : g.length = 1 := by
          rcases g2 with g2 | g2
          · exact g2
          · unfold fits leI at g2
            unfold gtI at hgt
            simp at g2 hgt
            omega
        rw [cond_true, gtI_f (by simp; omega), cond_false, tail']
        rfl
      | false =>
        rw [cond_false, tail']
        rfl) (by
      intro _
      unfold layoutlaw48_TextWraps_B7
      simp only
      rw [ltI_f (by omega)]; rfl) ()
  unfold layoutlaw48_TextWraps_L7
  rw [show ((0 : Int)) = ((0 : Nat) : Int) from rfl, h]
  have hf : ∀ (l : List ByteArray) (i : Nat), foldE (fun _ (_ : Unit) (_ : ByteArray) => some (.inl () : Unit ⊕ Empty)) i () l = some (.inl ()) := by
    intro l
    induction l with
    | nil => intro i; rfl
    | cons a l ih => intro i; simp [foldE, ih]
  rw [hf]
  rfl

theorem textWraps_law (s : ByteArray) (width : Int) : layoutlaw48_TextWraps (s, width, ()) = some (true, ()) := by
  unfold layoutlaw48_TextWraps
  dsimp only
  rw [awake48_true]
  by_cases h : s.size ≤ 2000
  · obtain ⟨l, rfl⟩ : ∃ l, s = mk l := ⟨_, (mk_of s).symm⟩
    rw [mk_size] at h
    rw [gtI_f (by rw [mk_size]; omega), cond_false, text_wrap l width (by omega), Option.bind_some]
    have hlen := wrapRes_len l width
    unfold wrapRes at hlen ⊢
    cases hpl : plainL l with
    | false => rfl
    | true =>
      rw [hpl] at hlen
      simp only [Bool.not_true, cond_false] at hlen ⊢
      cases hlw : ltI width 600 with
      | true => rfl
      | false =>
        rw [hlw] at hlen
        simp only [cond_false] at hlen ⊢
        cases hl : decide (l = []) with
        | true =>
          have : l = [] := by simpa using hl
          subst this
          simp only [cond_true]
          rw [neI_f rfl, cond_false]
          have h1 := lines_look (mk []) width [] (by simp) trivial (by simp) (by simp) (by simp)
          rw [show (List.map jm []) = ([] : List ByteArray) from rfl] at h1
          rw [h1, Option.bind_some]
          simp only [Sum.elim_inr, Sum.elim_inl]
          have h2 := ref_join [] (by simp [tot]) (by simp)
          rw [show (List.map mk []) = ([] : List ByteArray) from rfl] at h2
          rw [h2, Option.bind_some]
          simp only
          rw [show joinL [] = [] from rfl, eqS_refl]
          rfl
        | false =>
          rw [hl] at hlen
          simp only [cond_false] at hlen ⊢
          cases hem : (partsL l).any emptyW with
          | true => rfl
          | false =>
            rw [hem] at hlen
            simp only [cond_false] at hlen ⊢
            rw [List.length_map] at hlen
            have htot := tot_parts l
            have hcnt := partsL_count l
            have hsp := parts_nospace l
            have hjp := join_parts l
            have hspec : (linesG l width).flatten = partsL l ∧ (∀ g ∈ linesG l width, GoodG (fits width) g) ∧ ChainG (fits width) (linesG l width) := by
              unfold linesG
              match hp : partsL l with
              | [] => exact absurd hp (partsL_ne l)
              | hd :: t =>
                have := wrapG_spec (f := fits width) t [] [hd] (by simp) ⟨by simp, .inl rfl⟩ trivial
                simpa using this
            obtain ⟨q1, q2, q3⟩ := hspec
            generalize linesG l width = gs at q1 q2 q3 hlen ⊢
            have hmem : ∀ g ∈ gs, ∀ w ∈ g, w ∈ partsL l := by
              intro g hg w hw
              rw [← q1]
              exact List.mem_flatten.2 ⟨g, hg, hw⟩
            have hne : ∀ w ∈ partsL l, w ≠ [] := by
              intro w hw
              rw [List.any_eq_false] at hem
              have := hem w hw
              simpa [emptyW] using this
            have htm : ∀ g ∈ gs, tot g ≤ l.length + 1 := by
              intro g hg
              have := tot_mem hg
              rw [q1, htot] at this
              exact this
            rw [neI_f rfl, cond_false, lines_look (mk l) width gs q2 q3 (fun g hg w hw => ⟨hne w (hmem g hg w hw), hsp w (hmem g hg w hw)⟩) (fun g hg => by have := htm g hg; omega) (by omega), Option.bind_some]
            simp only [Sum.elim_inr, Sum.elim_inl]
            have hjf := join_flatten (gs := gs) (fun g hg => (q2 g hg).1)
            rw [q1, hjp] at hjf
            have e0 : gs.map jm = (gs.map joinL).map mk := by rw [List.map_map]; rfl
            have htj : ∀ (gs : List (List (List UInt8))), (∀ g ∈ gs, g ≠ []) → tot (gs.map joinL) = tot gs.flatten := by
              intro gs
              induction gs with
              | nil => intro _; rfl
              | cons g r ih =>
                intro hg
                rw [List.map_cons, tot_cons, List.flatten_cons, tot_append, ih (fun x hx => hg x (by simp [hx])), tot_join (hg g (by simp))]
            have htj := htj gs (fun g hg => (q2 g hg).1)
            rw [q1, htot] at htj
            rw [e0, ref_join _ (by omega) (by rw [List.length_map]; omega), Option.bind_some]
            simp only
            rw [hjf, eqS_refl]
            rfl
  · rw [gtI_t (by omega)]; rfl
theorem textWraps_plain (x : (tupTy (layoutlaw48_TextWraps_c.ins.map (·.2))).den) (h : WfIns layoutlaw48_TextWraps_c.ins x) : layoutlaw48_TextWraps x = some (true, ()) := textWraps_law x.1 x.2.1
end Go.Vm

/-
  The distances of the program.
-/
import Derived.Test.YtkedmhafnkafdaaDoorM32E
set_option linter.unusedVariables false
set_option linter.unusedSimpArgs false
namespace Go.Vm
open Go.Proofs
set_option maxRecDepth 100000
attribute [local irreducible] loopFix

section
variable {N : Int} {E : List Arc} {A : List (List Int)} {n C : Nat} {fc : Nat → Nat} {S : Nat → Prop} {m : List Int}

theorem dist_round (hF : Fc (2 * E.length) n m fc) (hE : E.length ≤ 100) (hn : n ≤ 1000) (hC : C ≤ 100000) (hA : ∀ f g, AdjF (2 * E.length) fc f g → f < n ∧ g < n) (hS : ∀ f, S f → f < n) {out q : List Int} {f k e : Nat} (h : BI E.length n fc S C out q) (hk : k < 2 * E.length) (hke : k ≤ 2 * e + 1) (he : e < E.length) (hq : q[0]? = some (f : Int)) (c e' : Int) :
    dual_distances_B20 (N, E, A, out, q, m, (f : Int), (e : Int), (k : Int), c, e', ()) = some (.inl (N, E, A, (stepD fc f k (out, q)).1, (stepD fc f k (out, q)).2, m, (f : Int), (e : Int), ((k + 1 : Nat) : Int), c, e', ())) := by
  have hok := oth_lt hk
  have hgl : fc (oth k) < out.length := by rw [h.len]; exact hF.lt _ hok
  obtain ⟨f', hf', hfn, hfl⟩ := h.qin _ (List.mem_of_getElem? hq)
  have : f = f' := by omega
  subst this
  have hfl2 : f < out.length := by rw [h.len]; exact hfn
  obtain ⟨d, hd, hdist⟩ := h.lb f hfn hfl
  have hdn := hdist.lt hS (fun f g h => (hA f g h).1)
  have hcap := h.cap
  have e2 : mulI .i64 2 (e : Int) = ((2 * e : Nat) : Int) := by rw [mulI64 (by omega) (by omega)]; omega
  unfold dual_distances_B20 stepD
  simp only
  rw [e2, add1 (by omega), leI_t (by omega), cond_true, xor1 (by omega), getI_of, hF.get _ hok, Option.bind_some, getI_of, hF.get _ hk, Option.bind_some, add1 (by omega)]
  by_cases h1 : fc k = f
  · rw [eqI_t (by omega), cond_true, idxI_of hgl, Option.bind_some, lab_get hgl, Option.bind_some]
    by_cases h2 : lab out (fc (oth k)) < 0
    · have hu := unl_set (v := lab out f + 1) hgl h2 (by omega)
      rw [ltI_t h2, cond_true, idxI_of hfl2, Option.bind_some, lab_get hfl2, Option.bind_some, Option.bind_some, lab_get hgl, Option.bind_some, app_of (by simp; omega), Option.bind_some, addI64 (by omega) (by omega), if_pos ⟨h1, h2⟩]
    · rw [ltI_f (by omega), cond_false, if_neg (fun hc => h2 hc.2)]
  · rw [eqI_f (by omega), cond_false, if_neg (fun hc => h1 hc.1)]

theorem dist_inner (hF : Fc (2 * E.length) n m fc) (hE : E.length ≤ 100) (hn : n ≤ 1000) (hC : C ≤ 100000) (hA : ∀ f g, AdjF (2 * E.length) fc f g → f < n ∧ g < n) (hS : ∀ f, S f → f < n) {s : List Int × List Int} {f e : Nat} (h : BI E.length n fc S C s.1 s.2) (he : e < E.length) (hq : s.2[0]? = some (f : Int)) (c e' : Int) :
    dual_distances_L20 (N, E, A, s.1, s.2, m, (f : Int), (e : Int), ((2 * e : Nat) : Int), c, e', ()) = some (.inl (N, E, A, (stepE fc f e s).1, (stepE fc f e s).2, m, (f : Int), c, e', ())) := by
  obtain ⟨a1, a2, _, _⟩ := stepD_ok hA hS h (k := 2 * e) (by omega) hq
  unfold dual_distances_L20
  have r1 := dist_round (N := N) (A := A) hF hE hn hC hA hS h (k := 2 * e) (e := e) (by omega) (by omega) he hq c e'
  have r2 := dist_round (N := N) (A := A) hF hE hn hC hA hS a1 (k := 2 * e + 1) (e := e) (by omega) (by omega) he a2 c e'
  have e0 : (s.1, s.2) = s := rfl
  rw [e0] at r1 r2
  rw [loop_step r1, loop_step r2]
  refine loop_done ?_
  have e2 : mulI .i64 2 (e : Int) = ((2 * e : Nat) : Int) := by rw [mulI64 (by omega) (by omega)]; omega
  unfold dual_distances_B20
  simp only
  rw [e2, add1 (by omega)]
  have : leI ((2 * e + 1 + 1 : Nat) : Int) ((2 * e + 1 : Nat) : Int) = false := leI_f (by omega)
  rw [this]
  rfl

theorem dist_edges (hF : Fc (2 * E.length) n m fc) (hE : E.length ≤ 100) (hn : n ≤ 1000) (hC : C ≤ 100000) (hA : ∀ f g, AdjF (2 * E.length) fc f g → f < n ∧ g < n) (hS : ∀ f, S f → f < n) {f : Nat} : ∀ (c e : Nat) (s : List Int × List Int), BI E.length n fc S C s.1 s.2 → e + c = E.length → s.2[0]? = some (f : Int) →
    dual_distances_L17 (N, E, A, s.1, s.2, m, (f : Int), (E.length : Nat), (e : Int), ()) = some (.inl (N, E, A, (stepsE fc f e c s).1, (stepsE fc f e c s).2, m, ()))
  | 0, e, s, h, hc, hq => by
    unfold dual_distances_L17
    refine loop_done ?_
    unfold dual_distances_B17
    simp only
    rw [ltI_f (by omega)]; rfl
  | c + 1, e, s, h, hc, hq => by
    obtain ⟨a1, a2, _, _⟩ := stepE_ok hA hS h (e := e) (by omega) hq
    have ih := dist_edges hF hE hn hC hA hS c (e + 1) (stepE fc f e s) a1 (by omega) a2
    have e2 : mulI .i64 2 (e : Int) = ((2 * e : Nat) : Int) := by rw [mulI64 (by omega) (by omega)]; omega
    unfold stepsE
    rw [← ih]
    unfold dual_distances_L17
    refine loop_step ?_
    unfold dual_distances_B17
    simp only
    rw [ltI_t (by omega), cond_true, e2, dist_inner hF hE hn hC hA hS h (by omega) hq]
    simp only [Option.bind_some, Sum.elim_inl]
    rw [add1 (by omega)]

theorem dist_queue (hF : Fc (2 * E.length) n m fc) (hE : E.length ≤ 100) (hn : n ≤ 1000) (hC : C ≤ 100000) (hA : ∀ f g, AdjF (2 * E.length) fc f g → f < n ∧ g < n) (hS : ∀ f, S f → f < n) {out q : List Int} (h : BI E.length n fc S C out q) :
    ∃ out', dual_distances_L13 (N, E, A, out, q, m, ()) = some (.inl (out', ())) ∧ BI E.length n fc S C out' [] := by
  obtain ⟨r, h1, h2⟩ := loop_rule (f := dual_distances_B13) (fun s => ∃ out q, s = (N, E, A, out, q, m, ()) ∧ BI E.length n fc S C out q) (fun s => s.2.2.2.2.1.length + 2 * unl s.2.2.2.1) (fun r => ∃ out', r = .inl (out', ()) ∧ BI E.length n fc S C out' []) (by
    rintro _ ⟨out, q, rfl, hB⟩
    match q, hB with
    | [], hB =>
      right
      refine ⟨.inl (out, ()), ?_, out, rfl, hB⟩
      unfold dual_distances_B13
      simp only
      rw [gtI_f (by simp)]; rfl
    | x :: q, hB =>
      left
      obtain ⟨f, rfl, hfn, hfl⟩ := hB.qin x (by simp)
      obtain ⟨p1, p2, p3⟩ := hB.pop hA hS
      have pe := dist_edges (N := N) (A := A) hF hE hn hC hA hS E.length 0 (out, (f : Int) :: q) hB (by omega) rfl
      have hcap := p1.cap
      simp only [List.length_drop] at hcap
      generalize stepsE fc f 0 E.length (out, (f : Int) :: q) = s at p1 p2 p3 pe hcap
      obtain ⟨o, r⟩ := s
      simp only at p1 p2 p3 pe hcap
      refine ⟨(N, E, A, o, r.drop 1, m, ()), ?_, ⟨o, r.drop 1, rfl, p1⟩, ?_⟩
      · unfold dual_distances_B13
        simp only
        have e0 : idxI ((f : Int) :: q).length 0 = some 0 := idxI_of (i := 0) (by simp)
        rw [gtI_t (by first | (simp; done) | (simp; omega)), cond_true, e0, Option.bind_some]
        simp only [List.getElem?_cons_zero, Option.bind_some]
        have pe' : dual_distances_L17 (N, E, A, out, (f : Int) :: q, m, (f : Int), (E.length : Nat), 0, ()) = some (.inl (N, E, A, o, r, m, ())) := pe
        rw [pe']
        simp only [Option.bind_some, Sum.elim_inl]
        have ev : viewB r.length 1 (r.length : Nat) = some (1, r.length - 1) := by
          unfold viewB
          rw [if_pos ⟨by omega, by omega, by omega⟩]
          simp
        rw [ev, Option.bind_some]
        simp only
        rw [List.take_of_length_le (by simp)]
      · simp only [List.length_drop, List.length_cons]
        omega) _ ⟨out, q, rfl, h⟩
  obtain ⟨out', rfl, h3⟩ := h2
  exact ⟨out', h1, h3⟩

theorem BI.done {out : List Int} (h : BI E.length n fc S C out []) (hA : ∀ f g, AdjF (2 * E.length) fc f g → f < n ∧ g < n) (hS : ∀ f, S f → f < n) : ∀ (t f : Nat), Wk (AdjF (2 * E.length) fc) S t f → f < n ∧ 0 ≤ lab out f
  | 0, f, hw => ⟨hS f hw, h.goal f hw⟩
  | t + 1, f, hw => by
    obtain ⟨g, hg, hw'⟩ := hw
    obtain ⟨g1, g2⟩ := BI.done h hA hS t g hw'
    exact ⟨(hA f g hg).1, h.clo g g1 g2 (by simp) f hg.symm⟩

theorem dist_init (goals : List Int) (out : List Int) (hn : n ≤ 1000) (ho : out.length = n) : ∃ out', dual_distances_L3 (N, E, A, out, m, goals, (n : Int), 0, ()) = some (.inl (N, E, A, out', m, goals, ())) ∧ out'.length = n ∧ ∀ f, f < n → lab out' f = -1 := by
  obtain ⟨r, h1, h2⟩ := loop_rule (f := dual_distances_B3) (fun s => ∃ (out : List Int) (i : Nat), s = (N, E, A, out, m, goals, (n : Int), (i : Int), ()) ∧ out.length = n ∧ i ≤ n ∧ ∀ f, f < i → lab out f = -1) (fun s => n - s.2.2.2.2.2.2.2.1.toNat)
    (fun r => ∃ out', r = .inl (N, E, A, out', m, goals, ()) ∧ out'.length = n ∧ ∀ f, f < n → lab out' f = -1) (by
    rintro _ ⟨out, i, rfl, h1, h2, h3⟩
    by_cases hi : i < n
    · left
      have hil : i < out.length := by omega
      refine ⟨(N, E, A, out.set i (-1), m, goals, (n : Int), ((i + 1 : Nat) : Int), ()), ?_, ⟨_, i + 1, rfl, by simpa using h1, by omega, ?_⟩, ?_⟩
      · unfold dual_distances_B3
        simp only
        rw [ltI_t (by omega), cond_true, idxI_of hil, Option.bind_some, List.getElem?_eq_getElem hil, Option.bind_some, add1 (by omega)]
      · intro f hf
        rw [lab_set hil]
        split
        · rfl
        · exact h3 f (by omega)
      · simp only [Int.toNat_natCast]; omega
    · right
      refine ⟨.inl (N, E, A, out, m, goals, ()), ?_, out, rfl, h1, fun f hf => h3 f (by omega)⟩
      unfold dual_distances_B3
      simp only
      rw [ltI_f (by omega)]; rfl) (N, E, A, out, m, goals, (n : Int), 0, ()) ⟨out, 0, rfl, ho, by omega, by simp⟩
  obtain ⟨out', rfl, h3⟩ := h2
  exact ⟨out', h1, h3⟩

theorem dist_goals (goals q : List Int) (out : List Int) (hg : ∀ x ∈ goals, ∃ f : Nat, x = (f : Int) ∧ f < n) (hgl : goals.length ≤ 100000) (ho : out.length = n) (hneg : ∀ f, f < n → lab out f = -1) :
    ∃ out', dual_distances_L9 (N, E, A, out, q, m, goals, (goals.length : Nat), 0, ()) = some (.inl (N, E, A, out', q, m, ())) ∧ out'.length = n ∧ ∀ f, f < n → ((f : Int) ∈ goals → lab out' f = 0) ∧ ((f : Int) ∉ goals → lab out' f = -1) := by
  obtain ⟨r, h1, h2⟩ := loop_rule (f := dual_distances_B9) (fun s => ∃ (out : List Int) (i : Nat), s = (N, E, A, out, q, m, goals, ((goals.length : Nat) : Int), (i : Int), ()) ∧ out.length = n ∧ i ≤ goals.length ∧ ∀ f, f < n → ((f : Int) ∈ goals.take i → lab out f = 0) ∧ ((f : Int) ∉ goals.take i → lab out f = -1)) (fun s => goals.length - s.2.2.2.2.2.2.2.2.1.toNat)
    (fun r => ∃ out', r = .inl (N, E, A, out', q, m, ()) ∧ out'.length = n ∧ ∀ f, f < n → ((f : Int) ∈ goals → lab out' f = 0) ∧ ((f : Int) ∉ goals → lab out' f = -1)) (by
    rintro _ ⟨out, i, rfl, h1, h2, h3⟩
    by_cases hi : i < goals.length
    · left
      obtain ⟨g, hg1, hg2⟩ := hg goals[i] (List.getElem_mem hi)
      have hgi : goals[i]? = some (g : Int) := by rw [List.getElem?_eq_getElem hi, hg1]
      have hgo : g < out.length := by omega
      refine ⟨(N, E, A, out.set g 0, q, m, goals, ((goals.length : Nat) : Int), ((i + 1 : Nat) : Int), ()), ?_, ⟨_, i + 1, rfl, by simpa using h1, by omega, ?_⟩, ?_⟩
      · unfold dual_distances_B9
        simp only
        rw [ltI_t (by omega), cond_true, getI_of, hgi, Option.bind_some, idxI_of hgo, Option.bind_some, List.getElem?_eq_getElem hgo, Option.bind_some, add1 (by omega)]
      · intro f hf
        rw [lab_set hgo, List.take_add_one, hgi]
        obtain ⟨a1, a2⟩ := h3 f hf
        by_cases e : g = f
        · subst e
          simp
        · rw [if_neg e]
          refine ⟨fun hm => a1 ?_, fun hm => a2 (fun h => hm (by simp [h]))⟩
          rcases List.mem_append.1 hm with hm | hm
          · exact hm
          · simp at hm
            omega
      · simp only [Int.toNat_natCast]; omega
    · right
      refine ⟨.inl (N, E, A, out, q, m, ()), ?_, out, rfl, h1, fun f hf => ?_⟩
      · unfold dual_distances_B9
        simp only
        rw [ltI_f (by omega)]; rfl
      · have := h3 f hf
        rw [List.take_of_length_le (by omega)] at this
        exact this) (N, E, A, out, q, m, goals, ((goals.length : Nat) : Int), 0, ()) ⟨out, 0, rfl, ho, by omega, fun f hf => ⟨by simp, fun _ => hneg f hf⟩⟩
  obtain ⟨out', rfl, h3⟩ := h2
  exact ⟨out', h1, h3⟩

/-- The distances that the program finds. -/
theorem distances_eq (hF : Fc (2 * E.length) n m fc) (hE : E.length ≤ 100) (hn : n ≤ 1000) (goals : List Int) (hg : ∀ x ∈ goals, ∃ f : Nat, x = (f : Int) ∧ f < n) (hgl : goals.length ≤ 1000)
    (hconn : ∀ f, f < n → ∃ t, Wk (AdjF (2 * E.length) fc) (fun f => (f : Int) ∈ goals) t f) :
    ∃ out, dual_distances ((N, E, A, ()), m, (n : Int), goals, ()) = some (out, ()) ∧ out.length = n ∧ ∀ f, f < n → ∃ d : Nat, out[f]? = some (d : Int) ∧ IsDist (AdjF (2 * E.length) fc) (fun f => (f : Int) ∈ goals) f d := by
  have hA : ∀ f g, AdjF (2 * E.length) fc f g → f < n ∧ g < n := by
    rintro f g ⟨k, hk, rfl, rfl⟩
    exact ⟨hF.lt k hk, hF.lt _ (oth_lt hk)⟩
  have hS : ∀ f : Nat, (f : Int) ∈ goals → f < n := by
    intro f hf
    obtain ⟨g, e, hgn⟩ := hg _ hf
    omega
  obtain ⟨o1, a1, a2, a3⟩ := dist_init (N := N) (E := E) (A := A) (m := m) goals (List.replicate n (zeroVal I)) hn (by simp)
  obtain ⟨o2, b1, b2, b3⟩ := dist_goals (N := N) (E := E) (A := A) (m := m) goals goals o1 hg (by omega) a2 a3
  have hB : BI E.length n fc (fun f => (f : Int) ∈ goals) (goals.length + n) o2 goals := by
    have hlab : ∀ f, f < n → 0 ≤ lab o2 f → (f : Int) ∈ goals ∧ lab o2 f = 0 := by
      intro f hf hl
      by_cases e : (f : Int) ∈ goals
      · exact ⟨e, (b3 f hf).1 e⟩
      · have := (b3 f hf).2 e; omega
    refine ⟨b2, ?_, ?_, ?_, ?_, ?_, ?_, ?_⟩
    · intro f hf hl
      obtain ⟨h1, h2⟩ := hlab f hf hl
      exact ⟨0, h2, h1, by simp⟩
    · intro x hx
      obtain ⟨f, rfl, hf⟩ := hg x hx
      exact ⟨f, rfl, hf, by rw [(b3 f hf).1 hx]; exact Int.le_refl _⟩
    · have := unl_le o2; omega
    · refine List.Pairwise.imp_of_mem (fun {a b} ha hb _ => ?_) (List.pairwise_of_forall (R := fun _ _ => True) (fun _ _ => trivial))
      obtain ⟨f, rfl, hf⟩ := hg a ha
      obtain ⟨g, rfl, hg'⟩ := hg b hb
      simp only [Int.toNat_natCast]
      rw [(b3 f hf).1 ha, (b3 g hg').1 hb]; exact Int.le_refl _
    · intro a ha b hb
      obtain ⟨f, rfl, hf⟩ := hg a ha
      obtain ⟨g, rfl, hg'⟩ := hg b hb
      simp only [Int.toNat_natCast]
      rw [(b3 f hf).1 ha, (b3 g hg').1 hb]; omega
    · intro f hf hl hm
      exact absurd (hlab f hf hl).1 hm
    · intro f hf
      rw [(b3 f (hS f hf)).1 hf]; exact Int.le_refl _
  obtain ⟨o3, c1, c2⟩ := dist_queue (N := N) (A := A) hF hE hn (by omega) hA hS hB
  refine ⟨o3, ?_, c2.len, fun f hf => ?_⟩
  · unfold dual_distances
    simp only
    have hcl : slices_Clone_int (goals, ()) = some (goals, ()) := by
      unfold slices_Clone_int
      simp only
      rw [app_of (by simp; omega)]
      cases goals with
      | nil => simp [both]
      | cons a l => rfl
    rw [makeL_of (Nat.le_refl _) (by omega), Option.bind_some, List.length_replicate, a1]
    simp only [Option.bind_some, Sum.elim_inl]
    rw [hcl, Option.bind_some]
    simp only
    rw [b1]
    simp only [Option.bind_some, Sum.elim_inl]
    rw [c1]
    rfl
  · obtain ⟨t, ht⟩ := hconn f hf
    obtain ⟨_, hl⟩ := c2.done hA hS t f ht
    obtain ⟨d, hd, hdist⟩ := c2.lb f hf hl
    exact ⟨d, by rw [lab_get (by rw [c2.len]; exact hf), hd], hdist⟩
end
end Go.Vm

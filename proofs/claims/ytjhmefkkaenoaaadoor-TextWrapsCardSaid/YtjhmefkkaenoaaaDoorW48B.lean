/-
  text.Wrap: what its loop comes to; its contract.
-/
import Derived.Test.YtjhmefkkaenoaaaDoorW48
import Derived.Test.YtjhmefkkaenoaaaDoorVmC
set_option linter.unusedVariables false
set_option linter.unusedSimpArgs false
namespace Go.Vm
open Go.Proofs
noncomputable section
set_option maxRecDepth 100000
attribute [local irreducible] loopFix

theorem inv_sub {C : Ctx} {w0 : World} {M : Own} {m : Mem} (hi : Inv C w0 M m) (hpin : ∀ i, M.pin i = none) (G' : Heap) (h : ∀ i o, G'.get i = some o → m.G.get i = some o ∧ ∃ τ l, o = .arr τ l) : Inv C w0 M ⟨m.w, m.F, m.ι, G'⟩ := by
  refine ⟨hi.kept, ?_, ?_, ?_, hi.fro, hi.glob, hi.bnd, fun i v hv => by rw [hpin i] at hv; cases hv⟩
  · intro id o ho
    obtain ⟨h1, τ, l, rfl⟩ := h id o ho
    exact hi.objs id _ h1
  · intro id o b ho; exact hi.own id o b (h id o ho).1
  · intro i j o p b ho hoo hp; exact hi.inj i j o p b (h i o ho).1 hoo (h j p hp).1

/-- The words that are left and the lines so far: with a list of its own. -/
theorem wrapB_rounds (width : Int) : ∀ (r done o out : List ByteArray), o.length + r.length < 9223372036854775807 → (done ++ r).length < 9223372036854775807 → wrapF width r o = some out →
    Rounds wrapBB (o, width, done ++ r, ((done ++ r).length : Nat), (done.length : Nat), ()) (.inl (out, ()))
  | [], done, o, out, _, _, h => by
    simp only [wrapF, Option.some.injEq] at h
    subst h
    refine .last ?_
    unfold wrapBB
    simp [ltI]
  | w :: r, done, o, out, ho, hb, h => by
    simp only [wrapF] at h
    obtain ⟨y, h1, h⟩ := Option.bind_eq_some_iff.1 h
    obtain ⟨t, h2, h⟩ := Option.bind_eq_some_iff.1 h
    obtain ⟨j, h3, h⟩ := Option.bind_eq_some_iff.1 h
    obtain ⟨b, h4, h⟩ := Option.bind_eq_some_iff.1 h
    have hne : o ≠ [] := by rintro rfl; simp at h1
    have hpos : 0 < o.length := List.length_pos_iff.2 hne
    simp only [List.length_append, List.length_cons] at hb ho
    have e0 : ltI (done.length : Nat) ((done ++ w :: r).length : Nat) = true := by simp [ltI]; omega
    have e1 : getI (done ++ w :: r) (done.length : Nat) = some w := by simp [getI]
    have e2 : subI .i64 (o.length : Nat) 1 = ((o.length - 1 : Nat) : Int) := by rw [subI64 (by omega) (by omega)]; omega
    have e3 : idxI o.length ((o.length - 1 : Nat) : Int) = some (o.length - 1) := by unfold idxI; rw [if_pos (by omega)]; simp
    have e4 : o[o.length - 1]? = some y := by rw [← List.getLast?_eq_getElem?]; exact h1
    have e5 : addI .i64 (done.length : Nat) 1 = (((done ++ [w]).length : Nat) : Int) := by rw [add1 (by omega)]; simp
    have el : done ++ w :: r = (done ++ [w]) ++ r := by simp
    have hr : wrapBB (o, width, done ++ w :: r, ((done ++ w :: r).length : Nat), (done.length : Nat), ()) =
        cond (leI b.1 width) (some (.inl (o.set (o.length - 1) j, width, (done ++ [w]) ++ r, (((done ++ [w]) ++ r).length : Nat), ((done ++ [w]).length : Nat), ())))
          ((app o [w]).bind fun o => some (.inl (o, width, (done ++ [w]) ++ r, (((done ++ [w]) ++ r).length : Nat), ((done ++ [w]).length : Nat), ()))) := by
      unfold wrapBB
      simp only [e0, cond_true, e1, Option.bind_some, e2, e3, e4, h2, h3, h4, e5]
      rw [el]
    cases hc : leI b.1 width with
    | true =>
      rw [hc] at h hr
      simp only [cond_true] at h hr
      have es : o.set (o.length - 1) j = o.dropLast ++ [j] := by
        obtain ⟨q, z, rfl⟩ : ∃ q z, o = q ++ [z] := ⟨_, _, (List.dropLast_concat_getLast hne).symm⟩
        simp
      rw [es] at hr
      exact .more hr (wrapB_rounds width r (done ++ [w]) _ out (by simp; omega) (by simp; omega) h)
    | false =>
      rw [hc] at h hr
      simp only [cond_false] at h hr
      obtain ⟨o2, h5, h⟩ := Option.bind_eq_some_iff.1 h
      rw [h5] at hr
      simp only [Option.bind_some] at hr
      have hl : o2.length = o.length + 1 := by
        unfold app at h5
        split at h5
        · simp only [Option.some.injEq] at h5; subst h5; simp
        · cases h5
      exact .more hr (wrapB_rounds width r (done ++ [w]) _ out (by omega) (by simp; omega) h)

section
variable {w0 : World} {M : Own} {N : Nat}

/-- The state at the loop's head, out of what a round has left. -/
theorem simA {a : Act} {m : Mem} {s : St} (hpin : ∀ i, M.pin i = none) (hs : Sim wrapCtx w0 M N a m s.env) (hG : m.G = s.G) {l : List ByteArray} {n : Nat} {n' k width : Int}
    (h7 : s.env.get 7 = .av (.cut 22 0 1)) (h28 : s.env.get 28 = .av (.view 22 1 n)) (h29 : s.env.get 29 = .av (.val (.int .i64) n')) (h30 : s.env.get 30 = .av (.val (.int .i64) k)) (h1 : s.env.get 1 = .av (.val (.int .i64) width))
    (hg : s.G.get 22 = some (.arr .str l)) : ∃ m', m'.w = m.w ∧ m'.G = (stA l n n' k width).G ∧ Sim wrapCtx w0 M N a m' (stA l n n' k width).env := by
  have hsub : ∀ i o, Heap.get [(22, Obj.arr .str l)] i = some o → m.G.get i = some o ∧ ∃ τ l, o = .arr τ l := by
    intro i o ho
    rw [Heap.get_cons] at ho
    split at ho
    · rename_i e; subst e
      simp only [Option.some.injEq] at ho
      subst ho
      exact ⟨by rw [hG]; exact hg, _, _, rfl⟩
    · simp [Heap.get] at ho
  refine ⟨⟨m.w, m.F, m.ι, [(22, .arr .str l)]⟩, rfl, rfl, inv_sub hs.inv hpin _ hsub, hs.defers, hs.size, fun t => ?_⟩
  have hat : ∀ {v : Value} {id o n : Nat}, id = 22 → RelSV m v (.av (.view id o n)) → RelSV ⟨m.w, m.F, m.ι, [(22, .arr .str l)]⟩ v (.av (.view id o n)) := by
    rintro v id o n rfl ⟨q1, ob, q2, q3⟩
    rw [hG, hg] at q2
    exact ⟨q1, ob, by rw [← q2]; rfl, q3⟩
  have hct : ∀ {v : Value} {id o n : Nat}, id = 22 → RelSV m v (.av (.cut id o n)) → RelSV ⟨m.w, m.F, m.ι, [(22, .arr .str l)]⟩ v (.av (.cut id o n)) := by
    rintro v id o n rfl ⟨q1, ob, q2, q3⟩
    rw [hG, hg] at q2
    exact ⟨q1, ob, by rw [← q2]; rfl, q3⟩
  have ht := hs.env t
  show RelSV _ _ (Env.get [(1, .av (.val (.int .i64) width)), (7, .av (.cut 22 0 1)), (28, .av (.view 22 1 n)), (29, .av (.val (.int .i64) n')), (30, .av (.val (.int .i64) k))] t)
  simp only [Env.get_cons]
  split
  · rename_i e; subst e; rw [h1] at ht; exact ht
  · split
    · rename_i e; subst e; rw [h7] at ht; exact hct rfl ht
    · split
      · rename_i e; subst e; rw [h28] at ht; exact hat rfl ht
      · split
        · rename_i e; subst e; rw [h29] at ht; exact ht
        · split
          · rename_i e; subst e; rw [h30] at ht; exact ht
          · trivial

/-- The state behind the loop. -/
theorem simEnd {a : Act} {m : Mem} {s : St} (hpin : ∀ i, M.pin i = none) (hs : Sim wrapCtx w0 M N a m s.env) (hG : m.G = s.G) {l : List ByteArray}
    (h7 : s.env.get 7 = .av (.cut 22 0 1)) (hg : s.G.get 22 = some (.arr .str l)) : ∃ m', m'.w = m.w ∧ m'.G = [] ∧ Sim wrapCtx w0 M N a m' [(7, .av (.val (.slice .str) (l.take 1)))] := by
  obtain ⟨m1, a1, a2, a3, a4, a5, a6⟩ := step_kills [22] hs.inv
  refine ⟨⟨m1.w, m1.F, m1.ι, []⟩, a1, rfl, inv_sub a4 hpin [] (by simp [Heap.get]), hs.defers, hs.size, fun t => ?_⟩
  have ht := hs.env t
  show RelSV _ _ (Env.get [(7, .av (.val (.slice .str) (l.take 1)))] t)
  simp only [Env.get_cons]
  split
  · rename_i e; subst e; rw [h7] at ht
    obtain ⟨q1, ob, q2, q3⟩ := (relSV_at (m := m) (a := .cut 22 0 1) (by intros; simp)).1 ht
    rw [hG, hg] at q2
    simp only [Option.some.injEq] at q2
    subst q2
    simp only at q3
    obtain ⟨k1, _, b, o', n', cap', v1, v2⟩ := q3
    have hrd := own_rd hs.inv (by rw [hG]; exact hg : m.G.get 22 = some (.arr .str l))
    obtain ⟨ad, cap, r1, r2, r3, r4⟩ := hrd
    rw [v1] at r1
    simp only [List.cons.injEq, Value.slice.injEq, and_true] at r1
    obtain ⟨rfl, rfl, rfl⟩ := r1
    obtain ⟨b2, off, c, el, fz, s1, s2, s3, s4, s5⟩ := r4 (by rintro rfl; simp at k1)
    simp only [Option.some.injEq, Addr.mk.injEq, and_true] at s1
    obtain ⟨rfl, rfl⟩ := s1
    have hlen : (l.take 1).length = 1 := by simp; omega
    refine ⟨[_], by rw [v2]; rfl, some ⟨b, o' + 0 * Ty.size .str, none⟩, 1, by rw [hlen], by rw [hlen]; exact Nat.le_refl _, by unfold maxLen; omega, fun _ => ⟨b, o' + 0 * Ty.size .str, c, el, fz, rfl, a6 b s2, by rw [a1]; exact s3, ?_, fun i hi => ?_⟩⟩
    · rw [hlen]
      have : 1 * Ty.size .str ≤ l.length * Ty.size .str := Nat.mul_le_mul_right _ (by omega)
      omega
    · have hi0 : i = 0 := by omega
      subst hi0
      have := s5 0 (by omega)
      simp only [Nat.zero_mul, Nat.add_zero] at this ⊢
      have e : (l.take 1)[0] = l[0]'(by omega) := by simp
      rw [e]
      exact this.mono fun bb hbb => ⟨a6 bb hbb, by rw [a1]⟩
  · trivial

theorem postA_end {e : Ex} {s : St} {l : List ByteArray} (h : postA e s = some (.inr (.inr l))) : e = .exit 0 ∧ ∃ l0, s.env.get 7 = .av (.cut 22 0 1) ∧ s.G.get 22 = some (.arr .str l0) ∧ l = l0.take 1 := by
  unfold postA at h
  split at h
  · split at h
    · split at h
      · simp at h
      · simp at h
    · obtain ⟨y, _, h⟩ := Option.bind_eq_some_iff.1 h
      simp at h
    · simp at h
  · split at h
    · rename_i l0 h1 h2
      simp only [Option.some.injEq, Sum.inr.injEq] at h
      exact ⟨rfl, l0, h1, h2, h.symm⟩
    · simp at h
  · simp at h
theorem postA_more {e : Ex} {s : St} {l : List ByteArray} {n : Nat} {n' k width : Int} (h : postA e s = some (.inl (l, n, n', k, width))) : e = .normal ∧ s.env.get 7 = .av (.cut 22 0 1) ∧ s.env.get 28 = .av (.view 22 1 n) ∧ s.env.get 29 = .av (.val (.int .i64) n') ∧
    s.env.get 30 = .av (.val (.int .i64) k) ∧ s.env.get 1 = .av (.val (.int .i64) width) ∧ s.G.get 22 = some (.arr .str l) := by
  unfold postA at h
  split at h
  · split at h
    · rename_i h7
      split at h
      · rename_i h1 h2 h3 h4 h5
        simp only [Option.some.injEq, Sum.inl.injEq, Prod.mk.injEq] at h
        obtain ⟨rfl, rfl, rfl, rfl, rfl⟩ := h
        exact ⟨rfl, h7, h1, h2, h3, h4, h5⟩
      · simp at h
    · obtain ⟨y, _, h⟩ := Option.bind_eq_some_iff.1 h
      simp at h
    · simp at h
  · split at h
    · simp at h
    · simp at h
  · simp at h
theorem postA_own {e : Ex} {s : St} {y : wrapHB.ty.den} (h : postA e s = some (.inr (.inl y))) : e = .normal ∧ wrapHB.ext s = some y := by
  unfold postA at h
  split at h
  · split at h
    · split at h
      · simp at h
      · simp at h
    · obtain ⟨y', h1, h⟩ := Option.bind_eq_some_iff.1 h
      simp only [Option.some.injEq, Sum.inr.injEq, Sum.inl.injEq] at h
      subst h
      exact ⟨rfl, h1⟩
    · simp at h
  · split at h
    · simp at h
    · simp at h
  · simp at h

theorem wrap_none (hc : ∀ x, M.pin x = none) : PinOK M wrapAs := by
  intro key ann _
  refine ⟨fun i v hv => ?_, fun e sh _ i v hv => ?_⟩
  · rw [hc i] at hv; cases hv
  · rw [hc i] at hv; cases hv
theorem wrap_noloops : loopsIn wrapBody = [] := by kernel_rfl
theorem wrap_key : loopKey wrapBody = 10 := by kernel_rfl

theorem phaseA (hC : CtxOK Tryd.prog wrapCtx) (hD : DrawOK Tryd.prog) (hpin : ∀ i, M.pin i = none) (hd : dstOK N wrapBody = true) {R : Type} {res : R} {K : Ex → St → Option R} {Q : Exit → Act → World → Prop} {out : List ByteArray}
    (hQ : ∀ e s' a' m', K e s' = some res → m'.G = s'.G → Sim wrapCtx w0 M N a' m' s'.env → Q (exitOf e) a' m'.w) (hK : K (.exit 0) { env := [(7, .av (.val (.slice .str) out))], G := [] } = some res) (width : Int) :
    ∀ (r done : List ByteArray) (x : ByteArray), done.length + r.length + 1 < 9223372036854775807 → wrapF width r [x] = some out →
    ∃ n, ∀ (a : Act) (m : Mem), m.G = (stA (x :: (done ++ r)) (done ++ r).length ((done ++ r).length : Nat) (done.length : Nat) width).G → Sim wrapCtx w0 M N a m (stA (x :: (done ++ r)) (done ++ r).length ((done ++ r).length : Nat) (done.length : Nat) width).env →
      Code.rounds Tryd.prog wrapBody Q n a m.w := by
  have hL : LoopsOK wrapCtx wrapAs (loopsIn wrapBody) := by rw [wrap_noloops]; intro c hc; cases hc
  have hP := wrap_none hpin
  intro r
  induction r with
  | nil =>
    intro done x hb h
    simp only [wrapF, Option.some.injEq] at h
    subst h
    refine ⟨1, fun a m hG hs => ?_⟩
    have hr : exec wrapCtx (loopsOf wrapAs) wrapBody postA (stA (x :: (done ++ [])) (done ++ []).length ((done ++ []).length : Nat) (done.length : Nat) width) = some (.inr (.inr [x])) := by
      rw [wrap_RA]
      unfold wrapBA
      simp [ltI]
    show wrapBody.wp Tryd.prog (Exit.then (Code.rounds Tryd.prog wrapBody Q 0) Q) a m.w
    refine exec_ok hC hD hP wrapBody hL hd hs hG hr ?_
    intro e s' a' m' h1 h2 h3
    obtain ⟨rfl, l0, k1, k2, k3⟩ := postA_end h1
    obtain ⟨m2, g1, g2, g3⟩ := simEnd hpin h3 h2 k1 k2
    rw [← g1]
    rw [← k3] at g3
    exact hQ (.exit 0) _ a' m2 hK g2 g3
  | cons w r ih =>
    intro done x hb h
    simp only [wrapF, List.getLast?_singleton, Option.bind_some] at h
    obtain ⟨t, h2, h⟩ := Option.bind_eq_some_iff.1 h
    obtain ⟨j, h3, h⟩ := Option.bind_eq_some_iff.1 h
    obtain ⟨b, h4, h⟩ := Option.bind_eq_some_iff.1 h
    simp only [List.length_cons] at hb
    have e0 : ltI (done.length : Nat) ((done ++ w :: r).length : Nat) = true := by simp [ltI]; omega
    have e1 : idxI (done ++ w :: r).length (done.length : Nat) = some done.length := by unfold idxI; rw [if_pos (by simp; omega)]; simp
    have e2 : (x :: (done ++ w :: r))[1 + done.length]? = some w := by rw [Nat.add_comm]; simp
    have e5 : addI .i64 (done.length : Nat) 1 = (((done ++ [w]).length : Nat) : Int) := by rw [add1 (by omega)]; simp
    have el : done ++ w :: r = (done ++ [w]) ++ r := by simp
    have hr : exec wrapCtx (loopsOf wrapAs) wrapBody postA (stA (x :: (done ++ w :: r)) (done ++ w :: r).length ((done ++ w :: r).length : Nat) (done.length : Nat) width) =
        cond (leI b.1 width) (some (.inl (j :: ((done ++ [w]) ++ r), ((done ++ [w]) ++ r).length, (((done ++ [w]) ++ r).length : Nat), ((done ++ [w]).length : Nat), width)))
          ((app [x] [w]).bind fun o => some (.inr (.inl (o, width, (done ++ [w]) ++ r, (((done ++ [w]) ++ r).length : Nat), ((done ++ [w]).length : Nat), ())))) := by
      rw [wrap_RA]
      unfold wrapBA
      simp only [e0, cond_true, e1, Option.bind_some, e2, List.getElem?_cons_zero, h2, h3, h4, e5, List.set_cons_zero, List.take_succ_cons, List.take_zero, List.drop_succ_cons, List.drop_zero, List.take_length]
      rw [el]
    cases hc : leI b.1 width with
    | true =>
      rw [hc] at h hr
      simp only [cond_true, List.dropLast_singleton, List.nil_append] at h hr
      obtain ⟨n, hn⟩ := ih (done ++ [w]) j (by simp; omega) h
      refine ⟨n + 1, fun a m hG hs => ?_⟩
      show wrapBody.wp Tryd.prog (Exit.then (Code.rounds Tryd.prog wrapBody Q n) Q) a m.w
      refine exec_ok hC hD hP wrapBody hL hd hs hG hr ?_
      intro e s' a' m' h1 h2' h3'
      obtain ⟨rfl, k7, k28, k29, k30, k1, kG⟩ := postA_more h1
      obtain ⟨m2, g1, g2, g3⟩ := simA hpin h3' h2' k7 k28 k29 k30 k1 kG
      rw [← g1]
      exact hn a' m2 g2 g3
    | false =>
      rw [hc] at h hr
      simp only [cond_false] at h hr
      obtain ⟨o2, h5, h⟩ := Option.bind_eq_some_iff.1 h
      rw [h5] at hr
      simp only [Option.bind_some] at hr
      have hl : o2.length = 2 := by
        unfold app at h5
        split at h5
        · simp only [Option.some.injEq] at h5; subst h5; simp
        · cases h5
      have hR := wrapB_rounds width r (done ++ [w]) o2 out (by omega) (by simp; omega) h
      have hann : wrapAs.get (loopKey wrapBody) = some wrapAB := by rw [wrap_key]; rfl
      have hrd : round wrapCtx wrapAs wrapAB wrapBody = wrapBB := funext wrap_RB
      obtain ⟨n, hn⟩ := rounds_ok hC hD hP hann hL hd hQ (x0 := (o2, width, (done ++ [w]) ++ r, (((done ++ [w]) ++ r).length : Nat), ((done ++ [w]).length : Nat), ())) (y := .inl (out, ())) (by rw [hrd]; exact hR) hK
      refine ⟨n + 1, fun a m hG hs => ?_⟩
      show wrapBody.wp Tryd.prog (Exit.then (Code.rounds Tryd.prog wrapBody Q n) Q) a m.w
      refine exec_ok hC hD hP wrapBody hL hd hs hG hr ?_
      intro e s' a' m' h1 h2' h3'
      obtain ⟨rfl, hx⟩ := postA_own h1
      obtain ⟨m2, g1, g2, g3⟩ := ext_sim h3' h2' (fun i v hv => by rw [hpin i] at hv; cases hv) hx
      rw [← g1]
      exact hn a' m2 g2 g3

theorem wrapL_sound (hC : CtxOK Tryd.prog wrapCtx) (hD : DrawOK Tryd.prog) (hpin : ∀ i, M.pin i = none) (hd : dstOK N wrapBody = true) : LoopSound Tryd.prog wrapCtx w0 M N wrapL wrapBody := by
  intro R res K Q s a m hs hG h hQ
  rw [wrap_key] at h
  simp only [wrapL, Nat.beq_refl, cond_true] at h
  split at h
  · rename_i id off len id' off' n n' k width h7 h28 h29 h30 h1
    split at h
    · rename_i l hg
      cases hc : (Nat.beq id 22 && Nat.beq id' 22 && eqI k 0) with
      | false => rw [hc] at h; simp at h
      | true =>
        rw [hc] at h
        simp only [cond_true] at h
        cases hc2 : (Nat.beq off 0 && Nat.beq len 1 && Nat.beq off' 1 && Nat.beq (n + 1) l.length && eqI n' (n : Nat) && Nat.ble l.length lim) with
        | false => rw [hc2] at h; simp at h
        | true =>
          rw [hc2] at h
          simp only [cond_true] at h
          simp only [Bool.and_eq_true] at hc hc2
          obtain ⟨⟨c1, c2⟩, c3⟩ := hc
          obtain ⟨⟨⟨⟨⟨d1, d2⟩, d3⟩, d4⟩, d5⟩, d6⟩ := hc2
          have d6 := Nat.le_of_ble_eq_true d6
          rw [lim_val] at d6
          have c1 := Nat.eq_of_beq_eq_true c1
          have c2 := Nat.eq_of_beq_eq_true c2
          have c3 : k = 0 := by simpa [eqI] using c3
          have d1 := Nat.eq_of_beq_eq_true d1
          have d2 := Nat.eq_of_beq_eq_true d2
          have d3 := Nat.eq_of_beq_eq_true d3
          have d4 := Nat.eq_of_beq_eq_true d4
          have d5 : n' = (n : Nat) := by simpa [eqI] using d5
          subst c1 c2 c3 d1 d2 d3 d5
          obtain ⟨out, h2, hK⟩ := Option.bind_eq_some_iff.1 h
          match l, d4, d6, h2, hg with
          | x :: r, d4, d6, h2, hg =>
            have hn : n = r.length := by simpa using d4
            subst hn
            simp only [List.length_cons] at d6
            obtain ⟨m2, g1, g2, g3⟩ := simA hpin hs hG h7 h28 h29 h30 h1 hg
            rw [← g1]
            obtain ⟨n, hn⟩ := phaseA hC hD hpin hd hQ hK width r [] x (by simp; omega) h2
            exact wp_loop_rounds n (hn a m2 g2 g3)
    · simp at h
  · simp at h
end

theorem wrap_seat : SeatOK Tryd.prog tab eqs := ⟨by kernel_rfl, by kernel_rfl, by kernel_rfl⟩
theorem wrap_cons (h9 : Con.Holds Tryd.prog glob 9 text_Plain_c) (h11 : Con.Holds Tryd.prog glob 11 text_Width_c) (h22 : Con.Holds Tryd.prog glob 22 strings_Split_c) (h23 : Con.Holds Tryd.prog glob 23 slices_Contains_string_c) :
    ∀ f site c, wrapCtx.con f site = some c → c.Holds Tryd.prog wrapCtx.glob f := by
  intro f site c h
  unfold wrapCtx at h
  dsimp only at h
  split at h
  · cases h; exact h9
  · cases h; exact h11
  · cases h; exact h22
  · cases h; exact h23
  · cases h
theorem wrap_at (h9 : Con.Holds Tryd.prog glob 9 text_Plain_c) (h11 : Con.Holds Tryd.prog glob 11 text_Width_c) (h22 : Con.Holds Tryd.prog glob 22 strings_Split_c) (h23 : Con.Holds Tryd.prog glob 23 slices_Contains_string_c) :
    Con.Holds Tryd.prog glob 13 wrapC := by
  have hC : CtxOK Tryd.prog wrapCtx := wrap_seat.ctx (wrap_cons h9 h11 h22 h23)
  have hD := draw_ok wrap_seat.order
  have hb : Tryd.f13.body = some (bodyOf Tryd.f13) := by kernel_rfl
  have hl : loopsIn (bodyOf Tryd.f13) = [wrapBody] := by kernel_rfl
  have hd : dstOK Tryd.f13.ntmps (bodyOf Tryd.f13) = true := by kernel_rfl
  have hd2 : dstOK Tryd.f13.ntmps wrapBody = true := by kernel_rfl
  exact con_holds2 (P := Tryd.prog) (C := wrapCtx) (L := wrapL) (f := 13) (fn := Tryd.f13) (body := bodyOf Tryd.f13) (ins := [(.rd, .str), (.rd, I)]) (outs := [(.tmp 4, false, (.slice .str)), (.tmp 5, true, I)]) (M := wrapM)
    hC hD (by kernel_rfl) hb (by kernel_rfl) (fun w0 M hpin x hx => by
      rw [hl] at hx
      rcases List.mem_cons.1 hx with rfl | hx
      · exact wrapL_sound hC hD hpin hd2
      · cases hx) hd rfl (by kernel_rfl) (by kernel_rfl) wrap_exec
end
end Go.Vm

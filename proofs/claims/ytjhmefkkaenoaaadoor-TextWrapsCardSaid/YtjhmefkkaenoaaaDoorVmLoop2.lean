/-
  A body of code with loops of whatever kind; a function's contract from it.
-/
import Derived.Test.YtjhmefkkaenoaaaDoorVmC
set_option linter.unusedVariables false
set_option linter.unusedSimpArgs false
namespace Go.Vm
section
variable {P : Program} {C : Ctx} {w0 : World} {M : Own} {N : Nat} {A : Anns}

/-- What a loop is said to come to is what it comes to. -/
def LoopSound (P : Program) (C : Ctx) (w0 : World) (M : Own) (N : Nat) (L : Loops) (x : Code) : Prop :=
  ∀ {R : Type} {res : R} {K : Ex → St → Option R} {Q : Exit → Act → World → Prop} {s : St} {a : Act} {m : Mem},
    Sim C w0 M N a m s.env → m.G = s.G → L (loopKey x) R s K = some res →
    (∀ e s' a' m', K e s' = some res → m'.G = s'.G → Sim C w0 M N a' m' s'.env → Q (exitOf e) a' m'.w) → (Code.loop x).wp P Q a m.w

theorem exec_ok2 {L : Loops} (hC : CtxOK P C) (hD : DrawOK P) : ∀ (c : Code), (∀ x ∈ loopsIn c, LoopSound P C w0 M N L x) → dstOK N c = true → ∀ {R : Type} {res : R} {K : Ex → St → Option R} {Q : Exit → Act → World → Prop} {s : St} {a : Act} {m : Mem},
    Sim C w0 M N a m s.env → m.G = s.G → exec C L c K s = some res →
    (∀ e s' a' m', K e s' = some res → m'.G = s'.G → Sim C w0 M N a' m' s'.env → Q (exitOf e) a' m'.w) → c.wp P Q a m.w := by
  intro c
  induction c with
  | skip => intro _ _ R res K Q s a m hs hG h hQ; exact wp_skip (hQ .normal s a m h hG hs)
  | region id ops d =>
    intro _ hd R res K Q s a m hs hG h hQ
    simp only [exec] at h
    cases d with
    | false => exact region_ok hC (hQ .normal) (region_dst hd) h hG hs
    | true =>
      simp only [cond_true] at h
      have hf : ∃ m', m'.w = m.w ∧ m'.G = (frzReg C id s).G ∧ Sim C w0 M N a m' (frzReg C id s).env := by
        unfold frzReg
        cases C.frz.any fun i => Nat.beq i id with
        | false => exact ⟨m, rfl, hG, hs⟩
        | true => exact freeze_sim _ hs hG
      obtain ⟨m', e1, e2, e3⟩ := hf
      rw [← e1]
      exact hD C w0 M N a m' _ R res _ id ops Q hC e3 e2 hd h (hQ .normal)
  | seq x y ihx ihy =>
    intro hL hd R res K Q s a m hs hG h hQ
    simp only [dstOK, Bool.and_eq_true] at hd
    simp only [exec] at h
    refine wp_seq (ihx (fun c hc => hL c (by simp [loopsIn, hc])) hd.1 hs hG h ?_)
    intro e s' a' m' h1 h2 h3
    cases e with
    | normal => exact ihy (fun c hc => hL c (by simp [loopsIn, hc])) hd.2 h3 h2 h1 hQ
    | exit i => exact hQ (.exit i) s' a' m' h1 h2 h3
    | ret => exact hQ .ret s' a' m' h1 h2 h3
  | cond x y z ihy ihz =>
    intro hL hd R res K Q s a m hs hG h hQ
    simp only [dstOK, Bool.and_eq_true] at hd
    simp only [exec] at h
    split at h
    · rename_i b hb
      have hv := rel_eval hs.inv hs.env x
      rw [hb] at hv
      refine wp_cond (rel_bool hv) ?_
      cases b with
      | true => exact ihy (fun c hc => hL c (by simp [loopsIn, hc])) hd.1 hs hG h hQ
      | false => exact ihz (fun c hc => hL c (by simp [loopsIn, hc])) hd.2 hs hG h hQ
    · simp at h
  | block id x ih =>
    intro hL hd R res K Q s a m hs hG h hQ
    simp only [exec] at h
    refine wp_block (ih hL hd hs hG h ?_)
    intro e s' a' m' h1 h2 h3
    cases e with
    | normal => exact hQ .normal s' a' m' h1 h2 h3
    | exit i =>
      simp only [exitOf, Exit.inBlock]
      dsimp only at h1
      cases hi : Nat.beq i id with
      | true =>
        rw [hi] at h1
        rw [if_pos (Nat.eq_of_beq_eq_true hi)]
        exact hQ .normal s' a' m' h1 h2 h3
      | false =>
        rw [hi] at h1
        rw [if_neg (Nat.ne_of_beq_eq_false hi)]
        exact hQ (.exit i) s' a' m' h1 h2 h3
    | ret => exact hQ .ret s' a' m' h1 h2 h3
  | loop x ih =>
    intro hL hd R res K Q s a m hs hG h hQ
    simp only [exec] at h
    exact hL x (by simp [loopsIn]) hs hG h hQ
  | exit id => intro _ _ R res K Q s a m hs hG h hQ; exact wp_exit (hQ (.exit id) s a m h hG hs)
  | ret => intro _ _ R res K Q s a m hs hG h hQ; exact wp_ret (hQ .ret s a m h hG hs)
  | _ => intro _ _ R res K Q s a m hs hG h hQ; simp [exec] at h

/-- The rounds of a loop of shapes, their number known ahead. -/
theorem rounds_ok (hC : CtxOK P C) (hD : DrawOK P) (hPin : PinOK M A) {ann : Ann} {x : Code} (hann : A.get (loopKey x) = some ann) (hL : LoopsOK C A (loopsIn x)) (hd : dstOK N x = true)
    {R : Type} {res : R} {K : Ex → St → Option R} {Q : Exit → Act → World → Prop} (hQ : ∀ e s' a' m', K e s' = some res → m'.G = s'.G → Sim C w0 M N a' m' s'.env → Q (exitOf e) a' m'.w) :
    ∀ {x0 y}, Rounds (round C A ann x) x0 y → goExits K ann.exits y = some res → ∃ n, ∀ (a : Act) (m : Mem), m.G = (ann.head.inj x0).G → Sim C w0 M N a m (ann.head.inj x0).env → Code.rounds P x Q n a m.w := by
  obtain ⟨pin1, pin2⟩ := hPin _ ann hann
  intro x0 y hr
  induction hr with
  | last h1 =>
    intro hg
    refine ⟨1, fun a m hG hs => ?_⟩
    show x.wp P (Exit.then (Code.rounds P x Q 0) Q) a m.w
    refine exec_ok hC hD hPin x hL hd hs hG h1 ?_
    intro e s' a' m' k1 k2 k3
    cases e with
    | normal => obtain ⟨z, _, k1⟩ := Option.bind_eq_some_iff.1 k1; simp at k1
    | exit i =>
      obtain ⟨z, hz, k1⟩ := Option.bind_eq_some_iff.1 k1
      simp only [Option.some.injEq, Sum.inr.injEq] at k1
      subst k1
      obtain ⟨sh, z', ⟨e', f0⟩, f1, f2⟩ := findExit_some hz
      rw [f2] at hg
      obtain ⟨m2, g1, g2, g3⟩ := ext_sim k3 k2 (pin2 e' sh f0) f1
      rw [← g1]
      exact hQ (.exit i) _ a' m2 hg g2 g3
    | ret =>
      obtain ⟨z, hz, k1⟩ := Option.bind_eq_some_iff.1 k1
      simp only [Option.some.injEq, Sum.inr.injEq] at k1
      subst k1
      obtain ⟨sh, z', ⟨e', f0⟩, f1, f2⟩ := findExit_some hz
      rw [f2] at hg
      obtain ⟨m2, g1, g2, g3⟩ := ext_sim k3 k2 (pin2 e' sh f0) f1
      rw [← g1]
      exact hQ .ret _ a' m2 hg g2 g3
  | more h1 _ ih2 =>
    intro hg
    obtain ⟨n, hn⟩ := ih2 hg
    refine ⟨n + 1, fun a m hG hs => ?_⟩
    show x.wp P (Exit.then (Code.rounds P x Q n) Q) a m.w
    refine exec_ok hC hD hPin x hL hd hs hG h1 ?_
    intro e s' a' m' k1 k2 k3
    cases e with
    | normal =>
      obtain ⟨z, hz, k1⟩ := Option.bind_eq_some_iff.1 k1
      simp only [Option.some.injEq, Sum.inl.injEq] at k1
      subst k1
      obtain ⟨m2, g1, g2, g3⟩ := ext_sim k3 k2 pin1 hz
      rw [← g1]
      exact hn a' m2 g2 g3
    | exit i => obtain ⟨z, hz, k1⟩ := Option.bind_eq_some_iff.1 k1; simp at k1
    | ret => obtain ⟨z, hz, k1⟩ := Option.bind_eq_some_iff.1 k1; simp at k1

theorem con_holds2 {L : Loops} {f : FuncId} {fn : Func} {body : Code} {ins : List (Mode × Ty)} {outs : Outs} {M : (tupTy (ins.map (·.2))).den → Option (tupTy ((outs.map (·.2)).map (·.2) ++ mutTys ins)).den}
    (hC : CtxOK P C) (hD : DrawOK P) (hf : P.funcs[f]? = some fn) (hb : fn.body = some body) (hn : (fn.name == "runtime.NumGoroutine") = false)
    (hL : ∀ (w0 : World) (M : Own), (∀ i, M.pin i = none) → ∀ x ∈ loopsIn body, LoopSound P C w0 M fn.ntmps L x) (hd : dstOK fn.ntmps body = true)
    (hpins : mutIds ins 0 = []) (hres : fn.results = (outs.map (·.1)).toArray) (hk : resOK P outs = true)
    (heq : ∀ x, exec C L body (fun e s => match e with
      | .exit _ => none
      | .normal => endFn ins outs s
      | .ret => endFn ins outs s) { env := argEnv ins 0 x, G := argHeap ins 0 x } = M x) :
    Con.Holds P C.glob f ⟨ins, outs.map (·.2), M⟩ := by
  intro w F us x r hp hM
  have hn' : ¬ fn.name = "runtime.NumGoroutine" := by simpa using hn
  refine .inl ⟨by simp [callFunc, hf, hn', hb], ?_⟩
  refine calls_of_wp hf hb ?_
  have hs := init_sim hp fn.ntmps
  have hx := (heq x).trans hM
  have hPin : ∀ i, (pinOf ins us) i = none := by
    intro i
    cases hv : pinOf ins us i with
    | none => rfl
    | some v =>
      have := pin_mut 0 hv
      rw [hpins] at this
      cases this
  have fin {s' : St} {a' : Act} {m' : Mem} (h1 : endFn ins outs s' = some r) (h2 : m'.G = s'.G) (h3 : Sim C w ⟨Among (argHdrs ins us), F, pinOf ins us⟩ fn.ntmps a' m' s'.env) :
      a'.defers = [] ∧ ∃ v, (Go.results fn a'.tmps).run P m'.w = .ok v m'.w ∧ ∃ v', Ending.returned v = .returned v' ∧ ∃ F2 css, Post w F ins us (outs.map (·.2)) r v' m'.w F2 css := by
    obtain ⟨vs, e1, F2, css, e2⟩ := end_ok (P := P) hp h3 h2 h1 hk
    refine ⟨h3.defers, outVal vs, ?_, _, rfl, F2, css, e2⟩
    have hrun : (Go.results fn a'.tmps).run P m'.w = (((outs.map (·.1)).mapM (resF a')).run P m'.w).andThen fun vs w' => .ok (outVal vs) w' := by
      have hf' : Go.results fn a'.tmps = (do let vs ← fn.results.mapM (resF a'); pure (if h : vs.size = 1 then vs[0] else .tuple vs)) := by
        unfold Go.results
        congr 1
      rw [hf', hres]
      simp only [Array.mapM_eq_mapM_toList, Sem.run_bind, map_eq_pure_bind, bind_assoc, pure_bind, Sem.run_pure]
      congr 1
      funext l w'
      match l with
      | [] => rfl
      | [u] => rfl
      | _ :: _ :: _ => simp [outVal]
    rw [hrun, e1]
    rfl
  refine exec_ok2 (s := { env := argEnv ins 0 x, G := argHeap ins 0 x }) hC hD body (hL _ _ hPin) hd hs rfl hx ?_
  intro e s' a' m' h1 h2 h3
  cases e with
  | normal => exact fin h1 h2 h3
  | exit i => simp at h1
  | ret => exact fin h1 h2 h3
end
end Go.Vm

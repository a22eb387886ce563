/-
 A function of the program together with its contract; the contracts of a context, by number.
-/
import Derived.Test.YtnnbdielbgljaaaDoorVmD
import Derived.KernelRfl
set_option linter.unusedVariables false
set_option linter.unusedSimpArgs false
namespace Go.Vm
abbrev zs:=List (Nat×(Σ t : Ty,t.den))
structure FnC (P : Program) (G : zs) where
 id : Nat
 con : Con
 ok : Con.Holds P G id con
def zC {P : Program} {G : zs} : List (FnC P G)→Gu
 | [],_,_=>none
 | a :: l,f,s=>cond (Nat.beq a.id f) (some a.con) (zC l f s)
theorem ah {P : Program} {G : zs} : ∀ {l : List (FnC P G)} (f site : Nat) (c : Con),zC l f site=some c→c.Holds P G f
 | [],f,site,c,h=>by cases h
 | a :: l,f,site,c,h=>by
  unfold zC at h
  cases e : Nat.beq a.id f with
  | true =>
   rw [e] at h
   have h1:=Nat.eq_of_beq_eq_true e
   have h2 : a.con=c:=Option.some.inj h
   rw [← h1,← h2]
   exact a.ok
  | false =>
   rw [e] at h
   exact ah f site c h
def lp {C : Ctx} {A : Anns} {body : Code} (key : Nat) (ann : Ann) (B : ann.head.ty.den→Option (ann.head.ty.den⊕kN ann.exits)) (fix : ann.fn=ab B:=by rfl) (R : ∀ x,vE C A ann (fE key body) x=B x:=by intro x; kernel_rfl) : LoopPf C A body:=⟨key,ann,B,fix,R⟩
def sh (e : List (Nat×SpS)) (o : List (Nat×SpO)) : Shape:=⟨e,o,[]⟩
def mkF {P : Program} {G : zs} (C : Ctx) (A : Anns) (f : Nat) (fn : Func) (ins : List (Mode×Ty)) (outs : ow) (M : (aP (ins.map (·.2))).den→Option (aP ((outs.map (·.2)).map (·.2)++bC ins)).den) (l : List (LoopPf C A (gT fn)))
  (hS : SeatOK P C.tab C.eqs) (hc : ∀ f site c,C.con f site=some c→c.Holds P C.glob f) (hG : C.glob=G) (d : Bool:=false) (hf : P.funcs[f]?=some fn:=by kernel_rfl) (hb : fn.body=some (gT fn):=by kernel_rfl) (h1 : ct (gT fn)=l.map (fun p=>fE p.key (gT fn)):=by kernel_rfl)
  (h2 : (l.map fun p => A.get (fu (fE p.key (gT fn)))) = l.map (fun p => some p.ann) := by kernel_rfl) (hk : (!(fn.name == "runtime.NumGoroutine") && jG fn.ntmps (gT fn) && uM A ins && tW P outs && qk P C.maps) = true := by kernel_rfl) (hres : fn.results = (outs.map (·.1)).toArray := by kernel_rfl)
  (heq : ∀ x,rA C A (gT fn) ins outs x d=M x:=by intro x; kernel_rfl) : FnC P G :=
 ⟨f,⟨ins,outs.map (·.2),M,d⟩,hG ▸ Dn hS hc hf hb (CY l h1 h2) hk hres heq⟩
end Go.Vm

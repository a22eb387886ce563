/-
 A function of the program together with its contract; the contracts of a context, by number.
-/
import Derived.Test.YtnnbdielbgljaaaDoorVmD
import Derived.KernelRfl
set_option linter.unusedVariables false
set_option linter.unusedSimpArgs false
namespace Go.Vm
abbrev zV:=List (Nat×(Σ t : Ty,t.den))
structure FnC (P : Program) (G : zV) where
 id : Nat
 con : Con
 ok : Con.Holds P G id con
def zB {P : Program} {G : zV} : List (FnC P G)→GK
 | [],_,_=>none
 | a :: l,f,s=>cond (Nat.beq a.id f) (some a.con) (zB l f s)
theorem ah {P : Program} {G : zV} : ∀ {l : List (FnC P G)} (f site : Nat) (c : Con),zB l f site=some c→c.Holds P G f
 | [],f,site,c,h=>by cases h
 | a :: l,f,site,c,h=>by
  unfold zB at h
  cases e : Nat.beq a.id f with
  | true =>
   rw [e] at h
   have h1:=Nat.eq_of_beq_eq_true e
   have h2 : a.con=c:=Option.some.inj h
   rw [← h1,← h2]
   exact a.ok
  | false =>
   rw [e] at h
   exact ah f site c h
def lp {C : Ctx} {A : Anns} {body : Code} (key : Nat) (ann : Ann) (B : ann.head.ty.den→Option (ann.head.ty.den⊕jU ann.exits)) (fix : ann.fn=ab B:=by rfl) (R : ∀ x,vu C A ann (fS key body) x=B x:=by intro x; kernel_rfl) : LoopPf C A body:=⟨key,ann,B,fix,R⟩
def sh (e : List (Nat×SpS)) (o : List (Nat×SpO)) : Shape:=⟨e,o,[]⟩
def mkF {P : Program} {G : zV} (C : Ctx) (A : Anns) (f : Nat) (fn : Func) (ins : List (Mode×Ty)) (outs : oC) (M : (aQ (ins.map (·.2))).den→Option (aQ ((outs.map (·.2)).map (·.2)++bC ins)).den) (l : List (LoopPf C A (gG fn)))
  (hS : SeatOK P C.tab C.eqs) (hc : ∀ f site c,C.con f site=some c→c.Holds P C.glob f) (hG : C.glob=G) (d : Bool:=false) (hf : P.funcs[f]?=some fn:=by kernel_rfl) (hb : fn.body=some (gG fn):=by kernel_rfl) (h1 : cr (gG fn)=l.map (fun p=>fS p.key (gG fn)):=by kernel_rfl)
  (h2 : (l.map fun p => A.get (fv (fS p.key (gG fn)))) = l.map (fun p => some p.ann) := by kernel_rfl) (hk : (!(fn.name == "runtime.NumGoroutine") && jI fn.ntmps (gG fn) && uC A ins && s9 P outs && rD P C.maps) = true := by kernel_rfl) (hres : fn.results = (outs.map (·.1)).toArray := by kernel_rfl)
  (heq : ∀ x,qI C A (gG fn) ins outs x d=M x:=by intro x; kernel_rfl) : FnC P G :=
 ⟨f,⟨ins,outs.map (·.2),M,d⟩,hG ▸ Dr hS hc hf hb (CM l h1 h2) hk hres heq⟩
end Go.Vm

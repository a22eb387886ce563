/-
 A function of the program together with its contract; the contracts of a context, by number.
-/
import Derived.Test.YtbedeedclaafjaaGreatDoorVmD
import Derived.KernelRfl
set_option linter.unusedVariables false
set_option linter.unusedSimpArgs false
namespace Go.Vm
abbrev xQ:=List (Nat×(Σ t : Ty,t.den))
structure FnC (P : Program) (G : xQ) where
 id : Nat
 con : Con
 ok : Con.Holds P G id con
def ym {P : Program} {G : xQ} : List (FnC P G)→Hy
 | [],_,_=>none
 | a :: l,f,s=>cond (Nat.beq a.id f) (some a.con) (ym l f s)
theorem ab {P : Program} {G : xQ} : ∀ {l : List (FnC P G)} (f site : Nat) (c : Con),ym l f site=some c→c.Holds P G f
 | [],f,site,c,h=>by cases h
 | a :: l,f,site,c,h=>by
  unfold ym at h
  cases e : Nat.beq a.id f with
  | true =>
   rw [e] at h
   have h1:=Nat.eq_of_beq_eq_true e
   have h2 : a.con=c:=Option.some.inj h
   rw [← h1,← h2]
   exact a.ok
  | false =>
   rw [e] at h
   exact ab f site c h
def lp {C : Ctx} {A : Anns} {body : Code} (key : Nat) (ann : Ann) (B : ann.head.ty.den→Option (ann.head.ty.den⊕iZ ann.exits)) (fix : ann.fn=ai B:=by rfl) (R : ∀ x,round C A ann (eE key body) x=B x:=by intro x; kernel_rfl) : LoopPf C A body:=⟨key,ann,B,fix,R⟩
def sh (e : List (Nat×SpS)) (o : List (Nat×SpO)) : Shape:=⟨e,o,[]⟩
def mkF {P : Program} {G : xQ} (C : Ctx) (A : Anns) (f : Nat) (fn : Func) (ins : List (Mode×Ty)) (outs : mP) (M : (aA (ins.map (·.2))).den→Option (aA ((outs.map (·.2)).map (·.2)++aQ ins)).den) (l : List (LoopPf C A (fF fn)))
  (hS : SeatOK P C.tab C.eqs) (hc : ∀ f site c,C.con f site=some c→c.Holds P C.glob f) (hG : C.glob=G) (d : Bool:=false) (hf : P.funcs[f]?=some fn:=by kernel_rfl) (hb : fn.body=some (fF fn):=by kernel_rfl) (h1 : bO (fF fn)=l.map (fun p=>eE p.key (fF fn)):=by kernel_rfl)
  (h2 : (l.map fun p => A.get (eb (eE p.key (fF fn)))) = l.map (fun p => some p.ann) := by kernel_rfl) (hk : (!(fn.name == "runtime.NumGoroutine") && iG fn.ntmps (fF fn) && sT A ins && rC P outs && oS P C.maps) = true := by kernel_rfl) (hres : fn.results = (outs.map (·.1)).toArray := by kernel_rfl)
  (heq : ∀ x,pw C A (fF fn) ins outs x d=M x:=by intro x; kernel_rfl) : FnC P G :=
 ⟨f,⟨ins,outs.map (·.2),M,d⟩,hG ▸ Cp hS hc hf hb (C7 l h1 h2) hk hres heq⟩
end Go.Vm

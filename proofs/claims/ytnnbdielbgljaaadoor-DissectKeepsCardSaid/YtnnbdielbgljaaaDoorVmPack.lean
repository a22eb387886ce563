/-
 A function of the program together with its contract; the contracts of a context, by number.
-/
import Derived.Test.YtnnbdielbgljaaaDoorVmD
import Derived.KernelRfl
set_option linter.unusedVariables false
set_option linter.unusedSimpArgs false
namespace Go.Vm
abbrev yL:=List (Nat×(Σ t : Ty,t.den))
structure FnC (P : Program) (G : yL) where
 id : Nat
 con : Con
 ok : Con.Holds P G id con
def zq {P : Program} {G : yL} : List (FnC P G)→Hk
 | [],_,_=>none
 | a :: l,f,s=>cond (Nat.beq a.id f) (some a.con) (zq l f s)
theorem af {P : Program} {G : yL} : ∀ {l : List (FnC P G)} (f site : Nat) (c : Con),zq l f site=some c→c.Holds P G f
 | [],f,site,c,h=>by cases h
 | a :: l,f,site,c,h=>by
  unfold zq at h
  cases e : Nat.beq a.id f with
  | true =>
   rw [e] at h
   have h1:=Nat.eq_of_beq_eq_true e
   have h2 : a.con=c:=Option.some.inj h
   rw [← h1,← h2]
   exact a.ok
  | false =>
   rw [e] at h
   exact af f site c h
def lp {C : Ctx} {A : Anns} {body : Code} (key : Nat) (ann : Ann) (B : ann.head.ty.den→Option (ann.head.ty.den⊕jK ann.exits)) (fix : ann.fn=aa B:=by rfl) (R : ∀ x,wU C A ann (fv key body) x=B x:=by intro x; kernel_rfl) : LoopPf C A body:=⟨key,ann,B,fix,R⟩
def sh (e : List (Nat×SpS)) (o : List (Nat×SpO)) : Shape:=⟨e,o,[]⟩
def mkF {P : Program} {G : yL} (C : Ctx) (A : Anns) (f : Nat) (fn : Func) (ins : List (Mode×Ty)) (outs : nI) (M : (aO (ins.map (·.2))).den→Option (aO ((outs.map (·.2)).map (·.2)++bC ins)).den) (l : List (LoopPf C A (gA fn)))
  (hS : SeatOK P C.tab C.eqs) (hc : ∀ f site c,C.con f site=some c→c.Holds P C.glob f) (hG : C.glob=G) (d : Bool:=false) (hf : P.funcs[f]?=some fn:=by kernel_rfl) (hb : fn.body=some (gA fn):=by kernel_rfl) (h1 : b9 (gA fn)=l.map (fun p=>fv p.key (gA fn)):=by kernel_rfl)
  (h2 : (l.map fun p => A.get (eY (fv p.key (gA fn)))) = l.map (fun p => some p.ann) := by kernel_rfl) (hk : (!(fn.name == "runtime.NumGoroutine") && jf fn.ntmps (gA fn) && uT A ins && sF P outs && qU P C.maps) = true := by kernel_rfl) (hres : fn.results = (outs.map (·.1)).toArray := by kernel_rfl)
  (heq : ∀ x,pe C A (gA fn) ins outs x d=M x:=by intro x; kernel_rfl) : FnC P G :=
 ⟨f,⟨ins,outs.map (·.2),M,d⟩,hG ▸ Dc hS hc hf hb (CN l h1 h2) hk hres heq⟩
end Go.Vm

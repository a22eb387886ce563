/-
 A function of the program together with its contract; the contracts of a context, by number.
-/
import Derived.Test.YtgdkanecejfeiaaGreatDoorSVmD
import Derived.KernelRfl
open Nat renaming beq→A8
open Option.some renaming inj→B4
set_option linter.unusedVariables false
set_option linter.unusedSimpArgs false
namespace Go.Vm
abbrev Bx:=List (Nat×(Σ t:Ty,t.den))
structure FnC (P:Program) (G:Bx) where
 id:Nat
 con:Con
 ok:Con.Holds P G id con
def BI {P:Program} {G:Bx}:List (FnC P G)→JT
 | [],_,_=>none
 | a :: l,f,s=>cond (A8 a.id f) (some a.con) (BI l f s)
theorem aj {P:Program} {G:Bx}:∀ {l:List (FnC P G)} (f site:Nat) (c:Con),BI l f site=some c→c.Holds P G f
 | [],f,site,c,h=>by cases h
 | a :: l,f,site,c,h=>by
  unfold BI at h
  cases e:A8 a.id f with
  | true =>
   rw [e] at h
   have h1:=Nat.eq_of_beq_eq_true e
   have h2:a.con=c:=B4 h
   rw [← h1,← h2]
   exact a.ok
  | false =>
   rw [e] at h
   exact aj f site c h
def lp {C:Ctx} {A:Anns} {body:Code} (key:Nat) (ann:Ann) (B:ann.head.ty.den→Option (ann.head.ty.den⊕kK ann.exits)) (fix:ann.fn=aa B:=by rfl) (R:∀ x,round C A ann (fX key body) x=B x:=by intro x; kernel_rfl):LoopPf C A body:=⟨key,ann,B,fix,R⟩
def sh (e:List (Nat×SpS)) (o:List (Nat×SpO)):Shape:=⟨e,o,[]⟩
def mkF {P:Program} {G:Bx} (C:Ctx) (A:Anns) (f:Nat) (fn:Func) (ins:List (Mode×Ty)) (outs:oF) (M:(aB (ins.map (·.2))).den→Option (aB ((outs.map (·.2)).map (·.2)++aY ins)).den) (l:List (LoopPf C A (ip fn)))
  (hS:SeatOK P C.tab C.eqs) (hc:∀ f site c,C.con f site=some c→c.Holds P C.glob f) (hG:C.glob=G) (d:Bool:=false) (hf:P.funcs[f]?=some fn:=by kernel_rfl) (hb:fn.body=some (ip fn):=by kernel_rfl) (h1:cw (ip fn)=l.map (fun p=>fX p.key (ip fn)):=by kernel_rfl)
  (h2 : (l.map fun p => A.get (fU (fX p.key (ip fn)))) = l.map (fun p => some p.ann) := by kernel_rfl) (hk : (!(fn.name == "runtime.NumGoroutine") && ko fn.ntmps (ip fn) && vE A ins && tv P outs && rD P C.maps) = true := by kernel_rfl) (hres : fn.results = (outs.map (·.1)).toArray := by kernel_rfl)
  (heq:∀ x,qP C A (ip fn) ins outs x d=M x:=by intro x; kernel_rfl):FnC P G :=
 ⟨f,⟨ins,outs.map (·.2),M,d⟩,hG ▸ El hS hc hf hb (Ez l h1 h2) hk hres heq⟩
end Go.Vm

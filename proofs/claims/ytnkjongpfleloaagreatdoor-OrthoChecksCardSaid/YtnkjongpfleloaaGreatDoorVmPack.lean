/-
 A function of the program together with its contract; the contracts of a context, by number.
-/
import Derived.Test.YtnkjongpfleloaaGreatDoorVmE
import Derived.KernelRfl
open Nat renaming eq_of_beq_eq_true->xy,beq->A3
open Option.some renaming inj->B6
set_option linter.unusedVariables false
set_option linter.unusedSimpArgs false
namespace Go.Vm
abbrev l6:=List (Nat×(Σ t:Ty,t.den))
structure FnC (P:Program)(G:l6) where
 id:Nat
 con:Con
 ok:Con.Holds P G id con
def so{P:Program}{G:l6}:List (FnC P G)->MO
 |[],_,_=>none
 |a::l,f,s=>cond (A3 a.id f) (some a.con) (so l f s)
theorem ab{P:Program}{G:l6}:∀{l:List (FnC P G)} (f site:Nat) (c:Con),so l f site=some c->c.Holds P G f
 |[],f,site,c,h=>by cases h
 |a::l,f,site,c,h=>by
  unfold so at h;cases e:A3 a.id f with
  |true=>rw[e]at h;have h1:=xy e;have h2:a.con=c:=B6 h;rw[<- h1,<- h2];exact a.ok
  |false=>rw[e]at h;exact ab f site c h
def AD{P:Program}{G:l6}(l:List (FnC P G)):List (Nat×FnC P G)->MO
 |[],f,s=>so l f s
 |a::r,f,s=>cond (A3 a.1 s&&A3 a.2.id f) (some a.2.con) (AD l r f s)
theorem uz{P:Program}{G:l6}{l:List (FnC P G)}:∀{r:List (Nat×FnC P G)} (f site:Nat) (c:Con),AD l r f site=some c->c.Holds P G f
 |[],f,site,c,h=>ab f site c h
 |a::r,f,site,c,h=>by
  unfold AD at h;cases e:(A3 a.1 site&&A3 a.2.id f)with
  |true=>rw[e]at h;rw[Bool.and_eq_true]at e;have h1:=xy e.2;have h2:a.2.con=c:=B6 h;rw[<- h1,<- h2];exact a.2.ok
  |false=>rw[e]at h;exact uz f site c h
def lp{C:Ctx}{A:Anns}{body:Code}(key:Nat)(ann:Ann)(B:ann.head.ty.den->Option (ann.head.ty.den⊕kL ann.exits))(fix:ann.fn=ac B:=by rfl)(R:∀ x,round C A ann (gl key body) x=B x:=by intro x;kernel_rfl):LoopPf C A body:=⟨key,ann,B,fix,R⟩
def Rq(ins:List (Mode×Ty))(outs:List (Bool×Ty)):Con:={ ins:=ins,outs:=outs,fn:=λ_=>none }
def sh(e:List (Nat×SpS))(o:List (Nat×SpO)):Shape:=⟨e,o,[]⟩
def mkF {P:Program}{G:l6}(C:Ctx)(A:Anns)(f:Nat)(fn:Func)(ins:List (Mode×Ty))(outs:lY)(M:(aa (ins.map (·.2))).den->Option (aa ((outs.map (·.2)).map (·.2)++aS ins)).den)(l:List (LoopPf C A (aI fn)))
  (hS:SeatOK P C.tab C.eqs) (hc:∀ f site c,C.con f site=some c->c.Holds P C.glob f) (hG:C.glob=G) (d:Bool:=false) (hf:P.funcs[f]?=some fn:=by kernel_rfl) (hb:fn.body=some (aI fn):=by kernel_rfl) (h1:aO (aI fn)=l.map (λp=>gl p.key (aI fn)):=by kernel_rfl)
  (h2 : (l.map fun p => A.get (cp (gl p.key (aI fn)))) = l.map (fun p => some p.ann) := by kernel_rfl) (hk : (!(fn.name == "runtime.NumGoroutine") && d8 fn.ntmps (aI fn) && tA A ins && oX P outs && oD P C.maps) = true := by kernel_rfl) (hres : fn.results = (outs.map (·.1)).toArray := by kernel_rfl)
  (heq:∀ x,qT C A (aI fn) ins outs x d=M x:=by intro x;kernel_rfl) (hn:∀ f,C.inl f=none:=by intro f;rfl):FnC P G:=
 ⟨f,⟨ins,outs.map (·.2),M,d⟩,hG▸Ez hS hc hf hb (GO l h1 h2) hk hres heq hn⟩
end Go.Vm

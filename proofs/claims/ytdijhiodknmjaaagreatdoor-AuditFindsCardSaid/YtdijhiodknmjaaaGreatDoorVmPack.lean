/-
 A function of the program together with its contract; the contracts of a context, by number.
-/
import Derived.Test.YtdijhiodknmjaaaGreatDoorVmD
import Derived.KernelRfl
open Nat renaming beq->A3
open Option.some renaming inj->L9
set_option linter.unusedVariables false
set_option linter.unusedSimpArgs false
namespace Go.Vm
abbrev Hp:=List (Nat×(Σ t:Ty,t.den))
structure FnC (P:Program)(G:Hp) where
 id:Nat
 con:Con
 ok:Con.Holds P G id con
def KL{P:Program}{G:Hp}:List (FnC P G)->Cons
 |[],_,_=>none
 |a::l,f,s=>cond (A3 a.id f) (some a.con) (KL l f s)
theorem uo{P:Program}{G:Hp}:∀{l:List (FnC P G)} (f site:Nat) (c:Con),KL l f site=some c->c.Holds P G f
 |[],f,site,c,h=>by cases h
 |a::l,f,site,c,h=>by
  unfold KL at h;cases e:A3 a.id f with
  |true=>rw[e]at h;have h1:=Nat.eq_of_beq_eq_true e;have h2:a.con=c:=L9 h;rw[<- h1,<- h2];exact a.ok
  |false=>rw[e]at h;exact uo f site c h
def lp{C:Ctx}{A:Anns}{body:Code}(key:Nat)(ann:Ann)(B:ann.head.ty.den->Option (ann.head.ty.den⊕yM ann.exits))(fix:ann.fn=ab B:=by rfl)(R:∀ x,round C A ann (nY key body) x=B x:=by intro x;kernel_rfl):LoopPf C A body:=⟨key,ann,B,fix,R⟩
def yA(ins:List (Mode×Ty))(outs:List (Bool×Ty)):Con:={ ins:=ins,outs:=outs,fn:=λ_=>none }
theorem tV{P:Program}{G:Hp}{f:Nat}{ins:List (Mode×Ty)}{outs:List (Bool×Ty)}:Con.Holds P G f (yA ins outs):=λ_ _ _ _ _ _ h=>by cases h
def sh(e:List (Nat×SpS))(o:List (Nat×SpO)):Shape:=⟨e,o,[]⟩
def mkF {P:Program}{G:Hp}(C:Ctx)(A:Anns)(f:Nat)(fn:Func)(ins:List (Mode×Ty))(outs:BC)(M:(aG (ins.map (·.2))).den->Option (aG ((outs.map (·.2)).map (·.2)++bm ins)).den)(l:List (LoopPf C A (gk fn)))
  (hS:SeatOK P C.tab C.eqs) (hc:∀ f site c,C.con f site=some c->c.Holds P C.glob f) (hG:C.glob=G) (d:Bool:=false) (hf:P.funcs[f]?=some fn:=by kernel_rfl) (hb:fn.body=some (gk fn):=by kernel_rfl) (h1:aX (gk fn)=l.map (λp=>nY p.key (gk fn)):=by kernel_rfl)
  (h2 : (l.map fun p => A.get (ee (nY p.key (gk fn)))) = l.map (fun p => some p.ann) := by kernel_rfl) (hk : (!(fn.name == "runtime.NumGoroutine") && kI fn.ntmps (gk fn) && DB A ins && D0 P outs && BB P C.maps) = true := by kernel_rfl) (hres : fn.results = (outs.map (·.1)).toArray := by kernel_rfl)
  (heq:∀ x,vq C A (gk fn) ins outs x d=M x:=by intro x;kernel_rfl) (hn:∀ f,C.inl f=none:=by intro f;rfl):FnC P G:=
 ⟨f,⟨ins,outs.map (·.2),M,d⟩,hG▸Pv hS hc hf hb (RM l h1 h2) hk hres heq hn⟩
end Go.Vm

/-
 A function of the program together with its contract; the contracts of a context, by number.
-/
import Derived.Test.YtganppkchbnikaaGreatDoorVmE
import Derived.KernelRfl
open Nat renaming eq_of_beq_eq_true->A3,beq->A7
open Option.some renaming inj->B7
set_option linter.unusedVariables false
set_option linter.unusedSimpArgs false
namespace Go.Vm
abbrev eO:=List (Nat×(Σ t:Ty,t.den))
structure FnC (P:Program)(G:eO) where
 id:Nat
 con:Con
 ok:Con.Holds P G id con
def rn{P:Program}{G:eO}:List (FnC P G)->Hk
 |[],_,_=>none
 |a::l,f,s=>cond (A7 a.id f) (some a.con) (rn l f s)
theorem af{P:Program}{G:eO}:∀{l:List (FnC P G)} (f site:Nat) (c:Con),rn l f site=some c->c.Holds P G f
 |[],f,site,c,h=>by cases h
 |a::l,f,site,c,h=>by
  unfold rn at h;cases e:A7 a.id f with
  |true=>rw[e]at h;have h1:=A3 e;have h2:a.con=c:=B7 h;rw[<- h1,<- h2];exact a.ok
  |false=>rw[e]at h;exact af f site c h
def wS{P:Program}{G:eO}(l:List (FnC P G)):List (Nat×FnC P G)->Hk
 |[],f,s=>rn l f s
 |a::r,f,s=>cond (A7 a.1 s&&A7 a.2.id f) (some a.2.con) (wS l r f s)
theorem uC{P:Program}{G:eO}{l:List (FnC P G)}:∀{r:List (Nat×FnC P G)} (f site:Nat) (c:Con),wS l r f site=some c->c.Holds P G f
 |[],f,site,c,h=>af f site c h
 |a::r,f,site,c,h=>by
  unfold wS at h;cases e:(A7 a.1 site&&A7 a.2.id f)with
  |true=>rw[e]at h;rw[Bool.and_eq_true]at e;have h1:=A3 e.2;have h2:a.2.con=c:=B7 h;rw[<- h1,<- h2];exact a.2.ok
  |false=>rw[e]at h;exact uC f site c h
def lp{C:Ctx}{A:Anns}{body:Code}(key:Nat)(ann:Ann)(B:ann.head.ty.den->Option (ann.head.ty.den⊕kX ann.exits))(fix:ann.fn=aa B:=by rfl)(R:∀ x,round C A ann (eh key body) x=B x:=by intro x;kernel_rfl):LoopPf C A body:=⟨key,ann,B,fix,R⟩
def Ji(ins:List (Mode×Ty))(outs:List (Bool×Ty)):Con:={ ins:=ins,outs:=outs,fn:=λ_=>none }
theorem vp {P:Program}{G:eO}{f:Nat}{ins:List (Mode×Ty)}{outs:List (Bool×Ty)}{d:Bool}(g:Nat->(ac (ins.map (·.2))).den->Option (ac (outs.map (·.2)++aN ins)).den)(k:∀ n,Con.Holds P G f ⟨ins,outs,g n,d⟩)(m:(ac (ins.map (·.2))).den->Nat) :
  Con.Holds P G f ⟨ins,outs,λx=>g (m x) x,d⟩:=λw F us x r hp hr=>k (m x) w F us x r hp hr
def sh(e:List (Nat×SpS))(o:List (Nat×SpO)):Shape:=⟨e,o,[]⟩
def mkF {P:Program}{G:eO}(C:Ctx)(A:Anns)(f:Nat)(fn:Func)(ins:List (Mode×Ty))(outs:ks)(M:(ac (ins.map (·.2))).den->Option (ac ((outs.map (·.2)).map (·.2)++aN ins)).den)(l:List (LoopPf C A (aW fn)))
  (hS:SeatOK P C.tab C.eqs) (hc:∀ f site c,C.con f site=some c->c.Holds P C.glob f) (hG:C.glob=G) (d:Bool:=false) (hf:P.funcs[f]?=some fn:=by kernel_rfl) (hb:fn.body=some (aW fn):=by kernel_rfl) (h1:aG (aW fn)=l.map (λp=>eh p.key (aW fn)):=by kernel_rfl)
  (h2 : (l.map fun p => A.get (bT (eh p.key (aW fn)))) = l.map (fun p => some p.ann) := by kernel_rfl) (hk : (!(fn.name == "runtime.NumGoroutine") && dc fn.ntmps (aW fn) && n7 A ins && lO P outs && mn P C.maps) = true := by kernel_rfl) (hres : fn.results = (outs.map (·.1)).toArray := by kernel_rfl)
  (heq:∀ x,k6 C A (aW fn) ins outs x d=M x:=by intro x;kernel_rfl) (hn:∀ f,C.inl f=none:=by intro f;rfl):FnC P G:=
 ⟨f,⟨ins,outs.map (·.2),M,d⟩,hG▸Bg hS hc hf hb (uo l h1 h2) hk hres heq hn⟩
end Go.Vm

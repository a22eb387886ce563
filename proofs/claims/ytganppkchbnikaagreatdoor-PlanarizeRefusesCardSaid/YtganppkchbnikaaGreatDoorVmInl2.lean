/-
 Functions that are run in their place within a function with a contract.
-/
import Derived.Test.YtganppkchbnikaaGreatDoorVmInl
import Derived.Test.YtganppkchbnikaaGreatDoorVmE
set_option linter.unusedVariables false
set_option linter.unusedSimpArgs false
namespace Go.Vm
theorem ri {d:Bool}{P:Program}{C:Ctx}{A:Anns}{f:FuncId}{fn:Func}{ins:List (Mode×Ty)}{outs:ks}{M:(ac (ins.map (·.2))).den->Option (ac ((outs.map (·.2)).map (·.2)++aN ins)).den}
  (hC:CtxOK P C) (hD:gE P) (hf:P.funcs[f]?=some fn) (hb:fn.body=some (aW fn))
  (hL : mI C A (aG (aW fn))) (hk : (!(fn.name == "runtime.NumGoroutine") && dc fn.ntmps (aW fn) && n7 A ins && lO P outs) = true) (hres : fn.results = (outs.map (·.1)).toArray)
  (heq:∀ x,k6 C A (aW fn) ins outs x d=M x):Con.Holds P C.glob f ⟨ins,outs.map (·.2),M,d⟩:=by
 simp only[Bool.and_eq_true,Bool.not_eq_true']at hk;obtain⟨⟨⟨k1,k2⟩,k3⟩,k4⟩:=hk;exact rq hC hD hf hb k1 hL k2 k3 hres k4 heq
noncomputable def GW(P:Program)(C0:Ctx)(l:List (Nat×Hint))(g:Nat):Option (Heap->List SV->Option (SV×Heap)):=match iT l g with
 |some _=>some (nN P C0 (iT l) 60 g)
 |none=>none
theorem EV{P:Program}{C0:Ctx}{l:List (Nat×Hint)}(hC:CtxOK P C0)(hD:gE P)(hl:mV P l=true){g:Nat}{r:Heap->List SV->Option (SV×Heap)}(h:GW P C0 l g=some r):km P C0.glob g r:=by
 unfold GW at h;split at h
 ·cases h;exact nP hC hD hl 60 g
 cases h
def mkI {P:Program}{G:eO}(C:Ctx)(A:Anns)(f:Nat)(fn:Func)(ins:List (Mode×Ty))(outs:ks)(M:(ac (ins.map (·.2))).den->Option (ac ((outs.map (·.2)).map (·.2)++aN ins)).den)(l:List (LoopPf C A (aW fn)))
  (hS:SeatOK P C.tab C.eqs) (hc:∀ f site c,C.con f site=some c->c.Holds P C.glob f) (hG:C.glob=G) (hm:mn P C.maps=true) (hi:∀ g r,C.inl g=some r->km P C.glob g r) (d:Bool:=false) (hf:P.funcs[f]?=some fn:=by kernel_rfl) (hb:fn.body=some (aW fn):=by kernel_rfl) (h1:aG (aW fn)=l.map (λp=>eh p.key (aW fn)):=by kernel_rfl)
  (h2 : (l.map fun p => A.get (bT (eh p.key (aW fn)))) = l.map (fun p => some p.ann) := by kernel_rfl) (hk : (!(fn.name == "runtime.NumGoroutine") && dc fn.ntmps (aW fn) && n7 A ins && lO P outs) = true := by kernel_rfl) (hres : fn.results = (outs.map (·.1)).toArray := by kernel_rfl)
  (heq:∀ x,k6 C A (aW fn) ins outs x d=M x:=by intro x;kernel_rfl):FnC P G:=
 ⟨f,⟨ins,outs.map (·.2),M,d⟩,hG▸ri ⟨hS.tab,l5 hS.tab hS.eqs,jO hm,hc,hi⟩ (jJ hS.order) hf hb (uo l h1 h2) hk hres heq⟩
end Go.Vm

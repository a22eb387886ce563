/-
 A function of the program together with its contract; the contracts of a context, by number.
-/
import Derived.Test.YtgdkanecejfeiaaGreatDoorVmD
import Derived.KernelRfl
open Nat renaming beq→B1
open Option.some renaming inj→B6
set_option linter.unusedVariables false
set_option linter.unusedSimpArgs false
namespace Go.Vm
abbrev B0:=List (Nat×(Σ t:Ty,t.den))
structure FnC (P:Program) (G:B0) where
 id:Nat
 con:Con
 ok:Con.Holds P G id con
def Cn {P:Program} {G:B0}:List (FnC P G)→Ku
 | [],_,_=>none
 | a :: l,f,s=>cond (B1 a.id f) (some a.con) (Cn l f s)
theorem ah {P:Program} {G:B0}:∀ {l:List (FnC P G)} (f site:Nat) (c:Con),Cn l f site=some c→c.Holds P G f
 | [],f,site,c,h=>by cases h
 | a :: l,f,site,c,h=>by
  unfold Cn at h
  cases e:B1 a.id f with
  | true =>
   rw [e] at h
   have h1:=Nat.eq_of_beq_eq_true e
   have h2:a.con=c:=B6 h
   rw [← h1,← h2]
   exact a.ok
  | false =>
   rw [e] at h
   exact ah f site c h
def lp {C:Ctx} {A:Anns} {body:Code} (key:Nat) (ann:Ann) (B:ann.head.ty.den→Option (ann.head.ty.den⊕kL ann.exits)) (fix:ann.fn=aa B:=by rfl) (R:∀ x,round C A ann (fC key body) x=B x:=by intro x; kernel_rfl):LoopPf C A body:=⟨key,ann,B,fix,R⟩
def sh (e:List (Nat×SpS)) (o:List (Nat×SpO)):Shape:=⟨e,o,[]⟩
def mkF {P:Program} {G:B0} (C:Ctx) (A:Anns) (f:Nat) (fn:Func) (ins:List (Mode×Ty)) (outs:n9) (M:(aM (ins.map (·.2))).den→Option (aM ((outs.map (·.2)).map (·.2)++br ins)).den) (l:List (LoopPf C A (gP fn)))
  (hS:SeatOK P C.tab C.eqs) (hc:∀ f site c,C.con f site=some c→c.Holds P C.glob f) (hG:C.glob=G) (d:Bool:=false) (hf:P.funcs[f]?=some fn:=by kernel_rfl) (hb:fn.body=some (gP fn):=by kernel_rfl) (h1:cb (gP fn)=l.map (fun p=>fC p.key (gP fn)):=by kernel_rfl)
  (h2 : (l.map fun p => A.get (fj (fC p.key (gP fn)))) = l.map (fun p => some p.ann) := by kernel_rfl) (hk : (!(fn.name == "runtime.NumGoroutine") && jI fn.ntmps (gP fn) && vz A ins && tU P outs && sf P C.maps) = true := by kernel_rfl) (hres : fn.results = (outs.map (·.1)).toArray := by kernel_rfl)
  (heq:∀ x,qE C A (gP fn) ins outs x d=M x:=by intro x; kernel_rfl):FnC P G :=
 ⟨f,⟨ins,outs.map (·.2),M,d⟩,hG ▸ Eh hS hc hf hb (FB l h1 h2) hk hres heq⟩
end Go.Vm

/-
 A function of the program together with its contract; the contracts of a context, by number.
-/
import Derived.Test.YtgdkanecejfeiaaGreatDoorVmD
import Derived.KernelRfl
open Nat renaming beq→A8
open Option.some renaming inj→B4
set_option linter.unusedVariables false
set_option linter.unusedSimpArgs false
namespace Go.Vm
abbrev BL:=List (Nat×(Σ t:Ty,t.den))
structure FnC (P:Program) (G:BL) where
 id:Nat
 con:Con
 ok:Con.Holds P G id con
def Bk {P:Program} {G:BL}:List (FnC P G)→JO
 | [],_,_=>none
 | a :: l,f,s=>cond (A8 a.id f) (some a.con) (Bk l f s)
theorem aj {P:Program} {G:BL}:∀ {l:List (FnC P G)} (f site:Nat) (c:Con),Bk l f site=some c→c.Holds P G f
 | [],f,site,c,h=>by cases h
 | a :: l,f,site,c,h=>by
  unfold Bk at h
  cases e:A8 a.id f with
  | true =>
   rw [e] at h
   have h1:=Nat.eq_of_beq_eq_true e
   have h2:a.con=c:=B4 h
   rw [← h1,← h2]
   exact a.ok
  | false =>
   rw [e] at h
   exact aj f site c h
def lp {C:Ctx} {A:Anns} {body:Code} (key:Nat) (ann:Ann) (B:ann.head.ty.den→Option (ann.head.ty.den⊕kH ann.exits)) (fix:ann.fn=aa B:=by rfl) (R:∀ x,round C A ann (gh key body) x=B x:=by intro x; kernel_rfl):LoopPf C A body:=⟨key,ann,B,fix,R⟩
def sh (e:List (Nat×SpS)) (o:List (Nat×SpO)):Shape:=⟨e,o,[]⟩
def mkF {P:Program} {G:BL} (C:Ctx) (A:Anns) (f:Nat) (fn:Func) (ins:List (Mode×Ty)) (outs:oU) (M:(aB (ins.map (·.2))).den→Option (aB ((outs.map (·.2)).map (·.2)++aZ ins)).den) (l:List (LoopPf C A (g8 fn)))
  (hS:SeatOK P C.tab C.eqs) (hc:∀ f site c,C.con f site=some c→c.Holds P C.glob f) (hG:C.glob=G) (d:Bool:=false) (hf:P.funcs[f]?=some fn:=by kernel_rfl) (hb:fn.body=some (g8 fn):=by kernel_rfl) (h1:cw (g8 fn)=l.map (fun p=>gh p.key (g8 fn)):=by kernel_rfl)
  (h2 : (l.map fun p => A.get (fQ (gh p.key (g8 fn)))) = l.map (fun p => some p.ann) := by kernel_rfl) (hk : (!(fn.name == "runtime.NumGoroutine") && kp fn.ntmps (g8 fn) && uS A ins && uo P outs && ru P C.maps) = true := by kernel_rfl) (hres : fn.results = (outs.map (·.1)).toArray := by kernel_rfl)
  (heq:∀ x,sq C A (g8 fn) ins outs x d=M x:=by intro x; kernel_rfl):FnC P G :=
 ⟨f,⟨ins,outs.map (·.2),M,d⟩,hG ▸ Fq hS hc hf hb (Ee l h1 h2) hk hres heq⟩
end Go.Vm

/-
 The law as a function on values.
-/
import Derived.Test.YtganppkchbnikaaGreatDoorD90A
import Derived.Test.YtganppkchbnikaaGreatDoorLv90W
set_option linter.unusedVariables false
set_option linter.unusedSimpArgs false
namespace Go.Vm
open Go.Proofs
set_option maxRecDepth 100000
noncomputable section
def Zar(x:Unit):Option (Bool×Unit):=trueCon.fn x
def Ii:Fn:=⟨5,trueCon,EM⟩
def Zo(x:(Q6×Unit)):Option (Bool×Unit):=
 let((a,b,_),_):=x;(Zad ((a,b,()),())).bind λr1=>cond (eqI r1.1 0) ((Zar ()).bind λr2=>some (r2.1,())) ((Zbv ((a,b,()),())).bind λr3=>cond (eqI r3.2.2.1 r1.1) (cond (eqI r3.2.1 0) (cond (eqI r3.1.2.1 0) (cond (eqI (r3.1.2.2.1.length:Nat) 0) (cond (eqI r3.1.1.1 0) (cond (eqI (r3.1.1.2.1.length:Nat) 0) ((Zar ()).bind λr4=>some (r4.1,())) (some (false,()))) (some (false,()))) (some (false,()))) (some (false,()))) (some (false,()))) (some (false,())))
def Zo_h:Fn:=mkF { cx [Ib,Ii,It]with maps:=maps } [] 3 Tryz.f3 [(.rd,fj)] [(.tmp 2,true,.bool)] Zo [] seat_ok af rfl
def Zo_c:Con:={ ins:=[(.rd,fj)],outs:=[(true,.bool)],fn:=Zo }
theorem AQ:Con.Holds Tryz.prog glob 3 Zo_c:=Zo_h.ok
end
end Go.Vm

/-
 The law as a function on values.
-/
import Derived.Test.YtnkjongpfleloaaGreatDoorD43A
import Derived.Test.YtnkjongpfleloaaGreatDoorLvD
set_option linter.unusedVariables false
set_option linter.unusedSimpArgs false
namespace Go.Vm
open Go.Proofs
set_option maxRecDepth 100000
noncomputable section
def Zan(x:Unit):Option (Bool×Unit):=trueCon.fn x
def OI:Fn:=⟨6,trueCon,KG⟩
def Zn(x:Q23):Option (Bool×Unit):=
 let((a,b,_),c,d,_):=x;(Zbx ((a,b,()),8,12,())).bind λr1=>cond (!r1.1) ((Zan ()).bind λr2=>some (r2.1,())) ((Zu (c,d,())).bind λr3=>cond (!r3.1) ((Zan ()).bind λr4=>some (r4.1,())) ((Zeg ((a,b,()),c,d,())).bind λr5=>(Zat ((a,b,()),c,d,())).bind λr6=>cond (eqB r5.1 r6.1) ((Zan ()).bind λr7=>some (r7.1,())) (some (false,()))))
def Zn_h:Fn:=mkF (cx [Qb,Qt,OI,LT,P7]) [] 3 Tryz.f3 [(.rd,gL),(.rd,(.slice yQ2)),(.rd,fi)] [(.tmp 6,true,.bool)] Zn [] seat_ok ab rfl
def Zn_c:Con:={ ins:=[(.rd,gL),(.rd,(.slice yQ2)),(.rd,fi)],outs:=[(true,.bool)],fn:=Zn }
theorem Is:Con.Holds Tryz.prog glob 3 Zn_c:=Zn_h.ok
end
end Go.Vm

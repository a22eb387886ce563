/-
 The functions that the law reaches, as functions on values, and the proofs that the machine computes them.
-/
import Derived.Test.YtdijhiodknmjaaaGreatDoorD80A
import Derived.Test.YtdijhiodknmjaaaGreatDoorXL
set_option linter.unusedVariables false
set_option linter.unusedSimpArgs false
namespace Go.Vm
open Go.Proofs
set_option maxRecDepth 100000
noncomputable section
def Zg(x:Unit):Option (Bool×Unit):=trueCon.fn x
def UD:Fn:=⟨6,trueCon,SK⟩
def Za(x:Q57):Option (Bool×Unit):=
 let((a,b,c,d,e,_),(f,g,h,i,k,_),(l,m,n,o,(p,q,s,t,_),u,w,w0,_),_):=x;(dr ((a,b,c,d,e,()),7,8,())).bind λr1=>cond (!r1.1) ((Zg ()).bind λr2=>some (r2.1,())) ((fG ((l,m,n,o,(p,q,s,t,()),u,w,w0,()),())).bind λr3=>cond (!r3.1) ((Zg ()).bind λr4=>some (r4.1,())) ((sC ((a,b,c,d,e,()),(f,g,h,i,k,()),(l,m,n,o,(p,q,s,t,()),u,w,w0,()),())).bind λr5=>(iM ((a,b,c,d,e,()),(f,g,h,i,k,()),(l,m,n,o,(p,q,s,t,()),u,w,w0,()),())).bind λr6=>(mY (r5.1,r6.1,())).bind λr7=>cond r7.1 ((Zg ()).bind λr8=>some (r8.1,())) (some (false,()))))
def Za_h:Fn:=mkF (cx [CK,Ck,UD,oQ,Hd,zW]) [] 3 Tryz.f3 [(.rd,yQ49),(.rd,yQ5),(.rd,yQ38)] [(.tmp 6,true,.bool)] Za [] seat_ok uo rfl
def Za_c:Con:={ ins:=[(.rd,yQ49),(.rd,yQ5),(.rd,yQ38)],outs:=[(true,.bool)],fn:=Za }
theorem Pr:Con.Holds Tryz.prog glob 3 Za_c:=Za_h.ok
end
end Go.Vm

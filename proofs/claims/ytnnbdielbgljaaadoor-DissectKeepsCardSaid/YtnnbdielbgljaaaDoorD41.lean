/-
 The functions that the law reaches, as functions on values, and the proofs that the machine computes them.
-/
import Derived.Test.YtnnbdielbgljaaaDoorVmPack
import Derived.Test.YtnnbdielbgljaaaDoorS41C
import Derived.Test.YtnnbdielbgljaaaDoorVmExt4
import Derived.Test.YtnnbdielbgljaaaDoorProg
import Derived.KernelRfl
set_option linter.unusedVariables false
set_option linter.unusedSimpArgs false
namespace Go.Vm
open Go.Proofs
abbrev I : Ty:=.int .i64
abbrev yQ1 : Ty:=.prod I .unit
abbrev yQ2 : Ty:=.prod I yQ1
abbrev yQ3 : Ty:=.slice (.slice I)
abbrev yQ4 : Ty:=.prod yQ3 .unit
abbrev yQ5 : Ty:=.prod (.slice yQ2) yQ4
abbrev yQ6 : Ty:=.prod I yQ5
abbrev yQ7 : Ty:=.prod (.slice .str) yQ1
abbrev yQ8 : Ty:=.prod (.slice I) yQ7
abbrev yQ9 : Ty:=.prod yQ6 yQ8
abbrev Q1:=List Int×Unit
abbrev Q2:=Int×Int×Unit
abbrev Q3:=ByteArray×Unit
abbrev Q4:=List Int×Int×Unit
abbrev Q5:=(List (List Int))×Unit
abbrev Q6:=List Int×Int×Int×Unit
abbrev Q7:=List (Unit×ByteArray×Int)
abbrev Q8:=List Int×Int×Int×Int×Unit
abbrev Q9:=Int×(List Q2)×(List (List Int))×Unit
abbrev Q10:=Q9×Int×Unit
abbrev Q11:=Q9×List Int×List ByteArray×Int×Unit
abbrev Q12:=List Int×(List (List Int))×Int×Int×Unit
abbrev Q13:=Int×(List Q2)×(List (List Int))×Int×Unit
abbrev Q14:=Int×(List Q2)×(List (List Int))×List Int×Int×Unit
abbrev Q15:=Int×(List Q2)×(List (List Int))×List Bool×List Int×Int×Unit
abbrev Q16:=Int×(List Q2)×(List (List Int))×List Bool×Int×Int×Int×Unit
abbrev Q17:=List Int×List Bool×(List (List Int))×List Int×Int×Int×Int×Unit
abbrev Q18:=List Int×(List (List Int))×Int×Int×Int×List Int×Int×Int×Unit
abbrev Q19:=Int×(List Q2)×(List (List Int))×List Int×Int×List Int×Int×Unit
abbrev Q20:=Int×(List Q2)×(List (List Int))×List Int×List Bool×Int×Int×Unit
abbrev Q21:=Int×(List Q2)×(List (List Int))×Int×(List (List Int))×Int×Int×Unit
abbrev Q22:=Int×Int×(List Q2)×(List (List Int))×(List (List Int))×Int×Int×Unit
abbrev Q23:=List Int×List Int×(List (List Int))×Int×Int×List Int×Int×Int×Unit
abbrev Q24:=Int×(List Q2)×(List (List Int))×List Int×List ByteArray×Int×Int×Unit
abbrev Q25:=Int×(List Q2)×(List (List Int))×List Bool×List Int×Int×Int×Int×Unit
abbrev Q26:=Int×(List Q2)×(List (List Int))×List Int×List Bool×Int×Int×Int×Unit
abbrev Q27:=Int×(List Q2)×(List (List Int))×Int×(List Q2)×(List (List Int))×Int×Unit
abbrev Q28:=Int×(List Q2)×(List (List Int))×List Int×List ByteArray×Int×Int×Int×Unit
abbrev Q29:=Int×(List Q2)×(List (List Int))×List Bool×Int×(List (List Int))×Int×Int×Unit
abbrev Q30:=Int×(List Q2)×(List (List Int))×Int×(List Q2)×(List (List Int))×Int×Int×Unit
abbrev Q31:=Int×(List Q2)×(List (List Int))×List Bool×List Int×Int×List Int×Int×Int×Unit
abbrev Q32:=Int×(List Q2)×(List (List Int))×List Int×List ByteArray×Int×Int×Int×Int×Unit
abbrev Q33:=Int×(List Q2)×(List (List Int))×List Int×List ByteArray×Int×Int×Int×Bool×Unit
abbrev Q34:=Int×(List Q2)×(List (List Int))×List Int×List ByteArray×Int×List Int×Int×Int×Unit
abbrev Q35:=Int×(List Q2)×(List (List Int))×List Int×List ByteArray×Int×(List (List Int))×Int×Unit
abbrev Q36:=Int×(List Q2)×(List (List Int))×List Int×List ByteArray×Int×Int×List Int×Int×Int×Unit
abbrev Q37:=Int×(List Q2)×(List (List Int))×List Bool×List Int×Int×Int×Int×List Int×Int×Int×Unit
abbrev Q38:=Int×(List Q2)×(List (List Int))×List Int×List ByteArray×Int×Int×Int×Int×Int×Int×Unit
abbrev Q39:=Int×(List Q2)×(List (List Int))×List Int×List ByteArray×Int×(List (List Int))×Int×Int×Unit
abbrev Q40:=Int×(List Q2)×(List (List Int))×List Int×List ByteArray×Int×List Int×(List (List Int))×Int×Unit
abbrev Q41:=Int×(List Q2)×(List (List Int))×List Int×List ByteArray×Int×List Int×(List (List Int))×Int×Int×Unit
abbrev Q42:=Int×(List Q2)×(List (List Int))×List Bool×Int×Int×(List (List Int))×Int×Int×List Int×Int×Int×Unit
abbrev Q43:=Int×(List Q2)×(List (List Int))×List Int×List ByteArray×Int×Int×Int×List Int×Int×Int×Int×Int×Unit
abbrev Q44:=Int×(List Q2)×(List (List Int))×List Int×List ByteArray×Int×List Int×(List (List Int))×Int×Int×Int×Unit
abbrev Q45:=Int×(List Q2)×(List (List Int))×List Int×List ByteArray×Int×Int×(List Q2)×(List (List Int))×Int×Int×Unit
abbrev Q46:=Int×(List Q2)×(List (List Int))×List Int×List ByteArray×Int×Int×Int×(List (List Int))×Bool×Int×Int×Unit
abbrev Q47:=Int×(List Q2)×(List (List Int))×List Int×List ByteArray×Int×List Int×Q7×List Int×(List (List Int))×Int×Int×Unit
abbrev Q48:=Int×(List Q2)×(List (List Int))×List Int×List ByteArray×Int×(List (List Int))×Int×Int×Int×Int×List Int×Int×Int×Unit
abbrev Q49:=Int×(List Q2)×(List (List Int))×List Int×List ByteArray×Int×List Int×Int×(List (List Int))×Int×Int×List Int×Int×Int×Unit
abbrev Q50:=Int×(List Q2)×(List (List Int))×List Int×List ByteArray×Int×Int×(List Q2)×(List (List Int))×List Int×List ByteArray×Int×Int×Unit
abbrev Q51:=Int×(List Q2)×(List (List Int))×List Int×List ByteArray×Int×Int×Int×(List Q2)×(List (List Int))×List Int×List ByteArray×(List (List Int))×Int×Unit
abbrev Q52:=Int×(List Q2)×(List (List Int))×List Int×List ByteArray×Int×Int×Int×Int×Int×(List (List Int))×(List Q2)×(List (List Int))×(List Q2)×Int×Int×Unit
abbrev Q53:=Int×(List Q2)×(List (List Int))×List Int×List ByteArray×Int×Int×Int×Int×Int×(List (List Int))×List Int×(List (List Int))×(List Q2)×List Int×Int×Unit
abbrev Q54:=Int×(List Q2)×(List (List Int))×List Int×List ByteArray×Int×Int×Int×(List Q2)×(List (List Int))×List Int×List ByteArray×(List (List Int))×Int×Int×Int×Unit
abbrev Q55:=Int×(List Q2)×(List (List Int))×List Int×List ByteArray×Int×Int×Int×(List Q2)×(List (List Int))×List Int×List ByteArray×(List (List Int))×List Int×List Int×Int×Unit
abbrev Q56:=Int×(List Q2)×(List (List Int))×List Int×List ByteArray×Int×Int×Int×Int×Int×(List (List Int))×List Int×(List (List Int))×(List Q2)×(List (List Int))×List Int×Int×Unit
abbrev Q57:=Int×(List Q2)×(List (List Int))×List Int×List ByteArray×Int×Int×Int×Int×Int×(List (List Int))×Int×Int×List Int×Q7×(List Q2)×(List (List Int))×Int×(List Q2)×Int×Int×Unit
abbrev Q58:=Int×(List Q2)×(List (List Int))×List Int×List ByteArray×Int×Int×Int×Int×Int×(List (List Int))×(List Q2)×(List (List Int))×List Int×(List (List Int))×(List (List Int))×Int×Int×Unit
abbrev Q59:=Int×(List Q2)×(List (List Int))×List Int×List ByteArray×Int×Int×Int×Int×Int×(List (List Int))×List Int×(List (List Int))×List Int×(List Q2)×List Int×Int×ByteArray×Int×Int×Unit
abbrev Q60:=Int×(List Q2)×(List (List Int))×List Int×List ByteArray×Int×Int×Int×Int×Int×(List (List Int))×List Int×(List (List Int))×List Int×(List Q2)×(List (List Int))×List Int×Int×Int×Unit
abbrev Q61:=Int×(List Q2)×(List (List Int))×List Int×List ByteArray×Int×Int×Int×Int×Int×(List (List Int))×List Int×(List Q2)×(List (List Int))×List Int×(List (List Int))×(List (List Int))×Int×Int×List Int×Int×Int×Unit
noncomputable section
def tab : Tab:=[(2,I),(3,I),(4,.bool),(5,(.int .u8)),(6,(.int .u8)),(7,(.prod I (.prod I (.prod .bool (.prod (.int .u8) .unit))))),(8,(.prod I (.prod I (.prod .bool (.prod (.int .u8) .unit))))),(9,.str),(10,.str),(11,.str),(12,(.int .u64)),(13,(.prod .str (.prod (.int .u64) .unit))),(14,(.prod .str (.prod (.int .u64) .unit))),(21,(.int .i32)),(22,(.slice yQ2)),(23,yQ3),(24,yQ6),(25,yQ6),(26,(.slice I)),(27,(.slice .str)),(28,yQ9),(29,yQ9),(32,I),(41,yQ2),(42,yQ2),(60,(.slice .bool)),(77,(.slice (.int .u8))),(81,(.arr 2 I)),(95,(.int .u32)),(96,(.int .u8)),(97,(.int .u8)),(100,(.int .i32)),(101,(.int .i32))]
def eqs : List Nat:=[42]
def glob : List (Nat×(Σ t : Ty,t.den)):=[(0,⟨(.arr 2 I),[16384,32768]⟩)]
theorem aj : SeatOK Tryd.prog tab eqs:=⟨by kernel_rfl,by kernel_rfl,by kernel_rfl⟩
abbrev Fn:=FnC Tryd.prog glob
def cx (l : List Fn) : Ctx:={ tab:=tab,con:=zq l,glob:=glob,eqs:=eqs }
set_option maxRecDepth 100000
def pm (x : Q13) : Option (Q13⊕((Bool×Unit)⊕(Unit⊕Empty))) :=
 let (a,b,c,d,_):=x; cond (ltI d (c.length : Nat)) ((ar c d).bind fun y1=>cond (gtI (y1.length : Nat) 100) (some (.inr (.inl (false,())))) (some (.inl (a,b,c,(ah .i64 d 1),())))) (some (.inr (.inr (.inl ()))))
def xQ:=aa pm
def Ea : Ann:=⟨sh [(1,.av (.ptr 1 0)),(3,.av (.val I))] [(1,.box [.val I,.val (.slice yQ2),.val yQ3])],[(.ret,sh [(2,.av (.val .bool))] []),(.exit 0,sh [] [])],xQ⟩
def Zaw (x : (Q9×Unit)) : Option (Bool×Unit) :=
 let ((a,b,c,_),_):=x; cond (gtI (b.length : Nat) 100) (some (false,())) (cond (gtI (c.length : Nat) 100) (some (false,())) ((xQ (a,b,c,0,())).bind (Sum.elim (fun z2=>some (z2.1,())) (Sum.elim (fun z3=>some (true,())) (fun _=>none)))))
def GF : Fn:=mkF (cx []) [(4,Ea)] 23 Tryd.f23 [(.rd,yQ6)] [(.tmp 2,true,.bool)] Zaw [lp 4 Ea pm] aj af rfl
def pf (x : Q28) : Option (Q28⊕((Int×Unit)⊕Empty)) :=
 let (a,b,c,d,e,f,g,h,_):=x; cond (ltI h (e.length : Nat)) ((ar e h).bind fun y1=>some (.inl (a,b,c,d,e,f,(ah .i64 g (y1.size : Nat)),(ah .i64 h 1),()))) (some (.inr (.inl (g,()))))
def uB:=aa pf
def CB : Ann:=⟨sh [(1,.av (.ptr 1 0)),(3,.av (.val I)),(4,.av (.val I))] [(1,.box [.val I,.val (.slice yQ2),.val yQ3,.val (.slice I),.val (.slice .str),.val I])],[(.exit 0,sh [(3,.av (.val I))] [])],uB⟩
def Zay (x : (Q11×Unit)) : Option (Bool×Unit) :=
 let (((a,b,c,_),d,e,f,_),_):=x; (Zaw ((a,b,c,()),())).bind fun r1=>cond (!r1.1) (some (false,())) (cond (gtI (d.length : Nat) 200) (some (false,())) (cond (gtI (e.length : Nat) 200) (some (false,())) ((uB (a,b,c,d,e,f,0,0,())).bind (Sum.elim (fun z3=>some ((leI z3.1 400),())) (fun _=>none)))))
def GP : Fn:=mkF (cx [GF]) [(5,CB)] 8 Tryd.f8 [(.rd,yQ9)] [(.tmp 2,true,.bool)] Zay [lp 5 CB pf] aj af rfl
def Zbi (x : (Q2×Int×Unit)) : Option (Int×Unit) :=
 cond (eqI x.2.1 0) (some (x.1.1,())) (some (x.1.2.1,()))
def zg : Fn:=mkF (cx []) [] 81 Tryd.f81 [(.rd,yQ2),(.rd,I)] [(.tmp 4,true,I)] Zbi [] aj af rfl
def l7 (x : Q42) : Option (Q42⊕((Bool×Unit)⊕(Q29⊕Empty))) :=
 let (a,b,c,d,e,f,g,h,i,k,l,m,_):=x; cond (ltI m l) ((ar k m).bind fun y1=>cond (ltI y1 0) (some (.inr (.inl (false,())))) (cond (geI y1 (d.length : Nat)) (some (.inr (.inl (false,())))) ((aJ d.length y1).bind fun j2=>(d[j2]?).bind fun y3=>cond y3 (some (.inr (.inl (false,())))) ((ar b (eG .i64 y1 2)).bind fun y4=>(Zbi (y4,(gF y1 2),())).bind fun r5=>cond (neI r5.1 f) (some (.inr (.inl (false,())))) ((aJ d.length y1).bind fun j6=>(d[j6]?).bind fun y7=>some (.inl (a,b,c,(d.set j6 true),(ah .i64 e 1),f,g,h,i,k,l,(ah .i64 m 1),()))))))) (some (.inr (.inr (.inl (a,b,c,d,e,g,h,i,())))))
def tH:=aa l7
def zD : Ann:=⟨sh [(1,.av (.ptr 1 0)),(5,.av (.own 5)),(6,.av (.val I)),(7,.av (.val I)),(80,.av (.val yQ3)),(81,.av (.val I)),(82,.av (.val I)),(87,.av (.val (.slice I))),(88,.av (.val I)),(89,.av (.val I))] [(1,.box [.val I,.val (.slice yQ2),.val yQ3]),(5,.arr .bool)],[(.ret,sh [(2,.av (.val .bool))] []),(.exit 4,sh [(1,.av (.ptr 1 0)),(5,.av (.own 5)),(6,.av (.val I)),(80,.av (.val yQ3)),(81,.av (.val I)),(82,.av (.val I))] [(1,.box [.val I,.val (.slice yQ2),.val yQ3]),(5,.arr .bool)])],tH⟩
def mm (x : Q29) : Option (Q29⊕((Bool×Unit)⊕((List Bool×Int×Unit)⊕Empty))) :=
 let (a,b,c,d,e,f,g,h,_):=x; cond (ltI h g) ((ar f h).bind fun y1=>(tH (a,b,c,d,e,h,f,g,h,y1,(y1.length : Nat),0,())).bind (Sum.elim (fun z3=>some (.inr (.inl (z3.1,())))) (Sum.elim (fun (a_4,b_4,c_4,d_4,e_4,f_4,g_4,h_4,_)=>some (.inl (a_4,b_4,c_4,d_4,e_4,f_4,g_4,(ah .i64 h_4 1),()))) (fun _=>none)))) (some (.inr (.inr (.inl (d,e,())))))
def tp:=aa mm
def zf : Ann:=⟨sh [(1,.av (.ptr 1 0)),(5,.av (.own 5)),(6,.av (.val I)),(80,.av (.val yQ3)),(81,.av (.val I)),(82,.av (.val I))] [(1,.box [.val I,.val (.slice yQ2),.val yQ3]),(5,.arr .bool)],[(.ret,sh [(2,.av (.val .bool))] []),(.exit 2,sh [(5,.av (.own 5)),(6,.av (.val I))] [(5,.arr .bool)])],tp⟩
def rl (x : (Int×(List Q2)×(List (List Int))×(List Q2)×Int×Int×Unit)) : Option ((Int×(List Q2)×(List (List Int))×(List Q2)×Int×Int×Unit)⊕((Bool×Unit)⊕(Q9⊕Empty))) :=
 let (a,b,c,d,e,f,_):=x; cond (ltI f e) ((ar d f).bind fun y1=>cond (ltI y1.1 0) (some (.inr (.inl (false,())))) (cond (geI y1.1 a) (some (.inr (.inl (false,())))) (cond (ltI y1.2.1 0) (some (.inr (.inl (false,())))) (cond (geI y1.2.1 a) (some (.inr (.inl (false,())))) (cond (eqI y1.1 y1.2.1) (some (.inr (.inl (false,())))) (some (.inl (a,b,c,d,e,(ah .i64 f 1),())))))))) (some (.inr (.inr (.inl (a,b,c,())))))
def xe:=aa rl
def Cq : Ann:=⟨sh [(1,.av (.ptr 1 0)),(38,.av (.val (.slice yQ2))),(39,.av (.val I)),(40,.av (.val I))] [(1,.box [.val I,.val (.slice yQ2),.val yQ3])],[(.ret,sh [(2,.av (.val .bool))] []),(.exit 0,sh [(1,.av (.ptr 1 0))] [(1,.box [.val I,.val (.slice yQ2),.val yQ3])])],xe⟩
def Zbb (x : (Q9×Unit)) : Option (Bool×Unit) :=
 let ((a,b,c,_),_):=x; cond (ltI a 0) (some (false,())) ((ar [16384,32768] 0).bind fun y1=>cond (gtI a y1) (some (false,())) ((ar [16384,32768] 1).bind fun y2=>cond (gtI (b.length : Nat) y2) (some (false,())) (cond (neI (c.length : Nat) a) (some (false,())) ((xe (a,b,c,b,(b.length : Nat),0,())).bind (Sum.elim (fun z4=>some (z4.1,())) (Sum.elim (fun (a_5,b_5,c_5,_)=>(dO .bool (aN .i64 2 (b_5.length : Nat)) (aN .i64 2 (b_5.length : Nat))).bind fun m6=>(tp (a_5,b_5,c_5,m6,0,c_5,(c_5.length : Nat),0,())).bind (Sum.elim (fun z8=>some (z8.1,())) (Sum.elim (fun z9=>some ((eqI z9.2.1 (z9.1.length : Nat)),())) (fun _=>none)))) (fun _=>none)))))))
def pg : Fn:=mkF (cx [zg]) [(4,Cq),(12,zf),(15,zD)] 64 Tryd.f64 [(.rd,yQ6)] [(.tmp 2,true,.bool)] Zbb [lp 4 Cq rl,lp 12 zf mm,lp 15 zD l7] aj af rfl
def Zbl (x : Q10) : Option (Int×Unit) :=
 let ((a,b,c,_),d,_):=x; (Zbb ((a,b,c,()),())).bind fun r1=>cond (!r1.1) (some ((-1),())) (cond (ltI d 0) (some ((-1),())) (cond (geI d (aN .i64 2 (b.length : Nat))) (some ((-1),())) ((ar b (eG .i64 d 2)).bind fun y2=>(Zbi (y2,(gF d 2),())).bind fun r3=>some (r3.1,()))))
def BH : Fn:=mkF (cx [pg,zg]) [] 59 Tryd.f59 [(.rd,yQ6),(.rd,I)] [(.tmp 4,true,I)] Zbl [] aj af rfl
def mg (x : Q31) : Option (Q31⊕(Q15⊕Empty)) :=
 let (a,b,c,d,e,f,g,h,i,_):=x; cond (ltI i h) ((ar g i).bind fun y1=>(Zbl ((a,b,c,()),(ip .i64 y1 1),())).bind fun r2=>(aJ d.length r2.1).bind fun j3=>(d[j3]?).bind fun y4=>cond (!y4) ((aJ d.length r2.1).bind fun j5=>(d[j5]?).bind fun y6=>(app e [r2.1]).bind fun a7=>some (.inl (a,b,c,(d.set j5 true),a7,f,g,h,(ah .i64 i 1),()))) (some (.inl (a,b,c,d,e,f,g,h,(ah .i64 i 1),())))) (some (.inr (.inl (a,b,c,d,e,f,()))))
def sX:=aa mg
def zb : Ann:=⟨sh [(1,.av (.ptr 1 0)),(3,.av (.own 3)),(4,.av (.own 4)),(5,.av (.val I)),(39,.av (.val (.slice I))),(40,.av (.val I)),(41,.av (.val I))] [(1,.box [.val I,.val (.slice yQ2),.val yQ3]),(3,.arr .bool),(4,.arr I)],[(.exit 2,sh [(1,.av (.ptr 1 0)),(3,.av (.own 3)),(4,.av (.own 4)),(5,.av (.val I))] [(1,.box [.val I,.val (.slice yQ2),.val yQ3]),(3,.arr .bool),(4,.arr I)])],sX⟩
def qn (x : Q15) : Option (Q15⊕(Q13⊕Empty)) :=
 let (a,b,c,d,e,f,_):=x; cond (gtI (e.length : Nat) 0) ((aJ e.length (bf .i64 (e.length : Nat) 1)).bind fun j1=>(e[j1]?).bind fun y2=>(iC e.length 0 (bf .i64 (e.length : Nat) 1)).bind fun v3=>(ar c y2).bind fun y4=>(sX (a,b,c,d,((e.drop v3.1).take v3.2),(ah .i64 f 1),y4,(y4.length : Nat),0,())).bind (Sum.elim (fun (a_6,b_6,c_6,d_6,e_6,f_6,_)=>some (.inl (a_6,b_6,c_6,d_6,e_6,f_6,()))) (fun _=>none))) (some (.inr (.inl (a,b,c,f,()))))
def t9:=aa qn
def CX : Ann:=⟨sh [(1,.av (.ptr 1 0)),(3,.av (.own 3)),(4,.av (.own 4)),(5,.av (.val I))] [(1,.box [.val I,.val (.slice yQ2),.val yQ3]),(3,.arr .bool),(4,.arr I)],[(.exit 0,sh [(1,.av (.ptr 1 0)),(5,.av (.val I))] [(1,.box [.val I,.val (.slice yQ2),.val yQ3])])],t9⟩
def Zau (x : (Q9×Unit)) : Option (Bool×Unit) :=
 let ((a,b,c,_),_):=x; cond (eqI a 0) (some (false,())) ((dO .bool a a).bind fun m1=>(aJ m1.length 0).bind fun j2=>(m1[j2]?).bind fun y3=>(t9 (a,b,c,(m1.set j2 true),[0],0,())).bind (Sum.elim (fun z5=>some ((eqI z5.2.2.2.1 z5.1),())) (fun _=>none)))
def GH : Fn:=mkF (cx [BH]) [(6,CX),(11,zb)] 72 Tryd.f72 [(.rd,yQ6)] [(.tmp 2,true,.bool)] Zau [lp 6 CX qn,lp 11 zb mg] aj af rfl
def qM (x : Q23) : Option (Q23⊕(Q12⊕Empty)) :=
 let (a,b,c,d,e,f,g,h,_):=x; cond (ltI h g) ((ar f h).bind fun y1=>cond (eqI (b.length : Nat) 0) none ((ar b (gF (ah .i64 h 1) (b.length : Nat))).bind fun y2=>(aJ a.length (ip .i64 y1 1)).bind fun j3=>(a[j3]?).bind fun y4=>some (.inl ((a.set j3 y2),b,c,d,e,f,g,(ah .i64 h 1),())))) (some (.inr (.inl (a,c,d,e,()))))
def yA:=aa qM
def Du : Ann:=⟨sh [(3,.av (.own 3)),(5,.av (.val (.slice I))),(14,.av (.val yQ3)),(15,.av (.val I)),(16,.av (.val I)),(20,.av (.val (.slice I))),(21,.av (.val I)),(22,.av (.val I))] [(3,.arr I)],[(.exit 2,sh [(3,.av (.own 3)),(14,.av (.val yQ3)),(15,.av (.val I)),(16,.av (.val I))] [(3,.arr I)])],yA⟩
def pG (x : Q12) : Option (Q12⊕(Q1⊕Empty)) :=
 let (a,b,c,d,_):=x; cond (ltI d c) ((ar b d).bind fun y1=>(yA (a,y1,b,c,d,y1,(y1.length : Nat),0,())).bind (Sum.elim (fun z3=>some (.inl (z3.1,z3.2.1,z3.2.2.1,(ah .i64 z3.2.2.2.1 1),()))) (fun _=>none))) (some (.inr (.inl (a,()))))
def tM:=aa pG
def BL : Ann:=⟨sh [(3,.av (.own 3)),(14,.av (.val yQ3)),(15,.av (.val I)),(16,.av (.val I))] [(3,.arr I)],[(.exit 0,sh [(3,.av (.own 3))] [(3,.arr I)])],tM⟩
def Zav (x : (Q9×Unit)) : Option Q1 :=
 let ((_,a,b,_),_):=x; (dO I (aN .i64 2 (a.length : Nat)) (aN .i64 2 (a.length : Nat))).bind fun m1=>(tM (m1,b,(b.length : Nat),0,())).bind (Sum.elim (fun z3=>some (z3.1,())) (fun _=>none))
def Ha : Fn:=mkF (cx []) [(3,BL),(6,Du)] 65 Tryd.f65 [(.rd,yQ6)] [(.tmp 2,true,(.slice I))] Zav [lp 3 BL pG,lp 6 Du qM] aj af rfl
def mD (x : Q17) : Option (Q17⊕((List Int×List Bool×(List (List Int))×List Int×Int×Int×Unit)⊕Empty)) :=
 let (a,b,c,d,e,f,g,_):=x; (aJ b.length e).bind fun j1=>(b[j1]?).bind fun y2=>cond (!y2) ((aJ b.length e).bind fun j3=>(b[j3]?).bind fun y4=>(app d [e]).bind fun a5=>(aJ a.length e).bind fun j6=>(a[j6]?).bind fun y7=>some (.inl (a,(b.set j3 true),c,a5,y7,f,g,()))) (some (.inr (.inl (a,b,c,d,f,g,()))))
def uJ:=aa mD
def yZ : Ann:=⟨sh [(3,.av (.own 3)),(4,.av (.own 4)),(5,.av (.own 5)),(7,.av (.own 7)),(8,.av (.val I)),(18,.av (.val I)),(19,.av (.val I))] [(3,.arr I),(4,.arr .bool),(5,.arr (.slice I)),(7,.arr I)],[(.exit 2,sh [(3,.av (.own 3)),(4,.av (.own 4)),(5,.av (.own 5)),(7,.av (.own 7)),(18,.av (.val I)),(19,.av (.val I))] [(3,.arr I),(4,.arr .bool),(5,.arr (.slice I)),(7,.arr I)])],uJ⟩
def qj (x : (List Int×List Bool×(List (List Int))×Int×Int×Unit)) : Option ((List Int×List Bool×(List (List Int))×Int×Int×Unit)⊕(Q5⊕Empty)) :=
 let (a,b,c,d,e,_):=x; cond (ltI e d) ((uJ (a,b,c,[],e,d,e,())).bind (Sum.elim (fun (a_2,b_2,c_2,d_2,e_2,f_2,_)=>cond (gtI (d_2.length : Nat) 0) ((app c_2 [d_2]).bind fun a3=>some (.inl (a_2,b_2,a3,e_2,(ah .i64 f_2 1),()))) (some (.inl (a_2,b_2,c_2,e_2,(ah .i64 f_2 1),())))) (fun _=>none))) (some (.inr (.inl (c,()))))
def x6:=aa qj
def DJ : Ann:=⟨sh [(3,.av (.own 3)),(4,.av (.own 4)),(5,.av (.own 5)),(18,.av (.val I)),(19,.av (.val I))] [(3,.arr I),(4,.arr .bool),(5,.arr (.slice I))],[(.exit 0,sh [(5,.av (.own 5))] [(5,.arr (.slice I))])],x6⟩
def Zbf (x : (Q9×Unit)) : Option Q5 :=
 let ((a,b,c,_),_):=x; (Zbb ((a,b,c,()),())).bind fun r1=>cond (!r1.1) (some ([],())) ((Zav ((a,b,c,()),())).bind fun r2=>(dO .bool (r2.1.length : Nat) (r2.1.length : Nat)).bind fun m3=>(x6 (r2.1,m3,[],(r2.1.length : Nat),0,())).bind (Sum.elim (fun z5=>some (z5.1,())) (fun _=>none)))
def wF : Fn:=mkF (cx [pg,Ha]) [(7,DJ),(11,yZ)] 39 Tryd.f39 [(.rd,yQ6)] [(.tmp 2,true,yQ3)] Zbf [lp 7 DJ qj,lp 11 yZ mD] aj af rfl
def qb (x : Q37) : Option (Q37⊕(Q25⊕Empty)) :=
 let (a,b,c,d,e,f,g,h,i,k,l,_):=x; cond (ltI l k) ((ar i l).bind fun y1=>(ar b (eG .i64 y1 2)).bind fun y2=>(Zbi (y2,(ip .i64 (gF y1 2) 1),())).bind fun r3=>(aJ d.length r3.1).bind fun j4=>(d[j4]?).bind fun y5=>cond (!y5) ((aJ d.length r3.1).bind fun j6=>(d[j6]?).bind fun y7=>(app e [r3.1]).bind fun a8=>some (.inl (a,b,c,(d.set j6 true),a8,f,g,h,i,k,(ah .i64 l 1),()))) (some (.inl (a,b,c,d,e,f,g,h,i,k,(ah .i64 l 1),())))) (some (.inr (.inl (a,b,c,d,e,f,g,h,()))))
def yH:=aa qb
def DQ : Ann:=⟨sh [(1,.av (.ptr 1 0)),(3,.av (.own 3)),(4,.av (.val I)),(6,.av (.own 6)),(14,.av (.val I)),(15,.av (.val I)),(40,.av (.val (.slice I))),(41,.av (.val I)),(42,.av (.val I))] [(1,.box [.val I,.val (.slice yQ2),.val yQ3]),(3,.arr .bool),(6,.arr I)],[(.exit 4,sh [(1,.av (.ptr 1 0)),(3,.av (.own 3)),(4,.av (.val I)),(6,.av (.own 6)),(14,.av (.val I)),(15,.av (.val I))] [(1,.box [.val I,.val (.slice yQ2),.val yQ3]),(3,.arr .bool),(6,.arr I)])],yH⟩
def jX (x : Q25) : Option (Q25⊕(Q16⊕Empty)) :=
 let (a,b,c,d,e,f,g,h,_):=x; cond (gtI (e.length : Nat) 0) ((aJ e.length 0).bind fun j1=>(e[j1]?).bind fun y2=>(ar c y2).bind fun y3=>(yH (a,b,c,d,e,f,g,h,y3,(y3.length : Nat),0,())).bind (Sum.elim (fun (a_5,b_5,c_5,d_5,e_5,f_5,g_5,h_5,_)=>(iC e_5.length 1 (e_5.length : Nat)).bind fun v6=>some (.inl (a_5,b_5,c_5,d_5,((e_5.drop v6.1).take v6.2),f_5,g_5,h_5,()))) (fun _=>none))) (some (.inr (.inl (a,b,c,d,f,g,h,()))))
def qc:=aa jX
def Ct : Ann:=⟨sh [(1,.av (.ptr 1 0)),(3,.av (.own 3)),(4,.av (.val I)),(6,.av (.own 6)),(14,.av (.val I)),(15,.av (.val I))] [(1,.box [.val I,.val (.slice yQ2),.val yQ3]),(3,.arr .bool),(6,.arr I)],[(.exit 2,sh [(1,.av (.ptr 1 0)),(3,.av (.own 3)),(4,.av (.val I)),(14,.av (.val I)),(15,.av (.val I))] [(1,.box [.val I,.val (.slice yQ2),.val yQ3]),(3,.arr .bool)])],qc⟩
def jh (x : Q16) : Option (Q16⊕((Int×Unit)⊕Empty)) :=
 let (a,b,c,d,e,f,g,_):=x; cond (ltI g f) ((aJ d.length g).bind fun j1=>(d[j1]?).bind fun y2=>cond y2 (some (.inl (a,b,c,d,e,f,(ah .i64 g 1),()))) ((aJ d.length g).bind fun j3=>(d[j3]?).bind fun y4=>(qc (a,b,c,(d.set j3 true),[g],(ah .i64 e 1),f,g,())).bind (Sum.elim (fun (a_6,b_6,c_6,d_6,e_6,f_6,g_6,_)=>some (.inl (a_6,b_6,c_6,d_6,e_6,f_6,(ah .i64 g_6 1),()))) (fun _=>none)))) (some (.inr (.inl (e,()))))
def sV:=aa jh
def FA : Ann:=⟨sh [(1,.av (.ptr 1 0)),(3,.av (.own 3)),(4,.av (.val I)),(14,.av (.val I)),(15,.av (.val I))] [(1,.box [.val I,.val (.slice yQ2),.val yQ3]),(3,.arr .bool)],[(.exit 0,sh [(4,.av (.val I))] [])],sV⟩
def Zj (x : (Q9×Unit)) : Option (Int×Unit) :=
 let ((a,b,c,_),_):=x; (dO .bool a a).bind fun m1=>(sV (a,b,c,m1,0,a,0,())).bind (Sum.elim (fun z3=>some (z3.1,())) (fun _=>none))
def HM : Fn:=mkF (cx [zg]) [(4,FA),(10,Ct),(13,DQ)] 86 Tryd.f86 [(.rd,yQ6)] [(.tmp 2,true,I)] Zj [lp 4 FA jh,lp 10 Ct jX,lp 13 DQ qb] aj af rfl
def jr (x : Q21) : Option (Q21⊕(Q13⊕Empty)) :=
 let (a,b,c,d,e,f,g,_):=x; cond (ltI g f) ((ar e g).bind fun y1=>cond (eqI (y1.length : Nat) 0) (some (.inl (a,b,c,(ah .i64 d 1),e,f,(ah .i64 g 1),()))) (some (.inl (a,b,c,d,e,f,(ah .i64 g 1),())))) (some (.inr (.inl (a,b,c,d,()))))
def uI:=aa jr
def En : Ann:=⟨sh [(1,.av (.ptr 1 0)),(3,.av (.val I)),(13,.av (.val yQ3)),(14,.av (.val I)),(15,.av (.val I))] [(1,.box [.val I,.val (.slice yQ2),.val yQ3])],[(.exit 0,sh [(1,.av (.ptr 1 0)),(3,.av (.val I))] [(1,.box [.val I,.val (.slice yQ2),.val yQ3])])],uI⟩
def Zbe (x : (Q9×Unit)) : Option (Int×Unit) :=
 let ((a,b,c,_),_):=x; (Zbb ((a,b,c,()),())).bind fun r1=>cond (!r1.1) (some ((-1),())) ((Zbf ((a,b,c,()),())).bind fun r2=>(uI (a,b,c,(r2.1.length : Nat),c,(c.length : Nat),0,())).bind (Sum.elim (fun z4=>(Zj ((z4.1,z4.2.1,z4.2.2.1,()),())).bind fun r5=>some ((bf .i64 r5.1 (eG .i64 (ah .i64 (bf .i64 z4.1 (z4.2.1.length : Nat)) z4.2.2.2.1) 2)),())) (fun _=>none)))
def G7 : Fn:=mkF (cx [wF,pg,HM]) [(5,En)] 73 Tryd.f73 [(.rd,yQ6)] [(.tmp 2,true,I)] Zbe [lp 5 En jr] aj af rfl
def rg (x : Q49) : Option (Q49⊕((Bool×Unit)⊕((Int×(List Q2)×(List (List Int))×List Int×List ByteArray×Int×List Int×Int×(List (List Int))×Int×Int×Unit)⊕Empty))) :=
 let (a,b,c,d,e,f,g,h,i,k,l,m,n,o,_):=x; cond (ltI o n) ((ar m o).bind fun y1=>(ar d y1).bind fun y2=>cond (ltI y2 1) (some (.inr (.inl (false,())))) ((ar d y1).bind fun y3=>cond (gtI y3 4) (some (.inr (.inl (false,())))) ((ar d y1).bind fun y4=>some (.inl (a,b,c,d,e,f,g,(ah .i64 h y4),i,k,l,m,n,(ah .i64 o 1),()))))) (some (.inr (.inr (.inl (a,b,c,d,e,f,g,h,i,k,l,())))))
def xS:=aa rg
def Eu : Ann:=⟨sh [(1,.av (.ptr 1 0)),(4,.av (.val (.slice I))),(5,.av (.val I)),(10,.av (.val yQ3)),(11,.av (.val I)),(12,.av (.val I)),(16,.av (.val (.slice I))),(17,.av (.val I)),(18,.av (.val I))] [(1,.box [.val I,.val (.slice yQ2),.val yQ3,.val (.slice I),.val (.slice .str),.val I])],[(.ret,sh [(2,.av (.val .bool))] []),(.exit 2,sh [(1,.av (.ptr 1 0)),(4,.av (.val (.slice I))),(5,.av (.val I)),(10,.av (.val yQ3)),(11,.av (.val I)),(12,.av (.val I))] [(1,.box [.val I,.val (.slice yQ2),.val yQ3,.val (.slice I),.val (.slice .str),.val I])])],xS⟩
def rp (x : Q39) : Option (Q39⊕((Bool×Unit)⊕(Unit⊕Empty))) :=
 let (a,b,c,d,e,f,g,h,i,_):=x; cond (ltI i h) ((ar g i).bind fun y1=>(xS (a,b,c,d,e,f,y1,0,g,h,i,y1,(y1.length : Nat),0,())).bind (Sum.elim (fun z3=>some (.inr (.inl (z3.1,())))) (Sum.elim (fun (a_4,b_4,c_4,d_4,e_4,f_4,g_4,h_4,i_4,k_4,l_4,_)=>cond (gtI (g_4.length : Nat) 0) (cond (neI h_4 4) (some (.inr (.inl (false,())))) (some (.inl (a_4,b_4,c_4,d_4,e_4,f_4,i_4,k_4,(ah .i64 l_4 1),())))) (some (.inl (a_4,b_4,c_4,d_4,e_4,f_4,i_4,k_4,(ah .i64 l_4 1),())))) (fun _=>none)))) (some (.inr (.inr (.inl ()))))
def wW:=aa rp
def BU : Ann:=⟨sh [(1,.av (.ptr 1 0)),(10,.av (.val yQ3)),(11,.av (.val I)),(12,.av (.val I))] [(1,.box [.val I,.val (.slice yQ2),.val yQ3,.val (.slice I),.val (.slice .str),.val I])],[(.ret,sh [(2,.av (.val .bool))] []),(.exit 0,sh [] [])],wW⟩
def Zbp (x : (Q11×Unit)) : Option (Bool×Unit) :=
 let (((a,b,c,_),d,e,f,_),_):=x; (wW (a,b,c,d,e,f,c,(c.length : Nat),0,())).bind (Sum.elim (fun z2=>some (z2.1,())) (Sum.elim (fun z3=>some (true,())) (fun _=>none)))
def He : Fn:=mkF (cx []) [(2,BU),(6,Eu)] 74 Tryd.f74 [(.rd,yQ9)] [(.tmp 2,true,.bool)] Zbp [lp 2 BU rp,lp 6 Eu rg] aj af rfl
def Zbh (x : (Int×Unit)) : Option (Int×Bool×Unit) :=
 cond (eqI x.1 76) (some (82,true,())) (cond (eqI x.1 82) (some (76,true,())) (some (x.1,false,())))
def FT : Fn:=mkF (cx []) [] 87 Tryd.f87 [(.rd,(.int .u8))] [(.tmp 2,true,(.int .u8)),(.tmp 3,true,.bool)] Zbh [] aj af rfl
def nq (x : Q6) : Option (Q6⊕((Bool×Unit)⊕(Unit⊕Empty))) :=
 let (a,b,c,_):=x; cond (ltI c b) ((aJ a.length c).bind fun j1=>(a[j1]?).bind fun y2=>(Zbh (y2,())).bind fun r3=>cond (!r3.2.1) (some (.inr (.inl (false,())))) (some (.inl (a,b,(ah .i64 c 1),())))) (some (.inr (.inr (.inl ()))))
def tW:=aa nq
def BG : Ann:=⟨sh [(11,.av (.own 11)),(12,.av (.val I)),(13,.av (.val I))] [(11,.arr (.int .u8))],[(.ret,sh [(2,.av (.val .bool))] []),(.exit 0,sh [] [])],tW⟩
def Zby (x : Q3) : Option (Bool×Unit) :=
 cond (gtI (x.1.size : Nat) 64) (some (false,())) ((tW ((ac x.1),((ac x.1).length : Nat),0,())).bind (Sum.elim (fun z2=>some (z2.1,())) (Sum.elim (fun z3=>some (true,())) (fun _=>none))))
def Hd : Fn:=mkF (cx [FT]) [(4,BG)] 75 Tryd.f75 [(.rd,.str)] [(.tmp 2,true,.bool)] Zby [lp 4 BG nq] aj af rfl
def Fy (x : Q6) : Option (Q6⊕(Q1⊕Empty)) :=
 let (a,b,c,_):=x; cond (ltI b c) ((aJ a.length c).bind fun j1=>(a[j1]?).bind fun y2=>(aJ a.length b).bind fun j3=>(a[j3]?).bind fun y4=>(aJ a.length b).bind fun j5=>(a[j5]?).bind fun y6=>(aJ (a.set j5 y2).length c).bind fun j7=>((a.set j5 y2)[j7]?).bind fun y8=>some (.inl (((a.set j5 y2).set j7 y4),(ah .i64 b 1),(bf .i64 c 1),()))) (some (.inr (.inl (a,()))))
def Bx:=aa Fy
def Fo : Ann:=⟨⟨[(0,.av (.own 0)),(2,.av (.val I)),(3,.av (.val I))],[(0,.arr (.int .u8))],[0]⟩,[(.exit 0,⟨[(0,.av (.own 0))],[(0,.arr (.int .u8))],[0]⟩)],Bx⟩
def Zl (x : Q1) : Option Q1 :=
 (Bx (x.1,0,(bf .i64 (x.1.length : Nat) 1),())).bind (Sum.elim (fun z2=>some (z2.1,())) (fun _=>none))
def Hz : Fn:=mkF (cx []) [(1,Fo)] 88 Tryd.f88 [(.upd,(.slice (.int .u8)))] [] Zl [lp 1 Fo Fy] aj af rfl
def nD (x : Q6) : Option (Q6⊕(Q1⊕Empty)) :=
 let (a,b,c,_):=x; cond (ltI c b) ((aJ a.length c).bind fun j1=>(a[j1]?).bind fun y2=>(Zbh (y2,())).bind fun r3=>(aJ a.length c).bind fun j4=>(a[j4]?).bind fun y5=>some (.inl ((a.set j4 r3.1),b,(ah .i64 c 1),()))) (some (.inr (.inl (a,()))))
def tq:=aa nD
def CL : Ann:=⟨sh [(3,.av (.own 3)),(10,.av (.own 3)),(11,.av (.val I)),(12,.av (.val I))] [(3,.arr (.int .u8))],[(.exit 0,sh [(3,.av (.own 3))] [(3,.arr (.int .u8))])],tq⟩
def Zbk (x : Q3) : Option Q3 :=
 (Zl ((ac x.1),())).bind fun r1=>(tq (r1.1,(r1.1.length : Nat),0,())).bind (Sum.elim (fun z3=>some ((cP z3.1),())) (fun _=>none))
def GM : Fn:=mkF (cx [FT,Hz]) [(4,CL)] 76 Tryd.f76 [(.rd,.str)] [(.tmp 2,true,.str)] Zbk [lp 4 CL nD] aj af rfl
def nj (x : Q8) : Option (Q8⊕((Int×Unit)⊕(Unit⊕Empty))) :=
 let (a,b,c,d,_):=x; cond (ltI d c) ((ar a d).bind fun y1=>cond (eqI b y1) (some (.inr (.inl (d,())))) (some (.inl (a,b,c,(ah .i64 d 1),())))) (some (.inr (.inr (.inl ()))))
def sZ:=aa nj
def Eh : Ann:=⟨sh [(0,.av (.val (.slice I))),(1,.av (.val I)),(7,.av (.val I)),(8,.av (.val I))] [],[(.ret,sh [(4,.av (.val I))] []),(.exit 0,sh [] [])],sZ⟩
def Zam (x : Q4) : Option (Int×Unit) :=
 (sZ (x.1,x.2.1,(x.1.length : Nat),0,())).bind (Sum.elim (fun z2=>some (z2.1,())) (Sum.elim (fun z3=>some ((-1),())) (fun _=>none)))
def vF : Fn:=mkF (cx []) [(2,Eh)] 66 Tryd.f66 [(.rd,(.slice I)),(.rd,I)] [(.tmp 4,true,I)] Zam [lp 2 Eh nj] aj af rfl
def Zk (x : Q4) : Option (Bool×Unit) :=
 (Zam (x.1,x.2.1,())).bind fun r1=>some ((geI r1.1 0),())
def F6 : Fn:=mkF (cx [vF]) [] 40 Tryd.f40 [(.rd,(.slice I)),(.rd,I)] [(.tmp 4,true,.bool)] Zk [] aj af rfl
def qI (x : Q8) : Option (Q8⊕((Int×Unit)⊕Empty)) :=
 let (a,b,c,d,_):=x; cond (ltI d c) ((aJ a.length d).bind fun j1=>(a[j1]?).bind fun y2=>cond (eqI y2 76) (some (.inl (a,(ah .i64 b 1),c,(ah .i64 d 1),()))) (some (.inl (a,(bf .i64 b 1),c,(ah .i64 d 1),())))) (some (.inr (.inl (b,()))))
def uC:=aa qI
def CP : Ann:=⟨sh [(5,.av (.val I)),(20,.av (.own 20)),(21,.av (.val I)),(22,.av (.val I))] [(20,.arr (.int .u8))],[(.exit 0,sh [(5,.av (.val I))] [])],uC⟩
def Zbx (x : (Q11×Int×Unit)) : Option (Int×Unit) :=
 (ar x.1.2.1 (ip .i64 x.2.1 1)).bind fun y1=>(ar x.1.2.2.1 x.2.1).bind fun y2=>(uC ((ac y2),(bf .i64 2 y1),((ac y2).length : Nat),0,())).bind (Sum.elim (fun z4=>some (z4.1,())) (fun _=>none))
def G6 : Fn:=mkF (cx []) [(3,CP)] 89 Tryd.f89 [(.rd,yQ9),(.rd,I)] [(.tmp 4,true,I)] Zbx [lp 3 CP qI] aj af rfl
def qO (x : Q36) : Option (Q36⊕((Int×Unit)⊕Empty)) :=
 let (a,b,c,d,e,f,g,h,i,k,_):=x; cond (ltI k i) ((ar h k).bind fun y1=>(Zbx (((a,b,c,()),d,e,f,()),y1,())).bind fun r2=>some (.inl (a,b,c,d,e,f,(ah .i64 g r2.1),h,i,(ah .i64 k 1),()))) (some (.inr (.inl (g,()))))
def tm:=aa qO
def Ed : Ann:=⟨sh [(2,.av (.ptr 2 0)),(5,.av (.val I)),(8,.av (.val (.slice I))),(9,.av (.val I)),(10,.av (.val I))] [(2,.box [.val I,.val (.slice yQ2),.val yQ3,.val (.slice I),.val (.slice .str),.val I])],[(.exit 0,sh [(5,.av (.val I))] [])],tm⟩
def Zbs (x : (Q11×List Int×Unit)) : Option (Int×Unit) :=
 let (((a,b,c,_),d,e,f,_),g,_):=x; (tm (a,b,c,d,e,f,0,g,(g.length : Nat),0,())).bind (Sum.elim (fun z2=>some (z2.1,())) (fun _=>none))
def Hg : Fn:=mkF (cx [G6]) [(3,Ed)] 77 Tryd.f77 [(.rd,yQ9),(.rd,(.slice I))] [(.tmp 4,true,I)] Zbs [lp 3 Ed qO] aj af rfl
def mM (x : Q39) : Option (Q39⊕((Bool×Unit)⊕(Unit⊕Empty))) :=
 let (a,b,c,d,e,f,g,h,i,_):=x; cond (ltI i h) ((aJ g.length i).bind fun j1=>(g[j1]?).bind fun y2=>(Zk (y2,f,())).bind fun r3=>cond r3.1 ((Zbs (((a,b,c,()),d,e,f,()),y2,())).bind fun r4=>cond (neI r4.1 (-4)) (some (.inr (.inl (false,())))) (some (.inl (a,b,c,d,e,f,g,h,(ah .i64 i 1),())))) ((Zbs (((a,b,c,()),d,e,f,()),y2,())).bind fun r5=>cond (neI r5.1 4) (some (.inr (.inl (false,())))) (some (.inl (a,b,c,d,e,f,g,h,(ah .i64 i 1),()))))) (some (.inr (.inr (.inl ()))))
def oO:=aa mM
def yP : Ann:=⟨sh [(1,.av (.ptr 1 0)),(85,.av (.own 85)),(86,.av (.val I)),(87,.av (.val I))] [(1,.box [.val I,.val (.slice yQ2),.val yQ3,.val (.slice I),.val (.slice .str),.val I]),(85,.arr (.slice I))],[(.ret,sh [(2,.av (.val .bool))] []),(.exit 2,sh [] [])],oO⟩
def rk (x : Q45) : Option (Q45⊕((Bool×Unit)⊕((Int×(List Q2)×(List (List Int))×List Int×List ByteArray×Int×Int×(List Q2)×(List (List Int))×Unit)⊕Empty))) :=
 let (a,b,c,d,e,f,g,h,i,k,l,_):=x; cond (ltI l k) ((ar e l).bind fun y1=>(Zby (y1,())).bind fun r2=>cond (!r2.1) (some (.inr (.inl (false,())))) ((ar e (ah .i64 l 1)).bind fun y3=>(ar e l).bind fun y4=>(Zbk (y4,())).bind fun r5=>cond (neS y3 r5.1) (some (.inr (.inl (false,())))) (some (.inl (a,b,c,d,e,f,g,h,i,k,(ah .i64 l 2),()))))) (some (.inr (.inr (.inl (a,b,c,d,e,f,g,h,i,())))))
def ns:=aa rk
def Ev : Ann:=⟨sh [(1,.av (.ptr 1 0)),(3,.av (.ptr 3 0)),(4,.av (.val I)),(5,.av (.val I))] [(1,.box [.val I,.val (.slice yQ2),.val yQ3,.val (.slice I),.val (.slice .str),.val I]),(3,.box [.val I,.val (.slice yQ2),.val yQ3])],[(.ret,sh [(2,.av (.val .bool))] []),(.exit 0,sh [(1,.av (.ptr 1 0)),(3,.av (.ptr 3 0))] [(1,.box [.val I,.val (.slice yQ2),.val yQ3,.val (.slice I),.val (.slice .str),.val I]),(3,.box [.val I,.val (.slice yQ2),.val yQ3])])],ns⟩
def Zbr (x : (Q11×Unit)) : Option (Bool×Unit) :=
 let (((a,b,c,_),d,e,f,_),_):=x; (Zbb ((a,b,c,()),())).bind fun r1=>cond (!r1.1) (some (false,())) ((Zau ((a,b,c,()),())).bind fun r2=>cond (!r2.1) (some (false,())) ((Zbe ((a,b,c,()),())).bind fun r3=>cond (neI r3.1 0) (some (false,())) (cond (neI (d.length : Nat) (aN .i64 2 (b.length : Nat))) (some (false,())) (cond (neI (e.length : Nat) (aN .i64 2 (b.length : Nat))) (some (false,())) (cond (ltI f 0) (some (false,())) (cond (geI f (ju (aN .i64 2 (b.length : Nat)) 1)) (some (false,())) ((Zbp (((a,b,c,()),d,e,f,()),())).bind fun r4=>cond (!r4.1) (some (false,())) ((ns (a,b,c,d,e,f,a,b,c,(aN .i64 2 (b.length : Nat)),0,())).bind (Sum.elim (fun z6=>some (z6.1,())) (Sum.elim (fun (a_7,b_7,c_7,d_7,e_7,f_7,g_7,h_7,i_7,_)=>(Zbf ((g_7,h_7,i_7,()),())).bind fun r8=>(oO (a_7,b_7,c_7,d_7,e_7,f_7,r8.1,(r8.1.length : Nat),0,())).bind (Sum.elim (fun z10=>some (z10.1,())) (Sum.elim (fun z11=>some (true,())) (fun _=>none)))) (fun _=>none)))))))))))
def FH : Fn:=mkF (cx [wF,F6,pg,GH,G7,He,Hd,GM,Hg]) [(8,Ev),(13,yP)] 50 Tryd.f50 [(.rd,yQ9)] [(.tmp 2,true,.bool)] Zbr [lp 8 Ev rk,lp 13 yP mM] aj af rfl
def Zbu (x : (Q11×Unit)) : Option (Int×Unit) :=
 let (((a,b,c,_),d,e,f,_),_):=x; (Zbr (((a,b,c,()),d,e,f,()),())).bind fun r1=>cond (!r1.1) (some (13,())) (some (0,()))
def Ei : Fn:=mkF (cx [FH]) [] 25 Tryd.f25 [(.rd,yQ9)] [(.tmp 2,true,I)] Zbu [] aj af rfl
def tz (x : Q47) : Option (Q47⊕(Q41⊕Empty)) :=
 let (a,b,c,d,e,f,g,h,i,k,l,m,_):=x; (pF .unit (.prod .str I) h).bind fun q1=>cond (hU q1) ((ar i q1.2).bind fun y2=>(ar i (ah .i64 q1.2 1)).bind fun y3=>(aJ g.length (ah .i64 y2 1)).bind fun j4=>(g[j4]?).bind fun y5=>(aJ (g.set j4 1).length y3).bind fun j6=>((g.set j4 1)[j6]?).bind fun y7=>cond (eqI (iM q1) 82) ((ar i q1.2).bind fun y8=>(ar i (ah .i64 q1.2 1)).bind fun y9=>(aJ ((g.set j4 1).set j6 3).length (ah .i64 y8 1)).bind fun j10=>(((g.set j4 1).set j6 3)[j10]?).bind fun y11=>(aJ (((g.set j4 1).set j6 3).set j10 3).length y9).bind fun j12=>((((g.set j4 1).set j6 3).set j10 3)[j12]?).bind fun y13=>some (.inl (a,b,c,d,e,f,((((g.set j4 1).set j6 3).set j10 3).set j12 1),[((),jt q1)],i,k,l,m,()))) (some (.inl (a,b,c,d,e,f,((g.set j4 1).set j6 3),[((),jt q1)],i,k,l,m,())))) (some (.inr (.inl (a,b,c,d,e,f,g,k,l,m,()))))
def uQ:=aa tz
def C0 : Ann:=⟨sh [(3,.av (.ptr 3 0)),(7,.av (.own 7)),(9,.av (.val (.slice I))),(15,.av (.val yQ3)),(16,.av (.val I)),(17,.av (.val I)),(55,.av (.ownm 55))] [(3,.box [.val I,.val (.slice yQ2),.val yQ3,.val (.slice I),.val (.slice .str),.val I]),(7,.arr I),(55,.map .unit (.prod .str I))],[(.exit 2,sh [(3,.av (.ptr 3 0)),(7,.av (.own 7)),(15,.av (.val yQ3)),(16,.av (.val I)),(17,.av (.val I))] [(3,.box [.val I,.val (.slice yQ2),.val yQ3,.val (.slice I),.val (.slice .str),.val I]),(7,.arr I)])],uQ⟩
def tZ (x : Q41) : Option (Q41⊕(Q1⊕Empty)) :=
 let (a,b,c,d,e,f,g,h,i,k,_):=x; cond (ltI k i) ((ar h k).bind fun y1=>(ar y1 0).bind fun y2=>(ar d (aN .i64 2 k)).bind fun y3=>(aJ g.length y2).bind fun j4=>(g[j4]?).bind fun y5=>(ar y1 (bf .i64 (y1.length : Nat) 1)).bind fun y6=>(ar d (ah .i64 (aN .i64 2 k) 1)).bind fun y7=>(aJ (g.set j4 y3).length (ah .i64 y6 1)).bind fun j8=>((g.set j4 y3)[j8]?).bind fun y9=>(ar e (aN .i64 2 k)).bind fun y10=>(uQ (a,b,c,d,e,f,((g.set j4 y3).set j8 y7),[((),y10,0)],y1,h,i,k,())).bind (Sum.elim (fun (a_12,b_12,c_12,d_12,e_12,f_12,g_12,h_12,i_12,k_12,_)=>some (.inl (a_12,b_12,c_12,d_12,e_12,f_12,g_12,h_12,i_12,(ah .i64 k_12 1),()))) (fun _=>none))) (some (.inr (.inl (g,()))))
def ug:=aa tZ
def BK : Ann:=⟨sh [(3,.av (.ptr 3 0)),(7,.av (.own 7)),(15,.av (.val yQ3)),(16,.av (.val I)),(17,.av (.val I))] [(3,.box [.val I,.val (.slice yQ2),.val yQ3,.val (.slice I),.val (.slice .str),.val I]),(7,.arr I)],[(.exit 0,sh [(7,.av (.own 7))] [(7,.arr I)])],ug⟩
def Zba (x : (Q11×(List (List Int))×Int×Unit)) : Option Q1 :=
 let (((a,b,c,_),d,e,f,_),g,h,_):=x; (dO I (aN .i64 2 h) (aN .i64 2 h)).bind fun m1=>(ug (a,b,c,d,e,f,m1,g,(g.length : Nat),0,())).bind (Sum.elim (fun z3=>some (z3.1,())) (fun _=>none))
def Hn : Fn:=mkF (cx []) [(3,BK),(8,C0)] 26 Tryd.f26 [(.rd,yQ9),(.rd,yQ3),(.rd,I)] [(.tmp 6,true,(.slice I))] Zba [lp 3 BK tZ,lp 8 C0 tz] aj af rfl
def Zf (x : (Int×(List (List Int))×Unit)) : Option (Int×Unit) :=
 let (a,b,_):=x; cond (eqI (gF a 2) 0) ((ar b (eG .i64 a 2)).bind fun y1=>(ar y1 0).bind fun y2=>some (y2,())) ((ar b (eG .i64 a 2)).bind fun y3=>(ar b (eG .i64 a 2)).bind fun y4=>(ar y3 (bf .i64 (y4.length : Nat) 1)).bind fun y5=>some ((ah .i64 y5 1),()))
def Hw : Fn:=mkF (cx []) [] 27 Tryd.f27 [(.rd,I),(.rd,(.ptr yQ3))] [(.tmp 3,true,I)] Zf [] aj af rfl
def tc (x : Q61) : Option (Q61⊕((Int×(List Q2)×(List (List Int))×List Int×List ByteArray×Int×Int×Int×Int×Int×(List (List Int))×List Int×(List Q2)×(List (List Int))×List Int×(List (List Int))×(List (List Int))×Int×Int×Unit)⊕Empty)) :=
 cond (ltI x.2.2.2.2.2.2.2.2.2.2.2.2.2.2.2.2.2.2.2.2.2.1 x.2.2.2.2.2.2.2.2.2.2.2.2.2.2.2.2.2.2.2.2.1) ((ar x.2.2.2.2.2.2.2.2.2.2.2.2.2.2.2.2.2.2.2.1 x.2.2.2.2.2.2.2.2.2.2.2.2.2.2.2.2.2.2.2.2.2.1).bind fun y1=>(Zf (y1,x.2.2.2.2.2.2.2.2.2.2.2.2.2.2.2.1,())).bind fun r2=>(app x.2.2.2.2.2.2.2.2.2.2.2.1 [r2.1]).bind fun a3=>some (.inl (x.1,x.2.1,x.2.2.1,x.2.2.2.1,x.2.2.2.2.1,x.2.2.2.2.2.1,x.2.2.2.2.2.2.1,x.2.2.2.2.2.2.2.1,x.2.2.2.2.2.2.2.2.1,x.2.2.2.2.2.2.2.2.2.1,x.2.2.2.2.2.2.2.2.2.2.1,a3,x.2.2.2.2.2.2.2.2.2.2.2.2.1,x.2.2.2.2.2.2.2.2.2.2.2.2.2.1,x.2.2.2.2.2.2.2.2.2.2.2.2.2.2.1,x.2.2.2.2.2.2.2.2.2.2.2.2.2.2.2.1,x.2.2.2.2.2.2.2.2.2.2.2.2.2.2.2.2.1,x.2.2.2.2.2.2.2.2.2.2.2.2.2.2.2.2.2.1,x.2.2.2.2.2.2.2.2.2.2.2.2.2.2.2.2.2.2.1,x.2.2.2.2.2.2.2.2.2.2.2.2.2.2.2.2.2.2.2.1,x.2.2.2.2.2.2.2.2.2.2.2.2.2.2.2.2.2.2.2.2.1,(ah .i64 x.2.2.2.2.2.2.2.2.2.2.2.2.2.2.2.2.2.2.2.2.2.1 1),()))) (some (.inr (.inl (x.1,x.2.1,x.2.2.1,x.2.2.2.1,x.2.2.2.2.1,x.2.2.2.2.2.1,x.2.2.2.2.2.2.1,x.2.2.2.2.2.2.2.1,x.2.2.2.2.2.2.2.2.1,x.2.2.2.2.2.2.2.2.2.1,x.2.2.2.2.2.2.2.2.2.2.1,x.2.2.2.2.2.2.2.2.2.2.2.1,x.2.2.2.2.2.2.2.2.2.2.2.2.1,x.2.2.2.2.2.2.2.2.2.2.2.2.2.1,x.2.2.2.2.2.2.2.2.2.2.2.2.2.2.1,x.2.2.2.2.2.2.2.2.2.2.2.2.2.2.2.1,x.2.2.2.2.2.2.2.2.2.2.2.2.2.2.2.2.1,x.2.2.2.2.2.2.2.2.2.2.2.2.2.2.2.2.2.1,x.2.2.2.2.2.2.2.2.2.2.2.2.2.2.2.2.2.2.1,()))))
def tS:=aa tc
def Cn : Ann:=⟨sh [(1,.av (.ptr 1 0)),(2,.av (.ptr 2 0)),(5,.av (.ptr 5 0)),(6,.av (.ptr 6 0)),(7,.av (.own 7)),(14,.av (.clo 27 [6])),(17,.av (.own 17)),(123,.av (.val yQ3)),(124,.av (.val I)),(125,.av (.val I)),(129,.av (.val (.slice I))),(130,.av (.val I)),(131,.av (.val I))] [(1,.box [.val I,.val (.slice yQ2),.val yQ3,.val (.slice I),.val (.slice .str),.val I]),(2,.box [.val I,.nils,.nils,.nils,.nils,.val I]),(5,.box [.val I,.own 600001,.own 600002,.own 600003,.nils,.val I]),(6,.box [.own 700000]),(7,.arr (.slice I)),(17,.arr I),(600001,.arr yQ2),(600002,.arr (.slice I)),(600003,.arr I),(700000,.arr (.slice I))],[(.exit 6,sh [(1,.av (.ptr 1 0)),(2,.av (.ptr 2 0)),(5,.av (.ptr 5 0)),(6,.av (.ptr 6 0)),(7,.av (.own 7)),(14,.av (.clo 27 [6])),(17,.av (.own 17)),(123,.av (.val yQ3)),(124,.av (.val I)),(125,.av (.val I))] [(1,.box [.val I,.val (.slice yQ2),.val yQ3,.val (.slice I),.val (.slice .str),.val I]),(2,.box [.val I,.nils,.nils,.nils,.nils,.val I]),(5,.box [.val I,.own 600001,.own 600002,.own 600003,.nils,.val I]),(6,.box [.own 700000]),(7,.arr (.slice I)),(17,.arr I),(600001,.arr yQ2),(600002,.arr (.slice I)),(600003,.arr I),(700000,.arr (.slice I))])],tS⟩
def tg (x : Q58) : Option (Q58⊕((Int×(List Q2)×(List (List Int))×List Int×List ByteArray×Int×Int×Int×Int×Int×(List (List Int))×(List Q2)×(List (List Int))×List Int×(List (List Int))×Unit)⊕Empty)) :=
 let (a,b,c,d,e,f,g,h,i,k,l,m,n,o,p,q,s,t,_):=x; cond (ltI t s) ((ar q t).bind fun y1=>(tS (a,b,c,d,e,f,g,h,i,k,l,[],m,n,o,p,q,s,t,y1,(y1.length : Nat),0,())).bind (Sum.elim (fun (a_3,b_3,c_3,d_3,e_3,f_3,g_3,h_3,i_3,k_3,l_3,m_3,n_3,o_3,p_3,q_3,s_3,t_3,u_3,_)=>(app o_3 [m_3]).bind fun a4=>some (.inl (a_3,b_3,c_3,d_3,e_3,f_3,g_3,h_3,i_3,k_3,l_3,n_3,a4,p_3,q_3,s_3,t_3,(ah .i64 u_3 1),()))) (fun _=>none))) (some (.inr (.inl (a,b,c,d,e,f,g,h,i,k,l,m,n,o,p,()))))
def tI:=aa tg
def DB : Ann:=⟨sh [(1,.av (.ptr 1 0)),(2,.av (.ptr 2 0)),(5,.av (.ptr 5 0)),(6,.av (.ptr 6 0)),(7,.av (.own 7)),(14,.av (.clo 27 [6])),(123,.av (.val yQ3)),(124,.av (.val I)),(125,.av (.val I))] [(1,.box [.val I,.val (.slice yQ2),.val yQ3,.val (.slice I),.val (.slice .str),.val I]),(2,.box [.val I,.nils,.nils,.nils,.nils,.val I]),(5,.box [.val I,.own 600001,.own 600002,.own 600003,.nils,.val I]),(6,.box [.own 700000]),(7,.arr (.slice I)),(600001,.arr yQ2),(600002,.arr (.slice I)),(600003,.arr I),(700000,.arr (.slice I))],[(.exit 4,sh [(1,.av (.ptr 1 0)),(2,.av (.ptr 2 0)),(5,.av (.ptr 5 0)),(6,.av (.ptr 6 0)),(7,.av (.own 7)),(14,.av (.clo 27 [6]))] [(1,.box [.val I,.val (.slice yQ2),.val yQ3,.val (.slice I),.val (.slice .str),.val I]),(2,.box [.val I,.nils,.nils,.nils,.nils,.val I]),(5,.box [.val I,.own 600001,.own 600002,.own 600003,.nils,.val I]),(6,.box [.own 700000]),(7,.arr (.slice I)),(600001,.arr yQ2),(600002,.arr (.slice I)),(600003,.arr I),(700000,.arr (.slice I))])],tI⟩
def uU (x : Q57) : Option (Q57⊕((Int×(List Q2)×(List (List Int))×List Int×List ByteArray×Int×Int×Int×Int×Int×(List (List Int))×Int×Int×List Int×(List Q2)×(List (List Int))×Int×(List Q2)×Int×Int×Unit)⊕Empty)) :=
 (pF .unit (.prod .str I) x.2.2.2.2.2.2.2.2.2.2.2.2.2.2.1).bind fun q1=>cond (hU q1) ((app x.2.2.2.2.2.2.2.2.2.2.2.2.2.1 [(aN .i64 2 (x.2.2.2.2.2.2.2.2.2.2.2.2.2.2.2.1.length : Nat))]).bind fun a2=>(app x.2.2.2.2.2.2.2.2.2.2.2.2.2.2.2.1 [(x.2.2.2.2.2.2.2.2.2.2.2.2.2.2.2.2.2.1,x.2.2.2.2.2.2.2.2.1,())]).bind fun a3=>(app x.2.2.2.2.2.2.2.2.2.2.1 [[(ah .i64 (aN .i64 2 (x.2.2.2.2.2.2.2.2.2.2.2.2.2.2.2.1.length : Nat)) 1),(ah .i64 (aN .i64 2 (x.2.2.2.2.2.2.2.2.2.2.2.2.2.2.2.1.length : Nat)) 2)]]).bind fun a4=>some (.inl (x.1,x.2.1,x.2.2.1,x.2.2.2.1,x.2.2.2.2.1,x.2.2.2.2.2.1,x.2.2.2.2.2.2.1,x.2.2.2.2.2.2.2.1,(ah .i64 x.2.2.2.2.2.2.2.2.1 1),x.2.2.2.2.2.2.2.2.2.1,a4,x.2.2.2.2.2.2.2.2.2.2.2.1,x.2.2.2.2.2.2.2.2.2.2.2.2.1,a2,[((),jt q1)],a3,x.2.2.2.2.2.2.2.2.2.2.2.2.2.2.2.2.1,x.2.2.2.2.2.2.2.2.1,x.2.2.2.2.2.2.2.2.2.2.2.2.2.2.2.2.2.2.1,x.2.2.2.2.2.2.2.2.2.2.2.2.2.2.2.2.2.2.2.1,x.2.2.2.2.2.2.2.2.2.2.2.2.2.2.2.2.2.2.2.2.1,()))) (some (.inr (.inl (x.1,x.2.1,x.2.2.1,x.2.2.2.1,x.2.2.2.2.1,x.2.2.2.2.2.1,x.2.2.2.2.2.2.1,x.2.2.2.2.2.2.2.1,x.2.2.2.2.2.2.2.2.1,x.2.2.2.2.2.2.2.2.2.1,x.2.2.2.2.2.2.2.2.2.2.1,x.2.2.2.2.2.2.2.2.2.2.2.1,x.2.2.2.2.2.2.2.2.2.2.2.2.1,x.2.2.2.2.2.2.2.2.2.2.2.2.2.1,x.2.2.2.2.2.2.2.2.2.2.2.2.2.2.2.1,x.2.2.2.2.2.2.2.2.2.2.2.2.2.2.2.2.1,x.2.2.2.2.2.2.2.2.2.2.2.2.2.2.2.2.2.1,x.2.2.2.2.2.2.2.2.2.2.2.2.2.2.2.2.2.2.1,x.2.2.2.2.2.2.2.2.2.2.2.2.2.2.2.2.2.2.2.1,x.2.2.2.2.2.2.2.2.2.2.2.2.2.2.2.2.2.2.2.2.1,()))))
def ul:=aa uU
def C3 : Ann:=⟨sh [(1,.av (.ptr 1 0)),(2,.av (.ptr 2 0)),(5,.av (.ptr 5 0)),(6,.av (.ptr 6 0)),(7,.av (.own 7)),(9,.av (.ptr 9 0)),(10,.av (.val I)),(11,.av (.own 11)),(31,.av (.val (.slice yQ2))),(32,.av (.val I)),(33,.av (.val I)),(46,.av (.ownm 46))] [(1,.box [.val I,.val (.slice yQ2),.val yQ3,.val (.slice I),.val (.slice .str),.val I]),(2,.box [.val I,.nils,.nils,.nils,.nils,.val I]),(5,.box [.val I,.own 600001,.nils,.nils,.nils,.val I]),(6,.box [.own 700000]),(7,.arr (.slice I)),(9,.box [.val I,.val I]),(11,.arr I),(46,.map .unit (.prod .str I)),(600001,.arr yQ2),(700000,.arr (.slice I))],[(.exit 2,sh [(1,.av (.ptr 1 0)),(2,.av (.ptr 2 0)),(5,.av (.ptr 5 0)),(6,.av (.ptr 6 0)),(7,.av (.own 7)),(9,.av (.ptr 9 0)),(10,.av (.val I)),(11,.av (.own 11)),(31,.av (.val (.slice yQ2))),(32,.av (.val I)),(33,.av (.val I))] [(1,.box [.val I,.val (.slice yQ2),.val yQ3,.val (.slice I),.val (.slice .str),.val I]),(2,.box [.val I,.nils,.nils,.nils,.nils,.val I]),(5,.box [.val I,.own 600001,.nils,.nils,.nils,.val I]),(6,.box [.own 700000]),(7,.arr (.slice I)),(9,.box [.val I,.val I]),(11,.arr I),(600001,.arr yQ2),(700000,.arr (.slice I))])],ul⟩
def zm (x : Q52) : Option (Q52⊕((Int×(List Q2)×(List (List Int))×List Int×List ByteArray×Int×Int×Int×Int×Int×(List (List Int))×(List Q2)×(List (List Int))×Unit)⊕Empty)) :=
 let (a,b,c,d,e,f,g,h,i,k,l,m,n,o,p,q,_):=x; cond (ltI q p) ((ar o q).bind fun y1=>(ar e (aN .i64 2 q)).bind fun y2=>(ul (a,b,c,d,e,f,g,h,i,k,l,y1.1,y1.2.1,[],[((),y2,0)],m,n,y1.1,o,p,q,())).bind (Sum.elim (fun (a_4,b_4,c_4,d_4,e_4,f_4,g_4,h_4,i_4,k_4,l_4,_,m_4,n_4,o_4,p_4,q_4,s_4,t_4,u_4,_)=>(app n_4 [(aN .i64 2 (o_4.length : Nat))]).bind fun a5=>(app o_4 [(q_4,m_4,())]).bind fun a6=>(app p_4 [a5]).bind fun a7=>some (.inl (a_4,b_4,c_4,d_4,e_4,f_4,g_4,h_4,i_4,k_4,l_4,a6,a7,s_4,t_4,(ah .i64 u_4 1),()))) (fun _=>none))) (some (.inr (.inl (a,b,c,d,e,f,g,h,i,k,l,m,n,()))))
def Ad:=aa zm
def FC : Ann:=⟨sh [(1,.av (.ptr 1 0)),(2,.av (.ptr 2 0)),(5,.av (.ptr 5 0)),(6,.av (.ptr 6 0)),(7,.av (.own 7)),(31,.av (.val (.slice yQ2))),(32,.av (.val I)),(33,.av (.val I))] [(1,.box [.val I,.val (.slice yQ2),.val yQ3,.val (.slice I),.val (.slice .str),.val I]),(2,.box [.val I,.nils,.nils,.nils,.nils,.val I]),(5,.box [.val I,.own 600001,.nils,.nils,.nils,.val I]),(6,.box [.own 700000]),(7,.arr (.slice I)),(600001,.arr yQ2),(700000,.arr (.slice I))],[(.exit 0,sh [(1,.av (.ptr 1 0)),(2,.av (.ptr 2 0)),(5,.av (.ptr 5 0)),(6,.av (.ptr 6 0)),(7,.av (.own 7))] [(1,.box [.val I,.val (.slice yQ2),.val yQ3,.val (.slice I),.val (.slice .str),.val I]),(2,.box [.val I,.nils,.nils,.nils,.nils,.val I]),(5,.box [.val I,.own 600001,.nils,.nils,.nils,.val I]),(6,.box [.own 700000]),(7,.arr (.slice I)),(600001,.arr yQ2),(700000,.arr (.slice I))])],Ad⟩
def Zq (x : (Q11×Unit)) : Option (Q11×(List (List Int))×Int×Unit) :=
 let (((a,b,c,_),d,e,f,_),_):=x; (Zbu (((a,b,c,()),d,e,f,()),())).bind fun r1=>cond (neI r1.1 0) (some (((0,[],[],()),[],[],0,()),[],13,())) ((Ad (a,b,c,d,e,f,0,0,a,0,[],[],[],b,(b.length : Nat),0,())).bind (Sum.elim (fun (a_3,b_3,c_3,d_3,e_3,f_3,g_3,h_3,i_3,k_3,l_3,m_3,n_3,_)=>(Zba (((a_3,b_3,c_3,()),d_3,e_3,f_3,()),n_3,(m_3.length : Nat),())).bind fun r4=>(tI (a_3,b_3,c_3,d_3,e_3,f_3,g_3,h_3,i_3,k_3,l_3,m_3,[],r4.1,n_3,c_3,(c_3.length : Nat),0,())).bind (Sum.elim (fun (_,a_6,_,_,_,b_6,_,_,c_6,d_6,e_6,f_6,g_6,h_6,i_6,_)=>(app g_6 e_6).bind fun a7=>(dO .str (aN .i64 2 (f_6.length : Nat)) (aN .i64 2 (f_6.length : Nat))).bind fun m8=>cond (gtI (a_6.length : Nat) 0) ((Zf (b_6,i_6,())).bind fun r9=>some (((c_6,f_6,a7,()),h_6,m8,r9.1,()),i_6,0,())) (some (((c_6,f_6,a7,()),h_6,m8,d_6,()),i_6,0,()))) (fun _=>none))) (fun _=>none)))
def Hh : Fn:=mkF { cx [Ei,Hn,Hw] with light:=[41],vars:=[2] } [(7,FC),(12,C3),(27,DB),(31,Cn)] 10 Tryd.f10 [(.rd,yQ9)] [(.cell 2 29,true,yQ9),(.tmp 3,true,yQ3),(.tmp 4,true,I)] Zq [lp 7 FC zm,lp 12 C3 uU,lp 27 DB tg,lp 31 Cn tc] aj af rfl
def n5 (x : Q28) : Option (Q28⊕((Int×Unit)⊕Empty)) :=
 let (a,b,c,d,e,f,g,h,_):=x; cond (ltI h (e.length : Nat)) ((ar e h).bind fun y1=>some (.inl (a,b,c,d,e,f,(ah .i64 g (y1.size : Nat)),(ah .i64 h 2),()))) (some (.inr (.inl (g,()))))
def qi:=aa n5
def DG : Ann:=⟨sh [(1,.av (.ptr 1 0)),(3,.av (.val I)),(4,.av (.val I))] [(1,.box [.val I,.val (.slice yQ2),.val yQ3,.val (.slice I),.val (.slice .str),.val I])],[(.exit 0,sh [(3,.av (.val I))] [])],qi⟩
def Zbt (x : (Q11×Unit)) : Option (Int×Unit) :=
 let (((a,b,c,_),d,e,f,_),_):=x; (Zbr (((a,b,c,()),d,e,f,()),())).bind fun r1=>cond (!r1.1) (some (0,())) ((qi (a,b,c,d,e,f,0,0,())).bind (Sum.elim (fun z3=>some (z3.1,())) (fun _=>none)))
def FE : Fn:=mkF (cx [FH]) [(5,DG)] 36 Tryd.f36 [(.rd,yQ9)] [(.tmp 2,true,I)] Zbt [lp 5 DG n5] aj af rfl
def Zaz (x : Unit) : Option (Q11×Unit) :=
 (dO .str 8 8).bind fun m1=>some (((4,[(0,1,()),(1,2,()),(2,3,()),(3,0,())],[[0,7],[2,1],[4,3],[6,5]],()),[3,1,3,1,3,1,3,1],m1,1,()),())
def GO : Fn:=mkF (cx []) [] 37 Tryd.f37 [] [(.cell 0 29,true,yQ9)] Zaz [] aj af rfl
def Zbm (x : Q10) : Option (Int×Unit) :=
 let ((a,b,c,_),d,_):=x; (Zbb ((a,b,c,()),())).bind fun r1=>cond (!r1.1) (some ((-1),())) (cond (ltI d 0) (some ((-1),())) (cond (geI d (aN .i64 2 (b.length : Nat))) (some ((-1),())) ((ar b (eG .i64 d 2)).bind fun y2=>(Zbi (y2,(ip .i64 (gF d 2) 1),())).bind fun r3=>(ar c r3.1).bind fun y4=>(Zam (y4,(ip .i64 d 1),())).bind fun r5=>cond (eqI (y4.length : Nat) 0) none ((ar y4 (gF (ah .i64 r5.1 1) (y4.length : Nat))).bind fun y6=>some (y6,())))))
def Fm : Fn:=mkF (cx [pg,vF,zg]) [] 58 Tryd.f58 [(.rd,yQ6),(.rd,I)] [(.tmp 4,true,I)] Zbm [] aj af rfl
def CO (x : (Int×(List Q2)×(List (List Int))×Int×Int×Int×Unit)) : Option ((Int×(List Q2)×(List (List Int))×Int×Int×Int×Unit)⊕((Bool×Unit)⊕Empty)) :=
 let (a,b,c,d,e,f,_):=x; cond (eqI f e) (some (.inr (.inl (true,())))) ((Zbm ((a,b,c,()),f,())).bind fun r1=>cond (eqI r1.1 d) (some (.inr (.inl (false,())))) (some (.inl (a,b,c,d,e,r1.1,()))))
def CW:=aa CO
def Ck : Ann:=⟨sh [(1,.av (.val I)),(2,.av (.val I)),(3,.av (.ptr 3 0)),(7,.av (.val I))] [(3,.box [.val I,.val (.slice yQ2),.val yQ3])],[(.ret,sh [(6,.av (.val .bool))] [])],CW⟩
def Zaq (x : (Q9×Int×Int×Unit)) : Option (Bool×Unit) :=
 let ((a,b,c,_),d,e,_):=x; (CW (a,b,c,d,e,d,())).bind (Sum.elim (fun z2=>some (z2.1,())) (fun _=>none))
def G5 : Fn:=mkF (cx [Fm]) [(2,Ck)] 57 Tryd.f57 [(.rd,yQ6),(.rd,I),(.rd,I)] [(.tmp 6,true,.bool)] Zaq [lp 2 Ck CO] aj af rfl
def Zao (x : ((List Q2)×Unit)) : Option ((List Q2)×Unit) :=
 cond x.1.isEmpty (pa (some ([],())) ((app [] x.1).bind fun a1=>some (a1,()))) ((app [] x.1).bind fun a1=>some (a1,()))
def FO : Fn:=mkF (cx []) [] 60 Tryd.f60 [(.rd,(.slice yQ2))] [(.tmp 2,true,(.slice yQ2))] Zao [] aj af rfl
def Ze (x : Q5) : Option Q5 :=
 cond x.1.isEmpty (pa (some ([],())) ((app [] x.1).bind fun a1=>some (a1,()))) ((app [] x.1).bind fun a1=>some (a1,()))
def HE : Fn:=mkF (cx []) [] 61 Tryd.f61 [(.rd,yQ3)] [(.tmp 2,true,yQ3)] Ze [] aj af rfl
def Zap (x : Q1) : Option Q1 :=
 cond x.1.isEmpty (pa (some ([],())) ((app [] x.1).bind fun a1=>some (a1,()))) ((app [] x.1).bind fun a1=>some (a1,()))
def yJ : Fn:=mkF (cx []) [] 62 Tryd.f62 [(.rd,(.slice I))] [(.tmp 2,true,(.slice I))] Zap [] aj af rfl
def Zr (x : (List Int×Int×List Int×Unit)) : Option Q1:=insertC.fn x
def Hi : Fn:=⟨82,insertC,AN glob⟩
def Zbw (x : Q6) : Option Q1 :=
 (Zap (x.1,())).bind fun r1=>(Zam (x.1,x.2.2.1,())).bind fun r2=>(Zr (r1.1,r2.1,[x.2.1],())).bind fun r3=>some (r3.1,())
def GB : Fn:=mkF (cx [yJ,vF,Hi]) [] 63 Tryd.f63 [(.rd,(.slice I)),(.rd,I),(.rd,I)] [(.tmp 6,true,(.slice I))] Zbw [] aj af rfl
def BJ (x : Q38) : Option (Q38⊕(Q32⊕Empty)) :=
 let (a,b,c,d,e,f,g,h,i,k,l,_):=x; cond (ltI l k) ((ar d (ip .i64 l 1)).bind fun y1=>cond (gtI y1 2) ((Zaq ((a,b,c,()),l,f,())).bind fun r2=>cond r2.1 (some (.inr (.inl (a,b,c,d,e,f,g,h,l,())))) (some (.inl (a,b,c,d,e,f,g,h,i,k,(ah .i64 l 1),())))) (some (.inl (a,b,c,d,e,f,g,h,i,k,(ah .i64 l 1),())))) (some (.inr (.inl (a,b,c,d,e,f,g,h,i,()))))
def Ek:=aa BJ
def C5 : Ann:=⟨sh [(1,.av (.ptr 1 0)),(2,.av (.ptr 2 0)),(3,.av (.val I)),(13,.av (.val I)),(14,.av (.val I))] [(1,.box [.val I,.val (.slice yQ2),.val yQ3,.val (.slice I),.val (.slice .str),.val I]),(2,.box [.val I,.nils,.nils,.nils,.nils,.val I])],[(.exit 0,sh [(1,.av (.ptr 1 0)),(2,.av (.ptr 2 0)),(3,.av (.val I))] [(1,.box [.val I,.val (.slice yQ2),.val yQ3,.val (.slice I),.val (.slice .str),.val I]),(2,.box [.val I,.nils,.nils,.nils,.nils,.val I])])],Ek⟩
def Zax (x : (Q11×Unit)) : Option (Q11×Unit) :=
 let (((a,b,c,_),d,e,f,_),_):=x; (Ek (a,b,c,d,e,f,0,0,(-1),(d.length : Nat),0,())).bind (Sum.elim (fun (a_2,b_2,c_2,d_2,_,_,_,_,e_2,_)=>(Zbm ((a_2,b_2,c_2,()),e_2,())).bind fun r3=>(Zbl ((a_2,b_2,c_2,()),r3.1,())).bind fun r4=>(Zao (b_2,())).bind fun r5=>(Ze (c_2,())).bind fun r6=>(Zap (d_2,())).bind fun r7=>(app r5.1 [(r4.1,a_2,()),(a_2,(ah .i64 a_2 1),()),((ah .i64 a_2 1),(ah .i64 a_2 2),()),((ah .i64 a_2 2),(ah .i64 a_2 3),()),((ah .i64 a_2 3),(ah .i64 a_2 4),()),((ah .i64 a_2 4),a_2,())]).bind fun a8=>(ar c_2 r4.1).bind fun y9=>(Zbw (y9,(aN .i64 2 (b_2.length : Nat)),r3.1,())).bind fun r10=>(aJ r6.1.length r4.1).bind fun j11=>(r6.1[j11]?).bind fun y12=>(ar d_2 (ip .i64 e_2 1)).bind fun y13=>(aJ r7.1.length (ip .i64 e_2 1)).bind fun j14=>(r7.1[j14]?).bind fun y15=>(app (r6.1.set j11 r10.1) [[(ah .i64 (aN .i64 2 (b_2.length : Nat)) 2),(ah .i64 (aN .i64 2 (b_2.length : Nat)) 11),(ah .i64 (aN .i64 2 (b_2.length : Nat)) 1)],[(ah .i64 (aN .i64 2 (b_2.length : Nat)) 3),(ah .i64 (aN .i64 2 (b_2.length : Nat)) 4)],[(ah .i64 (aN .i64 2 (b_2.length : Nat)) 5),(ah .i64 (aN .i64 2 (b_2.length : Nat)) 6)],[(ah .i64 (aN .i64 2 (b_2.length : Nat)) 7),(ah .i64 (aN .i64 2 (b_2.length : Nat)) 8)],[(ah .i64 (aN .i64 2 (b_2.length : Nat)) 9),(ah .i64 (aN .i64 2 (b_2.length : Nat)) 10)]]).bind fun a16=>(app (r7.1.set j14 2) [(bf .i64 y13 2),1,2,1,3,1,3,1,3,1,3,1]).bind fun a17=>(dO .str (a17.length : Nat) (a17.length : Nat)).bind fun m18=>some ((((ah .i64 a_2 5),a8,a16,()),a17,m18,(ah .i64 (aN .i64 2 (b_2.length : Nat)) 3),()),())) (fun _=>none))
def Hc : Fn:=mkF (cx [G5,Fm,BH,FO,HE,yJ,GB]) [(3,C5)] 38 Tryd.f38 [(.rd,yQ9)] [(.cell 2 29,true,yQ9)] Zax [lp 3 C5 BJ] aj af rfl
def Zak (x : (Int×Q11×Unit)) : Option (Bool×Unit) :=
 (ar x.2.1.2.1 (ip .i64 x.1 1)).bind fun y1=>some ((gtI y1 2),())
def GZ : Fn:=mkF (cx []) [] 68 Tryd.f68 [(.rd,I),(.rd,(.ptr yQ9))] [(.tmp 3,true,.bool)] Zak [] aj af rfl
def FW (x : (List Int×(Q11×Unit)×Int×Int×Unit)) : Option ((List Int×(Q11×Unit)×Int×Int×Unit)⊕((Int×Unit)⊕(Unit⊕Empty))) :=
 let (a,b,c,d,_):=x; cond (ltI d c) ((ar a d).bind fun y1=>(Zak (y1,b.1,())).bind fun r2=>cond r2.1 (some (.inr (.inl (d,())))) (some (.inl (a,b,c,(ah .i64 d 1),())))) (some (.inr (.inr (.inl ()))))
def FQ:=aa FW
def FS : Ann:=⟨sh [(0,.av (.val (.slice I))),(1,.av (.val (.clo 68 (.prod (.ptr yQ9) .unit)))),(7,.av (.val I)),(8,.av (.val I))] [],[(.ret,sh [(4,.av (.val I))] []),(.exit 0,sh [] [])],FQ⟩
def Za (x : (List Int×(Q11×Unit)×Unit)) : Option (Int×Unit) :=
 (FQ (x.1,x.2.1,(x.1.length : Nat),0,())).bind (Sum.elim (fun z2=>some (z2.1,())) (Sum.elim (fun z3=>some ((-1),())) (fun _=>none)))
def Hp : Fn:=mkF (cx [GZ]) [(2,FS)] 67 Tryd.f67 [(.rd,(.slice I)),(.rd,(.clo 68 (.prod (.ptr yQ9) .unit)))] [(.tmp 4,true,I)] Za [lp 2 FS FW] aj af rfl
def Zbg (x : (Q11×List Int×Unit)) : Option (Int×Unit) :=
 let (((a,b,c,_),d,e,f,_),g,_):=x; (Za (g,(((a,b,c,()),d,e,f,()),()),())).bind fun r1=>some (r1.1,())
def G3 : Fn:=mkF (cx [Hp]) [] 41 Tryd.f41 [(.rd,yQ9),(.rd,(.slice I))] [(.tmp 4,true,I)] Zbg [] aj af rfl
def CA (x : Q22) : Option (Q22⊕((Int×Int×(List Q2)×(List (List Int))×Unit)⊕Empty)) :=
 let (a,b,c,d,e,f,g,_):=x; cond (ltI g f) ((ar e g).bind fun y1=>(Zap (y1,())).bind fun r2=>(app d [r2.1]).bind fun a3=>some (.inl (a,b,c,a3,e,f,(ah .i64 g 1),()))) (some (.inr (.inl (a,b,c,d,()))))
def Cb:=aa CA
def Cp : Ann:=⟨sh [(2,.av (.ptr 2 0)),(3,.av (.ptr 3 0)),(13,.av (.val yQ3)),(14,.av (.val I)),(15,.av (.val I))] [(2,.box [.val I,.nils,.nils]),(3,.box [.val I,.own 400001,.ownd 400002]),(400001,.arr yQ2),(400002,.deep I)],[(.exit 0,sh [(2,.av (.ptr 2 0)),(3,.av (.ptr 3 0))] [(2,.box [.val I,.nils,.nils]),(3,.box [.val I,.own 400001,.ownd 400002]),(400001,.arr yQ2),(400002,.deep I)])],Cb⟩
def Zbn (x : (Q9×Unit)) : Option (Q9×Unit) :=
 let ((a,b,c,_),_):=x; (Zao (b,())).bind fun r1=>(Cb (0,a,r1.1,[],c,(c.length : Nat),0,())).bind (Sum.elim (fun z3=>some ((z3.2.1,z3.2.2.1,z3.2.2.2.1,()),())) (fun _=>none))
def FD : Fn:=mkF { cx [FO,yJ] with deep:=[23] } [(3,Cp)] 83 Tryd.f83 [(.rd,yQ6)] [(.cell 2 25,true,yQ6)] Zbn [lp 3 Cp CA] aj af rfl (d:=true)
def Zbq (x : Q10) : Option Q10 :=
 let ((a,b,c,_),d,_):=x; (Zbb ((a,b,c,()),())).bind fun r1=>cond (!r1.1) (some ((0,[],[],()),13,())) (cond (ltI d 0) (some ((0,[],[],()),3,())) (cond (geI d (b.length : Nat)) (some ((0,[],[],()),3,())) (cond (geI a 16384) (some ((0,[],[],()),2,())) (cond (geI (b.length : Nat) 32768) (some ((0,[],[],()),2,())) ((Zbn ((a,b,c,()),())).bind fun r2=>(ar b d).bind fun y3=>(aJ r2.1.2.1.length d).bind fun j4=>(r2.1.2.1[j4]?).bind fun y5=>(app (r2.1.2.1.set j4 (y5.1,a,y5.2.2)) [(a,y3.2.1,())]).bind fun a6=>(aJ r2.1.2.2.1.length y3.2.1).bind fun j7=>(Zam ((de r2.1.2.2.1 j7),(ah .i64 (aN .i64 2 d) 1),())).bind fun r8=>(aJ (de r2.1.2.2.1 j7).length r8.1).bind fun j9=>(app (r2.1.2.2.1.set j7 ((de r2.1.2.2.1 j7).set j9 (ah .i64 (aN .i64 2 (b.length : Nat)) 1))) [[(ah .i64 (aN .i64 2 d) 1),(aN .i64 2 (b.length : Nat))]]).bind fun a10=>some (((ah .i64 r2.1.1 1),a6,a10,()),0,()))))))
def GE : Fn:=mkF { cx [pg,vF,FD] with deep:=[87] } [] 69 Tryd.f69 [(.rd,yQ6),(.rd,I)] [(.cell 4 25,true,yQ6),(.tmp 5,true,I)] Zbq [] aj af rfl (d:=true)
def Zas (x : (Int×Int×Int×Unit)) : Option (Int×Unit) :=
 cond (eqI x.1 (ah .i64 (aN .i64 2 x.2.1) 1)) (some ((ah .i64 x.2.2.1 1),())) (some (x.1,()))
def G4 : Fn:=mkF (cx []) [] 70 Tryd.f70 [(.rd,I),(.rd,(.ptr I)),(.rd,(.ptr I))] [(.tmp 4,true,I)] Zas [] aj af rfl
def DF (x : Q18) : Option (Q18⊕(Q12⊕Empty)) :=
 let (a,b,c,d,e,f,g,h,_):=x; cond (ltI h g) ((ar f h).bind fun y1=>(aJ a.length y1).bind fun j2=>(a[j2]?).bind fun y3=>some (.inl ((a.set j2 c),b,c,d,e,f,g,(ah .i64 h 1),()))) (some (.inr (.inl (a,b,d,e,()))))
def Dt:=aa DF
def D4 : Ann:=⟨sh [(3,.av (.own 3)),(4,.av (.val I)),(14,.av (.own 14)),(15,.av (.val I)),(16,.av (.val I)),(21,.av (.val (.slice I))),(22,.av (.val I)),(23,.av (.val I))] [(3,.arr I),(14,.arr (.slice I))],[(.exit 2,sh [(3,.av (.own 3)),(14,.av (.own 14)),(15,.av (.val I)),(16,.av (.val I))] [(3,.arr I),(14,.arr (.slice I))])],Dt⟩
def Em (x : Q12) : Option (Q12⊕(Q1⊕Empty)) :=
 let (a,b,c,d,_):=x; cond (ltI d c) ((aJ b.length d).bind fun j1=>(b[j1]?).bind fun y2=>(Dt (a,b,d,c,d,y2,(y2.length : Nat),0,())).bind (Sum.elim (fun z4=>some (.inl (z4.1,z4.2.1,z4.2.2.1,(ah .i64 z4.2.2.2.1 1),()))) (fun _=>none))) (some (.inr (.inl (a,()))))
def Cd:=aa Em
def Dr : Ann:=⟨sh [(3,.av (.own 3)),(14,.av (.own 14)),(15,.av (.val I)),(16,.av (.val I))] [(3,.arr I),(14,.arr (.slice I))],[(.exit 0,sh [(3,.av (.own 3))] [(3,.arr I)])],Cd⟩
def Zbo (x : (Q9×Unit)) : Option Q1 :=
 let ((a,b,c,_),_):=x; (dO I (aN .i64 2 (b.length : Nat)) (aN .i64 2 (b.length : Nat))).bind fun m1=>(Zbf ((a,b,c,()),())).bind fun r2=>(Cd (m1,r2.1,(r2.1.length : Nat),0,())).bind (Sum.elim (fun z4=>some (z4.1,())) (fun _=>none))
def GR : Fn:=mkF (cx [wF]) [(3,Dr),(6,D4)] 84 Tryd.f84 [(.rd,yQ6)] [(.tmp 2,true,(.slice I))] Zbo [lp 3 Dr Em,lp 6 D4 DF] aj af rfl
def Zbj (x : Q6) : Option Q1 :=
 (Zam (x.1,x.2.2.1,())).bind fun r1=>(Zr (x.1,r1.1,[x.2.1],())).bind fun r2=>some (r2.1,())
def GY : Fn:=mkF (cx [vF,Hi]) [] 85 Tryd.f85 [(.take,(.slice I)),(.rd,I),(.rd,I)] [(.tmp 6,true,(.slice I))] Zbj [] aj af rfl
def Zbv (x : (Q9×Int×Int×Unit)) : Option Q10 :=
 let ((a,b,c,_),d,e,_):=x; (Zbb ((a,b,c,()),())).bind fun r1=>cond (!r1.1) (some ((0,[],[],()),13,())) (cond (ltI (uf d e) 0) (some ((0,[],[],()),3,())) (cond (geI (ju d e) (aN .i64 2 (b.length : Nat))) (some ((0,[],[],()),3,())) ((Zbl ((a,b,c,()),d,())).bind fun r2=>(Zbl ((a,b,c,()),e,())).bind fun r3=>cond (eqI r2.1 r3.1) (some ((0,[],[],()),8,())) ((Zbo ((a,b,c,()),())).bind fun r4=>(aJ r4.1.length d).bind fun j5=>(r4.1[j5]?).bind fun y6=>(aJ r4.1.length e).bind fun j7=>(r4.1[j7]?).bind fun y8=>cond (neI y6 y8) (some ((0,[],[],()),15,())) (cond (geI (b.length : Nat) 32768) (some ((0,[],[],()),2,())) ((Zbn ((a,b,c,()),())).bind fun r9=>(app r9.1.2.1 [(r2.1,r3.1,())]).bind fun a10=>(aJ r9.1.2.2.1.length r2.1).bind fun j11=>(Zbj ((de r9.1.2.2.1 j11),(aN .i64 2 (b.length : Nat)),d,())).bind fun r12=>(aJ r9.1.2.2.1.length r2.1).bind fun j13=>if j11=j13 then (aJ (r9.1.2.2.1.set j13 r12.1).length r3.1).bind fun j14=>(Zbj ((de (r9.1.2.2.1.set j13 r12.1) j14),(ah .i64 (aN .i64 2 (b.length : Nat)) 1),e,())).bind fun r15=>(aJ (r9.1.2.2.1.set j13 r12.1).length r3.1).bind fun j16=>if j14=j16 then some ((r9.1.1,a10,((r9.1.2.2.1.set j13 r12.1).set j16 r15.1),()),0,()) else none else none))))))
def GK : Fn:=mkF { cx [BH,pg,FD,GR,GY] with light:=[16,17] } [] 71 Tryd.f71 [(.rd,yQ6),(.rd,I),(.rd,I)] [(.cell 6 25,false,yQ6),(.tmp 7,true,I)] Zbv [] aj af rfl
def Eg (x : Q43) : Option (Q43⊕((Int×Int×Int×Unit)⊕((Int×(List Q2)×(List (List Int))×List Int×List ByteArray×Int×Int×Int×List Int×Int×Int×Int×Unit)⊕Empty))) :=
 let (a,b,c,d,e,f,g,h,i,k,l,m,n,_):=x; cond (neI n 1) (cond (eqI l 0) none ((ar i (gF m l)).bind fun y1=>(ar d (ip .i64 y1 1)).bind fun y2=>cond (gtI (ah .i64 m 1) (ah .i64 k l)) (some (.inr (.inl (0,0,13,())))) (some (.inl (a,b,c,d,e,f,g,h,i,k,l,(ah .i64 m 1),(ah .i64 n (bf .i64 2 y2)),()))))) (some (.inr (.inr (.inl (a,b,c,d,e,f,g,h,i,k,l,m,())))))
def CK:=aa Eg
def Df : Ann:=⟨sh [(1,.av (.val (.slice I))),(2,.av (.val I)),(3,.av (.ptr 3 0)),(6,.av (.ptr 6 0)),(8,.av (.val I)),(9,.av (.val I)),(10,.av (.val I))] [(3,.box [.val I,.val (.slice yQ2),.val yQ3,.val (.slice I),.val (.slice .str),.val I]),(6,.box [.val I,.nils,.nils,.nils,.nils,.val I])],[(.ret,sh [(6,.av (.ptr 6 0)),(7,.av (.val I))] [(6,.box [.val I,.nils,.nils,.nils,.nils,.val I])]),(.exit 0,sh [(1,.av (.val (.slice I))),(2,.av (.val I)),(3,.av (.ptr 3 0)),(6,.av (.ptr 6 0)),(8,.av (.val I)),(9,.av (.val I))] [(3,.box [.val I,.val (.slice yQ2),.val yQ3,.val (.slice I),.val (.slice .str),.val I]),(6,.box [.val I,.nils,.nils,.nils,.nils,.val I])])],CK⟩
def Zbd (x : (Q11×List Int×Int×Unit)) : Option (Q11×Int×Unit) :=
 let (((a,b,c,_),d,e,f,_),g,h,_):=x; (CK (a,b,c,d,e,f,0,0,g,h,(g.length : Nat),h,0,())).bind (Sum.elim (fun z2=>some (((z2.1,[],[],()),[],[],z2.2.1,()),z2.2.2.1,())) (Sum.elim (fun (a_3,b_3,c_3,d_3,_,e_3,_,_,f_3,g_3,h_3,i_3,_)=>(ar f_3 g_3).bind fun y4=>cond (eqI h_3 0) none ((ar f_3 (gF (ah .i64 g_3 1) h_3)).bind fun y5=>cond (eqI h_3 0) none ((ar f_3 (gF i_3 h_3)).bind fun y6=>(Zbq ((a_3,b_3,c_3,()),(eG .i64 y6 2),())).bind fun r7=>cond (neI r7.2.1 0) (some (((0,[],[],()),[],[],0,()),r7.2.1,())) ((Zap (d_3,())).bind fun r8=>(ar d_3 (ah .i64 (aN .i64 2 (eG .i64 y6 2)) 1)).bind fun y9=>(app r8.1 [2,y9,0,0]).bind fun a10=>(aJ a10.length (ah .i64 (aN .i64 2 (eG .i64 y6 2)) 1)).bind fun j11=>(a10[j11]?).bind fun y12=>cond (eqI (gF y6 2) 1) ((Zas ((ip .i64 y4 1),(eG .i64 y6 2),(aN .i64 2 (b_3.length : Nat)),())).bind fun r13=>(aJ (a10.set j11 2).length r13.1).bind fun j14=>((a10.set j11 2)[j14]?).bind fun y15=>(Zas (y5,(eG .i64 y6 2),(aN .i64 2 (b_3.length : Nat)),())).bind fun r16=>(Zbv ((r7.1.1,r7.1.2.1,r7.1.2.2.1,()),r16.1,(ah .i64 (aN .i64 2 (eG .i64 y6 2)) 1),())).bind fun r17=>cond (neI r17.2.1 0) (some (((0,[],[],()),[],[],0,()),r17.2.1,())) ((aJ (a10.set j11 2).length r13.1).bind fun j18=>((a10.set j11 2)[j18]?).bind fun y19=>(aJ ((a10.set j11 2).set j18 2).length (ah .i64 (aN .i64 2 (b_3.length : Nat)) 2)).bind fun j20=>(((a10.set j11 2).set j18 2)[j20]?).bind fun y21=>(aJ (((a10.set j11 2).set j18 2).set j20 (bf .i64 y15 2)).length (aN .i64 2 (b_3.length : Nat))).bind fun j22=>((((a10.set j11 2).set j18 2).set j20 (bf .i64 y15 2))[j22]?).bind fun y23=>(aJ ((((a10.set j11 2).set j18 2).set j20 (bf .i64 y15 2)).set j22 1).length (ah .i64 (aN .i64 2 (b_3.length : Nat)) 3)).bind fun j24=>(((((a10.set j11 2).set j18 2).set j20 (bf .i64 y15 2)).set j22 1)[j24]?).bind fun y25=>(aJ (((((a10.set j11 2).set j18 2).set j20 (bf .i64 y15 2)).set j22 1).set j24 1).length (ah .i64 (aN .i64 2 (eG .i64 y6 2)) 1)).bind fun j26=>((((((a10.set j11 2).set j18 2).set j20 (bf .i64 y15 2)).set j22 1).set j24 1)[j26]?).bind fun y27=>(dO .str (((((((a10.set j11 2).set j18 2).set j20 (bf .i64 y15 2)).set j22 1).set j24 1).set j26 2).length : Nat) (((((((a10.set j11 2).set j18 2).set j20 (bf .i64 y15 2)).set j22 1).set j24 1).set j26 2).length : Nat)).bind fun m28=>(Zas (e_3,(eG .i64 y6 2),(aN .i64 2 (b_3.length : Nat)),())).bind fun r29=>some (((r17.1.1,r17.1.2.1,r17.1.2.2.1,()),((((((a10.set j11 2).set j18 2).set j20 (bf .i64 y15 2)).set j22 1).set j24 1).set j26 2),m28,r29.1,()),0,()))) ((Zas ((ip .i64 y4 1),(eG .i64 y6 2),(aN .i64 2 (b_3.length : Nat)),())).bind fun r30=>(aJ (a10.set j11 2).length r30.1).bind fun j31=>((a10.set j11 2)[j31]?).bind fun y32=>(Zas (y5,(eG .i64 y6 2),(aN .i64 2 (b_3.length : Nat)),())).bind fun r33=>(Zbv ((r7.1.1,r7.1.2.1,r7.1.2.2.1,()),r33.1,(aN .i64 2 (b_3.length : Nat)),())).bind fun r34=>cond (neI r34.2.1 0) (some (((0,[],[],()),[],[],0,()),r34.2.1,())) ((aJ (a10.set j11 2).length r30.1).bind fun j35=>((a10.set j11 2)[j35]?).bind fun y36=>(aJ ((a10.set j11 2).set j35 2).length (ah .i64 (aN .i64 2 (b_3.length : Nat)) 2)).bind fun j37=>(((a10.set j11 2).set j35 2)[j37]?).bind fun y38=>(aJ (((a10.set j11 2).set j35 2).set j37 (bf .i64 y32 2)).length (ah .i64 (aN .i64 2 (eG .i64 y6 2)) 1)).bind fun j39=>((((a10.set j11 2).set j35 2).set j37 (bf .i64 y32 2))[j39]?).bind fun y40=>(aJ ((((a10.set j11 2).set j35 2).set j37 (bf .i64 y32 2)).set j39 1).length (ah .i64 (aN .i64 2 (b_3.length : Nat)) 3)).bind fun j41=>(((((a10.set j11 2).set j35 2).set j37 (bf .i64 y32 2)).set j39 1)[j41]?).bind fun y42=>(aJ (((((a10.set j11 2).set j35 2).set j37 (bf .i64 y32 2)).set j39 1).set j41 1).length (aN .i64 2 (b_3.length : Nat))).bind fun j43=>((((((a10.set j11 2).set j35 2).set j37 (bf .i64 y32 2)).set j39 1).set j41 1)[j43]?).bind fun y44=>(dO .str (((((((a10.set j11 2).set j35 2).set j37 (bf .i64 y32 2)).set j39 1).set j41 1).set j43 2).length : Nat) (((((((a10.set j11 2).set j35 2).set j37 (bf .i64 y32 2)).set j39 1).set j41 1).set j43 2).length : Nat)).bind fun m45=>(Zas (e_3,(eG .i64 y6 2),(aN .i64 2 (b_3.length : Nat)),())).bind fun r46=>some (((r34.1.1,r34.1.2.1,r34.1.2.2.1,()),((((((a10.set j11 2).set j35 2).set j37 (bf .i64 y32 2)).set j39 1).set j41 1).set j43 2),m45,r46.1,()),0,()))))))) (fun _=>none)))
def GJ : Fn:=mkF { cx [yJ,GE,G4,GK] with frz:=[21],light:=[24,25],hold:=[(21,97),(21,98)] } [(3,Df)] 42 Tryd.f42 [(.rd,yQ9),(.rd,(.slice I)),(.rd,I)] [(.cell 6 29,false,yQ9),(.tmp 7,true,I)] Zbd [lp 3 Df Eg] aj af rfl
def zA (x : Q46) : Option (Q46⊕((Int×Int×Int×Unit)⊕(Q33⊕Empty))) :=
 let (a,b,c,d,e,f,g,h,i,k,l,m,_):=x; cond (ltI m l) ((aJ i.length m).bind fun j1=>(i[j1]?).bind fun y2=>(Zk (y2,f,())).bind fun r3=>cond r3.1 (some (.inl (a,b,c,d,e,f,g,h,i,k,l,(ah .i64 m 1),()))) ((Zbg (((a,b,c,()),d,e,f,()),y2,())).bind fun r4=>cond (ltI r4.1 0) (some (.inl (a,b,c,d,e,f,g,h,i,k,l,(ah .i64 m 1),()))) ((Zbd (((a,b,c,()),d,e,f,()),y2,r4.1,())).bind fun r5=>cond (neI r5.2.1 0) (some (.inr (.inl (0,0,r5.2.1,())))) (some (.inr (.inr (.inl (r5.1.1.1,r5.1.1.2.1,r5.1.1.2.2.1,r5.1.2.1,r5.1.2.2.1,r5.1.2.2.2.1,g,h,true,())))))))) (some (.inr (.inr (.inl (a,b,c,d,e,f,g,h,k,())))))
def Al:=aa zA
def zG : Ann:=⟨sh [(1,.av (.ptr 1 0)),(2,.av (.ptr 2 0)),(4,.av (.val .bool)),(32,.av (.own 32)),(33,.av (.val I)),(34,.av (.val I))] [(1,.box [.val I,.val (.slice yQ2),.val yQ3,.val (.slice I),.val (.slice .str),.val I]),(2,.box [.val I,.nils,.nils,.nils,.nils,.val I]),(32,.arr (.slice I))],[(.ret,sh [(2,.av (.ptr 2 0)),(3,.av (.val I))] [(2,.box [.val I,.nils,.nils,.nils,.nils,.val I])]),(.exit 3,sh [(1,.av (.ptr 1 0)),(2,.av (.ptr 2 0)),(4,.av (.val .bool))] [(1,.box [.val I,.val (.slice yQ2),.val yQ3,.val (.slice I),.val (.slice .str),.val I]),(2,.box [.val I,.nils,.nils,.nils,.nils,.val I])])],Al⟩
def Dz (x : Q33) : Option (Q33⊕((Int×Int×Int×Unit)⊕(Q28⊕Empty))) :=
 let (a,b,c,d,e,f,g,h,i,_):=x; cond i ((Zbf ((a,b,c,()),())).bind fun r1=>(Al (a,b,c,d,e,f,g,h,r1.1,false,(r1.1.length : Nat),0,())).bind (Sum.elim (fun z3=>some (.inr (.inl (z3.1,z3.2.1,z3.2.2.1,())))) (Sum.elim (fun (a_4,b_4,c_4,d_4,e_4,f_4,g_4,h_4,i_4,_)=>some (.inl (a_4,b_4,c_4,d_4,e_4,f_4,g_4,h_4,i_4,()))) (fun _=>none)))) (some (.inr (.inr (.inl (a,b,c,d,e,f,g,h,())))))
def Cm:=aa Dz
def BS : Ann:=⟨sh [(1,.av (.ptr 1 0)),(2,.av (.ptr 2 0)),(4,.av (.val .bool))] [(1,.box [.val I,.val (.slice yQ2),.val yQ3,.val (.slice I),.val (.slice .str),.val I]),(2,.box [.val I,.nils,.nils,.nils,.nils,.val I])],[(.ret,sh [(2,.av (.ptr 2 0)),(3,.av (.val I))] [(2,.box [.val I,.nils,.nils,.nils,.nils,.val I])]),(.exit 1,sh [(1,.av (.ptr 1 0)),(2,.av (.ptr 2 0))] [(1,.box [.val I,.val (.slice yQ2),.val yQ3,.val (.slice I),.val (.slice .str),.val I]),(2,.box [.val I,.nils,.nils,.nils,.nils,.val I])])],Cm⟩
def Zbc (x : (Q11×Unit)) : Option (Q11×Int×Unit) :=
 let (((a,b,c,_),d,e,f,_),_):=x; (Zbu (((a,b,c,()),d,e,f,()),())).bind fun r1=>cond (neI r1.1 0) (some (((0,[],[],()),[],[],0,()),13,())) ((Zbt (((a,b,c,()),d,e,f,()),())).bind fun r2=>cond (neI r2.1 0) (some (((0,[],[],()),[],[],0,()),13,())) (cond (eqI (b.length : Nat) 0) ((Zaz ()).bind fun r3=>some (((r3.1.1.1,r3.1.1.2.1,r3.1.1.2.2.1,()),r3.1.2.1,r3.1.2.2.1,r3.1.2.2.2.1,()),0,())) ((Zax (((a,b,c,()),d,e,f,()),())).bind fun r4=>(Cm (r4.1.1.1,r4.1.1.2.1,r4.1.1.2.2.1,r4.1.2.1,r4.1.2.2.1,r4.1.2.2.2.1,0,0,true,())).bind (Sum.elim (fun z6=>some (((z6.1,[],[],()),[],[],z6.2.1,()),z6.2.2.1,())) (Sum.elim (fun (a_7,b_7,c_7,d_7,e_7,f_7,_)=>some (((a_7,b_7,c_7,()),d_7,e_7,f_7,()),0,())) (fun _=>none))))))
def GG : Fn:=mkF (cx [Ei,FE,GO,Hc,wF,F6,G3,GJ]) [(7,BS),(10,zG)] 15 Tryd.f15 [(.rd,yQ9)] [(.cell 2 29,false,yQ9),(.tmp 3,true,I)] Zbc [lp 7 BS Dz,lp 10 zG zA] aj af rfl
def CI (x : Q48) : Option (Q48⊕((Bool×Unit)⊕((Int×(List Q2)×(List (List Int))×List Int×List ByteArray×Int×(List (List Int))×Int×Int×Int×Unit)⊕Empty))) :=
 let (a,b,c,d,e,f,g,h,i,k,l,m,n,o,_):=x; cond (ltI o n) ((ar m o).bind fun y1=>(ar d (ip .i64 y1 1)).bind fun y2=>cond (eqI (bf .i64 2 y2) h) (some (.inl (a,b,c,d,e,f,g,h,(ah .i64 i 1),k,l,m,n,(ah .i64 o 1),()))) (cond (eqI (bf .i64 2 y2) 0) (some (.inl (a,b,c,d,e,f,g,h,i,k,l,m,n,(ah .i64 o 1),()))) (some (.inr (.inl (false,())))))) (some (.inr (.inr (.inl (a,b,c,d,e,f,g,i,k,l,())))))
def xR:=aa CI
def DX : Ann:=⟨sh [(1,.av (.ptr 1 0)),(5,.av (.val I)),(6,.av (.val I)),(26,.av (.own 26)),(27,.av (.val I)),(28,.av (.val I)),(36,.av (.val (.slice I))),(37,.av (.val I)),(38,.av (.val I))] [(1,.box [.val I,.val (.slice yQ2),.val yQ3,.val (.slice I),.val (.slice .str),.val I]),(26,.arr (.slice I))],[(.ret,sh [(2,.av (.val .bool))] []),(.exit 2,sh [(1,.av (.ptr 1 0)),(6,.av (.val I)),(26,.av (.own 26)),(27,.av (.val I)),(28,.av (.val I))] [(1,.box [.val I,.val (.slice yQ2),.val yQ3,.val (.slice I),.val (.slice .str),.val I]),(26,.arr (.slice I))])],xR⟩
def FI (x : Q39) : Option (Q39⊕((Bool×Unit)⊕(Unit⊕Empty))) :=
  let t_0:=Sum.elim (fun z5=>some (.inr (.inl (z5.1,())))) (Sum.elim (fun (a_6,b_6,c_6,d_6,e_6,f_6,g_6,h_6,i_6,k_6,_)=>cond (neI h_6 4) (some (.inr (.inl (false,())))) (some (.inl (a_6,b_6,c_6,d_6,e_6,f_6,g_6,i_6,(ah .i64 k_6 1),())))) (fun _=>none));let (a,b,c,d,e,f,g,h,i,_):=x; cond (ltI i h) ((aJ g.length i).bind fun j1=>(g[j1]?).bind fun y2=>(Zk (y2,f,())).bind fun r3=>cond r3.1 ((xR (a,b,c,d,e,f,g,(-1),0,h,i,y2,(y2.length : Nat),0,())).bind t_0) ((xR (a,b,c,d,e,f,g,1,0,h,i,y2,(y2.length : Nat),0,())).bind t_0)) (some (.inr (.inr (.inl ()))))
def FL:=aa FI
def FV : Ann:=⟨sh [(1,.av (.ptr 1 0)),(26,.av (.own 26)),(27,.av (.val I)),(28,.av (.val I))] [(1,.box [.val I,.val (.slice yQ2),.val yQ3,.val (.slice I),.val (.slice .str),.val I]),(26,.arr (.slice I))],[(.ret,sh [(2,.av (.val .bool))] []),(.exit 0,sh [] [])],FL⟩
def Zi (x : (Q11×Unit)) : Option (Bool×Unit) :=
 let (((a,b,c,_),d,e,f,_),_):=x; (Zbu (((a,b,c,()),d,e,f,()),())).bind fun r1=>cond (neI r1.1 0) (some (false,())) ((Zbt (((a,b,c,()),d,e,f,()),())).bind fun r2=>cond (neI r2.1 0) (some (false,())) (cond (eqI (b.length : Nat) 0) (some (false,())) ((Zbf ((a,b,c,()),())).bind fun r3=>(FL (a,b,c,d,e,f,r3.1,(r3.1.length : Nat),0,())).bind (Sum.elim (fun z5=>some (z5.1,())) (Sum.elim (fun z6=>some (true,())) (fun _=>none))))))
def HL : Fn:=mkF (cx [Ei,FE,wF,F6]) [(4,FV),(11,DX)] 16 Tryd.f16 [(.rd,yQ9)] [(.tmp 2,true,.bool)] Zi [lp 4 FV FI,lp 11 DX CI] aj af rfl
def Zp (x : Unit) : Option (Q11×Unit) :=
 (dO .str 8 8).bind fun m1=>some (((4,[(0,1,()),(1,2,()),(2,3,()),(3,0,())],[[7,0],[1,2],[3,4],[5,6]],()),[3,1,3,1,3,1,3,1],m1,1,()),())
def Hu : Fn:=mkF (cx []) [] 24 Tryd.f24 [] [(.cell 0 29,true,yQ9)] Zp [] aj af rfl
def Zz (x : Unit) : Option (Bool×Unit) :=
 (Zq (((2,[(0,1,())],[[0],[1]],()),[4,4],[(ByteArray.mk #[76]),(ByteArray.mk #[82])],0,()),())).bind fun r1=>(Zbc (((2,[(0,1,())],[[0],[1]],()),[4,4],[(ByteArray.mk #[76]),(ByteArray.mk #[82])],0,()),())).bind fun r2=>(Zbc (((2,[(0,1,())],[[0],[1]],()),[4,4],[(ByteArray.mk #[]),(ByteArray.mk #[])],0,()),())).bind fun r3=>cond (neI r1.2.2.1 0) (some (false,())) (cond (neI (r1.2.1.length : Nat) 1) (some (false,())) ((aJ r1.2.1.length 0).bind fun j4=>(r1.2.1[j4]?).bind fun y5=>cond (neI (y5.length : Nat) 2) (some (false,())) ((aJ r1.2.1.length 0).bind fun j6=>(r1.2.1[j6]?).bind fun y7=>(ar y7 1).bind fun y8=>cond (neI y8 2) (some (false,())) (cond (neI r1.1.1.1 3) (some (false,())) (cond (neI (r1.1.2.1.length : Nat) 4) (some (false,())) (cond (neI (r1.1.1.2.2.1.length : Nat) 3) (some (false,())) ((aJ r1.1.2.1.length 1).bind fun j9=>(r1.1.2.1[j9]?).bind fun y10=>cond (eqI y10 1) ((aJ r1.1.2.1.length 2).bind fun j11=>(r1.1.2.1[j11]?).bind fun y12=>cond (eqI y12 3) (cond (eqI r2.2.1 13) (cond (eqI r3.2.1 0) ((Zi (((r3.1.1.1,r3.1.1.2.1,r3.1.1.2.2.1,()),r3.1.2.1,r3.1.2.2.1,r3.1.2.2.2.1,()),())).bind fun r13=>cond r13.1 ((Zp ()).bind fun r14=>(Zi (((r14.1.1.1,r14.1.1.2.1,r14.1.1.2.2.1,()),r14.1.2.1,r14.1.2.2.1,r14.1.2.2.2.1,()),())).bind fun r15=>cond r15.1 ((Zi (((2,[(0,1,())],[[0],[1]],()),[4,4],[(ByteArray.mk #[]),(ByteArray.mk #[])],0,()),())).bind fun r16=>some ((!r16.1),())) (some (false,()))) (some (false,()))) (some (false,()))) (some (false,()))) (some (false,()))) (some (false,())))))))))
def Ht : Fn:=mkF (cx [Hh,GG,HL,Hu]) [] 9 Tryd.f9 [] [(.tmp 0,true,.bool)] Zz [] aj af rfl
def uY (x : Q14) : Option (Q14⊕(Q1⊕Empty)) :=
 let (a,b,c,d,e,_):=x; cond (ltI e (b.length : Nat)) ((ar b e).bind fun y1=>(ar b e).bind fun y2=>(app d [y1.1,y2.2.1]).bind fun a3=>some (.inl (a,b,c,a3,(ah .i64 e 1),()))) (some (.inr (.inl (d,()))))
def BO:=aa uY
def Fl : Ann:=⟨sh [(1,.av (.ptr 1 0)),(3,.av (.own 3)),(4,.av (.val I))] [(1,.box [.val I,.val (.slice yQ2),.val yQ3]),(3,.arr I)],[(.exit 0,sh [(3,.av (.own 3))] [(3,.arr I)])],BO⟩
def Zu (x : (Q9×Unit)) : Option Q1 :=
 (BO (x.1.1,x.1.2.1,x.1.2.2.1,[],0,())).bind (Sum.elim (fun z2=>some (z2.1,())) (fun _=>none))
def G2 : Fn:=mkF (cx []) [(3,Fl)] 46 Tryd.f46 [(.rd,yQ6)] [(.tmp 2,true,(.slice I))] Zu [lp 3 Fl uY] aj af rfl
def l8 (x : Q26) : Option (Q26⊕((Bool×Unit)⊕(Q20⊕Empty))) :=
 let (a,b,c,d,e,f,g,h,_):=x; (ar c g).bind fun y1=>cond (ltI h (y1.length : Nat)) ((ar c g).bind fun y2=>(ar y2 h).bind fun y3=>cond (ltI y3 0) (some (.inr (.inl (false,())))) (cond (geI y3 (d.length : Nat)) (some (.inr (.inl (false,())))) ((aJ e.length y3).bind fun j4=>(e[j4]?).bind fun y5=>cond y5 (some (.inr (.inl (false,())))) ((aJ d.length y3).bind fun j6=>(d[j6]?).bind fun y7=>cond (neI y7 g) (some (.inr (.inl (false,())))) ((aJ e.length y3).bind fun j8=>(e[j8]?).bind fun y9=>some (.inl (a,b,c,d,(e.set j8 true),(ah .i64 f 1),g,(ah .i64 h 1),()))))))) (some (.inr (.inr (.inl (a,b,c,d,e,f,g,())))))
def th:=aa l8
def yQ : Ann:=⟨sh [(1,.av (.ptr 1 0)),(5,.av (.own 5)),(6,.av (.own 6)),(7,.av (.val I)),(8,.av (.val I)),(9,.av (.val I))] [(1,.box [.val I,.val (.slice yQ2),.val yQ3]),(5,.arr I),(6,.arr .bool)],[(.ret,sh [(2,.av (.val .bool))] []),(.exit 4,sh [(1,.av (.ptr 1 0)),(5,.av (.own 5)),(6,.av (.own 6)),(7,.av (.val I)),(8,.av (.val I))] [(1,.box [.val I,.val (.slice yQ2),.val yQ3]),(5,.arr I),(6,.arr .bool)])],th⟩
def lX (x : Q20) : Option (Q20⊕((Bool×Unit)⊕(Q4⊕Empty))) :=
 let (a,b,c,d,e,f,g,_):=x; cond (ltI g a) ((th (a,b,c,d,e,f,g,0,())).bind (Sum.elim (fun z2=>some (.inr (.inl (z2.1,())))) (Sum.elim (fun (a_3,b_3,c_3,d_3,e_3,f_3,g_3,_)=>some (.inl (a_3,b_3,c_3,d_3,e_3,f_3,(ah .i64 g_3 1),()))) (fun _=>none)))) (some (.inr (.inr (.inl (d,f,())))))
def uD:=aa lX
def yX : Ann:=⟨sh [(1,.av (.ptr 1 0)),(5,.av (.own 5)),(6,.av (.own 6)),(7,.av (.val I)),(8,.av (.val I))] [(1,.box [.val I,.val (.slice yQ2),.val yQ3]),(5,.arr I),(6,.arr .bool)],[(.ret,sh [(2,.av (.val .bool))] []),(.exit 2,sh [(5,.av (.own 5)),(7,.av (.val I))] [(5,.arr I)])],uD⟩
def ro (x : Q13) : Option (Q13⊕((Bool×Unit)⊕(Q9⊕Empty))) :=
 let (a,b,c,d,_):=x; cond (ltI d (b.length : Nat)) ((ar b d).bind fun y1=>cond (ltI y1.1 0) (some (.inr (.inl (false,())))) (cond (geI y1.1 a) (some (.inr (.inl (false,())))) (cond (ltI y1.2.1 0) (some (.inr (.inl (false,())))) (cond (geI y1.2.1 a) (some (.inr (.inl (false,())))) (cond (eqI y1.1 y1.2.1) (some (.inr (.inl (false,())))) (some (.inl (a,b,c,(ah .i64 d 1),())))))))) (some (.inr (.inr (.inl (a,b,c,())))))
def yw:=aa ro
def Dk : Ann:=⟨sh [(1,.av (.ptr 1 0)),(3,.av (.val I))] [(1,.box [.val I,.val (.slice yQ2),.val yQ3])],[(.ret,sh [(2,.av (.val .bool))] []),(.exit 0,sh [(1,.av (.ptr 1 0))] [(1,.box [.val I,.val (.slice yQ2),.val yQ3])])],yw⟩
def Zaf (x : (Q9×Unit)) : Option (Bool×Unit) :=
 let ((a,b,c,_),_):=x; cond (ltI a 0) (some (false,())) (cond (gtI a 16384) (some (false,())) (cond (gtI (b.length : Nat) 32768) (some (false,())) (cond (neI (c.length : Nat) a) (some (false,())) ((yw (a,b,c,0,())).bind (Sum.elim (fun z2=>some (z2.1,())) (Sum.elim (fun (a_3,b_3,c_3,_)=>(Zu ((a_3,b_3,c_3,()),())).bind fun r4=>(dO .bool (r4.1.length : Nat) (r4.1.length : Nat)).bind fun m5=>(uD (a_3,b_3,c_3,r4.1,m5,0,0,())).bind (Sum.elim (fun z7=>some (z7.1,())) (Sum.elim (fun z8=>some ((eqI z8.2.1 (z8.1.length : Nat)),())) (fun _=>none)))) (fun _=>none)))))))
def zp : Fn:=mkF (cx [G2]) [(4,Dk),(13,yX),(16,yQ)] 29 Tryd.f29 [(.rd,yQ6)] [(.tmp 2,true,.bool)] Zaf [lp 4 Dk ro,lp 13 yX lX,lp 16 yQ l8] aj af rfl
def vB (x : Q19) : Option (Q19⊕(Q14⊕Empty)) :=
 let (a,b,c,d,e,f,g,_):=x; cond (ltI g (f.length : Nat)) ((ar f g).bind fun y1=>cond (eqI (f.length : Nat) 0) none ((ar f (gF (ah .i64 g 1) (f.length : Nat))).bind fun y2=>(aJ d.length y1).bind fun j3=>(d[j3]?).bind fun y4=>some (.inl (a,b,c,(d.set j3 y2),e,f,(ah .i64 g 1),())))) (some (.inr (.inl (a,b,c,d,e,()))))
def Cx:=aa vB
def Fq : Ann:=⟨sh [(1,.av (.ptr 1 0)),(3,.av (.own 3)),(4,.av (.val I)),(5,.av (.val (.slice I))),(6,.av (.val I))] [(1,.box [.val I,.val (.slice yQ2),.val yQ3]),(3,.arr I)],[(.exit 2,sh [(1,.av (.ptr 1 0)),(3,.av (.own 3)),(4,.av (.val I))] [(1,.box [.val I,.val (.slice yQ2),.val yQ3]),(3,.arr I)])],Cx⟩
def wv (x : Q14) : Option (Q14⊕(Q1⊕Empty)) :=
 let (a,b,c,d,e,_):=x; cond (ltI e a) ((ar c e).bind fun y1=>(Cx (a,b,c,d,e,y1,0,())).bind (Sum.elim (fun z3=>some (.inl (z3.1,z3.2.1,z3.2.2.1,z3.2.2.2.1,(ah .i64 z3.2.2.2.2.1 1),()))) (fun _=>none))) (some (.inr (.inl (d,()))))
def yM:=aa wv
def Fx : Ann:=⟨sh [(1,.av (.ptr 1 0)),(3,.av (.own 3)),(4,.av (.val I))] [(1,.box [.val I,.val (.slice yQ2),.val yQ3]),(3,.arr I)],[(.exit 0,sh [(3,.av (.own 3))] [(3,.arr I)])],yM⟩
def Zn (x : (Q9×Unit)) : Option Q1 :=
 let ((a,b,c,_),_):=x; (dO I (aN .i64 2 (b.length : Nat)) (aN .i64 2 (b.length : Nat))).bind fun m1=>(yM (a,b,c,m1,0,())).bind (Sum.elim (fun z3=>some (z3.1,())) (fun _=>none))
def HG : Fn:=mkF (cx []) [(3,Fx),(7,Fq)] 55 Tryd.f55 [(.rd,yQ6)] [(.tmp 2,true,(.slice I))] Zn [lp 3 Fx wv,lp 7 Fq vB] aj af rfl
def Zx (x : (Int×Unit)) : Option (Int×Unit) :=
 cond (eqI (gF x.1 2) 0) (some ((ah .i64 x.1 1),())) (some ((bf .i64 x.1 1),()))
def GV : Fn:=mkF (cx []) [] 48 Tryd.f48 [(.rd,I)] [(.tmp 2,true,I)] Zx [] aj af rfl
def qk (x : ((List (List Int))×List Int×List Bool×List Int×Int×Int×Unit)) : Option (((List (List Int))×List Int×List Bool×List Int×Int×Int×Unit)⊕(((List (List Int))×List Int×List Bool×List Int×Int×Unit)⊕Empty)) :=
 let (a,b,c,d,e,f,_):=x; (aJ c.length f).bind fun j1=>(c[j1]?).bind fun y2=>cond (!y2) ((aJ c.length f).bind fun j3=>(c[j3]?).bind fun y4=>(app d [f]).bind fun a5=>(Zx (f,())).bind fun r6=>(aJ b.length r6.1).bind fun j7=>(b[j7]?).bind fun y8=>some (.inl (a,b,(c.set j3 true),a5,e,y8,()))) (some (.inr (.inl (a,b,c,d,e,()))))
def xi:=aa qk
def DH : Ann:=⟨sh [(3,.av (.own 3)),(4,.av (.own 4)),(5,.av (.own 5)),(6,.av (.val I)),(7,.av (.own 7)),(8,.av (.val I))] [(3,.arr (.slice I)),(4,.arr I),(5,.arr .bool),(7,.arr I)],[(.exit 2,sh [(3,.av (.own 3)),(4,.av (.own 4)),(5,.av (.own 5)),(6,.av (.val I)),(7,.av (.own 7))] [(3,.arr (.slice I)),(4,.arr I),(5,.arr .bool),(7,.arr I)])],xi⟩
def wq (x : ((List (List Int))×List Int×List Bool×Int×Unit)) : Option (((List (List Int))×List Int×List Bool×Int×Unit)⊕(Q5⊕Empty)) :=
 let (a,b,c,d,_):=x; cond (ltI d (b.length : Nat)) ((aJ c.length d).bind fun j1=>(c[j1]?).bind fun y2=>cond y2 (some (.inl (a,b,c,(ah .i64 d 1),()))) ((xi (a,b,c,[],d,d,())).bind (Sum.elim (fun z4=>(app z4.1 [z4.2.2.2.1]).bind fun a5=>some (.inl (a5,z4.2.1,z4.2.2.1,(ah .i64 z4.2.2.2.2.1 1),()))) (fun _=>none)))) (some (.inr (.inl (a,()))))
def CY:=aa wq
def FR : Ann:=⟨sh [(3,.av (.own 3)),(4,.av (.own 4)),(5,.av (.own 5)),(6,.av (.val I))] [(3,.arr (.slice I)),(4,.arr I),(5,.arr .bool)],[(.exit 0,sh [(3,.av (.own 3))] [(3,.arr (.slice I))])],CY⟩
def Zy (x : (Q9×Unit)) : Option Q5 :=
 let ((a,b,c,_),_):=x; (Zaf ((a,b,c,()),())).bind fun r1=>cond (!r1.1) (some ([],())) ((Zn ((a,b,c,()),())).bind fun r2=>(dO .bool (r2.1.length : Nat) (r2.1.length : Nat)).bind fun m3=>(CY ([],r2.1,m3,0,())).bind (Sum.elim (fun z5=>some (z5.1,())) (fun _=>none)))
def EN : Fn:=mkF (cx [zp,GV,HG]) [(7,FR),(12,DH)] 33 Tryd.f33 [(.rd,yQ6)] [(.tmp 2,true,yQ3)] Zy [lp 7 FR wq,lp 12 DH qk] aj af rfl
def pJ (x : Q4) : Option (Q4⊕((Int×Unit)⊕Empty)) :=
 let (a,b,_):=x; (ar a b).bind fun y1=>cond (neI y1 b) ((ar a b).bind fun y2=>some (.inl (a,y2,()))) (some (.inr (.inl (b,()))))
def xE:=aa pJ
def De : Ann:=⟨sh [(0,.av (.val (.slice I))),(1,.av (.val I))] [],[(.exit 0,sh [(1,.av (.val I))] [])],xE⟩
def Zal (x : Q4) : Option (Int×Unit) :=
 (xE (x.1,x.2.1,())).bind (Sum.elim (fun z2=>some (z2.1,())) (fun _=>none))
def Hf : Fn:=mkF (cx []) [(1,De)] 79 Tryd.f79 [(.rd,(.slice I)),(.rd,I)] [(.tmp 4,true,I)] Zal [lp 1 De pJ] aj af rfl
def vf (x : (Int×(List Q2)×(List (List Int))×List Int×Int×Int×Unit)) : Option ((Int×(List Q2)×(List (List Int))×List Int×Int×Int×Unit)⊕((Int×Unit)⊕Empty)) :=
 let (a,b,c,d,e,f,_):=x; cond (ltI f (b.length : Nat)) ((ar b f).bind fun y1=>(Zal (d,y1.1,())).bind fun r2=>(ar b f).bind fun y3=>(Zal (d,y3.2.1,())).bind fun r4=>cond (neI r2.1 r4.1) ((aJ d.length (ju r2.1 r4.1)).bind fun j5=>(d[j5]?).bind fun y6=>some (.inl (a,b,c,(d.set j5 (uf r2.1 r4.1)),(bf .i64 e 1),(ah .i64 f 1),()))) (some (.inl (a,b,c,d,e,(ah .i64 f 1),())))) (some (.inr (.inl (e,()))))
def D5:=aa vf
def Fh : Ann:=⟨sh [(1,.av (.ptr 1 0)),(3,.av (.own 3)),(5,.av (.val I)),(6,.av (.val I))] [(1,.box [.val I,.val (.slice yQ2),.val yQ3]),(3,.arr I)],[(.exit 2,sh [(5,.av (.val I))] [])],D5⟩
def og (x : Q14) : Option (Q14⊕((Int×(List Q2)×(List (List Int))×List Int×Unit)⊕Empty)) :=
 let (a,b,c,d,e,_):=x; cond (ltI e a) ((app d [e]).bind fun a1=>some (.inl (a,b,c,a1,(ah .i64 e 1),()))) (some (.inr (.inl (a,b,c,d,()))))
def rP:=aa og
def FB : Ann:=⟨sh [(1,.av (.ptr 1 0)),(3,.av (.own 3)),(4,.av (.val I))] [(1,.box [.val I,.val (.slice yQ2),.val yQ3]),(3,.arr I)],[(.exit 0,sh [(1,.av (.ptr 1 0)),(3,.av (.own 3))] [(1,.box [.val I,.val (.slice yQ2),.val yQ3]),(3,.arr I)])],rP⟩
def Zc (x : (Q9×Unit)) : Option (Int×Unit) :=
 (rP (x.1.1,x.1.2.1,x.1.2.2.1,[],0,())).bind (Sum.elim (fun z2=>(D5 (z2.1,z2.2.1,z2.2.2.1,z2.2.2.2.1,z2.1,0,())).bind (Sum.elim (fun z4=>some (z4.1,())) (fun _=>none))) (fun _=>none))
def G9 : Fn:=mkF (cx [Hf]) [(3,FB),(8,Fh)] 53 Tryd.f53 [(.rd,yQ6)] [(.tmp 2,true,I)] Zc [lp 3 FB og,lp 8 Fh vf] aj af rfl
def jC (x : (Int×(List Q2)×(List (List Int))×Int×Int×Unit)) : Option ((Int×(List Q2)×(List (List Int))×Int×Int×Unit)⊕(Q13⊕Empty)) :=
 let (a,b,c,d,e,_):=x; cond (ltI e a) ((ar c e).bind fun y1=>cond (eqI (y1.length : Nat) 0) (some (.inl (a,b,c,(ah .i64 d 1),(ah .i64 e 1),()))) (some (.inl (a,b,c,d,(ah .i64 e 1),())))) (some (.inr (.inl (a,b,c,d,()))))
def uH:=aa jC
def BQ : Ann:=⟨sh [(1,.av (.ptr 1 0)),(3,.av (.val I)),(4,.av (.val I))] [(1,.box [.val I,.val (.slice yQ2),.val yQ3])],[(.exit 0,sh [(1,.av (.ptr 1 0)),(3,.av (.val I))] [(1,.box [.val I,.val (.slice yQ2),.val yQ3])])],uH⟩
def Zaa (x : (Q9×Unit)) : Option (Int×Unit) :=
 let ((a,b,c,_),_):=x; (Zaf ((a,b,c,()),())).bind fun r1=>cond (!r1.1) (some ((-1),())) ((Zy ((a,b,c,()),())).bind fun r2=>(uH (a,b,c,(r2.1.length : Nat),0,())).bind (Sum.elim (fun z4=>(Zc ((z4.1,z4.2.1,z4.2.2.1,()),())).bind fun r5=>some ((bf .i64 r5.1 (eG .i64 (ah .i64 (bf .i64 z4.1 (z4.2.1.length : Nat)) z4.2.2.2.1) 2)),())) (fun _=>none)))
def Ho : Fn:=mkF (cx [zp,EN,G9]) [(5,BQ)] 52 Tryd.f52 [(.rd,yQ6)] [(.tmp 2,true,I)] Zaa [lp 5 BQ jC] aj af rfl
def Zm (x : (Q9×Unit)) : Option (Bool×Unit) :=
 let ((a,b,c,_),_):=x; (Zaa ((a,b,c,()),())).bind fun r1=>cond (eqI r1.1 0) ((Zc ((a,b,c,()),())).bind fun r2=>some ((eqI r2.1 1),())) (some (false,()))
def Hq : Fn:=mkF (cx [Ho,G9]) [] 30 Tryd.f30 [(.rd,yQ6)] [(.tmp 2,true,.bool)] Zm [] aj af rfl
def re (x : Q32) : Option (Q32⊕((Bool×Unit)⊕(Q28⊕Empty))) :=
 let (a,b,c,d,e,f,g,h,i,_):=x; (ar c g).bind fun y1=>cond (ltI i (y1.length : Nat)) ((ar c g).bind fun y2=>(ar y2 i).bind fun y3=>(ar d y3).bind fun y4=>cond (ltI y4 1) (some (.inr (.inl (false,())))) (cond (gtI y4 4) (some (.inr (.inl (false,())))) (some (.inl (a,b,c,d,e,f,g,(ah .i64 h y4),(ah .i64 i 1),()))))) (some (.inr (.inr (.inl (a,b,c,d,e,f,g,h,())))))
def yf:=aa re
def C2 : Ann:=⟨sh [(1,.av (.ptr 1 0)),(3,.av (.val I)),(4,.av (.val I)),(5,.av (.val I))] [(1,.box [.val I,.val (.slice yQ2),.val yQ3,.val (.slice I),.val (.slice .str),.val I])],[(.ret,sh [(2,.av (.val .bool))] []),(.exit 2,sh [(1,.av (.ptr 1 0)),(3,.av (.val I)),(4,.av (.val I))] [(1,.box [.val I,.val (.slice yQ2),.val yQ3,.val (.slice I),.val (.slice .str),.val I])])],yf⟩
def pp (x : Q24) : Option (Q24⊕((Bool×Unit)⊕(Unit⊕Empty))) :=
 let (a,b,c,d,e,f,g,_):=x; cond (ltI g a) ((yf (a,b,c,d,e,f,g,0,0,())).bind (Sum.elim (fun z2=>some (.inr (.inl (z2.1,())))) (Sum.elim (fun (a_3,b_3,c_3,d_3,e_3,f_3,g_3,h_3,_)=>cond (neI h_3 4) ((ar c_3 g_3).bind fun y4=>cond (gtI (y4.length : Nat) 0) (some (.inr (.inl (false,())))) (some (.inl (a_3,b_3,c_3,d_3,e_3,f_3,(ah .i64 g_3 1),())))) (some (.inl (a_3,b_3,c_3,d_3,e_3,f_3,(ah .i64 g_3 1),())))) (fun _=>none)))) (some (.inr (.inr (.inl ()))))
def xB:=aa pp
def Ce : Ann:=⟨sh [(1,.av (.ptr 1 0)),(3,.av (.val I))] [(1,.box [.val I,.val (.slice yQ2),.val yQ3,.val (.slice I),.val (.slice .str),.val I])],[(.ret,sh [(2,.av (.val .bool))] []),(.exit 0,sh [] [])],xB⟩
def Zag (x : (Q11×Unit)) : Option (Bool×Unit) :=
 let (((a,b,c,_),d,e,f,_),_):=x; (xB (a,b,c,d,e,f,0,())).bind (Sum.elim (fun z2=>some (z2.1,())) (Sum.elim (fun z3=>some (true,())) (fun _=>none)))
def Hl : Fn:=mkF (cx []) [(2,Ce),(6,C2)] 31 Tryd.f31 [(.rd,yQ9)] [(.tmp 2,true,.bool)] Zag [lp 2 Ce pp,lp 6 C2 re] aj af rfl
def Zg (x : (Int×Unit)) : Option (Int×Unit) :=
 cond (eqI x.1 76) (some (82,())) (cond (eqI x.1 82) (some (76,())) (some (x.1,())))
def HF : Fn:=mkF (cx []) [] 80 Tryd.f80 [(.rd,(.int .u8))] [(.tmp 2,true,(.int .u8))] Zg [] aj af rfl
def rT (x : (List Int×ByteArray×Int×Unit)) : Option ((List Int×ByteArray×Int×Unit)⊕(Q1⊕Empty)) :=
 let (a,b,c,_):=x; cond (geI c 0) ((ar b.data.toList c).bind fun c1=>(Zg ((c1.toNat : Int),())).bind fun r2=>(app a [r2.1]).bind fun a3=>some (.inl (a3,b,(bf .i64 c 1),()))) (some (.inr (.inl (a,()))))
def yR:=aa rT
def FP : Ann:=⟨sh [(0,.av (.val .str)),(3,.av (.own 3)),(4,.av (.val I))] [(3,.arr (.int .u8))],[(.exit 0,sh [(3,.av (.own 3))] [(3,.arr (.int .u8))])],yR⟩
def Zh (x : Q3) : Option Q3 :=
 (yR ([],x.1,(bf .i64 (x.1.size : Nat) 1),())).bind (Sum.elim (fun z2=>some ((cP z2.1),())) (fun _=>none))
def HJ : Fn:=mkF (cx [HF]) [(3,FP)] 54 Tryd.f54 [(.rd,.str)] [(.tmp 2,true,.str)] Zh [lp 3 FP rT] aj af rfl
def wo (x : Q28) : Option (Q28⊕((Bool×Unit)⊕(Q24⊕Empty))) :=
 let (a,b,c,d,e,f,g,h,_):=x; (ar e g).bind fun y1=>cond (ltI h (y1.size : Nat)) ((ar e g).bind fun y2=>(ar y2.data.toList h).bind fun c3=>cond (neI (c3.toNat : Int) 76) ((ar e g).bind fun y4=>(ar y4.data.toList h).bind fun c5=>cond (neI (c5.toNat : Int) 82) (some (.inr (.inl (false,())))) (some (.inl (a,b,c,d,e,f,g,(ah .i64 h 1),())))) (some (.inl (a,b,c,d,e,f,g,(ah .i64 h 1),())))) (some (.inr (.inr (.inl (a,b,c,d,e,f,g,())))))
def zi:=aa wo
def Fk : Ann:=⟨sh [(1,.av (.ptr 1 0)),(3,.av (.val I)),(4,.av (.val I))] [(1,.box [.val I,.val (.slice yQ2),.val yQ3,.val (.slice I),.val (.slice .str),.val I])],[(.ret,sh [(2,.av (.val .bool))] []),(.exit 2,sh [(1,.av (.ptr 1 0)),(3,.av (.val I))] [(1,.box [.val I,.val (.slice yQ2),.val yQ3,.val (.slice I),.val (.slice .str),.val I])])],zi⟩
def vL (x : Q24) : Option (Q24⊕((Bool×Unit)⊕(Unit⊕Empty))) :=
 let (a,b,c,d,e,f,g,_):=x; cond (ltI g (e.length : Nat)) ((ar e g).bind fun y1=>cond (gtI (y1.size : Nat) 64) (some (.inr (.inl (false,())))) ((ar e (ip .i64 g 1)).bind fun y2=>(ar e g).bind fun y3=>(Zh (y3,())).bind fun r4=>cond (neS y2 r4.1) (some (.inr (.inl (false,())))) ((zi (a,b,c,d,e,f,g,0,())).bind (Sum.elim (fun z6=>some (.inr (.inl (z6.1,())))) (Sum.elim (fun (a_7,b_7,c_7,d_7,e_7,f_7,g_7,_)=>some (.inl (a_7,b_7,c_7,d_7,e_7,f_7,(ah .i64 g_7 1),()))) (fun _=>none)))))) (some (.inr (.inr (.inl ()))))
def zE:=aa vL
def Fs : Ann:=⟨sh [(1,.av (.ptr 1 0)),(3,.av (.val I))] [(1,.box [.val I,.val (.slice yQ2),.val yQ3,.val (.slice I),.val (.slice .str),.val I])],[(.ret,sh [(2,.av (.val .bool))] []),(.exit 0,sh [] [])],zE⟩
def Zv (x : (Q11×Unit)) : Option (Bool×Unit) :=
 let (((a,b,c,_),d,e,f,_),_):=x; (zE (a,b,c,d,e,f,0,())).bind (Sum.elim (fun z2=>some (z2.1,())) (Sum.elim (fun z3=>some (true,())) (fun _=>none)))
def HD : Fn:=mkF (cx [HJ]) [(2,Fs),(7,Fk)] 32 Tryd.f32 [(.rd,yQ9)] [(.tmp 2,true,.bool)] Zv [lp 2 Fs vL,lp 7 Fk wo] aj af rfl
def nE (x : Q6) : Option (Q6⊕((Bool×Unit)⊕(Unit⊕Empty))) :=
 let (a,b,c,_):=x; cond (ltI c (a.length : Nat)) ((ar a c).bind fun y1=>cond (eqI y1 b) (some (.inr (.inl (true,())))) (some (.inl (a,b,(ah .i64 c 1),())))) (some (.inr (.inr (.inl ()))))
def uv:=aa nE
def Co : Ann:=⟨sh [(0,.av (.val (.slice I))),(1,.av (.val I)),(5,.av (.val I))] [],[(.ret,sh [(4,.av (.val .bool))] []),(.exit 0,sh [] [])],uv⟩
def Zat (x : Q4) : Option (Bool×Unit) :=
 (uv (x.1,x.2.1,0,())).bind (Sum.elim (fun z2=>some (z2.1,())) (Sum.elim (fun z3=>some (false,())) (fun _=>none)))
def Fv : Fn:=mkF (cx []) [(2,Co)] 34 Tryd.f34 [(.rd,(.slice I)),(.rd,I)] [(.tmp 4,true,.bool)] Zat [lp 2 Co nE] aj af rfl
def qN (x : (ByteArray×Int×Int×Unit)) : Option ((ByteArray×Int×Int×Unit)⊕((Int×Unit)⊕Empty)) :=
 let (a,b,c,_):=x; cond (ltI c (a.size : Nat)) ((ar a.data.toList c).bind fun c1=>cond (eqI (c1.toNat : Int) 76) ((ar a.data.toList c).bind fun c2=>cond (eqI (c2.toNat : Int) 82) (some (.inl (a,(bf .i64 (ah .i64 b 1) 1),(ah .i64 c 1),()))) (some (.inl (a,(ah .i64 b 1),(ah .i64 c 1),())))) ((ar a.data.toList c).bind fun c3=>cond (eqI (c3.toNat : Int) 82) (some (.inl (a,(bf .i64 b 1),(ah .i64 c 1),()))) (some (.inl (a,b,(ah .i64 c 1),()))))) (some (.inr (.inl (b,()))))
def ti:=aa qN
def BZ : Ann:=⟨sh [(0,.av (.val .str)),(3,.av (.val I)),(4,.av (.val I))] [],[(.exit 0,sh [(3,.av (.val I))] [])],ti⟩
def Zai (x : Q3) : Option (Int×Unit) :=
 (ti (x.1,0,0,())).bind (Sum.elim (fun z2=>some (z2.1,())) (fun _=>none))
def Hm : Fn:=mkF (cx []) [(3,BZ)] 56 Tryd.f56 [(.rd,.str)] [(.tmp 2,true,I)] Zai [lp 3 BZ qN] aj af rfl
def wP (x : Q34) : Option (Q34⊕((Int×Unit)⊕Empty)) :=
 let (a,b,c,d,e,f,g,h,i,_):=x; cond (ltI i (g.length : Nat)) ((ar g i).bind fun y1=>(ar e y1).bind fun y2=>(Zai (y2,())).bind fun r3=>(ar g i).bind fun y4=>(ar d (ip .i64 y4 1)).bind fun y5=>some (.inl (a,b,c,d,e,f,g,(bf .i64 (ah .i64 (ah .i64 h r3.1) 2) y5),(ah .i64 i 1),()))) (some (.inr (.inl (h,()))))
def yY:=aa wP
def FF : Ann:=⟨sh [(1,.av (.val (.slice I))),(2,.av (.ptr 2 0)),(5,.av (.val I)),(6,.av (.val I))] [(2,.box [.val I,.val (.slice yQ2),.val yQ3,.val (.slice I),.val (.slice .str),.val I])],[(.exit 0,sh [(5,.av (.val I))] [])],yY⟩
def Zs (x : (Q11×List Int×Unit)) : Option (Int×Unit) :=
 let (((a,b,c,_),d,e,f,_),g,_):=x; (yY (a,b,c,d,e,f,g,0,0,())).bind (Sum.elim (fun z2=>some (z2.1,())) (fun _=>none))
def Hb : Fn:=mkF (cx [Hm]) [(3,FF)] 35 Tryd.f35 [(.rd,yQ9),(.rd,(.slice I))] [(.tmp 4,true,I)] Zs [lp 3 FF wP] aj af rfl
def pA (x : Q35) : Option (Q35⊕((Int×Unit)⊕(Unit⊕Empty))) :=
 let (a,b,c,d,e,f,g,h,_):=x; cond (ltI h (g.length : Nat)) ((aJ g.length h).bind fun j1=>(g[j1]?).bind fun y2=>(Zat (y2,f,())).bind fun r3=>cond r3.1 ((aJ g.length h).bind fun j4=>(g[j4]?).bind fun y5=>(Zs (((a,b,c,()),d,e,f,()),y5,())).bind fun r6=>cond (neI r6.1 (-4)) (some (.inr (.inl (13,())))) (some (.inl (a,b,c,d,e,f,g,(ah .i64 h 1),())))) ((aJ g.length h).bind fun j7=>(g[j7]?).bind fun y8=>(Zs (((a,b,c,()),d,e,f,()),y8,())).bind fun r9=>cond (neI r9.1 4) (some (.inr (.inl (13,())))) (some (.inl (a,b,c,d,e,f,g,(ah .i64 h 1),()))))) (some (.inr (.inr (.inl ()))))
def qm:=aa pA
def C7 : Ann:=⟨sh [(1,.av (.ptr 1 0)),(4,.av (.own 4)),(5,.av (.val I))] [(1,.box [.val I,.val (.slice yQ2),.val yQ3,.val (.slice I),.val (.slice .str),.val I]),(4,.arr (.slice I))],[(.ret,sh [(2,.av (.val I))] []),(.exit 0,sh [] [])],qm⟩
def Zac (x : (Q11×Unit)) : Option (Int×Unit) :=
 let (((a,b,c,_),d,e,f,_),_):=x; let t_0:=(Zy ((a,b,c,()),())).bind fun r5=>(qm (a,b,c,d,e,f,r5.1,0,())).bind (Sum.elim (fun z7=>some (z7.1,())) (Sum.elim (fun z8=>some (0,())) (fun _=>none))); (Zaf ((a,b,c,()),())).bind fun r1=>cond (!r1.1) (some (13,())) (cond (ltI a 1) (some (13,())) ((Zm ((a,b,c,()),())).bind fun r2=>cond (!r2.1) (some (13,())) (cond (neI (d.length : Nat) (aN .i64 2 (b.length : Nat))) (some (13,())) (cond (neI (e.length : Nat) (aN .i64 2 (b.length : Nat))) (some (13,())) ((Zag (((a,b,c,()),d,e,f,()),())).bind fun r3=>cond (!r3.1) (some (13,())) ((Zv (((a,b,c,()),d,e,f,()),())).bind fun r4=>cond (!r4.1) (some (13,())) (cond (ltI f 0) (some (13,())) (cond (gtI f 0) (cond (geI f (aN .i64 2 (b.length : Nat))) (some (13,())) t_0) t_0))))))))
def zT : Fn:=mkF (cx [zp,Hq,Hl,HD,EN,Fv,Hb]) [(8,C7)] 13 Tryd.f13 [(.rd,yQ9)] [(.tmp 2,true,I)] Zac [lp 8 C7 pA] aj af rfl
def wz (x : Q24) : Option (Q24⊕((Bool×Unit)⊕(Unit⊕Empty))) :=
 let (a,b,c,d,e,f,g,_):=x; cond (ltI g (e.length : Nat)) ((ar e g).bind fun y1=>cond (neS y1 (ByteArray.mk #[])) (some (.inr (.inl (false,())))) (some (.inl (a,b,c,d,e,f,(ah .i64 g 1),())))) (some (.inr (.inr (.inl ()))))
def zl:=aa wz
def Fi : Ann:=⟨sh [(1,.av (.ptr 1 0)),(3,.av (.val I))] [(1,.box [.val I,.val (.slice yQ2),.val yQ3,.val (.slice I),.val (.slice .str),.val I])],[(.ret,sh [(2,.av (.val .bool))] []),(.exit 0,sh [] [])],zl⟩
def Zw (x : (Q11×Unit)) : Option (Bool×Unit) :=
 let (((a,b,c,_),d,e,f,_),_):=x; (zl (a,b,c,d,e,f,0,())).bind (Sum.elim (fun z2=>some (z2.1,())) (Sum.elim (fun z3=>some (true,())) (fun _=>none)))
def HA : Fn:=mkF (cx []) [(2,Fi)] 14 Tryd.f14 [(.rd,yQ9)] [(.tmp 2,true,.bool)] Zw [lp 2 Fi wz] aj af rfl
def jY (x : Q28) : Option (Q28⊕((Int×Unit)⊕Empty)) :=
 let (a,b,c,d,e,f,g,h,_):=x; cond (ltI h (e.length : Nat)) ((ar e h).bind fun y1=>some (.inl (a,b,c,d,e,f,(ah .i64 g (y1.size : Nat)),(ah .i64 h 2),()))) (some (.inr (.inl (g,()))))
def lm:=aa jY
def D1 : Ann:=⟨sh [(1,.av (.ptr 1 0)),(3,.av (.val I)),(4,.av (.val I))] [(1,.box [.val I,.val (.slice yQ2),.val yQ3,.val (.slice I),.val (.slice .str),.val I])],[(.exit 0,sh [(3,.av (.val I))] [])],lm⟩
def Zab (x : (Q11×Unit)) : Option (Int×Unit) :=
 let (((a,b,c,_),d,e,f,_),_):=x; (Zac (((a,b,c,()),d,e,f,()),())).bind fun r1=>cond (neI r1.1 0) (some (0,())) ((lm (a,b,c,d,e,f,0,0,())).bind (Sum.elim (fun z3=>some (z3.1,())) (fun _=>none)))
def Gy : Fn:=mkF (cx [zT]) [(5,D1)] 19 Tryd.f19 [(.rd,yQ9)] [(.tmp 2,true,I)] Zab [lp 5 D1 jY] aj af rfl
def uA (x : Q39) : Option (Q39⊕((Int×Unit)⊕(Unit⊕Empty))) :=
 let (a,b,c,d,e,f,g,h,i,_):=x; cond (ltI i (g.length : Nat)) ((aJ g.length i).bind fun j1=>(g[j1]?).bind fun y2=>(Zat (y2,h,())).bind fun r3=>cond r3.1 ((aJ g.length i).bind fun j4=>(g[j4]?).bind fun y5=>(Zs (((a,b,c,()),d,e,f,()),y5,())).bind fun r6=>some (.inr (.inl (r6.1,())))) (some (.inl (a,b,c,d,e,f,g,h,(ah .i64 i 1),())))) (some (.inr (.inr (.inl ()))))
def uh:=aa uA
def DD : Ann:=⟨sh [(1,.av (.val I)),(2,.av (.ptr 2 0)),(5,.av (.own 5)),(6,.av (.val I))] [(2,.box [.val I,.val (.slice yQ2),.val yQ3,.val (.slice I),.val (.slice .str),.val I]),(5,.arr (.slice I))],[(.ret,sh [(4,.av (.val I))] []),(.exit 0,sh [] [])],uh⟩
def Zae (x : (Q11×Int×Unit)) : Option (Int×Unit) :=
 let (((a,b,c,_),d,e,f,_),g,_):=x; (Zac (((a,b,c,()),d,e,f,()),())).bind fun r1=>cond (neI r1.1 0) (some (0,())) ((Zy ((a,b,c,()),())).bind fun r2=>(uh (a,b,c,d,e,f,r2.1,g,0,())).bind (Sum.elim (fun z4=>some (z4.1,())) (Sum.elim (fun z5=>some (0,())) (fun _=>none))))
def GD : Fn:=mkF (cx [zT,EN,Fv,Hb]) [(5,DD)] 49 Tryd.f49 [(.rd,yQ9),(.rd,I)] [(.tmp 4,true,I)] Zae [lp 5 DD uA] aj af rfl
def uX (x : Q44) : Option (Q44⊕(Q44⊕Empty)) :=
 let (a,b,c,d,e,f,g,h,i,k,l,_):=x; cond (gtI l 0) ((aJ g.length (bf .i64 l 1)).bind fun j1=>(g[j1]?).bind fun y2=>cond (gtI y2 k) ((aJ g.length (bf .i64 l 1)).bind fun j3=>(g[j3]?).bind fun y4=>(aJ g.length l).bind fun j5=>(g[j5]?).bind fun y6=>some (.inl (a,b,c,d,e,f,(g.set j5 y4),h,i,k,(bf .i64 l 1),()))) (some (.inr (.inl (a,b,c,d,e,f,g,h,i,k,l,()))))) (some (.inr (.inl (a,b,c,d,e,f,g,h,i,k,l,()))))
def wG:=aa uX
def Fj : Ann:=⟨sh [(1,.av (.ptr 1 0)),(3,.av (.own 3)),(4,.av (.own 4)),(5,.av (.val I)),(6,.av (.val I)),(7,.av (.val I))] [(1,.box [.val I,.val (.slice yQ2),.val yQ3,.val (.slice I),.val (.slice .str),.val I]),(3,.arr I),(4,.arr (.slice I))],[(.exit 2,sh [(1,.av (.ptr 1 0)),(3,.av (.own 3)),(4,.av (.own 4)),(5,.av (.val I)),(6,.av (.val I)),(7,.av (.val I))] [(1,.box [.val I,.val (.slice yQ2),.val yQ3,.val (.slice I),.val (.slice .str),.val I]),(3,.arr I),(4,.arr (.slice I))])],wG⟩
def zU (x : Q40) : Option (Q40⊕(Q1⊕Empty)) :=
 let (a,b,c,d,e,f,g,h,i,_):=x; cond (ltI i (h.length : Nat)) ((aJ h.length i).bind fun j1=>(h[j1]?).bind fun y2=>(ar y2 0).bind fun y3=>(Zae (((a,b,c,()),d,e,f,()),y3,())).bind fun r4=>(app g [r4.1]).bind fun a5=>(wG (a,b,c,d,e,f,a5,h,i,r4.1,(g.length : Nat),())).bind (Sum.elim (fun (a_7,b_7,c_7,d_7,e_7,f_7,g_7,h_7,i_7,k_7,l_7,_)=>(aJ g_7.length l_7).bind fun j8=>(g_7[j8]?).bind fun y9=>some (.inl (a_7,b_7,c_7,d_7,e_7,f_7,(g_7.set j8 k_7),h_7,(ah .i64 i_7 1),()))) (fun _=>none))) (some (.inr (.inl (g,()))))
def Ai:=aa zU
def FN : Ann:=⟨sh [(1,.av (.ptr 1 0)),(3,.av (.own 3)),(4,.av (.own 4)),(5,.av (.val I))] [(1,.box [.val I,.val (.slice yQ2),.val yQ3,.val (.slice I),.val (.slice .str),.val I]),(3,.arr I),(4,.arr (.slice I))],[(.exit 0,sh [(3,.av (.own 3))] [(3,.arr I)])],Ai⟩
def Zt (x : (Q11×Unit)) : Option Q1 :=
 let (((a,b,c,_),d,e,f,_),_):=x; (Zy ((a,b,c,()),())).bind fun r1=>(Ai (a,b,c,d,e,f,[],r1.1,0,())).bind (Sum.elim (fun z3=>some (z3.1,())) (fun _=>none))
def HK : Fn:=mkF (cx [EN,GD]) [(4,FN),(9,Fj)] 20 Tryd.f20 [(.rd,yQ9)] [(.tmp 2,true,(.slice I))] Zt [lp 4 FN zU,lp 9 Fj uX] aj af rfl
def Zan (x : Q10) : Option (Int×Unit) :=
 let ((a,b,c,_),d,_):=x; (Zaf ((a,b,c,()),())).bind fun r1=>cond (!r1.1) (some ((-1),())) (cond (ltI d 0) (some ((-1),())) (cond (geI d (aN .i64 2 (b.length : Nat))) (some ((-1),())) ((Zu ((a,b,c,()),())).bind fun r2=>(aJ r2.1.length d).bind fun j3=>(r2.1[j3]?).bind fun y4=>some (y4,()))))
def Fp : Fn:=mkF (cx [zp,G2]) [] 21 Tryd.f21 [(.rd,yQ6),(.rd,I)] [(.tmp 4,true,I)] Zan [] aj af rfl
def Zaj (x : Q10) : Option (Int×Unit) :=
 let ((a,b,c,_),d,_):=x; cond (ltI d 0) (some ((-1),())) ((Zx (d,())).bind fun r1=>(Zan ((a,b,c,()),r1.1,())).bind fun r2=>some (r2.1,()))
def G8 : Fn:=mkF (cx [Fp,GV]) [] 22 Tryd.f22 [(.rd,yQ6),(.rd,I)] [(.tmp 4,true,I)] Zaj [] aj af rfl
def zy (x : (List Int×List Int×Int×Bool×Int×Unit)) : Option ((List Int×List Int×Int×Bool×Int×Unit)⊕((List Int×List Int×Int×Bool×Unit)⊕Empty)) :=
 let (a,b,c,d,e,_):=x; cond (ltI e (a.length : Nat)) (cond d (cond (eqI (a.length : Nat) 0) none ((ar a (gF (ah .i64 c e) (a.length : Nat))).bind fun y1=>(ar b e).bind fun y2=>some (.inl (a,b,c,(eqI y1 y2),(ah .i64 e 1),())))) (some (.inr (.inl (a,b,c,d,()))))) (some (.inr (.inl (a,b,c,d,()))))
def zo:=aa zy
def FX : Ann:=⟨sh [(0,.av (.val (.slice I))),(1,.av (.val (.slice I))),(5,.av (.val I)),(6,.av (.val .bool)),(7,.av (.val I))] [],[(.exit 2,sh [(0,.av (.val (.slice I))),(1,.av (.val (.slice I))),(5,.av (.val I)),(6,.av (.val .bool))] [])],zo⟩
def yT (x : (List Int×List Int×Int×Unit)) : Option ((List Int×List Int×Int×Unit)⊕((Bool×Unit)⊕(Q1⊕Empty))) :=
 let (a,b,c,_):=x; cond (ltI c (a.length : Nat)) ((zo (a,b,c,true,0,())).bind (Sum.elim (fun z2=>cond z2.2.2.2.1 (some (.inr (.inl (true,())))) (some (.inl (z2.1,z2.2.1,(ah .i64 z2.2.2.1 1),())))) (fun _=>none))) (some (.inr (.inr (.inl (a,())))))
def zL:=aa yT
def FG : Ann:=⟨sh [(0,.av (.val (.slice I))),(1,.av (.val (.slice I))),(5,.av (.val I))] [],[(.ret,sh [(4,.av (.val .bool))] []),(.exit 0,sh [(0,.av (.val (.slice I)))] [])],zL⟩
def Zo (x : (List Int×List Int×Unit)) : Option (Bool×Unit) :=
 cond (neI (x.1.length : Nat) (x.2.1.length : Nat)) (some (false,())) ((zL (x.1,x.2.1,0,())).bind (Sum.elim (fun z2=>some (z2.1,())) (Sum.elim (fun z3=>some ((eqI (z3.1.length : Nat) 0),())) (fun _=>none))))
def Hr : Fn:=mkF (cx []) [(4,FG),(8,FX)] 78 Tryd.f78 [(.rd,(.slice I)),(.rd,(.slice I))] [(.tmp 4,true,.bool)] Zo [lp 4 FG yT,lp 8 FX zy] aj af rfl
def pq (x : Q27) : Option (Q27⊕((Bool×Unit)⊕(Unit⊕Empty))) :=
 let (a,b,c,d,e,f,g,_):=x; cond (ltI g (c.length : Nat)) ((ar c g).bind fun y1=>(ar f g).bind fun y2=>(Zo (y1,y2,())).bind fun r3=>cond (!r3.1) (some (.inr (.inl (false,())))) (some (.inl (a,b,c,d,e,f,(ah .i64 g 1),())))) (some (.inr (.inr (.inl ()))))
def yu:=aa pq
def Dq : Ann:=⟨sh [(2,.av (.ptr 2 0)),(3,.av (.ptr 3 0)),(6,.av (.val I))] [(2,.box [.val I,.val (.slice yQ2),.val yQ3]),(3,.box [.val I,.val (.slice yQ2),.val yQ3])],[(.ret,sh [(4,.av (.val .bool))] []),(.exit 2,sh [] [])],yu⟩
def pk (x : Q27) : Option (Q27⊕((Bool×Unit)⊕((Int×(List Q2)×(List (List Int))×Int×(List Q2)×(List (List Int))×Unit)⊕Empty))) :=
 let (a,b,c,d,e,f,g,_):=x; cond (ltI g (b.length : Nat)) ((ar b g).bind fun y1=>(ar e g).bind fun y2=>cond (!((eqI y1.1 y2.1) && ((eqI y1.2.1 y2.2.1) && true))) (some (.inr (.inl (false,())))) (some (.inl (a,b,c,d,e,f,(ah .i64 g 1),())))) (some (.inr (.inr (.inl (a,b,c,d,e,f,())))))
def xI:=aa pk
def C1 : Ann:=⟨sh [(2,.av (.ptr 2 0)),(3,.av (.ptr 3 0)),(5,.av (.val I))] [(2,.box [.val I,.val (.slice yQ2),.val yQ3]),(3,.box [.val I,.val (.slice yQ2),.val yQ3])],[(.ret,sh [(4,.av (.val .bool))] []),(.exit 0,sh [(2,.av (.ptr 2 0)),(3,.av (.ptr 3 0))] [(2,.box [.val I,.val (.slice yQ2),.val yQ3]),(3,.box [.val I,.val (.slice yQ2),.val yQ3])])],xI⟩
def Zah (x : (Q9×Q9×Unit)) : Option (Bool×Unit) :=
 let ((a,b,c,_),(d,e,f,_),_):=x; cond (neI a d) (some (false,())) (cond (neI (b.length : Nat) (e.length : Nat)) (some (false,())) (cond (neI (c.length : Nat) (f.length : Nat)) (some (false,())) ((xI (a,b,c,d,e,f,0,())).bind (Sum.elim (fun z2=>some (z2.1,())) (Sum.elim (fun (a_3,b_3,c_3,d_3,e_3,f_3,_)=>(yu (a_3,b_3,c_3,d_3,e_3,f_3,0,())).bind (Sum.elim (fun z5=>some (z5.1,())) (Sum.elim (fun z6=>some (true,())) (fun _=>none)))) (fun _=>none))))))
def GI : Fn:=mkF (cx [Hr]) [(4,C1),(9,Dq)] 51 Tryd.f51 [(.rd,yQ6),(.rd,yQ6)] [(.tmp 4,true,.bool)] Zah [lp 4 C1 pk,lp 9 Dq pq] aj af rfl
def qd (x : Q30) : Option (Q30⊕((Bool×Unit)⊕(Q27⊕Empty))) :=
 let (a,b,c,d,e,f,g,h,_):=x; (ar c g).bind fun y1=>cond (ltI h (y1.length : Nat)) ((ar c g).bind fun y2=>(ar y2 h).bind fun y3=>(ar f g).bind fun y4=>(ar y4 h).bind fun y5=>cond (neI y3 y5) (some (.inr (.inl (false,())))) (some (.inl (a,b,c,d,e,f,g,(ah .i64 h 1),())))) (some (.inr (.inr (.inl (a,b,c,d,e,f,g,())))))
def uL:=aa qd
def D3 : Ann:=⟨sh [(2,.av (.ptr 2 0)),(3,.av (.ptr 3 0)),(5,.av (.val I)),(6,.av (.val I))] [(2,.box [.val I,.val (.slice yQ2),.val yQ3]),(3,.box [.val I,.val (.slice yQ2),.val yQ3])],[(.ret,sh [(4,.av (.val .bool))] []),(.exit 2,sh [(2,.av (.ptr 2 0)),(3,.av (.ptr 3 0)),(5,.av (.val I))] [(2,.box [.val I,.val (.slice yQ2),.val yQ3]),(3,.box [.val I,.val (.slice yQ2),.val yQ3])])],uL⟩
def qo (x : Q27) : Option (Q27⊕((Bool×Unit)⊕(Unit⊕Empty))) :=
 let (a,b,c,d,e,f,g,_):=x; cond (ltI g (c.length : Nat)) ((uL (a,b,c,d,e,f,g,0,())).bind (Sum.elim (fun z2=>some (.inr (.inl (z2.1,())))) (Sum.elim (fun (a_3,b_3,c_3,d_3,e_3,f_3,g_3,_)=>some (.inl (a_3,b_3,c_3,d_3,e_3,f_3,(ah .i64 g_3 1),()))) (fun _=>none)))) (some (.inr (.inr (.inl ()))))
def yF:=aa qo
def BV : Ann:=⟨sh [(2,.av (.ptr 2 0)),(3,.av (.ptr 3 0)),(5,.av (.val I))] [(2,.box [.val I,.val (.slice yQ2),.val yQ3]),(3,.box [.val I,.val (.slice yQ2),.val yQ3])],[(.ret,sh [(4,.av (.val .bool))] []),(.exit 0,sh [] [])],yF⟩
def Zad (x : (Q9×Q9×Unit)) : Option (Bool×Unit) :=
 let ((a,b,c,_),(d,e,f,_),_):=x; (Zah ((a,b,c,()),(d,e,f,()),())).bind fun r1=>cond (!r1.1) (some (false,())) ((yF (a,b,c,d,e,f,0,())).bind (Sum.elim (fun z3=>some (z3.1,())) (Sum.elim (fun z4=>some (true,())) (fun _=>none))))
def GU : Fn:=mkF (cx [GI]) [(4,BV),(7,D3)] 28 Tryd.f28 [(.rd,yQ6),(.rd,yQ6)] [(.tmp 4,true,.bool)] Zad [lp 4 BV qo,lp 7 D3 qd] aj af rfl
def qS (x : Q50) : Option (Q50⊕((Bool×Unit)⊕(Unit⊕Empty))) :=
 let (a,b,c,d,e,f,g,h,i,k,l,m,n,_):=x; cond (ltI n (e.length : Nat)) ((ar e n).bind fun y1=>(ar l n).bind fun y2=>cond (neS y1 y2) (some (.inr (.inl (false,())))) (some (.inl (a,b,c,d,e,f,g,h,i,k,l,m,(ah .i64 n 1),())))) (some (.inr (.inr (.inl ()))))
def xp:=aa qS
def DV : Ann:=⟨sh [(2,.av (.ptr 2 0)),(3,.av (.ptr 3 0)),(6,.av (.val I))] [(2,.box [.val I,.val (.slice yQ2),.val yQ3,.val (.slice I),.val (.slice .str),.val I]),(3,.box [.val I,.val (.slice yQ2),.val yQ3,.val (.slice I),.val (.slice .str),.val I])],[(.ret,sh [(4,.av (.val .bool))] []),(.exit 2,sh [] [])],xp⟩
def qp (x : Q50) : Option (Q50⊕((Bool×Unit)⊕((Int×(List Q2)×(List (List Int))×List Int×List ByteArray×Int×Int×(List Q2)×(List (List Int))×List Int×List ByteArray×Int×Unit)⊕Empty))) :=
 let (a,b,c,d,e,f,g,h,i,k,l,m,n,_):=x; cond (ltI n (d.length : Nat)) ((ar d n).bind fun y1=>(ar k n).bind fun y2=>cond (neI y1 y2) (some (.inr (.inl (false,())))) (some (.inl (a,b,c,d,e,f,g,h,i,k,l,m,(ah .i64 n 1),())))) (some (.inr (.inr (.inl (a,b,c,d,e,f,g,h,i,k,l,m,())))))
def xg:=aa qp
def CG : Ann:=⟨sh [(2,.av (.ptr 2 0)),(3,.av (.ptr 3 0)),(5,.av (.val I))] [(2,.box [.val I,.val (.slice yQ2),.val yQ3,.val (.slice I),.val (.slice .str),.val I]),(3,.box [.val I,.val (.slice yQ2),.val yQ3,.val (.slice I),.val (.slice .str),.val I])],[(.ret,sh [(4,.av (.val .bool))] []),(.exit 0,sh [(2,.av (.ptr 2 0)),(3,.av (.ptr 3 0))] [(2,.box [.val I,.val (.slice yQ2),.val yQ3,.val (.slice I),.val (.slice .str),.val I]),(3,.box [.val I,.val (.slice yQ2),.val yQ3,.val (.slice I),.val (.slice .str),.val I])])],xg⟩
def Zar (x : (Q11×Q11×Unit)) : Option (Bool×Unit) :=
 let (((a,b,c,_),d,e,f,_),((g,h,i,_),k,l,m,_),_):=x; (Zad ((a,b,c,()),(g,h,i,()),())).bind fun r1=>cond (!r1.1) (some (false,())) (cond (neI (d.length : Nat) (k.length : Nat)) (some (false,())) (cond (neI (e.length : Nat) (l.length : Nat)) (some (false,())) (cond (neI f m) (some (false,())) ((xg (a,b,c,d,e,f,g,h,i,k,l,m,0,())).bind (Sum.elim (fun z3=>some (z3.1,())) (Sum.elim (fun (a_4,b_4,c_4,d_4,e_4,f_4,g_4,h_4,i_4,k_4,l_4,m_4,_)=>(xp (a_4,b_4,c_4,d_4,e_4,f_4,g_4,h_4,i_4,k_4,l_4,m_4,0,())).bind (Sum.elim (fun z6=>some (z6.1,())) (Sum.elim (fun z7=>some (true,())) (fun _=>none)))) (fun _=>none)))))))
def Hj : Fn:=mkF (cx [GU]) [(4,CG),(9,DV)] 12 Tryd.f12 [(.rd,yQ9),(.rd,yQ9)] [(.tmp 4,true,.bool)] Zar [lp 4 CG qp,lp 9 DV qS] aj af rfl
def uy (x : Q54) : Option (Q54⊕((Bool×Unit)⊕((Int×(List Q2)×(List (List Int))×List Int×List ByteArray×Int×Int×Int×(List Q2)×(List (List Int))×List Int×List ByteArray×(List (List Int))×Int×Int×Unit)⊕Empty))) :=
 let (a,b,c,d,e,f,g,h,i,k,l,m,n,o,p,q,_):=x; (aJ n.length o).bind fun j1=>(n[j1]?).bind fun y2=>cond (ltI q (y2.length : Nat)) ((aJ n.length o).bind fun j3=>(n[j3]?).bind fun y4=>(ar y4 q).bind fun y5=>(Zan ((g,i,k,()),y5,())).bind fun r6=>cond (neI r6.1 p) (some (.inr (.inl (false,())))) ((aJ n.length o).bind fun j7=>(n[j7]?).bind fun y8=>(ar y8 q).bind fun y9=>(Zaj ((g,i,k,()),y9,())).bind fun r10=>some (.inl (a,b,c,d,e,f,g,h,i,k,l,m,n,o,r10.1,(ah .i64 q 1),())))) (some (.inr (.inr (.inl (a,b,c,d,e,f,g,h,i,k,l,m,n,o,p,())))))
def ue:=aa uy
def Er : Ann:=⟨sh [(1,.av (.ptr 1 0)),(3,.av (.ptr 3 0)),(4,.av (.own 4)),(9,.av (.val I)),(10,.av (.val I)),(11,.av (.val I))] [(1,.box [.val I,.val (.slice yQ2),.val yQ3,.val (.slice I),.val (.slice .str),.val I]),(3,.box [.val I,.own 400001,.own 400002,.own 400003,.own 400004,.val I]),(400001,.arr yQ2),(400002,.arr (.slice I)),(400003,.arr I),(400004,.arr .str),(4,.arr (.slice I))],[(.ret,sh [(2,.av (.val .bool))] []),(.exit 4,sh [(1,.av (.ptr 1 0)),(3,.av (.ptr 3 0)),(4,.av (.own 4)),(9,.av (.val I)),(10,.av (.val I))] [(1,.box [.val I,.val (.slice yQ2),.val yQ3,.val (.slice I),.val (.slice .str),.val I]),(3,.box [.val I,.own 400001,.own 400002,.own 400003,.own 400004,.val I]),(400001,.arr yQ2),(400002,.arr (.slice I)),(400003,.arr I),(400004,.arr .str),(4,.arr (.slice I))])],ue⟩
def tj (x : Q51) : Option (Q51⊕((Bool×Unit)⊕((Int×Int×(List Q2)×(List (List Int))×List Int×List ByteArray×Unit)⊕Empty))) :=
 let (a,b,c,d,e,f,g,h,i,k,l,m,n,o,_):=x; cond (ltI o (n.length : Nat)) ((ar b o).bind fun y1=>(ue (a,b,c,d,e,f,g,h,i,k,l,m,n,o,y1.1,0,())).bind (Sum.elim (fun z3=>some (.inr (.inl (z3.1,())))) (Sum.elim (fun (a_4,b_4,c_4,d_4,e_4,f_4,g_4,h_4,i_4,k_4,l_4,m_4,n_4,o_4,p_4,_)=>(ar b_4 o_4).bind fun y5=>cond (neI p_4 y5.2.1) (some (.inr (.inl (false,())))) (some (.inl (a_4,b_4,c_4,d_4,e_4,f_4,g_4,h_4,i_4,k_4,l_4,m_4,n_4,(ah .i64 o_4 1),())))) (fun _=>none)))) (some (.inr (.inr (.inl (g,h,i,k,l,m,())))))
def uF:=aa tj
def DL : Ann:=⟨sh [(1,.av (.ptr 1 0)),(3,.av (.ptr 3 0)),(4,.av (.own 4)),(9,.av (.val I))] [(1,.box [.val I,.val (.slice yQ2),.val yQ3,.val (.slice I),.val (.slice .str),.val I]),(3,.box [.val I,.own 400001,.own 400002,.own 400003,.own 400004,.val I]),(400001,.arr yQ2),(400002,.arr (.slice I)),(400003,.arr I),(400004,.arr .str),(4,.arr (.slice I))],[(.ret,sh [(2,.av (.val .bool))] []),(.exit 2,sh [(3,.av (.ptr 3 0))] [(3,.box [.val I,.own 400001,.own 400002,.own 400003,.own 400004,.val I]),(400001,.arr yQ2),(400002,.arr (.slice I)),(400003,.arr I),(400004,.arr .str)])],uF⟩
def uG (x : Q55) : Option (Q55⊕((Bool×Unit)⊕((Int×(List Q2)×(List (List Int))×List Int×List ByteArray×Int×Int×Int×(List Q2)×(List (List Int))×List Int×List ByteArray×(List (List Int))×Unit)⊕Empty))) :=
 let (a,b,c,d,e,f,g,h,i,k,l,m,n,o,p,q,_):=x; cond (ltI q (o.length : Nat)) ((aJ o.length q).bind fun j1=>(o[j1]?).bind fun y2=>(aJ p.length q).bind fun j3=>(p[j3]?).bind fun y4=>cond (neI y2 y4) (some (.inr (.inl (false,())))) (some (.inl (a,b,c,d,e,f,g,h,i,k,l,m,n,o,p,(ah .i64 q 1),())))) (some (.inr (.inr (.inl (a,b,c,d,e,f,g,h,i,k,l,m,n,())))))
def uS:=aa uG
def Dl : Ann:=⟨sh [(1,.av (.ptr 1 0)),(3,.av (.ptr 3 0)),(4,.av (.own 4)),(6,.av (.own 6)),(7,.av (.own 7)),(8,.av (.val I))] [(1,.box [.val I,.val (.slice yQ2),.val yQ3,.val (.slice I),.val (.slice .str),.val I]),(3,.box [.val I,.own 400001,.own 400002,.own 400003,.own 400004,.val I]),(400001,.arr yQ2),(400002,.arr (.slice I)),(400003,.arr I),(400004,.arr .str),(4,.arr (.slice I)),(6,.arr I),(7,.arr I)],[(.ret,sh [(2,.av (.val .bool))] []),(.exit 0,sh [(1,.av (.ptr 1 0)),(3,.av (.ptr 3 0)),(4,.av (.own 4))] [(1,.box [.val I,.val (.slice yQ2),.val yQ3,.val (.slice I),.val (.slice .str),.val I]),(3,.box [.val I,.own 400001,.own 400002,.own 400003,.own 400004,.val I]),(400001,.arr yQ2),(400002,.arr (.slice I)),(400003,.arr I),(400004,.arr .str),(4,.arr (.slice I))])],uS⟩
def Zb (x : (Q11×Unit)) : Option (Bool×Unit) :=
 let (((a,b,c,_),d,e,f,_),_):=x; (Zay (((a,b,c,()),d,e,f,()),())).bind fun r1=>cond (!r1.1) ((Zz ()).bind fun r2=>some (r2.1,())) (cond (gtI (b.length : Nat) 40) ((Zz ()).bind fun r3=>some (r3.1,())) ((Zq (((a,b,c,()),d,e,f,()),())).bind fun r4=>cond (neI r4.2.2.1 0) ((Zz ()).bind fun r5=>some (r5.1,())) ((Zac (((r4.1.1.1,r4.1.1.2.1,r4.1.1.2.2.1,()),r4.1.2.1,r4.1.2.2.1,r4.1.2.2.2.1,()),())).bind fun r6=>cond (neI r6.1 0) (some (false,())) ((Zw (((r4.1.1.1,r4.1.1.2.1,r4.1.1.2.2.1,()),r4.1.2.1,r4.1.2.2.1,r4.1.2.2.2.1,()),())).bind fun r7=>cond (!r7.1) (some (false,())) ((Zab (((a,b,c,()),d,e,f,()),())).bind fun r8=>cond (neI r4.1.1.1 (ah .i64 a r8.1)) (some (false,())) (cond (neI (r4.2.1.length : Nat) (b.length : Nat)) (some (false,())) ((Zt (((a,b,c,()),d,e,f,()),())).bind fun r9=>(Zt (((r4.1.1.1,r4.1.1.2.1,r4.1.1.2.2.1,()),r4.1.2.1,r4.1.2.2.1,r4.1.2.2.2.1,()),())).bind fun r10=>cond (neI (r9.1.length : Nat) (r10.1.length : Nat)) (some (false,())) ((uS (a,b,c,d,e,f,r4.1.1.1,r4.1.2.2.2.1,r4.1.1.2.1,r4.1.1.2.2.1,r4.1.2.1,r4.1.2.2.1,r4.2.1,r9.1,r10.1,0,())).bind (Sum.elim (fun z12=>some (z12.1,())) (Sum.elim (fun (a_13,b_13,c_13,d_13,e_13,f_13,g_13,h_13,i_13,k_13,l_13,m_13,n_13,_)=>(uF (a_13,b_13,c_13,d_13,e_13,f_13,g_13,h_13,i_13,k_13,l_13,m_13,n_13,0,())).bind (Sum.elim (fun z15=>some (z15.1,())) (Sum.elim (fun (a_16,b_16,c_16,d_16,e_16,f_16,_)=>(Zq (((a_16,c_16,d_16,()),e_16,f_16,b_16,()),())).bind fun r17=>cond (eqI r17.2.2.1 0) ((Zar (((a_16,c_16,d_16,()),e_16,f_16,b_16,()),((r17.1.1.1,r17.1.1.2.1,r17.1.1.2.2.1,()),r17.1.2.1,r17.1.2.2.1,r17.1.2.2.2.1,()),())).bind fun r18=>cond r18.1 ((Zz ()).bind fun r19=>some (r19.1,())) (some (false,()))) (some (false,()))) (fun _=>none)))) (fun _=>none)))))))))))
def Zb_h : Fn:=mkF (cx [GP,Ht,Hh,Hj,zT,HA,Gy,HK,Fp,G8]) [(12,Dl),(17,DL),(21,Er)] 6 Tryd.f6 [(.rd,yQ9)] [(.tmp 2,true,.bool)] Zb [lp 12 Dl uG,lp 17 DL tj,lp 21 Er uy] aj af rfl
def Zb_c : Con:={ ins:=[(.rd,yQ9)],outs:=[(true,.bool)],fn:=Zb }
theorem Ej : Con.Holds Tryd.prog glob 6 Zb_c:=Zb_h.ok
def uP (x : Q60) : Option (Q60⊕((Int×(List Q2)×(List (List Int))×List Int×List ByteArray×Int×Int×Int×Int×Int×(List (List Int))×List Int×(List (List Int))×List Int×(List Q2)×(List (List Int))×List Int×Int×Unit)⊕Empty)) :=
 let (a,b,c,d,e,f,g,h,i,k,l,m,n,o,p,q,s,t,u,_):=x; (ar c t).bind fun y1=>cond (ltI u (y1.length : Nat)) ((ar c t).bind fun y2=>(ar y2 u).bind fun y3=>(aJ m.length y3).bind fun j4=>(m[j4]?).bind fun y5=>(app o [y5]).bind fun a6=>some (.inl (a,b,c,d,e,f,g,h,i,k,l,m,n,a6,p,q,s,t,(ah .i64 u 1),()))) (some (.inr (.inl (a,b,c,d,e,f,g,h,i,k,l,m,n,o,p,q,s,t,()))))
def uR:=aa uP
def BR : Ann:=⟨sh [(1,.av (.ptr 1 0)),(2,.av (.ptr 2 0)),(5,.av (.ptr 5 0)),(6,.av (.own 6)),(7,.av (.own 7)),(8,.av (.own 8)),(18,.av (.val I)),(19,.av (.own 19)),(20,.av (.val I))] [(1,.box [.val I,.val (.slice yQ2),.val yQ3,.val (.slice I),.val (.slice .str),.val I]),(2,.box [.val I,.nils,.nils,.nils,.nils,.val I]),(5,.box [.val I,.own 600001,.own 600002,.own 600003,.nils,.val I]),(6,.arr (.slice I)),(7,.arr I),(8,.arr (.slice I)),(19,.arr I),(600001,.arr yQ2),(600002,.arr (.slice I)),(600003,.arr I)],[(.exit 6,sh [(1,.av (.ptr 1 0)),(2,.av (.ptr 2 0)),(5,.av (.ptr 5 0)),(6,.av (.own 6)),(7,.av (.own 7)),(8,.av (.own 8)),(18,.av (.val I)),(19,.av (.own 19))] [(1,.box [.val I,.val (.slice yQ2),.val yQ3,.val (.slice I),.val (.slice .str),.val I]),(2,.box [.val I,.nils,.nils,.nils,.nils,.val I]),(5,.box [.val I,.own 600001,.own 600002,.own 600003,.nils,.val I]),(6,.arr (.slice I)),(7,.arr I),(8,.arr (.slice I)),(19,.arr I),(600001,.arr yQ2),(600002,.arr (.slice I)),(600003,.arr I)])],uR⟩
def ut (x : Q56) : Option (Q56⊕((Int×(List Q2)×(List (List Int))×List Int×List ByteArray×Int×Int×Int×Int×Int×(List (List Int))×List Int×(List (List Int))×(List Q2)×(List (List Int))×List Int×Unit)⊕Empty)) :=
 let (a,b,c,d,e,f,g,h,i,k,l,m,n,o,p,q,s,_):=x; cond (ltI s a) ((uR (a,b,c,d,e,f,g,h,i,k,l,m,n,[],o,p,q,s,0,())).bind (Sum.elim (fun (a_2,b_2,c_2,d_2,e_2,f_2,g_2,h_2,i_2,k_2,l_2,m_2,n_2,o_2,p_2,q_2,s_2,t_2,_)=>(app q_2 [o_2]).bind fun a3=>some (.inl (a_2,b_2,c_2,d_2,e_2,f_2,g_2,h_2,i_2,k_2,l_2,m_2,n_2,p_2,a3,s_2,(ah .i64 t_2 1),()))) (fun _=>none))) (some (.inr (.inl (a,b,c,d,e,f,g,h,i,k,l,m,n,o,p,q,()))))
def tF:=aa ut
def CH : Ann:=⟨sh [(1,.av (.ptr 1 0)),(2,.av (.ptr 2 0)),(5,.av (.ptr 5 0)),(6,.av (.own 6)),(7,.av (.own 7)),(8,.av (.own 8)),(18,.av (.val I))] [(1,.box [.val I,.val (.slice yQ2),.val yQ3,.val (.slice I),.val (.slice .str),.val I]),(2,.box [.val I,.nils,.nils,.nils,.nils,.val I]),(5,.box [.val I,.own 600001,.own 600002,.own 600003,.nils,.val I]),(6,.arr (.slice I)),(7,.arr I),(8,.arr (.slice I)),(600001,.arr yQ2),(600002,.arr (.slice I)),(600003,.arr I)],[(.exit 4,sh [(1,.av (.ptr 1 0)),(2,.av (.ptr 2 0)),(5,.av (.ptr 5 0)),(6,.av (.own 6)),(7,.av (.own 7)),(8,.av (.own 8))] [(1,.box [.val I,.val (.slice yQ2),.val yQ3,.val (.slice I),.val (.slice .str),.val I]),(2,.box [.val I,.nils,.nils,.nils,.nils,.val I]),(5,.box [.val I,.own 600001,.own 600002,.own 600003,.nils,.val I]),(6,.arr (.slice I)),(7,.arr I),(8,.arr (.slice I)),(600001,.arr yQ2),(600002,.arr (.slice I)),(600003,.arr I)])],tF⟩
def ur (x : Q59) : Option (Q59⊕((Int×(List Q2)×(List (List Int))×List Int×List ByteArray×Int×Int×Int×Int×Int×(List (List Int))×List Int×(List (List Int))×List Int×(List Q2)×List Int×Int×ByteArray×Int×Unit)⊕Empty)) :=
 let (a,b,c,d,e,f,g,h,i,k,l,m,n,o,p,q,s,t,u,w,_):=x; cond (ltI w (t.size : Nat)) ((app p [(u,i,())]).bind fun a1=>(app o [(aN .i64 2 (p.length : Nat))]).bind fun a2=>(app n [[(ah .i64 (aN .i64 2 (p.length : Nat)) 1),(ah .i64 (aN .i64 2 (p.length : Nat)) 2)]]).bind fun a3=>(ar t.data.toList w).bind fun c4=>cond (eqI (c4.toNat : Int) 82) (cond (eqI w 0) ((ar d (aN .i64 2 s)).bind fun y5=>(app q [y5,3]).bind fun a6=>some (.inl (a,b,c,d,e,f,g,h,(ah .i64 i 1),k,l,m,a3,a2,a1,a6,s,t,i,(ah .i64 w 1),()))) ((aJ q.length (bf .i64 (q.length : Nat) 1)).bind fun j7=>(q[j7]?).bind fun y8=>(app q [(bf .i64 4 y8),3]).bind fun a9=>some (.inl (a,b,c,d,e,f,g,h,(ah .i64 i 1),k,l,m,a3,a2,a1,a9,s,t,i,(ah .i64 w 1),())))) (cond (eqI w 0) ((ar d (aN .i64 2 s)).bind fun y10=>(app q [y10,1]).bind fun a11=>some (.inl (a,b,c,d,e,f,g,h,(ah .i64 i 1),k,l,m,a3,a2,a1,a11,s,t,i,(ah .i64 w 1),()))) ((aJ q.length (bf .i64 (q.length : Nat) 1)).bind fun j12=>(q[j12]?).bind fun y13=>(app q [(bf .i64 4 y13),1]).bind fun a14=>some (.inl (a,b,c,d,e,f,g,h,(ah .i64 i 1),k,l,m,a3,a2,a1,a14,s,t,i,(ah .i64 w 1),()))))) (some (.inr (.inl (a,b,c,d,e,f,g,h,i,k,l,m,n,o,p,q,s,t,u,()))))
def tr:=aa ur
def Eb : Ann:=⟨sh [(1,.av (.ptr 1 0)),(2,.av (.ptr 2 0)),(5,.av (.ptr 5 0)),(6,.av (.own 6)),(7,.av (.own 7)),(8,.av (.own 8)),(9,.av (.val I)),(10,.av (.val .str)),(11,.av (.val I)),(12,.av (.own 12)),(13,.av (.val I))] [(1,.box [.val I,.val (.slice yQ2),.val yQ3,.val (.slice I),.val (.slice .str),.val I]),(2,.box [.val I,.nils,.nils,.nils,.nils,.val I]),(5,.box [.val I,.own 600001,.nils,.own 600003,.nils,.val I]),(6,.arr (.slice I)),(7,.arr I),(8,.arr (.slice I)),(12,.arr I),(600001,.arr yQ2),(600003,.arr I)],[(.exit 2,sh [(1,.av (.ptr 1 0)),(2,.av (.ptr 2 0)),(5,.av (.ptr 5 0)),(6,.av (.own 6)),(7,.av (.own 7)),(8,.av (.own 8)),(9,.av (.val I)),(10,.av (.val .str)),(11,.av (.val I)),(12,.av (.own 12))] [(1,.box [.val I,.val (.slice yQ2),.val yQ3,.val (.slice I),.val (.slice .str),.val I]),(2,.box [.val I,.nils,.nils,.nils,.nils,.val I]),(5,.box [.val I,.own 600001,.nils,.own 600003,.nils,.val I]),(6,.arr (.slice I)),(7,.arr I),(8,.arr (.slice I)),(12,.arr I),(600001,.arr yQ2),(600003,.arr I)])],tr⟩
def zN (x : Q53) : Option (Q53⊕((Int×(List Q2)×(List (List Int))×List Int×List ByteArray×Int×Int×Int×Int×Int×(List (List Int))×List Int×(List (List Int))×(List Q2)×List Int×Unit)⊕Empty)) :=
 let (a,b,c,d,e,f,g,h,i,k,l,m,n,o,p,q,_):=x; cond (ltI q (b.length : Nat)) ((ar e (aN .i64 2 q)).bind fun y1=>(ar b q).bind fun y2=>(app m [(aN .i64 2 (o.length : Nat))]).bind fun a3=>(tr (a,b,c,d,e,f,g,h,i,k,l,a3,n,[],o,p,q,y1,y2.1,0,())).bind (Sum.elim (fun (a_5,b_5,c_5,d_5,e_5,f_5,g_5,h_5,i_5,k_5,l_5,m_5,n_5,o_5,p_5,q_5,s_5,t_5,u_5,_)=>(ar b_5 s_5).bind fun y6=>(app p_5 [(u_5,y6.2.1,())]).bind fun a7=>(app o_5 [(aN .i64 2 (p_5.length : Nat))]).bind fun a8=>(app m_5 [(ah .i64 (aN .i64 2 (p_5.length : Nat)) 1)]).bind fun a9=>cond (eqI (t_5.size : Nat) 0) ((ar d_5 (aN .i64 2 s_5)).bind fun y10=>(ar d_5 (ah .i64 (aN .i64 2 s_5) 1)).bind fun y11=>(app q_5 [y10,y11]).bind fun a12=>(app l_5 [a8]).bind fun a13=>some (.inl (a_5,b_5,c_5,d_5,e_5,f_5,g_5,h_5,i_5,k_5,a13,a9,n_5,a7,a12,(ah .i64 s_5 1),()))) ((aJ q_5.length (bf .i64 (q_5.length : Nat) 1)).bind fun j14=>(q_5[j14]?).bind fun y15=>(ar d_5 (ah .i64 (aN .i64 2 s_5) 1)).bind fun y16=>(app q_5 [(bf .i64 4 y15),y16]).bind fun a17=>(app l_5 [a8]).bind fun a18=>some (.inl (a_5,b_5,c_5,d_5,e_5,f_5,g_5,h_5,i_5,k_5,a18,a9,n_5,a7,a17,(ah .i64 s_5 1),())))) (fun _=>none))) (some (.inr (.inl (a,b,c,d,e,f,g,h,i,k,l,m,n,o,p,()))))
def za:=aa zN
def FK : Ann:=⟨sh [(1,.av (.ptr 1 0)),(2,.av (.ptr 2 0)),(5,.av (.ptr 5 0)),(6,.av (.own 6)),(7,.av (.own 7)),(8,.av (.own 8)),(9,.av (.val I))] [(1,.box [.val I,.val (.slice yQ2),.val yQ3,.val (.slice I),.val (.slice .str),.val I]),(2,.box [.val I,.nils,.nils,.nils,.nils,.val I]),(5,.box [.val I,.own 600001,.nils,.own 600003,.nils,.val I]),(6,.arr (.slice I)),(7,.arr I),(8,.arr (.slice I)),(600001,.arr yQ2),(600003,.arr I)],[(.exit 0,sh [(1,.av (.ptr 1 0)),(2,.av (.ptr 2 0)),(5,.av (.ptr 5 0)),(6,.av (.own 6)),(7,.av (.own 7)),(8,.av (.own 8))] [(1,.box [.val I,.val (.slice yQ2),.val yQ3,.val (.slice I),.val (.slice .str),.val I]),(2,.box [.val I,.nils,.nils,.nils,.nils,.val I]),(5,.box [.val I,.own 600001,.nils,.own 600003,.nils,.val I]),(6,.arr (.slice I)),(7,.arr I),(8,.arr (.slice I)),(600001,.arr yQ2),(600003,.arr I)])],za⟩
def Zd (x : (Q11×Unit)) : Option (Q11×(List (List Int))×Int×Unit) :=
 let (((a,b,c,_),d,e,f,_),_):=x; (Zac (((a,b,c,()),d,e,f,()),())).bind fun r1=>cond (neI r1.1 0) (some (((0,[],[],()),[],[],0,()),[],13,())) ((za (a,b,c,d,e,f,0,0,a,0,[],[],[],[],[],0,())).bind (Sum.elim (fun (a_3,b_3,c_3,d_3,e_3,f_3,g_3,h_3,i_3,k_3,l_3,m_3,n_3,o_3,p_3,_)=>(tF (a_3,b_3,c_3,d_3,e_3,f_3,g_3,h_3,i_3,k_3,l_3,m_3,n_3,o_3,[],p_3,0,())).bind (Sum.elim (fun (_,_,_,_,_,a_5,_,_,b_5,c_5,d_5,e_5,f_5,g_5,h_5,i_5,_)=>(app h_5 f_5).bind fun a6=>(dO .str (i_5.length : Nat) (i_5.length : Nat)).bind fun m7=>cond (gtI (e_5.length : Nat) 0) ((aJ e_5.length a_5).bind fun j8=>(e_5[j8]?).bind fun y9=>some (((b_5,g_5,a6,()),i_5,m7,y9,()),d_5,0,())) (some (((b_5,g_5,a6,()),i_5,m7,c_5,()),d_5,0,()))) (fun _=>none))) (fun _=>none)))
def HT : Fn:=mkF (cx [zT]) [(8,FK),(15,Eb),(39,CH),(43,BR)] 11 Tryd.f11 [(.rd,yQ9)] [(.cell 2 29,true,yQ9),(.tmp 3,true,yQ3),(.tmp 4,true,I)] Zd [lp 8 FK zN,lp 15 Eb ur,lp 39 CH ut,lp 43 BR uP] aj af rfl
def HX : Con:={ ins:=[(.rd,yQ9)],outs:=[(true,yQ9),(true,yQ3),(true,I)],fn:=Zd }
end
end Go.Vm

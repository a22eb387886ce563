/-
 The functions that the law reaches, as functions on values, and the proofs that the machine computes them.
-/
import Derived.Test.YtnnbdielbgljaaaDoorVmPack
import Derived.Test.YtnnbdielbgljaaaDoorS41C
import Derived.Test.YtnnbdielbgljaaaDoorVmExt4
import Derived.Test.YtnnbdielbgljaaaDoorProg
import Derived.KernelRfl
set_option linter.unusedVariables false
set_option linter.unusedSimpArgs false
namespace Go.Vm
open Go.Proofs
abbrev I : Ty:=.int .i64
abbrev yQ1 : Ty:=.prod I .unit
abbrev yQ2 : Ty:=.prod I yQ1
abbrev yQ3 : Ty:=.slice (.slice I)
abbrev yQ4 : Ty:=.prod yQ3 .unit
abbrev yQ5 : Ty:=.prod (.slice yQ2) yQ4
abbrev yQ6 : Ty:=.prod I yQ5
abbrev yQ7 : Ty:=.prod (.slice .str) yQ1
abbrev yQ8 : Ty:=.prod (.slice I) yQ7
abbrev yQ9 : Ty:=.prod yQ6 yQ8
abbrev Q1:=List Int×Unit
abbrev Q2:=Int×Int×Unit
abbrev Q3:=ByteArray×Unit
abbrev Q4:=List Int×Int×Unit
abbrev Q5:=(List (List Int))×Unit
abbrev Q6:=List Int×Int×Int×Unit
abbrev Q7:=List (Unit×ByteArray×Int)
abbrev Q8:=List Int×Int×Int×Int×Unit
abbrev Q9:=Int×(List Q2)×(List (List Int))×Unit
abbrev Q10:=Q9×List Int×List ByteArray×Int×Unit
abbrev Q11:=List Int×(List (List Int))×Int×Int×Unit
abbrev Q12:=Int×(List Q2)×(List (List Int))×Int×Unit
abbrev Q13:=Int×(List Q2)×(List (List Int))×List Int×Int×Unit
abbrev Q14:=Int×(List Q2)×(List (List Int))×List Bool×List Int×Int×Unit
abbrev Q15:=Int×(List Q2)×(List (List Int))×List Bool×Int×Int×Int×Unit
abbrev Q16:=List Int×List Bool×(List (List Int))×List Int×Int×Int×Int×Unit
abbrev Q17:=List Int×(List (List Int))×Int×Int×Int×List Int×Int×Int×Unit
abbrev Q18:=Int×(List Q2)×(List (List Int))×List Int×Int×List Int×Int×Unit
abbrev Q19:=Int×(List Q2)×(List (List Int))×List Int×List Bool×Int×Int×Unit
abbrev Q20:=Int×(List Q2)×(List (List Int))×Int×(List (List Int))×Int×Int×Unit
abbrev Q21:=Int×Int×(List Q2)×(List (List Int))×(List (List Int))×Int×Int×Unit
abbrev Q22:=List Int×List Int×(List (List Int))×Int×Int×List Int×Int×Int×Unit
abbrev Q23:=Int×(List Q2)×(List (List Int))×List Int×List ByteArray×Int×Int×Unit
abbrev Q24:=Int×(List Q2)×(List (List Int))×List Bool×List Int×Int×Int×Int×Unit
abbrev Q25:=Int×(List Q2)×(List (List Int))×List Int×List Bool×Int×Int×Int×Unit
abbrev Q26:=Int×(List Q2)×(List (List Int))×List Int×List ByteArray×Int×Int×Int×Unit
abbrev Q27:=Int×(List Q2)×(List (List Int))×List Int×List Int×Int×Int×Int×Int×Unit
abbrev Q28:=Int×(List Q2)×(List (List Int))×List Bool×Int×(List (List Int))×Int×Int×Unit
abbrev Q29:=Int×(List Q2)×(List (List Int))×List Int×List ByteArray×Int×List Int×Int×Unit
abbrev Q30:=Int×(List Q2)×(List (List Int))×List Bool×List Int×Int×List Int×Int×Int×Unit
abbrev Q31:=Int×(List Q2)×(List (List Int))×List Int×List ByteArray×Int×Int×Int×Int×Unit
abbrev Q32:=Int×(List Q2)×(List (List Int))×List Int×List ByteArray×Int×Int×Int×Bool×Unit
abbrev Q33:=Int×(List Q2)×(List (List Int))×List Int×List ByteArray×Int×List Int×Int×Int×Unit
abbrev Q34:=Int×(List Q2)×(List (List Int))×List Int×List Int×Int×Int×Int×Int×Int×Int×Unit
abbrev Q35:=Int×(List Q2)×(List (List Int))×List Int×List ByteArray×Int×(List (List Int))×Int×Unit
abbrev Q36:=Int×(List Q2)×(List (List Int))×List Int×List ByteArray×Int×Int×List Int×Int×Int×Unit
abbrev Q37:=Int×(List Q2)×(List (List Int))×List Int×List ByteArray×Int×List Int×Int×Int×Int×Unit
abbrev Q38:=Int×(List Q2)×(List (List Int))×List Bool×List Int×Int×Int×Int×List Int×Int×Int×Unit
abbrev Q39:=Int×(List Q2)×(List (List Int))×List Int×List ByteArray×Int×Int×Int×Int×Int×Int×Unit
abbrev Q40:=Int×(List Q2)×(List (List Int))×List Int×List ByteArray×Int×(List (List Int))×Int×Int×Unit
abbrev Q41:=Int×(List Q2)×(List (List Int))×List Int×List ByteArray×Int×List Int×List Int×List Int×Int×Unit
abbrev Q42:=Int×(List Q2)×(List (List Int))×List Int×List ByteArray×Int×List Int×(List (List Int))×Int×Int×Unit
abbrev Q43:=Int×(List Q2)×(List (List Int))×List Bool×Int×Int×(List (List Int))×Int×Int×List Int×Int×Int×Unit
abbrev Q44:=Int×(List Q2)×(List (List Int))×List Int×List ByteArray×Int×Int×Int×List Int×Int×Int×Int×Int×Unit
abbrev Q45:=Int×(List Q2)×(List (List Int))×List Int×List ByteArray×Int×Int×(List Q2)×(List (List Int))×Int×Int×Unit
abbrev Q46:=Int×(List Q2)×(List (List Int))×List Int×List ByteArray×Int×Int×Int×(List (List Int))×Bool×Int×Int×Unit
abbrev Q47:=Int×(List Q2)×(List (List Int))×List Int×List ByteArray×Int×List Int×Q7×List Int×(List (List Int))×Int×Int×Unit
abbrev Q48:=Int×(List Q2)×(List (List Int))×List Int×List ByteArray×Int×(List (List Int))×Int×Int×Int×Int×List Int×Int×Int×Unit
abbrev Q49:=Int×(List Q2)×(List (List Int))×List Int×List ByteArray×Int×List Int×Int×(List (List Int))×Int×Int×List Int×Int×Int×Unit
abbrev Q50:=Int×(List Q2)×(List (List Int))×List Int×List ByteArray×Int×Int×Int×Int×Int×(List (List Int))×(List Q2)×(List (List Int))×(List Q2)×Int×Int×Unit
abbrev Q51:=Int×(List Q2)×(List (List Int))×List Int×List ByteArray×Int×Int×(List Q2)×(List (List Int))×List Int×List ByteArray×Int×List Int×List Int×List Int×Int×Unit
abbrev Q52:=Int×(List Q2)×(List (List Int))×List Int×List ByteArray×Int×Int×(List Q2)×(List (List Int))×List Int×List ByteArray×Int×List Int×List Int×List Int×Int×Bool×Int×Unit
abbrev Q53:=Int×(List Q2)×(List (List Int))×List Int×List ByteArray×Int×Int×Int×Int×Int×(List (List Int))×Int×Int×List Int×Q7×(List Q2)×(List (List Int))×Int×(List Q2)×Int×Int×Unit
abbrev Q54:=Int×(List Q2)×(List (List Int))×List Int×List ByteArray×Int×Int×Int×Int×Int×(List (List Int))×(List Q2)×(List (List Int))×List Int×(List (List Int))×(List (List Int))×Int×Int×Unit
abbrev Q55:=Int×(List Q2)×(List (List Int))×List Int×List ByteArray×Int×Int×Int×Int×Int×(List (List Int))×List Int×(List Q2)×(List (List Int))×List Int×(List (List Int))×(List (List Int))×Int×Int×List Int×Int×Int×Unit
noncomputable section
def tab : Tab:=[(2,I),(3,I),(4,.bool),(5,(.int .u8)),(6,(.int .u8)),(7,(.prod I (.prod I (.prod .bool (.prod (.int .u8) .unit))))),(8,(.prod I (.prod I (.prod .bool (.prod (.int .u8) .unit))))),(9,.str),(10,.str),(11,.str),(12,(.int .u64)),(13,(.prod .str (.prod (.int .u64) .unit))),(14,(.prod .str (.prod (.int .u64) .unit))),(21,(.int .i32)),(22,(.slice yQ2)),(23,yQ3),(24,yQ6),(25,yQ6),(26,(.slice I)),(27,(.slice .str)),(28,yQ9),(29,yQ9),(32,I),(41,yQ2),(42,yQ2),(60,(.slice .bool)),(77,(.slice (.int .u8))),(81,(.arr 2 I)),(95,(.int .u32)),(96,(.int .u8)),(97,(.int .u8)),(100,(.int .i32)),(101,(.int .i32))]
def eqs : List Nat:=[]
def glob : List (Nat×(Σ t : Ty,t.den)):=[(0,⟨(.arr 2 I),[16384,32768]⟩)]
theorem am : SeatOK Tryd.prog tab eqs:=⟨by kernel_rfl,by kernel_rfl,by kernel_rfl⟩
abbrev Fn:=FnC Tryd.prog glob
def cx (l : List Fn) : Ctx:={ tab:=tab,con:=zB l,glob:=glob,eqs:=eqs }
set_option maxRecDepth 100000
def rM (x : Q12) : Option (Q12⊕((Bool×Unit)⊕(Unit⊕Empty))) :=
 let (a,b,c,d,_):=x; cond (ltI d (c.length : Nat)) ((aH c d).bind fun y1=>cond (gtI (y1.length : Nat) 100) (some (.inr (.inl (false,())))) (some (.inl (a,b,c,(ae .i64 d 1),())))) (some (.inr (.inr (.inl ()))))
def xu:=ab rM
def D9 : Ann:=⟨sh [(1,.av (.ptr 1 0)),(3,.av (.val I))] [(1,.box [.val I,.val (.slice yQ2),.val yQ3])],[(.ret,sh [(2,.av (.val .bool))] []),(.exit 0,sh [] [])],xu⟩
def Zau (x : (Q9×Unit)) : Option (Bool×Unit) :=
 let ((a,b,c,_),_):=x; cond (gtI (b.length : Nat) 100) (some (false,())) (cond (gtI (c.length : Nat) 100) (some (false,())) ((xu (a,b,c,0,())).bind (Sum.elim (fun z2=>some (z2.1,())) (Sum.elim (fun z3=>some (true,())) (fun _=>none)))))
def G4 : Fn:=mkF (cx []) [(4,D9)] 23 Tryd.f23 [(.rd,yQ6)] [(.tmp 2,true,.bool)] Zau [lp 4 D9 rM] am ah rfl
def qX (x : Q26) : Option (Q26⊕((Int×Unit)⊕Empty)) :=
 let (a,b,c,d,e,f,g,h,_):=x; cond (ltI h (e.length : Nat)) ((aH e h).bind fun y1=>some (.inl (a,b,c,d,e,f,(ae .i64 g (y1.size : Nat)),(ae .i64 h 1),()))) (some (.inr (.inl (g,()))))
def ug:=ab qX
def Dj : Ann:=⟨sh [(1,.av (.ptr 1 0)),(3,.av (.val I)),(4,.av (.val I))] [(1,.box [.val I,.val (.slice yQ2),.val yQ3,.val (.slice I),.val (.slice .str),.val I])],[(.exit 0,sh [(3,.av (.val I))] [])],ug⟩
def Zav (x : (Q10×Unit)) : Option (Bool×Unit) :=
 let (((a,b,c,_),d,e,f,_),_):=x; (Zau ((a,b,c,()),())).bind fun r1=>cond (!r1.1) (some (false,())) (cond (gtI (d.length : Nat) 200) (some (false,())) (cond (gtI (e.length : Nat) 200) (some (false,())) ((ug (a,b,c,d,e,f,0,0,())).bind (Sum.elim (fun z3=>some ((leI z3.1 400),())) (fun _=>none)))))
def GC : Fn:=mkF (cx [G4]) [(5,Dj)] 8 Tryd.f8 [(.rd,yQ9)] [(.tmp 2,true,.bool)] Zav [lp 5 Dj qX] am ah rfl
def Zbf (x : (Q2×Int×Unit)) : Option (Int×Unit) :=
 cond (eqI x.2.1 0) (some (x.1.1,())) (some (x.1.2.1,()))
def zo : Fn:=mkF (cx []) [] 81 Tryd.f81 [(.rd,yQ2),(.rd,I)] [(.tmp 4,true,I)] Zbf [] am ah rfl
def nD (x : Q43) : Option (Q43⊕((Bool×Unit)⊕(Q28⊕Empty))) :=
 let (a,b,c,d,e,f,g,h,i,k,l,m,_):=x; cond (ltI m l) ((aH k m).bind fun y1=>cond (ltI y1 0) (some (.inr (.inl (false,())))) (cond (geI y1 (d.length : Nat)) (some (.inr (.inl (false,())))) ((aI d.length y1).bind fun j2=>(d[j2]?).bind fun y3=>cond y3 (some (.inr (.inl (false,())))) ((aH b (eZ .i64 y1 2)).bind fun y4=>(Zbf (y4,(cu y1 2),())).bind fun r5=>cond (neI r5.1 f) (some (.inr (.inl (false,())))) ((aI d.length y1).bind fun j6=>(d[j6]?).bind fun y7=>some (.inl (a,b,c,(d.set j6 true),(ae .i64 e 1),f,g,h,i,k,l,(ae .i64 m 1),()))))))) (some (.inr (.inr (.inl (a,b,c,d,e,g,h,i,())))))
def uo:=ab nD
def zq : Ann:=⟨sh [(1,.av (.ptr 1 0)),(5,.av (.own 5)),(6,.av (.val I)),(7,.av (.val I)),(80,.av (.val yQ3)),(81,.av (.val I)),(82,.av (.val I)),(87,.av (.val (.slice I))),(88,.av (.val I)),(89,.av (.val I))] [(1,.box [.val I,.val (.slice yQ2),.val yQ3]),(5,.arr .bool)],[(.ret,sh [(2,.av (.val .bool))] []),(.exit 4,sh [(1,.av (.ptr 1 0)),(5,.av (.own 5)),(6,.av (.val I)),(80,.av (.val yQ3)),(81,.av (.val I)),(82,.av (.val I))] [(1,.box [.val I,.val (.slice yQ2),.val yQ3]),(5,.arr .bool)])],uo⟩
def mG (x : Q28) : Option (Q28⊕((Bool×Unit)⊕((List Bool×Int×Unit)⊕Empty))) :=
 let (a,b,c,d,e,f,g,h,_):=x; cond (ltI h g) ((aH f h).bind fun y1=>(uo (a,b,c,d,e,h,f,g,h,y1,(y1.length : Nat),0,())).bind (Sum.elim (fun z3=>some (.inr (.inl (z3.1,())))) (Sum.elim (fun (a_4,b_4,c_4,d_4,e_4,f_4,g_4,h_4,_)=>some (.inl (a_4,b_4,c_4,d_4,e_4,f_4,g_4,(ae .i64 h_4 1),()))) (fun _=>none)))) (some (.inr (.inr (.inl (d,e,())))))
def uY:=ab mG
def zk : Ann:=⟨sh [(1,.av (.ptr 1 0)),(5,.av (.own 5)),(6,.av (.val I)),(80,.av (.val yQ3)),(81,.av (.val I)),(82,.av (.val I))] [(1,.box [.val I,.val (.slice yQ2),.val yQ3]),(5,.arr .bool)],[(.ret,sh [(2,.av (.val .bool))] []),(.exit 2,sh [(5,.av (.own 5)),(6,.av (.val I))] [(5,.arr .bool)])],uY⟩
def rC (x : (Int×(List Q2)×(List (List Int))×(List Q2)×Int×Int×Unit)) : Option ((Int×(List Q2)×(List (List Int))×(List Q2)×Int×Int×Unit)⊕((Bool×Unit)⊕(Q9⊕Empty))) :=
 let (a,b,c,d,e,f,_):=x; cond (ltI f e) ((aH d f).bind fun y1=>cond (ltI y1.1 0) (some (.inr (.inl (false,())))) (cond (geI y1.1 a) (some (.inr (.inl (false,())))) (cond (ltI y1.2.1 0) (some (.inr (.inl (false,())))) (cond (geI y1.2.1 a) (some (.inr (.inl (false,())))) (cond (eqI y1.1 y1.2.1) (some (.inr (.inl (false,())))) (some (.inl (a,b,c,d,e,(ae .i64 f 1),())))))))) (some (.inr (.inr (.inl (a,b,c,())))))
def xE:=ab rC
def Cw : Ann:=⟨sh [(1,.av (.ptr 1 0)),(38,.av (.val (.slice yQ2))),(39,.av (.val I)),(40,.av (.val I))] [(1,.box [.val I,.val (.slice yQ2),.val yQ3])],[(.ret,sh [(2,.av (.val .bool))] []),(.exit 0,sh [(1,.av (.ptr 1 0))] [(1,.box [.val I,.val (.slice yQ2),.val yQ3])])],xE⟩
def Zba (x : (Q9×Unit)) : Option (Bool×Unit) :=
 let ((a,b,c,_),_):=x; cond (ltI a 0) (some (false,())) ((aH [16384,32768] 0).bind fun y1=>cond (gtI a y1) (some (false,())) ((aH [16384,32768] 1).bind fun y2=>cond (gtI (b.length : Nat) y2) (some (false,())) (cond (neI (c.length : Nat) a) (some (false,())) ((xE (a,b,c,b,(b.length : Nat),0,())).bind (Sum.elim (fun z4=>some (z4.1,())) (Sum.elim (fun (a_5,b_5,c_5,_)=>(dD .bool (aP .i64 2 (b_5.length : Nat)) (aP .i64 2 (b_5.length : Nat))).bind fun m6=>(uY (a_5,b_5,c_5,m6,0,c_5,(c_5.length : Nat),0,())).bind (Sum.elim (fun z8=>some (z8.1,())) (Sum.elim (fun z9=>some ((eqI z9.2.1 (z9.1.length : Nat)),())) (fun _=>none)))) (fun _=>none)))))))
def rG : Fn:=mkF (cx [zo]) [(4,Cw),(12,zk),(15,zq)] 64 Tryd.f64 [(.rd,yQ6)] [(.tmp 2,true,.bool)] Zba [lp 4 Cw rC,lp 12 zk mG,lp 15 zq nD] am ah rfl
def Zbi (x : (Q9×Int×Unit)) : Option (Int×Unit) :=
 let ((a,b,c,_),d,_):=x; (Zba ((a,b,c,()),())).bind fun r1=>cond (!r1.1) (some ((-1),())) (cond (ltI d 0) (some ((-1),())) (cond (geI d (aP .i64 2 (b.length : Nat))) (some ((-1),())) ((aH b (eZ .i64 d 2)).bind fun y2=>(Zbf (y2,(cu d 2),())).bind fun r3=>some (r3.1,()))))
def DM : Fn:=mkF (cx [rG,zo]) [] 59 Tryd.f59 [(.rd,yQ6),(.rd,I)] [(.tmp 4,true,I)] Zbi [] am ah rfl
def mB (x : Q30) : Option (Q30⊕(Q14⊕Empty)) :=
 let (a,b,c,d,e,f,g,h,i,_):=x; cond (ltI i h) ((aH g i).bind fun y1=>(Zbi ((a,b,c,()),(iz .i64 y1 1),())).bind fun r2=>(aI d.length r2.1).bind fun j3=>(d[j3]?).bind fun y4=>cond (!y4) ((aI d.length r2.1).bind fun j5=>(d[j5]?).bind fun y6=>(app e [r2.1]).bind fun a7=>some (.inl (a,b,c,(d.set j5 true),a7,f,g,h,(ae .i64 i 1),()))) (some (.inl (a,b,c,d,e,f,g,h,(ae .i64 i 1),())))) (some (.inr (.inl (a,b,c,d,e,f,()))))
def uU:=ab mB
def zF : Ann:=⟨sh [(1,.av (.ptr 1 0)),(3,.av (.own 3)),(4,.av (.own 4)),(5,.av (.val I)),(39,.av (.val (.slice I))),(40,.av (.val I)),(41,.av (.val I))] [(1,.box [.val I,.val (.slice yQ2),.val yQ3]),(3,.arr .bool),(4,.arr I)],[(.exit 2,sh [(1,.av (.ptr 1 0)),(3,.av (.own 3)),(4,.av (.own 4)),(5,.av (.val I))] [(1,.box [.val I,.val (.slice yQ2),.val yQ3]),(3,.arr .bool),(4,.arr I)])],uU⟩
def qZ (x : Q14) : Option (Q14⊕(Q12⊕Empty)) :=
 let (a,b,c,d,e,f,_):=x; cond (gtI (e.length : Nat) 0) ((aI e.length (bf .i64 (e.length : Nat) 1)).bind fun j1=>(e[j1]?).bind fun y2=>(iV e.length 0 (bf .i64 (e.length : Nat) 1)).bind fun v3=>(aH c y2).bind fun y4=>(uU (a,b,c,d,((e.drop v3.1).take v3.2),(ae .i64 f 1),y4,(y4.length : Nat),0,())).bind (Sum.elim (fun (a_6,b_6,c_6,d_6,e_6,f_6,_)=>some (.inl (a_6,b_6,c_6,d_6,e_6,f_6,()))) (fun _=>none))) (some (.inr (.inl (a,b,c,f,()))))
def u7:=ab qZ
def Ds : Ann:=⟨sh [(1,.av (.ptr 1 0)),(3,.av (.own 3)),(4,.av (.own 4)),(5,.av (.val I))] [(1,.box [.val I,.val (.slice yQ2),.val yQ3]),(3,.arr .bool),(4,.arr I)],[(.exit 0,sh [(1,.av (.ptr 1 0)),(5,.av (.val I))] [(1,.box [.val I,.val (.slice yQ2),.val yQ3])])],u7⟩
def Zat (x : (Q9×Unit)) : Option (Bool×Unit) :=
 let ((a,b,c,_),_):=x; cond (eqI a 0) (some (false,())) ((dD .bool a a).bind fun m1=>(aI m1.length 0).bind fun j2=>(m1[j2]?).bind fun y3=>(u7 (a,b,c,(m1.set j2 true),[0],0,())).bind (Sum.elim (fun z5=>some ((eqI z5.2.2.2.1 z5.1),())) (fun _=>none)))
def Ha : Fn:=mkF (cx [DM]) [(6,Ds),(11,zF)] 72 Tryd.f72 [(.rd,yQ6)] [(.tmp 2,true,.bool)] Zat [lp 6 Ds qZ,lp 11 zF mB] am ah rfl
def rp (x : Q22) : Option (Q22⊕(Q11⊕Empty)) :=
 let (a,b,c,d,e,f,g,h,_):=x; cond (ltI h g) ((aH f h).bind fun y1=>cond (eqI (b.length : Nat) 0) none ((aH b (cu (ae .i64 h 1) (b.length : Nat))).bind fun y2=>(aI a.length (iz .i64 y1 1)).bind fun j3=>(a[j3]?).bind fun y4=>some (.inl ((a.set j3 y2),b,c,d,e,f,g,(ae .i64 h 1),())))) (some (.inr (.inl (a,c,d,e,()))))
def xw:=ab rp
def BY : Ann:=⟨sh [(3,.av (.own 3)),(5,.av (.val (.slice I))),(14,.av (.val yQ3)),(15,.av (.val I)),(16,.av (.val I)),(20,.av (.val (.slice I))),(21,.av (.val I)),(22,.av (.val I))] [(3,.arr I)],[(.exit 2,sh [(3,.av (.own 3)),(14,.av (.val yQ3)),(15,.av (.val I)),(16,.av (.val I))] [(3,.arr I)])],xw⟩
def pX (x : Q11) : Option (Q11⊕(Q1⊕Empty)) :=
 let (a,b,c,d,_):=x; cond (ltI d c) ((aH b d).bind fun y1=>(xw (a,y1,b,c,d,y1,(y1.length : Nat),0,())).bind (Sum.elim (fun z3=>some (.inl (z3.1,z3.2.1,z3.2.2.1,(ae .i64 z3.2.2.2.1 1),()))) (fun _=>none))) (some (.inr (.inl (a,()))))
def uL:=ab pX
def Ea : Ann:=⟨sh [(3,.av (.own 3)),(14,.av (.val yQ3)),(15,.av (.val I)),(16,.av (.val I))] [(3,.arr I)],[(.exit 0,sh [(3,.av (.own 3))] [(3,.arr I)])],uL⟩
def Zaq (x : (Q9×Unit)) : Option Q1 :=
 let ((_,a,b,_),_):=x; (dD I (aP .i64 2 (a.length : Nat)) (aP .i64 2 (a.length : Nat))).bind fun m1=>(uL (m1,b,(b.length : Nat),0,())).bind (Sum.elim (fun z3=>some (z3.1,())) (fun _=>none))
def GQ : Fn:=mkF (cx []) [(3,Ea),(6,BY)] 65 Tryd.f65 [(.rd,yQ6)] [(.tmp 2,true,(.slice I))] Zaq [lp 3 Ea pX,lp 6 BY rp] am ah rfl
def mY (x : Q16) : Option (Q16⊕((List Int×List Bool×(List (List Int))×List Int×Int×Int×Unit)⊕Empty)) :=
 let (a,b,c,d,e,f,g,_):=x; (aI b.length e).bind fun j1=>(b[j1]?).bind fun y2=>cond (!y2) ((aI b.length e).bind fun j3=>(b[j3]?).bind fun y4=>(app d [e]).bind fun a5=>(aI a.length e).bind fun j6=>(a[j6]?).bind fun y7=>some (.inl (a,(b.set j3 true),c,a5,y7,f,g,()))) (some (.inr (.inl (a,b,c,d,f,g,()))))
def u9:=ab mY
def zx : Ann:=⟨sh [(3,.av (.own 3)),(4,.av (.own 4)),(5,.av (.own 5)),(7,.av (.own 7)),(8,.av (.val I)),(18,.av (.val I)),(19,.av (.val I))] [(3,.arr I),(4,.arr .bool),(5,.arr (.slice I)),(7,.arr I)],[(.exit 2,sh [(3,.av (.own 3)),(4,.av (.own 4)),(5,.av (.own 5)),(7,.av (.own 7)),(18,.av (.val I)),(19,.av (.val I))] [(3,.arr I),(4,.arr .bool),(5,.arr (.slice I)),(7,.arr I)])],u9⟩
def rz (x : (List Int×List Bool×(List (List Int))×Int×Int×Unit)) : Option ((List Int×List Bool×(List (List Int))×Int×Int×Unit)⊕(Q5⊕Empty)) :=
 let (a,b,c,d,e,_):=x; cond (ltI e d) ((u9 (a,b,c,[],e,d,e,())).bind (Sum.elim (fun (a_2,b_2,c_2,d_2,e_2,f_2,_)=>cond (gtI (d_2.length : Nat) 0) ((app c_2 [d_2]).bind fun a3=>some (.inl (a_2,b_2,a3,e_2,(ae .i64 f_2 1),()))) (some (.inl (a_2,b_2,c_2,e_2,(ae .i64 f_2 1),())))) (fun _=>none))) (some (.inr (.inl (c,()))))
def xR:=ab rz
def Cv : Ann:=⟨sh [(3,.av (.own 3)),(4,.av (.own 4)),(5,.av (.own 5)),(18,.av (.val I)),(19,.av (.val I))] [(3,.arr I),(4,.arr .bool),(5,.arr (.slice I))],[(.exit 0,sh [(5,.av (.own 5))] [(5,.arr (.slice I))])],xR⟩
def Zaw (x : (Q9×Unit)) : Option Q5 :=
 let ((a,b,c,_),_):=x; (Zba ((a,b,c,()),())).bind fun r1=>cond (!r1.1) (some ([],())) ((Zaq ((a,b,c,()),())).bind fun r2=>(dD .bool (r2.1.length : Nat) (r2.1.length : Nat)).bind fun m3=>(xR (r2.1,m3,[],(r2.1.length : Nat),0,())).bind (Sum.elim (fun z5=>some (z5.1,())) (fun _=>none)))
def wg : Fn:=mkF (cx [rG,GQ]) [(7,Cv),(11,zx)] 39 Tryd.f39 [(.rd,yQ6)] [(.tmp 2,true,yQ3)] Zaw [lp 7 Cv rz,lp 11 zx mY] am ah rfl
def pO (x : Q38) : Option (Q38⊕(Q24⊕Empty)) :=
 let (a,b,c,d,e,f,g,h,i,k,l,_):=x; cond (ltI l k) ((aH i l).bind fun y1=>(aH b (eZ .i64 y1 2)).bind fun y2=>(Zbf (y2,(iz .i64 (cu y1 2) 1),())).bind fun r3=>(aI d.length r3.1).bind fun j4=>(d[j4]?).bind fun y5=>cond (!y5) ((aI d.length r3.1).bind fun j6=>(d[j6]?).bind fun y7=>(app e [r3.1]).bind fun a8=>some (.inl (a,b,c,(d.set j6 true),a8,f,g,h,i,k,(ae .i64 l 1),()))) (some (.inl (a,b,c,d,e,f,g,h,i,k,(ae .i64 l 1),())))) (some (.inr (.inl (a,b,c,d,e,f,g,h,()))))
def yl:=ab pO
def Dq : Ann:=⟨sh [(1,.av (.ptr 1 0)),(3,.av (.own 3)),(4,.av (.val I)),(6,.av (.own 6)),(14,.av (.val I)),(15,.av (.val I)),(40,.av (.val (.slice I))),(41,.av (.val I)),(42,.av (.val I))] [(1,.box [.val I,.val (.slice yQ2),.val yQ3]),(3,.arr .bool),(6,.arr I)],[(.exit 4,sh [(1,.av (.ptr 1 0)),(3,.av (.own 3)),(4,.av (.val I)),(6,.av (.own 6)),(14,.av (.val I)),(15,.av (.val I))] [(1,.box [.val I,.val (.slice yQ2),.val yQ3]),(3,.arr .bool),(6,.arr I)])],yl⟩
def jP (x : Q24) : Option (Q24⊕(Q15⊕Empty)) :=
 let (a,b,c,d,e,f,g,h,_):=x; cond (gtI (e.length : Nat) 0) ((aI e.length 0).bind fun j1=>(e[j1]?).bind fun y2=>(aH c y2).bind fun y3=>(yl (a,b,c,d,e,f,g,h,y3,(y3.length : Nat),0,())).bind (Sum.elim (fun (a_5,b_5,c_5,d_5,e_5,f_5,g_5,h_5,_)=>(iV e_5.length 1 (e_5.length : Nat)).bind fun v6=>some (.inl (a_5,b_5,c_5,d_5,((e_5.drop v6.1).take v6.2),f_5,g_5,h_5,()))) (fun _=>none))) (some (.inr (.inl (a,b,c,d,f,g,h,()))))
def qo:=ab jP
def En : Ann:=⟨sh [(1,.av (.ptr 1 0)),(3,.av (.own 3)),(4,.av (.val I)),(6,.av (.own 6)),(14,.av (.val I)),(15,.av (.val I))] [(1,.box [.val I,.val (.slice yQ2),.val yQ3]),(3,.arr .bool),(6,.arr I)],[(.exit 2,sh [(1,.av (.ptr 1 0)),(3,.av (.own 3)),(4,.av (.val I)),(14,.av (.val I)),(15,.av (.val I))] [(1,.box [.val I,.val (.slice yQ2),.val yQ3]),(3,.arr .bool)])],qo⟩
def jK (x : Q15) : Option (Q15⊕((Int×Unit)⊕Empty)) :=
 let (a,b,c,d,e,f,g,_):=x; cond (ltI g f) ((aI d.length g).bind fun j1=>(d[j1]?).bind fun y2=>cond y2 (some (.inl (a,b,c,d,e,f,(ae .i64 g 1),()))) ((aI d.length g).bind fun j3=>(d[j3]?).bind fun y4=>(qo (a,b,c,(d.set j3 true),[g],(ae .i64 e 1),f,g,())).bind (Sum.elim (fun (a_6,b_6,c_6,d_6,e_6,f_6,g_6,_)=>some (.inl (a_6,b_6,c_6,d_6,e_6,f_6,(ae .i64 g_6 1),()))) (fun _=>none)))) (some (.inr (.inl (e,()))))
def sP:=ab jK
def FH : Ann:=⟨sh [(1,.av (.ptr 1 0)),(3,.av (.own 3)),(4,.av (.val I)),(14,.av (.val I)),(15,.av (.val I))] [(1,.box [.val I,.val (.slice yQ2),.val yQ3]),(3,.arr .bool)],[(.exit 0,sh [(4,.av (.val I))] [])],sP⟩
def Zj (x : (Q9×Unit)) : Option (Int×Unit) :=
 let ((a,b,c,_),_):=x; (dD .bool a a).bind fun m1=>(sP (a,b,c,m1,0,a,0,())).bind (Sum.elim (fun z3=>some (z3.1,())) (fun _=>none))
def Hq : Fn:=mkF (cx [zo]) [(4,FH),(10,En),(13,Dq)] 86 Tryd.f86 [(.rd,yQ6)] [(.tmp 2,true,I)] Zj [lp 4 FH jK,lp 10 En jP,lp 13 Dq pO] am ah rfl
def kv (x : Q20) : Option (Q20⊕(Q12⊕Empty)) :=
 let (a,b,c,d,e,f,g,_):=x; cond (ltI g f) ((aH e g).bind fun y1=>cond (eqI (y1.length : Nat) 0) (some (.inl (a,b,c,(ae .i64 d 1),e,f,(ae .i64 g 1),()))) (some (.inl (a,b,c,d,e,f,(ae .i64 g 1),())))) (some (.inr (.inl (a,b,c,d,()))))
def uV:=ab kv
def Eg : Ann:=⟨sh [(1,.av (.ptr 1 0)),(3,.av (.val I)),(13,.av (.val yQ3)),(14,.av (.val I)),(15,.av (.val I))] [(1,.box [.val I,.val (.slice yQ2),.val yQ3])],[(.exit 0,sh [(1,.av (.ptr 1 0)),(3,.av (.val I))] [(1,.box [.val I,.val (.slice yQ2),.val yQ3])])],uV⟩
def Zax (x : (Q9×Unit)) : Option (Int×Unit) :=
 let ((a,b,c,_),_):=x; (Zba ((a,b,c,()),())).bind fun r1=>cond (!r1.1) (some ((-1),())) ((Zaw ((a,b,c,()),())).bind fun r2=>(uV (a,b,c,(r2.1.length : Nat),c,(c.length : Nat),0,())).bind (Sum.elim (fun z4=>(Zj ((z4.1,z4.2.1,z4.2.2.1,()),())).bind fun r5=>some ((bf .i64 r5.1 (eZ .i64 (ae .i64 (bf .i64 z4.1 (z4.2.1.length : Nat)) z4.2.2.2.1) 2)),())) (fun _=>none)))
def GB : Fn:=mkF (cx [wg,rG,Hq]) [(5,Eg)] 73 Tryd.f73 [(.rd,yQ6)] [(.tmp 2,true,I)] Zax [lp 5 Eg kv] am ah rfl
def rh (x : Q49) : Option (Q49⊕((Bool×Unit)⊕((Int×(List Q2)×(List (List Int))×List Int×List ByteArray×Int×List Int×Int×(List (List Int))×Int×Int×Unit)⊕Empty))) :=
 let (a,b,c,d,e,f,g,h,i,k,l,m,n,o,_):=x; cond (ltI o n) ((aH m o).bind fun y1=>(aH d y1).bind fun y2=>cond (ltI y2 1) (some (.inr (.inl (false,())))) ((aH d y1).bind fun y3=>cond (gtI y3 4) (some (.inr (.inl (false,())))) ((aH d y1).bind fun y4=>some (.inl (a,b,c,d,e,f,g,(ae .i64 h y4),i,k,l,m,n,(ae .i64 o 1),()))))) (some (.inr (.inr (.inl (a,b,c,d,e,f,g,h,i,k,l,())))))
def xH:=ab rh
def CC : Ann:=⟨sh [(1,.av (.ptr 1 0)),(4,.av (.val (.slice I))),(5,.av (.val I)),(10,.av (.val yQ3)),(11,.av (.val I)),(12,.av (.val I)),(16,.av (.val (.slice I))),(17,.av (.val I)),(18,.av (.val I))] [(1,.box [.val I,.val (.slice yQ2),.val yQ3,.val (.slice I),.val (.slice .str),.val I])],[(.ret,sh [(2,.av (.val .bool))] []),(.exit 2,sh [(1,.av (.ptr 1 0)),(4,.av (.val (.slice I))),(5,.av (.val I)),(10,.av (.val yQ3)),(11,.av (.val I)),(12,.av (.val I))] [(1,.box [.val I,.val (.slice yQ2),.val yQ3,.val (.slice I),.val (.slice .str),.val I])])],xH⟩
def qM (x : Q40) : Option (Q40⊕((Bool×Unit)⊕(Unit⊕Empty))) :=
 let (a,b,c,d,e,f,g,h,i,_):=x; cond (ltI i h) ((aH g i).bind fun y1=>(xH (a,b,c,d,e,f,y1,0,g,h,i,y1,(y1.length : Nat),0,())).bind (Sum.elim (fun z3=>some (.inr (.inl (z3.1,())))) (Sum.elim (fun (a_4,b_4,c_4,d_4,e_4,f_4,g_4,h_4,i_4,k_4,l_4,_)=>cond (gtI (g_4.length : Nat) 0) (cond (neI h_4 4) (some (.inr (.inl (false,())))) (some (.inl (a_4,b_4,c_4,d_4,e_4,f_4,i_4,k_4,(ae .i64 l_4 1),())))) (some (.inl (a_4,b_4,c_4,d_4,e_4,f_4,i_4,k_4,(ae .i64 l_4 1),())))) (fun _=>none)))) (some (.inr (.inr (.inl ()))))
def xG:=ab qM
def Dk : Ann:=⟨sh [(1,.av (.ptr 1 0)),(10,.av (.val yQ3)),(11,.av (.val I)),(12,.av (.val I))] [(1,.box [.val I,.val (.slice yQ2),.val yQ3,.val (.slice I),.val (.slice .str),.val I])],[(.ret,sh [(2,.av (.val .bool))] []),(.exit 0,sh [] [])],xG⟩
def Zbl (x : (Q10×Unit)) : Option (Bool×Unit) :=
 let (((a,b,c,_),d,e,f,_),_):=x; (xG (a,b,c,d,e,f,c,(c.length : Nat),0,())).bind (Sum.elim (fun z2=>some (z2.1,())) (Sum.elim (fun z3=>some (true,())) (fun _=>none)))
def G2 : Fn:=mkF (cx []) [(2,Dk),(6,CC)] 74 Tryd.f74 [(.rd,yQ9)] [(.tmp 2,true,.bool)] Zbl [lp 2 Dk qM,lp 6 CC rh] am ah rfl
def Zbg (x : (Int×Unit)) : Option (Int×Bool×Unit) :=
 cond (eqI x.1 76) (some (82,true,())) (cond (eqI x.1 82) (some (76,true,())) (some (x.1,false,())))
def FJ : Fn:=mkF (cx []) [] 87 Tryd.f87 [(.rd,(.int .u8))] [(.tmp 2,true,(.int .u8)),(.tmp 3,true,.bool)] Zbg [] am ah rfl
def nJ (x : Q6) : Option (Q6⊕((Bool×Unit)⊕(Unit⊕Empty))) :=
 let (a,b,c,_):=x; cond (ltI c b) ((aI a.length c).bind fun j1=>(a[j1]?).bind fun y2=>(Zbg (y2,())).bind fun r3=>cond (!r3.2.1) (some (.inr (.inl (false,())))) (some (.inl (a,b,(ae .i64 c 1),())))) (some (.inr (.inr (.inl ()))))
def ut:=ab nJ
def BN : Ann:=⟨sh [(11,.av (.own 11)),(12,.av (.val I)),(13,.av (.val I))] [(11,.arr (.int .u8))],[(.ret,sh [(2,.av (.val .bool))] []),(.exit 0,sh [] [])],ut⟩
def Zbu (x : Q3) : Option (Bool×Unit) :=
 cond (gtI (x.1.size : Nat) 64) (some (false,())) ((ut ((ar x.1),((ar x.1).length : Nat),0,())).bind (Sum.elim (fun z2=>some (z2.1,())) (Sum.elim (fun z3=>some (true,())) (fun _=>none))))
def Gs : Fn:=mkF (cx [FJ]) [(4,BN)] 75 Tryd.f75 [(.rd,.str)] [(.tmp 2,true,.bool)] Zbu [lp 4 BN nJ] am ah rfl
def Fu (x : Q6) : Option (Q6⊕(Q1⊕Empty)) :=
 let (a,b,c,_):=x; cond (ltI b c) ((aI a.length c).bind fun j1=>(a[j1]?).bind fun y2=>(aI a.length b).bind fun j3=>(a[j3]?).bind fun y4=>(aI a.length b).bind fun j5=>(a[j5]?).bind fun y6=>(aI (a.set j5 y2).length c).bind fun j7=>((a.set j5 y2)[j7]?).bind fun y8=>some (.inl (((a.set j5 y2).set j7 y4),(ae .i64 b 1),(bf .i64 c 1),()))) (some (.inr (.inl (a,()))))
def Dy:=ab Fu
def Fq : Ann:=⟨⟨[(0,.av (.own 0)),(2,.av (.val I)),(3,.av (.val I))],[(0,.arr (.int .u8))],[0]⟩,[(.exit 0,⟨[(0,.av (.own 0))],[(0,.arr (.int .u8))],[0]⟩)],Dy⟩
def Zm (x : Q1) : Option Q1 :=
 (Dy (x.1,0,(bf .i64 (x.1.length : Nat) 1),())).bind (Sum.elim (fun z2=>some (z2.1,())) (fun _=>none))
def Hm : Fn:=mkF (cx []) [(1,Fq)] 88 Tryd.f88 [(.upd,(.slice (.int .u8)))] [] Zm [lp 1 Fq Fu] am ah rfl
def n6 (x : Q6) : Option (Q6⊕(Q1⊕Empty)) :=
 let (a,b,c,_):=x; cond (ltI c b) ((aI a.length c).bind fun j1=>(a[j1]?).bind fun y2=>(Zbg (y2,())).bind fun r3=>(aI a.length c).bind fun j4=>(a[j4]?).bind fun y5=>some (.inl ((a.set j4 r3.1),b,(ae .i64 c 1),()))) (some (.inr (.inl (a,()))))
def u5:=ab n6
def Da : Ann:=⟨sh [(3,.av (.own 3)),(10,.av (.own 3)),(11,.av (.val I)),(12,.av (.val I))] [(3,.arr (.int .u8))],[(.exit 0,sh [(3,.av (.own 3))] [(3,.arr (.int .u8))])],u5⟩
def Zbj (x : Q3) : Option Q3 :=
 (Zm ((ar x.1),())).bind fun r1=>(u5 (r1.1,(r1.1.length : Nat),0,())).bind (Sum.elim (fun z3=>some ((c9 z3.1),())) (fun _=>none))
def G5 : Fn:=mkF (cx [FJ,Hm]) [(4,Da)] 76 Tryd.f76 [(.rd,.str)] [(.tmp 2,true,.str)] Zbj [lp 4 Da n6] am ah rfl
def jD (x : Q8) : Option (Q8⊕((Int×Unit)⊕(Unit⊕Empty))) :=
 let (a,b,c,d,_):=x; cond (ltI d c) ((aH a d).bind fun y1=>cond (eqI b y1) (some (.inr (.inl (d,())))) (some (.inl (a,b,c,(ae .i64 d 1),())))) (some (.inr (.inr (.inl ()))))
def qY:=ab jD
def Do : Ann:=⟨sh [(0,.av (.val (.slice I))),(1,.av (.val I)),(7,.av (.val I)),(8,.av (.val I))] [],[(.ret,sh [(4,.av (.val I))] []),(.exit 0,sh [] [])],qY⟩
def Zam (x : Q4) : Option (Int×Unit) :=
 (qY (x.1,x.2.1,(x.1.length : Nat),0,())).bind (Sum.elim (fun z2=>some (z2.1,())) (Sum.elim (fun z3=>some ((-1),())) (fun _=>none)))
def wO : Fn:=mkF (cx []) [(2,Do)] 66 Tryd.f66 [(.rd,(.slice I)),(.rd,I)] [(.tmp 4,true,I)] Zam [lp 2 Do jD] am ah rfl
def Zn (x : Q4) : Option (Bool×Unit) :=
 (Zam (x.1,x.2.1,())).bind fun r1=>some ((geI r1.1 0),())
def FR : Fn:=mkF (cx [wO]) [] 40 Tryd.f40 [(.rd,(.slice I)),(.rd,I)] [(.tmp 4,true,.bool)] Zn [] am ah rfl
def qV (x : Q8) : Option (Q8⊕((Int×Unit)⊕Empty)) :=
 let (a,b,c,d,_):=x; cond (ltI d c) ((aI a.length d).bind fun j1=>(a[j1]?).bind fun y2=>cond (eqI y2 76) (some (.inl (a,(ae .i64 b 1),c,(ae .i64 d 1),()))) (some (.inl (a,(bf .i64 b 1),c,(ae .i64 d 1),())))) (some (.inr (.inl (b,()))))
def uE:=ab qV
def CA : Ann:=⟨sh [(5,.av (.val I)),(20,.av (.own 20)),(21,.av (.val I)),(22,.av (.val I))] [(20,.arr (.int .u8))],[(.exit 0,sh [(5,.av (.val I))] [])],uE⟩
def Zbv (x : (Q10×Int×Unit)) : Option (Int×Unit) :=
 (aH x.1.2.1 (iz .i64 x.2.1 1)).bind fun y1=>(aH x.1.2.2.1 x.2.1).bind fun y2=>(uE ((ar y2),(bf .i64 2 y1),((ar y2).length : Nat),0,())).bind (Sum.elim (fun z4=>some (z4.1,())) (fun _=>none))
def GH : Fn:=mkF (cx []) [(3,CA)] 89 Tryd.f89 [(.rd,yQ9),(.rd,I)] [(.tmp 4,true,I)] Zbv [lp 3 CA qV] am ah rfl
def pQ (x : Q36) : Option (Q36⊕((Int×Unit)⊕Empty)) :=
 let (a,b,c,d,e,f,g,h,i,k,_):=x; cond (ltI k i) ((aH h k).bind fun y1=>(Zbv (((a,b,c,()),d,e,f,()),y1,())).bind fun r2=>some (.inl (a,b,c,d,e,f,(ae .i64 g r2.1),h,i,(ae .i64 k 1),()))) (some (.inr (.inl (g,()))))
def t7:=ab pQ
def CU : Ann:=⟨sh [(2,.av (.ptr 2 0)),(5,.av (.val I)),(8,.av (.val (.slice I))),(9,.av (.val I)),(10,.av (.val I))] [(2,.box [.val I,.val (.slice yQ2),.val yQ3,.val (.slice I),.val (.slice .str),.val I])],[(.exit 0,sh [(5,.av (.val I))] [])],t7⟩
def Zbs (x : (Q10×List Int×Unit)) : Option (Int×Unit) :=
 let (((a,b,c,_),d,e,f,_),g,_):=x; (t7 (a,b,c,d,e,f,0,g,(g.length : Nat),0,())).bind (Sum.elim (fun z2=>some (z2.1,())) (fun _=>none))
def Gm : Fn:=mkF (cx [GH]) [(3,CU)] 77 Tryd.f77 [(.rd,yQ9),(.rd,(.slice I))] [(.tmp 4,true,I)] Zbs [lp 3 CU pQ] am ah rfl
def nv (x : Q40) : Option (Q40⊕((Bool×Unit)⊕(Unit⊕Empty))) :=
 let (a,b,c,d,e,f,g,h,i,_):=x; cond (ltI i h) ((aI g.length i).bind fun j1=>(g[j1]?).bind fun y2=>(Zn (y2,f,())).bind fun r3=>cond r3.1 ((Zbs (((a,b,c,()),d,e,f,()),y2,())).bind fun r4=>cond (neI r4.1 (-4)) (some (.inr (.inl (false,())))) (some (.inl (a,b,c,d,e,f,g,h,(ae .i64 i 1),())))) ((Zbs (((a,b,c,()),d,e,f,()),y2,())).bind fun r5=>cond (neI r5.1 4) (some (.inr (.inl (false,())))) (some (.inl (a,b,c,d,e,f,g,h,(ae .i64 i 1),()))))) (some (.inr (.inr (.inl ()))))
def pA:=ab nv
def zP : Ann:=⟨sh [(1,.av (.ptr 1 0)),(85,.av (.own 85)),(86,.av (.val I)),(87,.av (.val I))] [(1,.box [.val I,.val (.slice yQ2),.val yQ3,.val (.slice I),.val (.slice .str),.val I]),(85,.arr (.slice I))],[(.ret,sh [(2,.av (.val .bool))] []),(.exit 2,sh [] [])],pA⟩
def qi (x : Q45) : Option (Q45⊕((Bool×Unit)⊕((Int×(List Q2)×(List (List Int))×List Int×List ByteArray×Int×Int×(List Q2)×(List (List Int))×Unit)⊕Empty))) :=
 let (a,b,c,d,e,f,g,h,i,k,l,_):=x; cond (ltI l k) ((aH e l).bind fun y1=>(Zbu (y1,())).bind fun r2=>cond (!r2.1) (some (.inr (.inl (false,())))) ((aH e (ae .i64 l 1)).bind fun y3=>(aH e l).bind fun y4=>(Zbj (y4,())).bind fun r5=>cond (neS y3 r5.1) (some (.inr (.inl (false,())))) (some (.inl (a,b,c,d,e,f,g,h,i,k,(ae .i64 l 2),()))))) (some (.inr (.inr (.inl (a,b,c,d,e,f,g,h,i,())))))
def nP:=ab qi
def D6 : Ann:=⟨sh [(1,.av (.ptr 1 0)),(3,.av (.ptr 3 0)),(4,.av (.val I)),(5,.av (.val I))] [(1,.box [.val I,.val (.slice yQ2),.val yQ3,.val (.slice I),.val (.slice .str),.val I]),(3,.box [.val I,.val (.slice yQ2),.val yQ3])],[(.ret,sh [(2,.av (.val .bool))] []),(.exit 0,sh [(1,.av (.ptr 1 0)),(3,.av (.ptr 3 0))] [(1,.box [.val I,.val (.slice yQ2),.val yQ3,.val (.slice I),.val (.slice .str),.val I]),(3,.box [.val I,.val (.slice yQ2),.val yQ3])])],nP⟩
def Zbq (x : (Q10×Unit)) : Option (Bool×Unit) :=
 let (((a,b,c,_),d,e,f,_),_):=x; (Zba ((a,b,c,()),())).bind fun r1=>cond (!r1.1) (some (false,())) ((Zat ((a,b,c,()),())).bind fun r2=>cond (!r2.1) (some (false,())) ((Zax ((a,b,c,()),())).bind fun r3=>cond (neI r3.1 0) (some (false,())) (cond (neI (d.length : Nat) (aP .i64 2 (b.length : Nat))) (some (false,())) (cond (neI (e.length : Nat) (aP .i64 2 (b.length : Nat))) (some (false,())) (cond (ltI f 0) (some (false,())) (cond (geI f (jO (aP .i64 2 (b.length : Nat)) 1)) (some (false,())) ((Zbl (((a,b,c,()),d,e,f,()),())).bind fun r4=>cond (!r4.1) (some (false,())) ((nP (a,b,c,d,e,f,a,b,c,(aP .i64 2 (b.length : Nat)),0,())).bind (Sum.elim (fun z6=>some (z6.1,())) (Sum.elim (fun (a_7,b_7,c_7,d_7,e_7,f_7,g_7,h_7,i_7,_)=>(Zaw ((g_7,h_7,i_7,()),())).bind fun r8=>(pA (a_7,b_7,c_7,d_7,e_7,f_7,r8.1,(r8.1.length : Nat),0,())).bind (Sum.elim (fun z10=>some (z10.1,())) (Sum.elim (fun z11=>some (true,())) (fun _=>none)))) (fun _=>none)))))))))))
def FN : Fn:=mkF (cx [wg,FR,rG,Ha,GB,G2,Gs,G5,Gm]) [(8,D6),(13,zP)] 50 Tryd.f50 [(.rd,yQ9)] [(.tmp 2,true,.bool)] Zbq [lp 8 D6 qi,lp 13 zP nv] am ah rfl
def Zbt (x : (Q10×Unit)) : Option (Int×Unit) :=
 let (((a,b,c,_),d,e,f,_),_):=x; (Zbq (((a,b,c,()),d,e,f,()),())).bind fun r1=>cond (!r1.1) (some (13,())) (some (0,()))
def BE : Fn:=mkF (cx [FN]) [] 25 Tryd.f25 [(.rd,yQ9)] [(.tmp 2,true,I)] Zbt [] am ah rfl
def Cn (x : Q47) : Option (Q47⊕(Q42⊕Empty)) :=
 let (a,b,c,d,e,f,g,h,i,k,l,m,_):=x; (yp .unit (.prod .str I) h).bind fun q1=>cond (nL q1) ((aH i q1.2).bind fun y2=>(aH i (ae .i64 q1.2 1)).bind fun y3=>(aI g.length (ae .i64 y2 1)).bind fun j4=>(g[j4]?).bind fun y5=>(aI (g.set j4 1).length y3).bind fun j6=>((g.set j4 1)[j6]?).bind fun y7=>cond (eqI (l7 q1) 82) ((aH i q1.2).bind fun y8=>(aH i (ae .i64 q1.2 1)).bind fun y9=>(aI ((g.set j4 1).set j6 3).length (ae .i64 y8 1)).bind fun j10=>(((g.set j4 1).set j6 3)[j10]?).bind fun y11=>(aI (((g.set j4 1).set j6 3).set j10 3).length y9).bind fun j12=>((((g.set j4 1).set j6 3).set j10 3)[j12]?).bind fun y13=>some (.inl (a,b,c,d,e,f,((((g.set j4 1).set j6 3).set j10 3).set j12 1),[((),oz q1)],i,k,l,m,()))) (some (.inl (a,b,c,d,e,f,((g.set j4 1).set j6 3),[((),oz q1)],i,k,l,m,())))) (some (.inr (.inl (a,b,c,d,e,f,g,k,l,m,()))))
def DW:=ab Cn
def C2 : Ann:=⟨sh [(3,.av (.ptr 3 0)),(7,.av (.own 7)),(9,.av (.val (.slice I))),(15,.av (.val yQ3)),(16,.av (.val I)),(17,.av (.val I)),(55,.av (.ownm 55))] [(3,.box [.val I,.val (.slice yQ2),.val yQ3,.val (.slice I),.val (.slice .str),.val I]),(7,.arr I),(55,.map .unit (.prod .str I))],[(.exit 2,sh [(3,.av (.ptr 3 0)),(7,.av (.own 7)),(15,.av (.val yQ3)),(16,.av (.val I)),(17,.av (.val I))] [(3,.box [.val I,.val (.slice yQ2),.val yQ3,.val (.slice I),.val (.slice .str),.val I]),(7,.arr I)])],DW⟩
def Dm (x : Q42) : Option (Q42⊕(Q1⊕Empty)) :=
 let (a,b,c,d,e,f,g,h,i,k,_):=x; cond (ltI k i) ((aH h k).bind fun y1=>(aH y1 0).bind fun y2=>(aH d (aP .i64 2 k)).bind fun y3=>(aI g.length y2).bind fun j4=>(g[j4]?).bind fun y5=>(aH y1 (bf .i64 (y1.length : Nat) 1)).bind fun y6=>(aH d (ae .i64 (aP .i64 2 k) 1)).bind fun y7=>(aI (g.set j4 y3).length (ae .i64 y6 1)).bind fun j8=>((g.set j4 y3)[j8]?).bind fun y9=>(aH e (aP .i64 2 k)).bind fun y10=>(DW (a,b,c,d,e,f,((g.set j4 y3).set j8 y7),[((),y10,0)],y1,h,i,k,())).bind (Sum.elim (fun (a_12,b_12,c_12,d_12,e_12,f_12,g_12,h_12,i_12,k_12,_)=>some (.inl (a_12,b_12,c_12,d_12,e_12,f_12,g_12,h_12,i_12,(ae .i64 k_12 1),()))) (fun _=>none))) (some (.inr (.inl (g,()))))
def Cc:=ab Dm
def CH : Ann:=⟨sh [(3,.av (.ptr 3 0)),(7,.av (.own 7)),(15,.av (.val yQ3)),(16,.av (.val I)),(17,.av (.val I))] [(3,.box [.val I,.val (.slice yQ2),.val yQ3,.val (.slice I),.val (.slice .str),.val I]),(7,.arr I)],[(.exit 0,sh [(7,.av (.own 7))] [(7,.arr I)])],Cc⟩
def Zbb (x : (Q10×(List (List Int))×Int×Unit)) : Option Q1 :=
 let (((a,b,c,_),d,e,f,_),g,h,_):=x; (dD I (aP .i64 2 h) (aP .i64 2 h)).bind fun m1=>(Cc (a,b,c,d,e,f,m1,g,(g.length : Nat),0,())).bind (Sum.elim (fun z3=>some (z3.1,())) (fun _=>none))
def GD : Fn:=mkF (cx []) [(3,CH),(8,C2)] 26 Tryd.f26 [(.rd,yQ9),(.rd,yQ3),(.rd,I)] [(.tmp 6,true,(.slice I))] Zbb [lp 3 CH Dm,lp 8 C2 Cn] am ah rfl
def Zh (x : (Int×(List (List Int))×Unit)) : Option (Int×Unit) :=
 let (a,b,_):=x; cond (eqI (cu a 2) 0) ((aH b (eZ .i64 a 2)).bind fun y1=>(aH y1 0).bind fun y2=>some (y2,())) ((aH b (eZ .i64 a 2)).bind fun y3=>(aH b (eZ .i64 a 2)).bind fun y4=>(aH y3 (bf .i64 (y4.length : Nat) 1)).bind fun y5=>some ((ae .i64 y5 1),()))
def Hw : Fn:=mkF (cx []) [] 27 Tryd.f27 [(.rd,I),(.rd,(.ptr yQ3))] [(.tmp 3,true,I)] Zh [] am ah rfl
def Dn (x : Q55) : Option (Q55⊕((Int×(List Q2)×(List (List Int))×List Int×List ByteArray×Int×Int×Int×Int×Int×(List (List Int))×List Int×(List Q2)×(List (List Int))×List Int×(List (List Int))×(List (List Int))×Int×Int×Unit)⊕Empty)) :=
 cond (ltI x.2.2.2.2.2.2.2.2.2.2.2.2.2.2.2.2.2.2.2.2.2.1 x.2.2.2.2.2.2.2.2.2.2.2.2.2.2.2.2.2.2.2.2.1) ((aH x.2.2.2.2.2.2.2.2.2.2.2.2.2.2.2.2.2.2.2.1 x.2.2.2.2.2.2.2.2.2.2.2.2.2.2.2.2.2.2.2.2.2.1).bind fun y1=>(Zh (y1,x.2.2.2.2.2.2.2.2.2.2.2.2.2.2.2.1,())).bind fun r2=>(app x.2.2.2.2.2.2.2.2.2.2.2.1 [r2.1]).bind fun a3=>some (.inl (x.1,x.2.1,x.2.2.1,x.2.2.2.1,x.2.2.2.2.1,x.2.2.2.2.2.1,x.2.2.2.2.2.2.1,x.2.2.2.2.2.2.2.1,x.2.2.2.2.2.2.2.2.1,x.2.2.2.2.2.2.2.2.2.1,x.2.2.2.2.2.2.2.2.2.2.1,a3,x.2.2.2.2.2.2.2.2.2.2.2.2.1,x.2.2.2.2.2.2.2.2.2.2.2.2.2.1,x.2.2.2.2.2.2.2.2.2.2.2.2.2.2.1,x.2.2.2.2.2.2.2.2.2.2.2.2.2.2.2.1,x.2.2.2.2.2.2.2.2.2.2.2.2.2.2.2.2.1,x.2.2.2.2.2.2.2.2.2.2.2.2.2.2.2.2.2.1,x.2.2.2.2.2.2.2.2.2.2.2.2.2.2.2.2.2.2.1,x.2.2.2.2.2.2.2.2.2.2.2.2.2.2.2.2.2.2.2.1,x.2.2.2.2.2.2.2.2.2.2.2.2.2.2.2.2.2.2.2.2.1,(ae .i64 x.2.2.2.2.2.2.2.2.2.2.2.2.2.2.2.2.2.2.2.2.2.1 1),()))) (some (.inr (.inl (x.1,x.2.1,x.2.2.1,x.2.2.2.1,x.2.2.2.2.1,x.2.2.2.2.2.1,x.2.2.2.2.2.2.1,x.2.2.2.2.2.2.2.1,x.2.2.2.2.2.2.2.2.1,x.2.2.2.2.2.2.2.2.2.1,x.2.2.2.2.2.2.2.2.2.2.1,x.2.2.2.2.2.2.2.2.2.2.2.1,x.2.2.2.2.2.2.2.2.2.2.2.2.1,x.2.2.2.2.2.2.2.2.2.2.2.2.2.1,x.2.2.2.2.2.2.2.2.2.2.2.2.2.2.1,x.2.2.2.2.2.2.2.2.2.2.2.2.2.2.2.1,x.2.2.2.2.2.2.2.2.2.2.2.2.2.2.2.2.1,x.2.2.2.2.2.2.2.2.2.2.2.2.2.2.2.2.2.1,x.2.2.2.2.2.2.2.2.2.2.2.2.2.2.2.2.2.2.1,()))))
def Cu:=ab Dn
def DS : Ann:=⟨sh [(1,.av (.ptr 1 0)),(2,.av (.ptr 2 0)),(5,.av (.ptr 5 0)),(6,.av (.ptr 6 0)),(7,.av (.own 7)),(14,.av (.clo 27 [6])),(17,.av (.own 17)),(123,.av (.val yQ3)),(124,.av (.val I)),(125,.av (.val I)),(129,.av (.val (.slice I))),(130,.av (.val I)),(131,.av (.val I))] [(1,.box [.val I,.val (.slice yQ2),.val yQ3,.val (.slice I),.val (.slice .str),.val I]),(2,.box [.val I,.nils,.nils,.nils,.nils,.val I]),(5,.box [.val I,.own 600001,.own 600002,.own 600003,.nils,.val I]),(6,.box [.own 700000]),(7,.arr (.slice I)),(17,.arr I),(600001,.arr yQ2),(600002,.arr (.slice I)),(600003,.arr I),(700000,.arr (.slice I))],[(.exit 6,sh [(1,.av (.ptr 1 0)),(2,.av (.ptr 2 0)),(5,.av (.ptr 5 0)),(6,.av (.ptr 6 0)),(7,.av (.own 7)),(14,.av (.clo 27 [6])),(17,.av (.own 17)),(123,.av (.val yQ3)),(124,.av (.val I)),(125,.av (.val I))] [(1,.box [.val I,.val (.slice yQ2),.val yQ3,.val (.slice I),.val (.slice .str),.val I]),(2,.box [.val I,.nils,.nils,.nils,.nils,.val I]),(5,.box [.val I,.own 600001,.own 600002,.own 600003,.nils,.val I]),(6,.box [.own 700000]),(7,.arr (.slice I)),(17,.arr I),(600001,.arr yQ2),(600002,.arr (.slice I)),(600003,.arr I),(700000,.arr (.slice I))])],Cu⟩
def DI (x : Q54) : Option (Q54⊕((Int×(List Q2)×(List (List Int))×List Int×List ByteArray×Int×Int×Int×Int×Int×(List (List Int))×(List Q2)×(List (List Int))×List Int×(List (List Int))×Unit)⊕Empty)) :=
 let (a,b,c,d,e,f,g,h,i,k,l,m,n,o,p,q,s,t,_):=x; cond (ltI t s) ((aH q t).bind fun y1=>(Cu (a,b,c,d,e,f,g,h,i,k,l,[],m,n,o,p,q,s,t,y1,(y1.length : Nat),0,())).bind (Sum.elim (fun (a_3,b_3,c_3,d_3,e_3,f_3,g_3,h_3,i_3,k_3,l_3,m_3,n_3,o_3,p_3,q_3,s_3,t_3,u_3,_)=>(app o_3 [m_3]).bind fun a4=>some (.inl (a_3,b_3,c_3,d_3,e_3,f_3,g_3,h_3,i_3,k_3,l_3,n_3,a4,p_3,q_3,s_3,t_3,(ae .i64 u_3 1),()))) (fun _=>none))) (some (.inr (.inl (a,b,c,d,e,f,g,h,i,k,l,m,n,o,p,()))))
def DJ:=ab DI
def BQ : Ann:=⟨sh [(1,.av (.ptr 1 0)),(2,.av (.ptr 2 0)),(5,.av (.ptr 5 0)),(6,.av (.ptr 6 0)),(7,.av (.own 7)),(14,.av (.clo 27 [6])),(123,.av (.val yQ3)),(124,.av (.val I)),(125,.av (.val I))] [(1,.box [.val I,.val (.slice yQ2),.val yQ3,.val (.slice I),.val (.slice .str),.val I]),(2,.box [.val I,.nils,.nils,.nils,.nils,.val I]),(5,.box [.val I,.own 600001,.own 600002,.own 600003,.nils,.val I]),(6,.box [.own 700000]),(7,.arr (.slice I)),(600001,.arr yQ2),(600002,.arr (.slice I)),(600003,.arr I),(700000,.arr (.slice I))],[(.exit 4,sh [(1,.av (.ptr 1 0)),(2,.av (.ptr 2 0)),(5,.av (.ptr 5 0)),(6,.av (.ptr 6 0)),(7,.av (.own 7)),(14,.av (.clo 27 [6]))] [(1,.box [.val I,.val (.slice yQ2),.val yQ3,.val (.slice I),.val (.slice .str),.val I]),(2,.box [.val I,.nils,.nils,.nils,.nils,.val I]),(5,.box [.val I,.own 600001,.own 600002,.own 600003,.nils,.val I]),(6,.box [.own 700000]),(7,.arr (.slice I)),(600001,.arr yQ2),(600002,.arr (.slice I)),(600003,.arr I),(700000,.arr (.slice I))])],DJ⟩
def Dg (x : Q53) : Option (Q53⊕((Int×(List Q2)×(List (List Int))×List Int×List ByteArray×Int×Int×Int×Int×Int×(List (List Int))×Int×Int×List Int×(List Q2)×(List (List Int))×Int×(List Q2)×Int×Int×Unit)⊕Empty)) :=
 (yp .unit (.prod .str I) x.2.2.2.2.2.2.2.2.2.2.2.2.2.2.1).bind fun q1=>cond (nL q1) ((app x.2.2.2.2.2.2.2.2.2.2.2.2.2.1 [(aP .i64 2 (x.2.2.2.2.2.2.2.2.2.2.2.2.2.2.2.1.length : Nat))]).bind fun a2=>(app x.2.2.2.2.2.2.2.2.2.2.2.2.2.2.2.1 [(x.2.2.2.2.2.2.2.2.2.2.2.2.2.2.2.2.2.1,x.2.2.2.2.2.2.2.2.1,())]).bind fun a3=>(app x.2.2.2.2.2.2.2.2.2.2.1 [[(ae .i64 (aP .i64 2 (x.2.2.2.2.2.2.2.2.2.2.2.2.2.2.2.1.length : Nat)) 1),(ae .i64 (aP .i64 2 (x.2.2.2.2.2.2.2.2.2.2.2.2.2.2.2.1.length : Nat)) 2)]]).bind fun a4=>some (.inl (x.1,x.2.1,x.2.2.1,x.2.2.2.1,x.2.2.2.2.1,x.2.2.2.2.2.1,x.2.2.2.2.2.2.1,x.2.2.2.2.2.2.2.1,(ae .i64 x.2.2.2.2.2.2.2.2.1 1),x.2.2.2.2.2.2.2.2.2.1,a4,x.2.2.2.2.2.2.2.2.2.2.2.1,x.2.2.2.2.2.2.2.2.2.2.2.2.1,a2,[((),oz q1)],a3,x.2.2.2.2.2.2.2.2.2.2.2.2.2.2.2.2.1,x.2.2.2.2.2.2.2.2.1,x.2.2.2.2.2.2.2.2.2.2.2.2.2.2.2.2.2.2.1,x.2.2.2.2.2.2.2.2.2.2.2.2.2.2.2.2.2.2.2.1,x.2.2.2.2.2.2.2.2.2.2.2.2.2.2.2.2.2.2.2.2.1,()))) (some (.inr (.inl (x.1,x.2.1,x.2.2.1,x.2.2.2.1,x.2.2.2.2.1,x.2.2.2.2.2.1,x.2.2.2.2.2.2.1,x.2.2.2.2.2.2.2.1,x.2.2.2.2.2.2.2.2.1,x.2.2.2.2.2.2.2.2.2.1,x.2.2.2.2.2.2.2.2.2.2.1,x.2.2.2.2.2.2.2.2.2.2.2.1,x.2.2.2.2.2.2.2.2.2.2.2.2.1,x.2.2.2.2.2.2.2.2.2.2.2.2.2.1,x.2.2.2.2.2.2.2.2.2.2.2.2.2.2.2.1,x.2.2.2.2.2.2.2.2.2.2.2.2.2.2.2.2.1,x.2.2.2.2.2.2.2.2.2.2.2.2.2.2.2.2.2.1,x.2.2.2.2.2.2.2.2.2.2.2.2.2.2.2.2.2.2.1,x.2.2.2.2.2.2.2.2.2.2.2.2.2.2.2.2.2.2.2.1,x.2.2.2.2.2.2.2.2.2.2.2.2.2.2.2.2.2.2.2.2.1,()))))
def BK:=ab Dg
def CL : Ann:=⟨sh [(1,.av (.ptr 1 0)),(2,.av (.ptr 2 0)),(5,.av (.ptr 5 0)),(6,.av (.ptr 6 0)),(7,.av (.own 7)),(9,.av (.ptr 9 0)),(10,.av (.val I)),(11,.av (.own 11)),(31,.av (.val (.slice yQ2))),(32,.av (.val I)),(33,.av (.val I)),(46,.av (.ownm 46))] [(1,.box [.val I,.val (.slice yQ2),.val yQ3,.val (.slice I),.val (.slice .str),.val I]),(2,.box [.val I,.nils,.nils,.nils,.nils,.val I]),(5,.box [.val I,.own 600001,.nils,.nils,.nils,.val I]),(6,.box [.own 700000]),(7,.arr (.slice I)),(9,.box [.val I,.val I]),(11,.arr I),(46,.map .unit (.prod .str I)),(600001,.arr yQ2),(700000,.arr (.slice I))],[(.exit 2,sh [(1,.av (.ptr 1 0)),(2,.av (.ptr 2 0)),(5,.av (.ptr 5 0)),(6,.av (.ptr 6 0)),(7,.av (.own 7)),(9,.av (.ptr 9 0)),(10,.av (.val I)),(11,.av (.own 11)),(31,.av (.val (.slice yQ2))),(32,.av (.val I)),(33,.av (.val I))] [(1,.box [.val I,.val (.slice yQ2),.val yQ3,.val (.slice I),.val (.slice .str),.val I]),(2,.box [.val I,.nils,.nils,.nils,.nils,.val I]),(5,.box [.val I,.own 600001,.nils,.nils,.nils,.val I]),(6,.box [.own 700000]),(7,.arr (.slice I)),(9,.box [.val I,.val I]),(11,.arr I),(600001,.arr yQ2),(700000,.arr (.slice I))])],BK⟩
def Fk (x : Q50) : Option (Q50⊕((Int×(List Q2)×(List (List Int))×List Int×List ByteArray×Int×Int×Int×Int×Int×(List (List Int))×(List Q2)×(List (List Int))×Unit)⊕Empty)) :=
 let (a,b,c,d,e,f,g,h,i,k,l,m,n,o,p,q,_):=x; cond (ltI q p) ((aH o q).bind fun y1=>(aH e (aP .i64 2 q)).bind fun y2=>(BK (a,b,c,d,e,f,g,h,i,k,l,y1.1,y1.2.1,[],[((),y2,0)],m,n,y1.1,o,p,q,())).bind (Sum.elim (fun (a_4,b_4,c_4,d_4,e_4,f_4,g_4,h_4,i_4,k_4,l_4,_,m_4,n_4,o_4,p_4,q_4,s_4,t_4,u_4,_)=>(app n_4 [(aP .i64 2 (o_4.length : Nat))]).bind fun a5=>(app o_4 [(q_4,m_4,())]).bind fun a6=>(app p_4 [a5]).bind fun a7=>some (.inl (a_4,b_4,c_4,d_4,e_4,f_4,g_4,h_4,i_4,k_4,l_4,a6,a7,s_4,t_4,(ae .i64 u_4 1),()))) (fun _=>none))) (some (.inr (.inl (a,b,c,d,e,f,g,h,i,k,l,m,n,()))))
def Fe:=ab Fk
def Fs : Ann:=⟨sh [(1,.av (.ptr 1 0)),(2,.av (.ptr 2 0)),(5,.av (.ptr 5 0)),(6,.av (.ptr 6 0)),(7,.av (.own 7)),(31,.av (.val (.slice yQ2))),(32,.av (.val I)),(33,.av (.val I))] [(1,.box [.val I,.val (.slice yQ2),.val yQ3,.val (.slice I),.val (.slice .str),.val I]),(2,.box [.val I,.nils,.nils,.nils,.nils,.val I]),(5,.box [.val I,.own 600001,.nils,.nils,.nils,.val I]),(6,.box [.own 700000]),(7,.arr (.slice I)),(600001,.arr yQ2),(700000,.arr (.slice I))],[(.exit 0,sh [(1,.av (.ptr 1 0)),(2,.av (.ptr 2 0)),(5,.av (.ptr 5 0)),(6,.av (.ptr 6 0)),(7,.av (.own 7))] [(1,.box [.val I,.val (.slice yQ2),.val yQ3,.val (.slice I),.val (.slice .str),.val I]),(2,.box [.val I,.nils,.nils,.nils,.nils,.val I]),(5,.box [.val I,.own 600001,.nils,.nils,.nils,.val I]),(6,.box [.own 700000]),(7,.arr (.slice I)),(600001,.arr yQ2),(700000,.arr (.slice I))])],Fe⟩
def Zo (x : (Q10×Unit)) : Option (Q10×(List (List Int))×Int×Unit) :=
 let (((a,b,c,_),d,e,f,_),_):=x; (Zbt (((a,b,c,()),d,e,f,()),())).bind fun r1=>cond (neI r1.1 0) (some (((0,[],[],()),[],[],0,()),[],13,())) ((Fe (a,b,c,d,e,f,0,0,a,0,[],[],[],b,(b.length : Nat),0,())).bind (Sum.elim (fun (a_3,b_3,c_3,d_3,e_3,f_3,g_3,h_3,i_3,k_3,l_3,m_3,n_3,_)=>(Zbb (((a_3,b_3,c_3,()),d_3,e_3,f_3,()),n_3,(m_3.length : Nat),())).bind fun r4=>(DJ (a_3,b_3,c_3,d_3,e_3,f_3,g_3,h_3,i_3,k_3,l_3,m_3,[],r4.1,n_3,c_3,(c_3.length : Nat),0,())).bind (Sum.elim (fun (_,a_6,_,_,_,b_6,_,_,c_6,d_6,e_6,f_6,g_6,h_6,i_6,_)=>(app g_6 e_6).bind fun a7=>(dD .str (aP .i64 2 (f_6.length : Nat)) (aP .i64 2 (f_6.length : Nat))).bind fun m8=>cond (gtI (a_6.length : Nat) 0) ((Zh (b_6,i_6,())).bind fun r9=>some (((c_6,f_6,a7,()),h_6,m8,r9.1,()),i_6,0,())) (some (((c_6,f_6,a7,()),h_6,m8,d_6,()),i_6,0,()))) (fun _=>none))) (fun _=>none)))
def Hb : Fn:=mkF { cx [BE,GD,Hw] with light:=[41],vars:=[2] } [(7,Fs),(12,CL),(27,BQ),(31,DS)] 10 Tryd.f10 [(.rd,yQ9)] [(.cell 2 29,true,yQ9),(.tmp 3,true,yQ3),(.tmp 4,true,I)] Zo [lp 7 Fs Fk,lp 12 CL Dg,lp 27 BQ DI,lp 31 DS Dn] am ah rfl
def n8 (x : Q26) : Option (Q26⊕((Int×Unit)⊕Empty)) :=
 let (a,b,c,d,e,f,g,h,_):=x; cond (ltI h (e.length : Nat)) ((aH e h).bind fun y1=>some (.inl (a,b,c,d,e,f,(ae .i64 g (y1.size : Nat)),(ae .i64 h 2),()))) (some (.inr (.inl (g,()))))
def ru:=ab n8
def D2 : Ann:=⟨sh [(1,.av (.ptr 1 0)),(3,.av (.val I)),(4,.av (.val I))] [(1,.box [.val I,.val (.slice yQ2),.val yQ3,.val (.slice I),.val (.slice .str),.val I])],[(.exit 0,sh [(3,.av (.val I))] [])],ru⟩
def Zbp (x : (Q10×Unit)) : Option (Int×Unit) :=
 let (((a,b,c,_),d,e,f,_),_):=x; (Zbq (((a,b,c,()),d,e,f,()),())).bind fun r1=>cond (!r1.1) (some (0,())) ((ru (a,b,c,d,e,f,0,0,())).bind (Sum.elim (fun z3=>some (z3.1,())) (fun _=>none)))
def Fl : Fn:=mkF (cx [FN]) [(5,D2)] 36 Tryd.f36 [(.rd,yQ9)] [(.tmp 2,true,I)] Zbp [lp 5 D2 n8] am ah rfl
def Zbc (x : Unit) : Option (Q10×Unit) :=
 (dD .str 8 8).bind fun m1=>some (((4,[(0,1,()),(1,2,()),(2,3,()),(3,0,())],[[0,7],[2,1],[4,3],[6,5]],()),[3,1,3,1,3,1,3,1],m1,1,()),())
def Gt : Fn:=mkF (cx []) [] 37 Tryd.f37 [] [(.cell 0 29,true,yQ9)] Zbc [] am ah rfl
def Zbk (x : (Q9×Int×Unit)) : Option (Int×Unit) :=
 let ((a,b,c,_),d,_):=x; (Zba ((a,b,c,()),())).bind fun r1=>cond (!r1.1) (some ((-1),())) (cond (ltI d 0) (some ((-1),())) (cond (geI d (aP .i64 2 (b.length : Nat))) (some ((-1),())) ((aH b (eZ .i64 d 2)).bind fun y2=>(Zbf (y2,(iz .i64 (cu d 2) 1),())).bind fun r3=>(aH c r3.1).bind fun y4=>(Zam (y4,(iz .i64 d 1),())).bind fun r5=>cond (eqI (y4.length : Nat) 0) none ((aH y4 (cu (ae .i64 r5.1 1) (y4.length : Nat))).bind fun y6=>some (y6,())))))
def FA : Fn:=mkF (cx [rG,wO,zo]) [] 58 Tryd.f58 [(.rd,yQ6),(.rd,I)] [(.tmp 4,true,I)] Zbk [] am ah rfl
def mr (x : (Int×(List Q2)×(List (List Int))×Int×Int×Int×Unit)) : Option ((Int×(List Q2)×(List (List Int))×Int×Int×Int×Unit)⊕((Bool×Unit)⊕Empty)) :=
 let (a,b,c,d,e,f,_):=x; cond (eqI f e) (some (.inr (.inl (true,())))) ((Zbk ((a,b,c,()),f,())).bind fun r1=>cond (eqI r1.1 d) (some (.inr (.inl (false,())))) (some (.inl (a,b,c,d,e,r1.1,()))))
def yG:=ab mr
def BU : Ann:=⟨sh [(1,.av (.val I)),(2,.av (.val I)),(3,.av (.ptr 3 0)),(7,.av (.val I))] [(3,.box [.val I,.val (.slice yQ2),.val yQ3])],[(.ret,sh [(6,.av (.val .bool))] [])],yG⟩
def Zao (x : (Q9×Int×Int×Unit)) : Option (Bool×Unit) :=
 let ((a,b,c,_),d,e,_):=x; (yG (a,b,c,d,e,d,())).bind (Sum.elim (fun z2=>some (z2.1,())) (fun _=>none))
def GR : Fn:=mkF (cx [FA]) [(2,BU)] 57 Tryd.f57 [(.rd,yQ6),(.rd,I),(.rd,I)] [(.tmp 6,true,.bool)] Zao [lp 2 BU mr] am ah rfl
def Zah (x : ((List Q2)×Unit)) : Option ((List Q2)×Unit) :=
 cond x.1.isEmpty (ku (some ([],())) ((app [] x.1).bind fun a1=>some (a1,()))) ((app [] x.1).bind fun a1=>some (a1,()))
def FG : Fn:=mkF (cx []) [] 60 Tryd.f60 [(.rd,(.slice yQ2))] [(.tmp 2,true,(.slice yQ2))] Zah [] am ah rfl
def Zf (x : Q5) : Option Q5 :=
 cond x.1.isEmpty (ku (some ([],())) ((app [] x.1).bind fun a1=>some (a1,()))) ((app [] x.1).bind fun a1=>some (a1,()))
def Hc : Fn:=mkF (cx []) [] 61 Tryd.f61 [(.rd,yQ3)] [(.tmp 2,true,yQ3)] Zf [] am ah rfl
def Zai (x : Q1) : Option Q1 :=
 cond x.1.isEmpty (ku (some ([],())) ((app [] x.1).bind fun a1=>some (a1,()))) ((app [] x.1).bind fun a1=>some (a1,()))
def zH : Fn:=mkF (cx []) [] 62 Tryd.f62 [(.rd,(.slice I))] [(.tmp 2,true,(.slice I))] Zai [] am ah rfl
def Zw (x : (List Int×Int×List Int×Unit)) : Option Q1:=insertC.fn x
def G3 : Fn:=⟨82,insertC,Ak glob⟩
def Zbo (x : Q6) : Option Q1 :=
 (Zai (x.1,())).bind fun r1=>(Zam (x.1,x.2.2.1,())).bind fun r2=>(Zw (r1.1,r2.1,[x.2.1],())).bind fun r3=>some (r3.1,())
def Gr : Fn:=mkF (cx [zH,wO,G3]) [] 63 Tryd.f63 [(.rd,(.slice I)),(.rd,I),(.rd,I)] [(.tmp 6,true,(.slice I))] Zbo [] am ah rfl
def t8 (x : Q39) : Option (Q39⊕(Q31⊕Empty)) :=
 let (a,b,c,d,e,f,g,h,i,k,l,_):=x; cond (ltI l k) ((aH d (iz .i64 l 1)).bind fun y1=>cond (gtI y1 2) ((Zao ((a,b,c,()),l,f,())).bind fun r2=>cond r2.1 (some (.inr (.inl (a,b,c,d,e,f,g,h,l,())))) (some (.inl (a,b,c,d,e,f,g,h,i,k,(ae .i64 l 1),())))) (some (.inl (a,b,c,d,e,f,g,h,i,k,(ae .i64 l 1),())))) (some (.inr (.inl (a,b,c,d,e,f,g,h,i,()))))
def rO:=ab t8
def CT : Ann:=⟨sh [(1,.av (.ptr 1 0)),(2,.av (.ptr 2 0)),(3,.av (.val I)),(13,.av (.val I)),(14,.av (.val I))] [(1,.box [.val I,.val (.slice yQ2),.val yQ3,.val (.slice I),.val (.slice .str),.val I]),(2,.box [.val I,.nils,.nils,.nils,.nils,.val I])],[(.exit 0,sh [(1,.av (.ptr 1 0)),(2,.av (.ptr 2 0)),(3,.av (.val I))] [(1,.box [.val I,.val (.slice yQ2),.val yQ3,.val (.slice I),.val (.slice .str),.val I]),(2,.box [.val I,.nils,.nils,.nils,.nils,.val I])])],rO⟩
def Zar (x : (Q10×Unit)) : Option (Q10×Unit) :=
 let (((a,b,c,_),d,e,f,_),_):=x; (rO (a,b,c,d,e,f,0,0,(-1),(d.length : Nat),0,())).bind (Sum.elim (fun (a_2,b_2,c_2,d_2,_,_,_,_,e_2,_)=>(Zbk ((a_2,b_2,c_2,()),e_2,())).bind fun r3=>(Zbi ((a_2,b_2,c_2,()),r3.1,())).bind fun r4=>(Zah (b_2,())).bind fun r5=>(Zf (c_2,())).bind fun r6=>(Zai (d_2,())).bind fun r7=>(app r5.1 [(r4.1,a_2,()),(a_2,(ae .i64 a_2 1),()),((ae .i64 a_2 1),(ae .i64 a_2 2),()),((ae .i64 a_2 2),(ae .i64 a_2 3),()),((ae .i64 a_2 3),(ae .i64 a_2 4),()),((ae .i64 a_2 4),a_2,())]).bind fun a8=>(aH c_2 r4.1).bind fun y9=>(Zbo (y9,(aP .i64 2 (b_2.length : Nat)),r3.1,())).bind fun r10=>(aI r6.1.length r4.1).bind fun j11=>(r6.1[j11]?).bind fun y12=>(aH d_2 (iz .i64 e_2 1)).bind fun y13=>(aI r7.1.length (iz .i64 e_2 1)).bind fun j14=>(r7.1[j14]?).bind fun y15=>(app (r6.1.set j11 r10.1) [[(ae .i64 (aP .i64 2 (b_2.length : Nat)) 2),(ae .i64 (aP .i64 2 (b_2.length : Nat)) 11),(ae .i64 (aP .i64 2 (b_2.length : Nat)) 1)],[(ae .i64 (aP .i64 2 (b_2.length : Nat)) 3),(ae .i64 (aP .i64 2 (b_2.length : Nat)) 4)],[(ae .i64 (aP .i64 2 (b_2.length : Nat)) 5),(ae .i64 (aP .i64 2 (b_2.length : Nat)) 6)],[(ae .i64 (aP .i64 2 (b_2.length : Nat)) 7),(ae .i64 (aP .i64 2 (b_2.length : Nat)) 8)],[(ae .i64 (aP .i64 2 (b_2.length : Nat)) 9),(ae .i64 (aP .i64 2 (b_2.length : Nat)) 10)]]).bind fun a16=>(app (r7.1.set j14 2) [(bf .i64 y13 2),1,2,1,3,1,3,1,3,1,3,1]).bind fun a17=>(dD .str (a17.length : Nat) (a17.length : Nat)).bind fun m18=>some ((((ae .i64 a_2 5),a8,a16,()),a17,m18,(ae .i64 (aP .i64 2 (b_2.length : Nat)) 3),()),())) (fun _=>none))
def G9 : Fn:=mkF (cx [GR,FA,DM,FG,Hc,zH,Gr]) [(3,CT)] 38 Tryd.f38 [(.rd,yQ9)] [(.cell 2 29,true,yQ9)] Zar [lp 3 CT t8] am ah rfl
def Zag (x : (Int×Q10×Unit)) : Option (Bool×Unit) :=
 (aH x.2.1.2.1 (iz .i64 x.1 1)).bind fun y1=>some ((gtI y1 2),())
def GT : Fn:=mkF (cx []) [] 68 Tryd.f68 [(.rd,I),(.rd,(.ptr yQ9))] [(.tmp 3,true,.bool)] Zag [] am ah rfl
def qO (x : (List Int×(Q10×Unit)×Int×Int×Unit)) : Option ((List Int×(Q10×Unit)×Int×Int×Unit)⊕((Int×Unit)⊕(Unit⊕Empty))) :=
 let (a,b,c,d,_):=x; cond (ltI d c) ((aH a d).bind fun y1=>(Zag (y1,b.1,())).bind fun r2=>cond r2.1 (some (.inr (.inl (d,())))) (some (.inl (a,b,c,(ae .i64 d 1),())))) (some (.inr (.inr (.inl ()))))
def tj:=ab qO
def Fj : Ann:=⟨sh [(0,.av (.val (.slice I))),(1,.av (.val (.clo 68 (.prod (.ptr yQ9) .unit)))),(7,.av (.val I)),(8,.av (.val I))] [],[(.ret,sh [(4,.av (.val I))] []),(.exit 0,sh [] [])],tj⟩
def Za (x : (List Int×(Q10×Unit)×Unit)) : Option (Int×Unit) :=
 (tj (x.1,x.2.1,(x.1.length : Nat),0,())).bind (Sum.elim (fun z2=>some (z2.1,())) (Sum.elim (fun z3=>some ((-1),())) (fun _=>none)))
def Hk : Fn:=mkF (cx [GT]) [(2,Fj)] 67 Tryd.f67 [(.rd,(.slice I)),(.rd,(.clo 68 (.prod (.ptr yQ9) .unit)))] [(.tmp 4,true,I)] Za [lp 2 Fj qO] am ah rfl
def Zbd (x : (Q10×List Int×Unit)) : Option (Int×Unit) :=
 let (((a,b,c,_),d,e,f,_),g,_):=x; (Za (g,(((a,b,c,()),d,e,f,()),()),())).bind fun r1=>some (r1.1,())
def Gl : Fn:=mkF (cx [Hk]) [] 41 Tryd.f41 [(.rd,yQ9),(.rd,(.slice I))] [(.tmp 4,true,I)] Zbd [] am ah rfl
def pV (x : Q21) : Option (Q21⊕((Int×Int×(List Q2)×(List (List Int))×Unit)⊕Empty)) :=
 let (a,b,c,d,e,f,g,_):=x; cond (ltI g f) ((aH e g).bind fun y1=>(Zai (y1,())).bind fun r2=>(app d [r2.1]).bind fun a3=>some (.inl (a,b,c,a3,e,f,(ae .i64 g 1),()))) (some (.inr (.inl (a,b,c,d,()))))
def xW:=ab pV
def Cl : Ann:=⟨sh [(2,.av (.ptr 2 0)),(3,.av (.ptr 3 0)),(13,.av (.val yQ3)),(14,.av (.val I)),(15,.av (.val I))] [(2,.box [.val I,.nils,.nils]),(3,.box [.val I,.own 400001,.ownd 400002]),(400001,.arr yQ2),(400002,.deep I)],[(.exit 0,sh [(2,.av (.ptr 2 0)),(3,.av (.ptr 3 0))] [(2,.box [.val I,.nils,.nils]),(3,.box [.val I,.own 400001,.ownd 400002]),(400001,.arr yQ2),(400002,.deep I)])],xW⟩
def Zbe (x : (Q9×Unit)) : Option (Q9×Unit) :=
 let ((a,b,c,_),_):=x; (Zah (b,())).bind fun r1=>(xW (0,a,r1.1,[],c,(c.length : Nat),0,())).bind (Sum.elim (fun z3=>some ((z3.2.1,z3.2.2.1,z3.2.2.2.1,()),())) (fun _=>none))
def Fv : Fn:=mkF { cx [FG,zH] with deep:=[23] } [(3,Cl)] 83 Tryd.f83 [(.rd,yQ6)] [(.cell 2 25,true,yQ6)] Zbe [lp 3 Cl pV] am ah rfl (d:=true)
def Zbm (x : (Q9×Int×Unit)) : Option (Q9×Int×Unit) :=
 let ((a,b,c,_),d,_):=x; (Zba ((a,b,c,()),())).bind fun r1=>cond (!r1.1) (some ((0,[],[],()),13,())) (cond (ltI d 0) (some ((0,[],[],()),3,())) (cond (geI d (b.length : Nat)) (some ((0,[],[],()),3,())) (cond (geI a 16384) (some ((0,[],[],()),2,())) (cond (geI (b.length : Nat) 32768) (some ((0,[],[],()),2,())) ((Zbe ((a,b,c,()),())).bind fun r2=>(aH b d).bind fun y3=>(aI r2.1.2.1.length d).bind fun j4=>(r2.1.2.1[j4]?).bind fun y5=>(app (r2.1.2.1.set j4 (y5.1,a,y5.2.2)) [(a,y3.2.1,())]).bind fun a6=>(aI r2.1.2.2.1.length y3.2.1).bind fun j7=>(Zam ((cG r2.1.2.2.1 j7),(ae .i64 (aP .i64 2 d) 1),())).bind fun r8=>(aI (cG r2.1.2.2.1 j7).length r8.1).bind fun j9=>(app (r2.1.2.2.1.set j7 ((cG r2.1.2.2.1 j7).set j9 (ae .i64 (aP .i64 2 (b.length : Nat)) 1))) [[(ae .i64 (aP .i64 2 d) 1),(aP .i64 2 (b.length : Nat))]]).bind fun a10=>some (((ae .i64 r2.1.1 1),a6,a10,()),0,()))))))
def Gn : Fn:=mkF { cx [rG,wO,Fv] with deep:=[87] } [] 69 Tryd.f69 [(.rd,yQ6),(.rd,I)] [(.cell 4 25,true,yQ6),(.tmp 5,true,I)] Zbm [] am ah rfl (d:=true)
def Zak (x : (Int×Int×Int×Unit)) : Option (Int×Unit) :=
 cond (eqI x.1 (ae .i64 (aP .i64 2 x.2.1) 1)) (some ((ae .i64 x.2.2.1 1),())) (some (x.1,()))
def GN : Fn:=mkF (cx []) [] 70 Tryd.f70 [(.rd,I),(.rd,(.ptr I)),(.rd,(.ptr I))] [(.tmp 4,true,I)] Zak [] am ah rfl
def qJ (x : Q17) : Option (Q17⊕(Q11⊕Empty)) :=
 let (a,b,c,d,e,f,g,h,_):=x; cond (ltI h g) ((aH f h).bind fun y1=>(aI a.length y1).bind fun j2=>(a[j2]?).bind fun y3=>some (.inl ((a.set j2 c),b,c,d,e,f,g,(ae .i64 h 1),()))) (some (.inr (.inl (a,b,d,e,()))))
def uW:=ab qJ
def DB : Ann:=⟨sh [(3,.av (.own 3)),(4,.av (.val I)),(14,.av (.own 14)),(15,.av (.val I)),(16,.av (.val I)),(21,.av (.val (.slice I))),(22,.av (.val I)),(23,.av (.val I))] [(3,.arr I),(14,.arr (.slice I))],[(.exit 2,sh [(3,.av (.own 3)),(14,.av (.own 14)),(15,.av (.val I)),(16,.av (.val I))] [(3,.arr I),(14,.arr (.slice I))])],uW⟩
def qH (x : Q11) : Option (Q11⊕(Q1⊕Empty)) :=
 let (a,b,c,d,_):=x; cond (ltI d c) ((aI b.length d).bind fun j1=>(b[j1]?).bind fun y2=>(uW (a,b,d,c,d,y2,(y2.length : Nat),0,())).bind (Sum.elim (fun z4=>some (.inl (z4.1,z4.2.1,z4.2.2.1,(ae .i64 z4.2.2.2.1 1),()))) (fun _=>none))) (some (.inr (.inl (a,()))))
def xS:=ab qH
def Ei : Ann:=⟨sh [(3,.av (.own 3)),(14,.av (.own 14)),(15,.av (.val I)),(16,.av (.val I))] [(3,.arr I),(14,.arr (.slice I))],[(.exit 0,sh [(3,.av (.own 3))] [(3,.arr I)])],xS⟩
def Zbn (x : (Q9×Unit)) : Option Q1 :=
 let ((a,b,c,_),_):=x; (dD I (aP .i64 2 (b.length : Nat)) (aP .i64 2 (b.length : Nat))).bind fun m1=>(Zaw ((a,b,c,()),())).bind fun r2=>(xS (m1,r2.1,(r2.1.length : Nat),0,())).bind (Sum.elim (fun z4=>some (z4.1,())) (fun _=>none))
def GF : Fn:=mkF (cx [wg]) [(3,Ei),(6,DB)] 84 Tryd.f84 [(.rd,yQ6)] [(.tmp 2,true,(.slice I))] Zbn [lp 3 Ei qH,lp 6 DB qJ] am ah rfl
def Zbh (x : Q6) : Option Q1 :=
 (Zam (x.1,x.2.2.1,())).bind fun r1=>(Zw (x.1,r1.1,[x.2.1],())).bind fun r2=>some (r2.1,())
def GJ : Fn:=mkF (cx [wO,G3]) [] 85 Tryd.f85 [(.take,(.slice I)),(.rd,I),(.rd,I)] [(.tmp 6,true,(.slice I))] Zbh [] am ah rfl
def Zbr (x : (Q9×Int×Int×Unit)) : Option (Q9×Int×Unit) :=
 let ((a,b,c,_),d,e,_):=x; (Zba ((a,b,c,()),())).bind fun r1=>cond (!r1.1) (some ((0,[],[],()),13,())) (cond (ltI (sB d e) 0) (some ((0,[],[],()),3,())) (cond (geI (jO d e) (aP .i64 2 (b.length : Nat))) (some ((0,[],[],()),3,())) ((Zbi ((a,b,c,()),d,())).bind fun r2=>(Zbi ((a,b,c,()),e,())).bind fun r3=>cond (eqI r2.1 r3.1) (some ((0,[],[],()),8,())) ((Zbn ((a,b,c,()),())).bind fun r4=>(aI r4.1.length d).bind fun j5=>(r4.1[j5]?).bind fun y6=>(aI r4.1.length e).bind fun j7=>(r4.1[j7]?).bind fun y8=>cond (neI y6 y8) (some ((0,[],[],()),15,())) (cond (geI (b.length : Nat) 32768) (some ((0,[],[],()),2,())) ((Zbe ((a,b,c,()),())).bind fun r9=>(app r9.1.2.1 [(r2.1,r3.1,())]).bind fun a10=>(aI r9.1.2.2.1.length r2.1).bind fun j11=>(Zbh ((cG r9.1.2.2.1 j11),(aP .i64 2 (b.length : Nat)),d,())).bind fun r12=>(aI r9.1.2.2.1.length r2.1).bind fun j13=>if j11=j13 then (aI (r9.1.2.2.1.set j13 r12.1).length r3.1).bind fun j14=>(Zbh ((cG (r9.1.2.2.1.set j13 r12.1) j14),(ae .i64 (aP .i64 2 (b.length : Nat)) 1),e,())).bind fun r15=>(aI (r9.1.2.2.1.set j13 r12.1).length r3.1).bind fun j16=>if j14=j16 then some ((r9.1.1,a10,((r9.1.2.2.1.set j13 r12.1).set j16 r15.1),()),0,()) else none else none))))))
def Gx : Fn:=mkF { cx [DM,rG,Fv,GF,GJ] with light:=[16,17] } [] 71 Tryd.f71 [(.rd,yQ6),(.rd,I),(.rd,I)] [(.cell 6 25,false,yQ6),(.tmp 7,true,I)] Zbr [] am ah rfl
def vf (x : Q44) : Option (Q44⊕((Int×Int×Int×Unit)⊕((Int×(List Q2)×(List (List Int))×List Int×List ByteArray×Int×Int×Int×List Int×Int×Int×Int×Unit)⊕Empty))) :=
 let (a,b,c,d,e,f,g,h,i,k,l,m,n,_):=x; cond (neI n 1) (cond (eqI l 0) none ((aH i (cu m l)).bind fun y1=>(aH d (iz .i64 y1 1)).bind fun y2=>cond (gtI (ae .i64 m 1) (ae .i64 k l)) (some (.inr (.inl (0,0,13,())))) (some (.inl (a,b,c,d,e,f,g,h,i,k,l,(ae .i64 m 1),(ae .i64 n (bf .i64 2 y2)),()))))) (some (.inr (.inr (.inl (a,b,c,d,e,f,g,h,i,k,l,m,())))))
def uq:=ab vf
def Eo : Ann:=⟨sh [(1,.av (.val (.slice I))),(2,.av (.val I)),(3,.av (.ptr 3 0)),(6,.av (.ptr 6 0)),(8,.av (.val I)),(9,.av (.val I)),(10,.av (.val I))] [(3,.box [.val I,.val (.slice yQ2),.val yQ3,.val (.slice I),.val (.slice .str),.val I]),(6,.box [.val I,.nils,.nils,.nils,.nils,.val I])],[(.ret,sh [(6,.av (.ptr 6 0)),(7,.av (.val I))] [(6,.box [.val I,.nils,.nils,.nils,.nils,.val I])]),(.exit 0,sh [(1,.av (.val (.slice I))),(2,.av (.val I)),(3,.av (.ptr 3 0)),(6,.av (.ptr 6 0)),(8,.av (.val I)),(9,.av (.val I))] [(3,.box [.val I,.val (.slice yQ2),.val yQ3,.val (.slice I),.val (.slice .str),.val I]),(6,.box [.val I,.nils,.nils,.nils,.nils,.val I])])],uq⟩
def Zaz (x : (Q10×List Int×Int×Unit)) : Option (Q10×Int×Unit) :=
 let (((a,b,c,_),d,e,f,_),g,h,_):=x; (uq (a,b,c,d,e,f,0,0,g,h,(g.length : Nat),h,0,())).bind (Sum.elim (fun z2=>some (((z2.1,[],[],()),[],[],z2.2.1,()),z2.2.2.1,())) (Sum.elim (fun (a_3,b_3,c_3,d_3,_,e_3,_,_,f_3,g_3,h_3,i_3,_)=>(aH f_3 g_3).bind fun y4=>cond (eqI h_3 0) none ((aH f_3 (cu (ae .i64 g_3 1) h_3)).bind fun y5=>cond (eqI h_3 0) none ((aH f_3 (cu i_3 h_3)).bind fun y6=>(Zbm ((a_3,b_3,c_3,()),(eZ .i64 y6 2),())).bind fun r7=>cond (neI r7.2.1 0) (some (((0,[],[],()),[],[],0,()),r7.2.1,())) ((Zai (d_3,())).bind fun r8=>(aH d_3 (ae .i64 (aP .i64 2 (eZ .i64 y6 2)) 1)).bind fun y9=>(app r8.1 [2,y9,0,0]).bind fun a10=>(aI a10.length (ae .i64 (aP .i64 2 (eZ .i64 y6 2)) 1)).bind fun j11=>(a10[j11]?).bind fun y12=>cond (eqI (cu y6 2) 1) ((Zak ((iz .i64 y4 1),(eZ .i64 y6 2),(aP .i64 2 (b_3.length : Nat)),())).bind fun r13=>(aI (a10.set j11 2).length r13.1).bind fun j14=>((a10.set j11 2)[j14]?).bind fun y15=>(Zak (y5,(eZ .i64 y6 2),(aP .i64 2 (b_3.length : Nat)),())).bind fun r16=>(Zbr ((r7.1.1,r7.1.2.1,r7.1.2.2.1,()),r16.1,(ae .i64 (aP .i64 2 (eZ .i64 y6 2)) 1),())).bind fun r17=>cond (neI r17.2.1 0) (some (((0,[],[],()),[],[],0,()),r17.2.1,())) ((aI (a10.set j11 2).length r13.1).bind fun j18=>((a10.set j11 2)[j18]?).bind fun y19=>(aI ((a10.set j11 2).set j18 2).length (ae .i64 (aP .i64 2 (b_3.length : Nat)) 2)).bind fun j20=>(((a10.set j11 2).set j18 2)[j20]?).bind fun y21=>(aI (((a10.set j11 2).set j18 2).set j20 (bf .i64 y15 2)).length (aP .i64 2 (b_3.length : Nat))).bind fun j22=>((((a10.set j11 2).set j18 2).set j20 (bf .i64 y15 2))[j22]?).bind fun y23=>(aI ((((a10.set j11 2).set j18 2).set j20 (bf .i64 y15 2)).set j22 1).length (ae .i64 (aP .i64 2 (b_3.length : Nat)) 3)).bind fun j24=>(((((a10.set j11 2).set j18 2).set j20 (bf .i64 y15 2)).set j22 1)[j24]?).bind fun y25=>(aI (((((a10.set j11 2).set j18 2).set j20 (bf .i64 y15 2)).set j22 1).set j24 1).length (ae .i64 (aP .i64 2 (eZ .i64 y6 2)) 1)).bind fun j26=>((((((a10.set j11 2).set j18 2).set j20 (bf .i64 y15 2)).set j22 1).set j24 1)[j26]?).bind fun y27=>(dD .str (((((((a10.set j11 2).set j18 2).set j20 (bf .i64 y15 2)).set j22 1).set j24 1).set j26 2).length : Nat) (((((((a10.set j11 2).set j18 2).set j20 (bf .i64 y15 2)).set j22 1).set j24 1).set j26 2).length : Nat)).bind fun m28=>(Zak (e_3,(eZ .i64 y6 2),(aP .i64 2 (b_3.length : Nat)),())).bind fun r29=>some (((r17.1.1,r17.1.2.1,r17.1.2.2.1,()),((((((a10.set j11 2).set j18 2).set j20 (bf .i64 y15 2)).set j22 1).set j24 1).set j26 2),m28,r29.1,()),0,()))) ((Zak ((iz .i64 y4 1),(eZ .i64 y6 2),(aP .i64 2 (b_3.length : Nat)),())).bind fun r30=>(aI (a10.set j11 2).length r30.1).bind fun j31=>((a10.set j11 2)[j31]?).bind fun y32=>(Zak (y5,(eZ .i64 y6 2),(aP .i64 2 (b_3.length : Nat)),())).bind fun r33=>(Zbr ((r7.1.1,r7.1.2.1,r7.1.2.2.1,()),r33.1,(aP .i64 2 (b_3.length : Nat)),())).bind fun r34=>cond (neI r34.2.1 0) (some (((0,[],[],()),[],[],0,()),r34.2.1,())) ((aI (a10.set j11 2).length r30.1).bind fun j35=>((a10.set j11 2)[j35]?).bind fun y36=>(aI ((a10.set j11 2).set j35 2).length (ae .i64 (aP .i64 2 (b_3.length : Nat)) 2)).bind fun j37=>(((a10.set j11 2).set j35 2)[j37]?).bind fun y38=>(aI (((a10.set j11 2).set j35 2).set j37 (bf .i64 y32 2)).length (ae .i64 (aP .i64 2 (eZ .i64 y6 2)) 1)).bind fun j39=>((((a10.set j11 2).set j35 2).set j37 (bf .i64 y32 2))[j39]?).bind fun y40=>(aI ((((a10.set j11 2).set j35 2).set j37 (bf .i64 y32 2)).set j39 1).length (ae .i64 (aP .i64 2 (b_3.length : Nat)) 3)).bind fun j41=>(((((a10.set j11 2).set j35 2).set j37 (bf .i64 y32 2)).set j39 1)[j41]?).bind fun y42=>(aI (((((a10.set j11 2).set j35 2).set j37 (bf .i64 y32 2)).set j39 1).set j41 1).length (aP .i64 2 (b_3.length : Nat))).bind fun j43=>((((((a10.set j11 2).set j35 2).set j37 (bf .i64 y32 2)).set j39 1).set j41 1)[j43]?).bind fun y44=>(dD .str (((((((a10.set j11 2).set j35 2).set j37 (bf .i64 y32 2)).set j39 1).set j41 1).set j43 2).length : Nat) (((((((a10.set j11 2).set j35 2).set j37 (bf .i64 y32 2)).set j39 1).set j41 1).set j43 2).length : Nat)).bind fun m45=>(Zak (e_3,(eZ .i64 y6 2),(aP .i64 2 (b_3.length : Nat)),())).bind fun r46=>some (((r34.1.1,r34.1.2.1,r34.1.2.2.1,()),((((((a10.set j11 2).set j35 2).set j37 (bf .i64 y32 2)).set j39 1).set j41 1).set j43 2),m45,r46.1,()),0,()))))))) (fun _=>none)))
def GG : Fn:=mkF { cx [zH,Gn,GN,Gx] with frz:=[21],light:=[24,25],hold:=[(21,97),(21,98)] } [(3,Eo)] 42 Tryd.f42 [(.rd,yQ9),(.rd,(.slice I)),(.rd,I)] [(.cell 6 29,false,yQ9),(.tmp 7,true,I)] Zaz [lp 3 Eo vf] am ah rfl
def jc (x : Q46) : Option (Q46⊕((Int×Int×Int×Unit)⊕(Q32⊕Empty))) :=
 let (a,b,c,d,e,f,g,h,i,k,l,m,_):=x; cond (ltI m l) ((aI i.length m).bind fun j1=>(i[j1]?).bind fun y2=>(Zn (y2,f,())).bind fun r3=>cond r3.1 (some (.inl (a,b,c,d,e,f,g,h,i,k,l,(ae .i64 m 1),()))) ((Zbd (((a,b,c,()),d,e,f,()),y2,())).bind fun r4=>cond (ltI r4.1 0) (some (.inl (a,b,c,d,e,f,g,h,i,k,l,(ae .i64 m 1),()))) ((Zaz (((a,b,c,()),d,e,f,()),y2,r4.1,())).bind fun r5=>cond (neI r5.2.1 0) (some (.inr (.inl (0,0,r5.2.1,())))) (some (.inr (.inr (.inl (r5.1.1.1,r5.1.1.2.1,r5.1.1.2.2.1,r5.1.2.1,r5.1.2.2.1,r5.1.2.2.2.1,g,h,true,())))))))) (some (.inr (.inr (.inl (a,b,c,d,e,f,g,h,k,())))))
def hJ:=ab jc
def zs : Ann:=⟨sh [(1,.av (.ptr 1 0)),(2,.av (.ptr 2 0)),(4,.av (.val .bool)),(32,.av (.own 32)),(33,.av (.val I)),(34,.av (.val I))] [(1,.box [.val I,.val (.slice yQ2),.val yQ3,.val (.slice I),.val (.slice .str),.val I]),(2,.box [.val I,.nils,.nils,.nils,.nils,.val I]),(32,.arr (.slice I))],[(.ret,sh [(2,.av (.ptr 2 0)),(3,.av (.val I))] [(2,.box [.val I,.nils,.nils,.nils,.nils,.val I])]),(.exit 3,sh [(1,.av (.ptr 1 0)),(2,.av (.ptr 2 0)),(4,.av (.val .bool))] [(1,.box [.val I,.val (.slice yQ2),.val yQ3,.val (.slice I),.val (.slice .str),.val I]),(2,.box [.val I,.nils,.nils,.nils,.nils,.val I])])],hJ⟩
def qU (x : Q32) : Option (Q32⊕((Int×Int×Int×Unit)⊕(Q26⊕Empty))) :=
 let (a,b,c,d,e,f,g,h,i,_):=x; cond i ((Zaw ((a,b,c,()),())).bind fun r1=>(hJ (a,b,c,d,e,f,g,h,r1.1,false,(r1.1.length : Nat),0,())).bind (Sum.elim (fun z3=>some (.inr (.inl (z3.1,z3.2.1,z3.2.2.1,())))) (Sum.elim (fun (a_4,b_4,c_4,d_4,e_4,f_4,g_4,h_4,i_4,_)=>some (.inl (a_4,b_4,c_4,d_4,e_4,f_4,g_4,h_4,i_4,()))) (fun _=>none)))) (some (.inr (.inr (.inl (a,b,c,d,e,f,g,h,())))))
def yg:=ab qU
def Cy : Ann:=⟨sh [(1,.av (.ptr 1 0)),(2,.av (.ptr 2 0)),(4,.av (.val .bool))] [(1,.box [.val I,.val (.slice yQ2),.val yQ3,.val (.slice I),.val (.slice .str),.val I]),(2,.box [.val I,.nils,.nils,.nils,.nils,.val I])],[(.ret,sh [(2,.av (.ptr 2 0)),(3,.av (.val I))] [(2,.box [.val I,.nils,.nils,.nils,.nils,.val I])]),(.exit 1,sh [(1,.av (.ptr 1 0)),(2,.av (.ptr 2 0))] [(1,.box [.val I,.val (.slice yQ2),.val yQ3,.val (.slice I),.val (.slice .str),.val I]),(2,.box [.val I,.nils,.nils,.nils,.nils,.val I])])],yg⟩
def Zay (x : (Q10×Unit)) : Option (Q10×Int×Unit) :=
 let (((a,b,c,_),d,e,f,_),_):=x; (Zbt (((a,b,c,()),d,e,f,()),())).bind fun r1=>cond (neI r1.1 0) (some (((0,[],[],()),[],[],0,()),13,())) ((Zbp (((a,b,c,()),d,e,f,()),())).bind fun r2=>cond (neI r2.1 0) (some (((0,[],[],()),[],[],0,()),13,())) (cond (eqI (b.length : Nat) 0) ((Zbc ()).bind fun r3=>some (((r3.1.1.1,r3.1.1.2.1,r3.1.1.2.2.1,()),r3.1.2.1,r3.1.2.2.1,r3.1.2.2.2.1,()),0,())) ((Zar (((a,b,c,()),d,e,f,()),())).bind fun r4=>(yg (r4.1.1.1,r4.1.1.2.1,r4.1.1.2.2.1,r4.1.2.1,r4.1.2.2.1,r4.1.2.2.2.1,0,0,true,())).bind (Sum.elim (fun z6=>some (((z6.1,[],[],()),[],[],z6.2.1,()),z6.2.2.1,())) (Sum.elim (fun (a_7,b_7,c_7,d_7,e_7,f_7,_)=>some (((a_7,b_7,c_7,()),d_7,e_7,f_7,()),0,())) (fun _=>none))))))
def FM : Fn:=mkF (cx [BE,Fl,Gt,G9,wg,FR,Gl,GG]) [(7,Cy),(10,zs)] 15 Tryd.f15 [(.rd,yQ9)] [(.cell 2 29,false,yQ9),(.tmp 3,true,I)] Zay [lp 7 Cy qU,lp 10 zs jc] am ah rfl
def pR (x : Q48) : Option (Q48⊕((Bool×Unit)⊕((Int×(List Q2)×(List (List Int))×List Int×List ByteArray×Int×(List (List Int))×Int×Int×Int×Unit)⊕Empty))) :=
 let (a,b,c,d,e,f,g,h,i,k,l,m,n,o,_):=x; cond (ltI o n) ((aH m o).bind fun y1=>(aH d (iz .i64 y1 1)).bind fun y2=>cond (eqI (bf .i64 2 y2) h) (some (.inl (a,b,c,d,e,f,g,h,(ae .i64 i 1),k,l,m,n,(ae .i64 o 1),()))) (cond (eqI (bf .i64 2 y2) 0) (some (.inl (a,b,c,d,e,f,g,h,i,k,l,m,n,(ae .i64 o 1),()))) (some (.inr (.inl (false,())))))) (some (.inr (.inr (.inl (a,b,c,d,e,f,g,i,k,l,())))))
def oA:=ab pR
def D4 : Ann:=⟨sh [(1,.av (.ptr 1 0)),(5,.av (.val I)),(6,.av (.val I)),(26,.av (.own 26)),(27,.av (.val I)),(28,.av (.val I)),(36,.av (.val (.slice I))),(37,.av (.val I)),(38,.av (.val I))] [(1,.box [.val I,.val (.slice yQ2),.val yQ3,.val (.slice I),.val (.slice .str),.val I]),(26,.arr (.slice I))],[(.ret,sh [(2,.av (.val .bool))] []),(.exit 2,sh [(1,.av (.ptr 1 0)),(6,.av (.val I)),(26,.av (.own 26)),(27,.av (.val I)),(28,.av (.val I))] [(1,.box [.val I,.val (.slice yQ2),.val yQ3,.val (.slice I),.val (.slice .str),.val I]),(26,.arr (.slice I))])],oA⟩
def wW (x : Q40) : Option (Q40⊕((Bool×Unit)⊕(Unit⊕Empty))) :=
  let t_0:=Sum.elim (fun z5=>some (.inr (.inl (z5.1,())))) (Sum.elim (fun (a_6,b_6,c_6,d_6,e_6,f_6,g_6,h_6,i_6,k_6,_)=>cond (neI h_6 4) (some (.inr (.inl (false,())))) (some (.inl (a_6,b_6,c_6,d_6,e_6,f_6,g_6,i_6,(ae .i64 k_6 1),())))) (fun _=>none));let (a,b,c,d,e,f,g,h,i,_):=x; cond (ltI i h) ((aI g.length i).bind fun j1=>(g[j1]?).bind fun y2=>(Zn (y2,f,())).bind fun r3=>cond r3.1 ((oA (a,b,c,d,e,f,g,(-1),0,h,i,y2,(y2.length : Nat),0,())).bind t_0) ((oA (a,b,c,d,e,f,g,1,0,h,i,y2,(y2.length : Nat),0,())).bind t_0)) (some (.inr (.inr (.inl ()))))
def zv:=ab wW
def Ff : Ann:=⟨sh [(1,.av (.ptr 1 0)),(26,.av (.own 26)),(27,.av (.val I)),(28,.av (.val I))] [(1,.box [.val I,.val (.slice yQ2),.val yQ3,.val (.slice I),.val (.slice .str),.val I]),(26,.arr (.slice I))],[(.ret,sh [(2,.av (.val .bool))] []),(.exit 0,sh [] [])],zv⟩
def Zk (x : (Q10×Unit)) : Option (Bool×Unit) :=
 let (((a,b,c,_),d,e,f,_),_):=x; (Zbt (((a,b,c,()),d,e,f,()),())).bind fun r1=>cond (neI r1.1 0) (some (false,())) ((Zbp (((a,b,c,()),d,e,f,()),())).bind fun r2=>cond (neI r2.1 0) (some (false,())) (cond (eqI (b.length : Nat) 0) (some (false,())) ((Zaw ((a,b,c,()),())).bind fun r3=>(zv (a,b,c,d,e,f,r3.1,(r3.1.length : Nat),0,())).bind (Sum.elim (fun z5=>some (z5.1,())) (Sum.elim (fun z6=>some (true,())) (fun _=>none))))))
def GZ : Fn:=mkF (cx [BE,Fl,wg,FR]) [(4,Ff),(11,D4)] 16 Tryd.f16 [(.rd,yQ9)] [(.tmp 2,true,.bool)] Zk [lp 4 Ff wW,lp 11 D4 pR] am ah rfl
def Zp (x : Unit) : Option (Q10×Unit) :=
 (dD .str 8 8).bind fun m1=>some (((4,[(0,1,()),(1,2,()),(2,3,()),(3,0,())],[[7,0],[1,2],[3,4],[5,6]],()),[3,1,3,1,3,1,3,1],m1,1,()),())
def Hd : Fn:=mkF (cx []) [] 24 Tryd.f24 [] [(.cell 0 29,true,yQ9)] Zp [] am ah rfl
def Zae (x : Unit) : Option (Bool×Unit) :=
 (Zo (((2,[(0,1,())],[[0],[1]],()),[4,4],[(ByteArray.mk #[76]),(ByteArray.mk #[82])],0,()),())).bind fun r1=>(Zay (((2,[(0,1,())],[[0],[1]],()),[4,4],[(ByteArray.mk #[76]),(ByteArray.mk #[82])],0,()),())).bind fun r2=>(Zay (((2,[(0,1,())],[[0],[1]],()),[4,4],[(ByteArray.mk #[]),(ByteArray.mk #[])],0,()),())).bind fun r3=>cond (neI r1.2.2.1 0) (some (false,())) (cond (neI (r1.2.1.length : Nat) 1) (some (false,())) ((aI r1.2.1.length 0).bind fun j4=>(r1.2.1[j4]?).bind fun y5=>cond (neI (y5.length : Nat) 2) (some (false,())) ((aI r1.2.1.length 0).bind fun j6=>(r1.2.1[j6]?).bind fun y7=>(aH y7 1).bind fun y8=>cond (neI y8 2) (some (false,())) (cond (neI r1.1.1.1 3) (some (false,())) (cond (neI (r1.1.2.1.length : Nat) 4) (some (false,())) (cond (neI (r1.1.1.2.2.1.length : Nat) 3) (some (false,())) ((aI r1.1.2.1.length 1).bind fun j9=>(r1.1.2.1[j9]?).bind fun y10=>cond (eqI y10 1) ((aI r1.1.2.1.length 2).bind fun j11=>(r1.1.2.1[j11]?).bind fun y12=>cond (eqI y12 3) (cond (eqI r2.2.1 13) (cond (eqI r3.2.1 0) ((Zk (((r3.1.1.1,r3.1.1.2.1,r3.1.1.2.2.1,()),r3.1.2.1,r3.1.2.2.1,r3.1.2.2.2.1,()),())).bind fun r13=>cond r13.1 ((Zp ()).bind fun r14=>(Zk (((r14.1.1.1,r14.1.1.2.1,r14.1.1.2.2.1,()),r14.1.2.1,r14.1.2.2.1,r14.1.2.2.2.1,()),())).bind fun r15=>cond r15.1 ((Zk (((2,[(0,1,())],[[0],[1]],()),[4,4],[(ByteArray.mk #[]),(ByteArray.mk #[])],0,()),())).bind fun r16=>some ((!r16.1),())) (some (false,()))) (some (false,()))) (some (false,()))) (some (false,()))) (some (false,()))) (some (false,())))))))))
def Gp : Fn:=mkF (cx [Hb,FM,GZ,Hd]) [] 9 Tryd.f9 [] [(.tmp 0,true,.bool)] Zae [] am ah rfl
def sm (x : Q13) : Option (Q13⊕(Q1⊕Empty)) :=
 let (a,b,c,d,e,_):=x; cond (ltI e (b.length : Nat)) ((aH b e).bind fun y1=>(aH b e).bind fun y2=>(app d [y1.1,y2.2.1]).bind fun a3=>some (.inl (a,b,c,a3,(ae .i64 e 1),()))) (some (.inr (.inl (d,()))))
def xO:=ab sm
def Db : Ann:=⟨sh [(1,.av (.ptr 1 0)),(3,.av (.own 3)),(4,.av (.val I))] [(1,.box [.val I,.val (.slice yQ2),.val yQ3]),(3,.arr I)],[(.exit 0,sh [(3,.av (.own 3))] [(3,.arr I)])],xO⟩
def Zad (x : (Q9×Unit)) : Option Q1 :=
 (xO (x.1.1,x.1.2.1,x.1.2.2.1,[],0,())).bind (Sum.elim (fun z2=>some (z2.1,())) (fun _=>none))
def CJ : Fn:=mkF (cx []) [(3,Db)] 46 Tryd.f46 [(.rd,yQ6)] [(.tmp 2,true,(.slice I))] Zad [lp 3 Db sm] am ah rfl
def rR (x : Q25) : Option (Q25⊕((Bool×Unit)⊕(Q19⊕Empty))) :=
 let (a,b,c,d,e,f,g,h,_):=x; (aH c g).bind fun y1=>cond (ltI h (y1.length : Nat)) ((aH c g).bind fun y2=>(aH y2 h).bind fun y3=>cond (ltI y3 0) (some (.inr (.inl (false,())))) (cond (geI y3 (d.length : Nat)) (some (.inr (.inl (false,())))) ((aI e.length y3).bind fun j4=>(e[j4]?).bind fun y5=>cond y5 (some (.inr (.inl (false,())))) ((aI d.length y3).bind fun j6=>(d[j6]?).bind fun y7=>cond (neI y7 g) (some (.inr (.inl (false,())))) ((aI e.length y3).bind fun j8=>(e[j8]?).bind fun y9=>some (.inl (a,b,c,d,(e.set j8 true),(ae .i64 f 1),g,(ae .i64 h 1),()))))))) (some (.inr (.inr (.inl (a,b,c,d,e,f,g,())))))
def xP:=ab rR
def Cx : Ann:=⟨sh [(1,.av (.ptr 1 0)),(5,.av (.own 5)),(6,.av (.own 6)),(7,.av (.val I)),(8,.av (.val I)),(9,.av (.val I))] [(1,.box [.val I,.val (.slice yQ2),.val yQ3]),(5,.arr I),(6,.arr .bool)],[(.ret,sh [(2,.av (.val .bool))] []),(.exit 4,sh [(1,.av (.ptr 1 0)),(5,.av (.own 5)),(6,.av (.own 6)),(7,.av (.val I)),(8,.av (.val I))] [(1,.box [.val I,.val (.slice yQ2),.val yQ3]),(5,.arr I),(6,.arr .bool)])],xP⟩
def pZ (x : Q19) : Option (Q19⊕((Bool×Unit)⊕(Q4⊕Empty))) :=
 let (a,b,c,d,e,f,g,_):=x; cond (ltI g a) ((xP (a,b,c,d,e,f,g,0,())).bind (Sum.elim (fun z2=>some (.inr (.inl (z2.1,())))) (Sum.elim (fun (a_3,b_3,c_3,d_3,e_3,f_3,g_3,_)=>some (.inl (a_3,b_3,c_3,d_3,e_3,f_3,(ae .i64 g_3 1),()))) (fun _=>none)))) (some (.inr (.inr (.inl (d,f,())))))
def yJ:=ab pZ
def CR : Ann:=⟨sh [(1,.av (.ptr 1 0)),(5,.av (.own 5)),(6,.av (.own 6)),(7,.av (.val I)),(8,.av (.val I))] [(1,.box [.val I,.val (.slice yQ2),.val yQ3]),(5,.arr I),(6,.arr .bool)],[(.ret,sh [(2,.av (.val .bool))] []),(.exit 2,sh [(5,.av (.own 5)),(7,.av (.val I))] [(5,.arr I)])],yJ⟩
def wh (x : Q12) : Option (Q12⊕((Bool×Unit)⊕(Q9⊕Empty))) :=
 let (a,b,c,d,_):=x; cond (ltI d (b.length : Nat)) ((aH b d).bind fun y1=>cond (ltI y1.1 0) (some (.inr (.inl (false,())))) (cond (geI y1.1 a) (some (.inr (.inl (false,())))) (cond (ltI y1.2.1 0) (some (.inr (.inl (false,())))) (cond (geI y1.2.1 a) (some (.inr (.inl (false,())))) (cond (eqI y1.1 y1.2.1) (some (.inr (.inl (false,())))) (some (.inl (a,b,c,(ae .i64 d 1),())))))))) (some (.inr (.inr (.inl (a,b,c,())))))
def DE:=ab wh
def Fh : Ann:=⟨sh [(1,.av (.ptr 1 0)),(3,.av (.val I))] [(1,.box [.val I,.val (.slice yQ2),.val yQ3])],[(.ret,sh [(2,.av (.val .bool))] []),(.exit 0,sh [(1,.av (.ptr 1 0))] [(1,.box [.val I,.val (.slice yQ2),.val yQ3])])],DE⟩
def Zt (x : (Q9×Unit)) : Option (Bool×Unit) :=
 let ((a,b,c,_),_):=x; cond (ltI a 0) (some (false,())) (cond (gtI a 16384) (some (false,())) (cond (gtI (b.length : Nat) 32768) (some (false,())) (cond (neI (c.length : Nat) a) (some (false,())) ((DE (a,b,c,0,())).bind (Sum.elim (fun z2=>some (z2.1,())) (Sum.elim (fun (a_3,b_3,c_3,_)=>(Zad ((a_3,b_3,c_3,()),())).bind fun r4=>(dD .bool (r4.1.length : Nat) (r4.1.length : Nat)).bind fun m5=>(yJ (a_3,b_3,c_3,r4.1,m5,0,0,())).bind (Sum.elim (fun z7=>some (z7.1,())) (Sum.elim (fun z8=>some ((eqI z8.2.1 (z8.1.length : Nat)),())) (fun _=>none)))) (fun _=>none)))))))
def FZ : Fn:=mkF (cx [CJ]) [(4,Fh),(13,CR),(16,Cx)] 29 Tryd.f29 [(.rd,yQ6)] [(.tmp 2,true,.bool)] Zt [lp 4 Fh wh,lp 13 CR pZ,lp 16 Cx rR] am ah rfl
def vP (x : Q18) : Option (Q18⊕(Q13⊕Empty)) :=
 let (a,b,c,d,e,f,g,_):=x; cond (ltI g (f.length : Nat)) ((aH f g).bind fun y1=>cond (eqI (f.length : Nat) 0) none ((aH f (cu (ae .i64 g 1) (f.length : Nat))).bind fun y2=>(aI d.length y1).bind fun j3=>(d[j3]?).bind fun y4=>some (.inl (a,b,c,(d.set j3 y2),e,f,(ae .i64 g 1),())))) (some (.inr (.inl (a,b,c,d,e,()))))
def BR:=ab vP
def Fm : Ann:=⟨sh [(1,.av (.ptr 1 0)),(3,.av (.own 3)),(4,.av (.val I)),(5,.av (.val (.slice I))),(6,.av (.val I))] [(1,.box [.val I,.val (.slice yQ2),.val yQ3]),(3,.arr I)],[(.exit 2,sh [(1,.av (.ptr 1 0)),(3,.av (.own 3)),(4,.av (.val I))] [(1,.box [.val I,.val (.slice yQ2),.val yQ3]),(3,.arr I)])],BR⟩
def wM (x : Q13) : Option (Q13⊕(Q1⊕Empty)) :=
 let (a,b,c,d,e,_):=x; cond (ltI e a) ((aH c e).bind fun y1=>(BR (a,b,c,d,e,y1,0,())).bind (Sum.elim (fun z3=>some (.inl (z3.1,z3.2.1,z3.2.2.1,z3.2.2.2.1,(ae .i64 z3.2.2.2.2.1 1),()))) (fun _=>none))) (some (.inr (.inl (d,()))))
def zM:=ab wM
def Ft : Ann:=⟨sh [(1,.av (.ptr 1 0)),(3,.av (.own 3)),(4,.av (.val I))] [(1,.box [.val I,.val (.slice yQ2),.val yQ3]),(3,.arr I)],[(.exit 0,sh [(3,.av (.own 3))] [(3,.arr I)])],zM⟩
def Zq (x : (Q9×Unit)) : Option Q1 :=
 let ((a,b,c,_),_):=x; (dD I (aP .i64 2 (b.length : Nat)) (aP .i64 2 (b.length : Nat))).bind fun m1=>(zM (a,b,c,m1,0,())).bind (Sum.elim (fun z3=>some (z3.1,())) (fun _=>none))
def GP : Fn:=mkF (cx []) [(3,Ft),(7,Fm)] 55 Tryd.f55 [(.rd,yQ6)] [(.tmp 2,true,(.slice I))] Zq [lp 3 Ft wM,lp 7 Fm vP] am ah rfl
def Zz (x : (Int×Unit)) : Option (Int×Unit) :=
 cond (eqI (cu x.1 2) 0) (some ((ae .i64 x.1 1),())) (some ((bf .i64 x.1 1),()))
def DY : Fn:=mkF (cx []) [] 48 Tryd.f48 [(.rd,I)] [(.tmp 2,true,I)] Zz [] am ah rfl
def qD (x : ((List (List Int))×List Int×List Bool×List Int×Int×Int×Unit)) : Option (((List (List Int))×List Int×List Bool×List Int×Int×Int×Unit)⊕(((List (List Int))×List Int×List Bool×List Int×Int×Unit)⊕Empty)) :=
 let (a,b,c,d,e,f,_):=x; (aI c.length f).bind fun j1=>(c[j1]?).bind fun y2=>cond (!y2) ((aI c.length f).bind fun j3=>(c[j3]?).bind fun y4=>(app d [f]).bind fun a5=>(Zz (f,())).bind fun r6=>(aI b.length r6.1).bind fun j7=>(b[j7]?).bind fun y8=>some (.inl (a,b,(c.set j3 true),a5,e,y8,()))) (some (.inr (.inl (a,b,c,d,e,()))))
def yx:=ab qD
def BP : Ann:=⟨sh [(3,.av (.own 3)),(4,.av (.own 4)),(5,.av (.own 5)),(6,.av (.val I)),(7,.av (.own 7)),(8,.av (.val I))] [(3,.arr (.slice I)),(4,.arr I),(5,.arr .bool),(7,.arr I)],[(.exit 2,sh [(3,.av (.own 3)),(4,.av (.own 4)),(5,.av (.own 5)),(6,.av (.val I)),(7,.av (.own 7))] [(3,.arr (.slice I)),(4,.arr I),(5,.arr .bool),(7,.arr I)])],yx⟩
def vZ (x : ((List (List Int))×List Int×List Bool×Int×Unit)) : Option (((List (List Int))×List Int×List Bool×Int×Unit)⊕(Q5⊕Empty)) :=
 let (a,b,c,d,_):=x; cond (ltI d (b.length : Nat)) ((aI c.length d).bind fun j1=>(c[j1]?).bind fun y2=>cond y2 (some (.inl (a,b,c,(ae .i64 d 1),()))) ((yx (a,b,c,[],d,d,())).bind (Sum.elim (fun z4=>(app z4.1 [z4.2.2.2.1]).bind fun a5=>some (.inl (a5,z4.2.1,z4.2.2.1,(ae .i64 z4.2.2.2.2.1 1),()))) (fun _=>none)))) (some (.inr (.inl (a,()))))
def DP:=ab vZ
def Fi : Ann:=⟨sh [(3,.av (.own 3)),(4,.av (.own 4)),(5,.av (.own 5)),(6,.av (.val I))] [(3,.arr (.slice I)),(4,.arr I),(5,.arr .bool)],[(.exit 0,sh [(3,.av (.own 3))] [(3,.arr (.slice I))])],DP⟩
def Zx (x : (Q9×Unit)) : Option Q5 :=
 let ((a,b,c,_),_):=x; (Zt ((a,b,c,()),())).bind fun r1=>cond (!r1.1) (some ([],())) ((Zq ((a,b,c,()),())).bind fun r2=>(dD .bool (r2.1.length : Nat) (r2.1.length : Nat)).bind fun m3=>(DP ([],r2.1,m3,0,())).bind (Sum.elim (fun z5=>some (z5.1,())) (fun _=>none)))
def FP : Fn:=mkF (cx [FZ,DY,GP]) [(7,Fi),(12,BP)] 33 Tryd.f33 [(.rd,yQ6)] [(.tmp 2,true,yQ3)] Zx [lp 7 Fi vZ,lp 12 BP qD] am ah rfl
def sb (x : Q4) : Option (Q4⊕((Int×Unit)⊕Empty)) :=
 let (a,b,_):=x; (aH a b).bind fun y1=>cond (neI y1 b) ((aH a b).bind fun y2=>some (.inl (a,y2,()))) (some (.inr (.inl (b,()))))
def yT:=ab sb
def D7 : Ann:=⟨sh [(0,.av (.val (.slice I))),(1,.av (.val I))] [],[(.exit 0,sh [(1,.av (.val I))] [])],yT⟩
def Zan (x : Q4) : Option (Int×Unit) :=
 (yT (x.1,x.2.1,())).bind (Sum.elim (fun z2=>some (z2.1,())) (fun _=>none))
def G8 : Fn:=mkF (cx []) [(1,D7)] 79 Tryd.f79 [(.rd,(.slice I)),(.rd,I)] [(.tmp 4,true,I)] Zan [lp 1 D7 sb] am ah rfl
def vy (x : (Int×(List Q2)×(List (List Int))×List Int×Int×Int×Unit)) : Option ((Int×(List Q2)×(List (List Int))×List Int×Int×Int×Unit)⊕((Int×Unit)⊕Empty)) :=
 let (a,b,c,d,e,f,_):=x; cond (ltI f (b.length : Nat)) ((aH b f).bind fun y1=>(Zan (d,y1.1,())).bind fun r2=>(aH b f).bind fun y3=>(Zan (d,y3.2.1,())).bind fun r4=>cond (neI r2.1 r4.1) ((aI d.length (jO r2.1 r4.1)).bind fun j5=>(d[j5]?).bind fun y6=>some (.inl (a,b,c,(d.set j5 (sB r2.1 r4.1)),(bf .i64 e 1),(ae .i64 f 1),()))) (some (.inl (a,b,c,d,e,(ae .i64 f 1),())))) (some (.inr (.inl (e,()))))
def BC:=ab vy
def FI : Ann:=⟨sh [(1,.av (.ptr 1 0)),(3,.av (.own 3)),(5,.av (.val I)),(6,.av (.val I))] [(1,.box [.val I,.val (.slice yQ2),.val yQ3]),(3,.arr I)],[(.exit 2,sh [(5,.av (.val I))] [])],BC⟩
def oH (x : Q13) : Option (Q13⊕((Int×(List Q2)×(List (List Int))×List Int×Unit)⊕Empty)) :=
 let (a,b,c,d,e,_):=x; cond (ltI e a) ((app d [e]).bind fun a1=>some (.inl (a,b,c,a1,(ae .i64 e 1),()))) (some (.inr (.inl (a,b,c,d,()))))
def sQ:=ab oH
def Fo : Ann:=⟨sh [(1,.av (.ptr 1 0)),(3,.av (.own 3)),(4,.av (.val I))] [(1,.box [.val I,.val (.slice yQ2),.val yQ3]),(3,.arr I)],[(.exit 0,sh [(1,.av (.ptr 1 0)),(3,.av (.own 3))] [(1,.box [.val I,.val (.slice yQ2),.val yQ3]),(3,.arr I)])],sQ⟩
def Zd (x : (Q9×Unit)) : Option (Int×Unit) :=
 (sQ (x.1.1,x.1.2.1,x.1.2.2.1,[],0,())).bind (Sum.elim (fun z2=>(BC (z2.1,z2.2.1,z2.2.2.1,z2.2.2.2.1,z2.1,0,())).bind (Sum.elim (fun z4=>some (z4.1,())) (fun _=>none))) (fun _=>none))
def Gz : Fn:=mkF (cx [G8]) [(3,Fo),(8,FI)] 53 Tryd.f53 [(.rd,yQ6)] [(.tmp 2,true,I)] Zd [lp 3 Fo oH,lp 8 FI vy] am ah rfl
def jV (x : (Int×(List Q2)×(List (List Int))×Int×Int×Unit)) : Option ((Int×(List Q2)×(List (List Int))×Int×Int×Unit)⊕(Q12⊕Empty)) :=
 let (a,b,c,d,e,_):=x; cond (ltI e a) ((aH c e).bind fun y1=>cond (eqI (y1.length : Nat) 0) (some (.inl (a,b,c,(ae .i64 d 1),(ae .i64 e 1),()))) (some (.inl (a,b,c,d,(ae .i64 e 1),())))) (some (.inr (.inl (a,b,c,d,()))))
def uA:=ab jV
def CS : Ann:=⟨sh [(1,.av (.ptr 1 0)),(3,.av (.val I)),(4,.av (.val I))] [(1,.box [.val I,.val (.slice yQ2),.val yQ3])],[(.exit 0,sh [(1,.av (.ptr 1 0)),(3,.av (.val I))] [(1,.box [.val I,.val (.slice yQ2),.val yQ3])])],uA⟩
def Zab (x : (Q9×Unit)) : Option (Int×Unit) :=
 let ((a,b,c,_),_):=x; (Zt ((a,b,c,()),())).bind fun r1=>cond (!r1.1) (some ((-1),())) ((Zx ((a,b,c,()),())).bind fun r2=>(uA (a,b,c,(r2.1.length : Nat),0,())).bind (Sum.elim (fun z4=>(Zd ((z4.1,z4.2.1,z4.2.2.1,()),())).bind fun r5=>some ((bf .i64 r5.1 (eZ .i64 (ae .i64 (bf .i64 z4.1 (z4.2.1.length : Nat)) z4.2.2.2.1) 2)),())) (fun _=>none)))
def GE : Fn:=mkF (cx [FZ,FP,Gz]) [(5,CS)] 52 Tryd.f52 [(.rd,yQ6)] [(.tmp 2,true,I)] Zab [lp 5 CS jV] am ah rfl
def Zr (x : (Q9×Unit)) : Option (Bool×Unit) :=
 let ((a,b,c,_),_):=x; (Zab ((a,b,c,()),())).bind fun r1=>cond (eqI r1.1 0) ((Zd ((a,b,c,()),())).bind fun r2=>some ((eqI r2.1 1),())) (some (false,()))
def Hu : Fn:=mkF (cx [GE,Gz]) [] 30 Tryd.f30 [(.rd,yQ6)] [(.tmp 2,true,.bool)] Zr [] am ah rfl
def rr (x : Q31) : Option (Q31⊕((Bool×Unit)⊕(Q26⊕Empty))) :=
 let (a,b,c,d,e,f,g,h,i,_):=x; (aH c g).bind fun y1=>cond (ltI i (y1.length : Nat)) ((aH c g).bind fun y2=>(aH y2 i).bind fun y3=>(aH d y3).bind fun y4=>cond (ltI y4 1) (some (.inr (.inl (false,())))) (cond (gtI y4 4) (some (.inr (.inl (false,())))) (some (.inl (a,b,c,d,e,f,g,(ae .i64 h y4),(ae .i64 i 1),()))))) (some (.inr (.inr (.inl (a,b,c,d,e,f,g,h,())))))
def yy:=ab rr
def CW : Ann:=⟨sh [(1,.av (.ptr 1 0)),(3,.av (.val I)),(4,.av (.val I)),(5,.av (.val I))] [(1,.box [.val I,.val (.slice yQ2),.val yQ3,.val (.slice I),.val (.slice .str),.val I])],[(.ret,sh [(2,.av (.val .bool))] []),(.exit 2,sh [(1,.av (.ptr 1 0)),(3,.av (.val I)),(4,.av (.val I))] [(1,.box [.val I,.val (.slice yQ2),.val yQ3,.val (.slice I),.val (.slice .str),.val I])])],yy⟩
def pS (x : Q23) : Option (Q23⊕((Bool×Unit)⊕(Unit⊕Empty))) :=
 let (a,b,c,d,e,f,g,_):=x; cond (ltI g a) ((yy (a,b,c,d,e,f,g,0,0,())).bind (Sum.elim (fun z2=>some (.inr (.inl (z2.1,())))) (Sum.elim (fun (a_3,b_3,c_3,d_3,e_3,f_3,g_3,h_3,_)=>cond (neI h_3 4) ((aH c_3 g_3).bind fun y4=>cond (gtI (y4.length : Nat) 0) (some (.inr (.inl (false,())))) (some (.inl (a_3,b_3,c_3,d_3,e_3,f_3,(ae .i64 g_3 1),())))) (some (.inl (a_3,b_3,c_3,d_3,e_3,f_3,(ae .i64 g_3 1),())))) (fun _=>none)))) (some (.inr (.inr (.inl ()))))
def ym:=ab pS
def Df : Ann:=⟨sh [(1,.av (.ptr 1 0)),(3,.av (.val I))] [(1,.box [.val I,.val (.slice yQ2),.val yQ3,.val (.slice I),.val (.slice .str),.val I])],[(.ret,sh [(2,.av (.val .bool))] []),(.exit 0,sh [] [])],ym⟩
def Zal (x : (Q10×Unit)) : Option (Bool×Unit) :=
 let (((a,b,c,_),d,e,f,_),_):=x; (ym (a,b,c,d,e,f,0,())).bind (Sum.elim (fun z2=>some (z2.1,())) (Sum.elim (fun z3=>some (true,())) (fun _=>none)))
def Gu : Fn:=mkF (cx []) [(2,Df),(6,CW)] 31 Tryd.f31 [(.rd,yQ9)] [(.tmp 2,true,.bool)] Zal [lp 2 Df pS,lp 6 CW rr] am ah rfl
def Zg (x : (Int×Unit)) : Option (Int×Unit) :=
 cond (eqI x.1 76) (some (82,())) (cond (eqI x.1 82) (some (76,())) (some (x.1,())))
def Hx : Fn:=mkF (cx []) [] 80 Tryd.f80 [(.rd,(.int .u8))] [(.tmp 2,true,(.int .u8))] Zg [] am ah rfl
def tg (x : (List Int×ByteArray×Int×Unit)) : Option ((List Int×ByteArray×Int×Unit)⊕(Q1⊕Empty)) :=
 let (a,b,c,_):=x; cond (geI c 0) ((aH b.data.toList c).bind fun c1=>(Zg ((c1.toNat : Int),())).bind fun r2=>(app a [r2.1]).bind fun a3=>some (.inl (a3,b,(bf .i64 c 1),()))) (some (.inr (.inl (a,()))))
def zJ:=ab tg
def FB : Ann:=⟨sh [(0,.av (.val .str)),(3,.av (.own 3)),(4,.av (.val I))] [(3,.arr (.int .u8))],[(.exit 0,sh [(3,.av (.own 3))] [(3,.arr (.int .u8))])],zJ⟩
def Zl (x : Q3) : Option Q3 :=
 (zJ ([],x.1,(bf .i64 (x.1.size : Nat) 1),())).bind (Sum.elim (fun z2=>some ((c9 z2.1),())) (fun _=>none))
def Hh : Fn:=mkF (cx [Hx]) [(3,FB)] 54 Tryd.f54 [(.rd,.str)] [(.tmp 2,true,.str)] Zl [lp 3 FB tg] am ah rfl
def vQ (x : Q26) : Option (Q26⊕((Bool×Unit)⊕(Q23⊕Empty))) :=
 let (a,b,c,d,e,f,g,h,_):=x; (aH e g).bind fun y1=>cond (ltI h (y1.size : Nat)) ((aH e g).bind fun y2=>(aH y2.data.toList h).bind fun c3=>cond (neI (c3.toNat : Int) 76) ((aH e g).bind fun y4=>(aH y4.data.toList h).bind fun c5=>cond (neI (c5.toNat : Int) 82) (some (.inr (.inl (false,())))) (some (.inl (a,b,c,d,e,f,g,(ae .i64 h 1),())))) (some (.inl (a,b,c,d,e,f,g,(ae .i64 h 1),())))) (some (.inr (.inr (.inl (a,b,c,d,e,f,g,())))))
def zt:=ab vQ
def FL : Ann:=⟨sh [(1,.av (.ptr 1 0)),(3,.av (.val I)),(4,.av (.val I))] [(1,.box [.val I,.val (.slice yQ2),.val yQ3,.val (.slice I),.val (.slice .str),.val I])],[(.ret,sh [(2,.av (.val .bool))] []),(.exit 2,sh [(1,.av (.ptr 1 0)),(3,.av (.val I))] [(1,.box [.val I,.val (.slice yQ2),.val yQ3,.val (.slice I),.val (.slice .str),.val I])])],zt⟩
def wj (x : Q23) : Option (Q23⊕((Bool×Unit)⊕(Unit⊕Empty))) :=
 let (a,b,c,d,e,f,g,_):=x; cond (ltI g (e.length : Nat)) ((aH e g).bind fun y1=>cond (gtI (y1.size : Nat) 64) (some (.inr (.inl (false,())))) ((aH e (iz .i64 g 1)).bind fun y2=>(aH e g).bind fun y3=>(Zl (y3,())).bind fun r4=>cond (neS y2 r4.1) (some (.inr (.inl (false,())))) ((zt (a,b,c,d,e,f,g,0,())).bind (Sum.elim (fun z6=>some (.inr (.inl (z6.1,())))) (Sum.elim (fun (a_7,b_7,c_7,d_7,e_7,f_7,g_7,_)=>some (.inl (a_7,b_7,c_7,d_7,e_7,f_7,(ae .i64 g_7 1),()))) (fun _=>none)))))) (some (.inr (.inr (.inl ()))))
def Aa:=ab wj
def Fg : Ann:=⟨sh [(1,.av (.ptr 1 0)),(3,.av (.val I))] [(1,.box [.val I,.val (.slice yQ2),.val yQ3,.val (.slice I),.val (.slice .str),.val I])],[(.ret,sh [(2,.av (.val .bool))] []),(.exit 0,sh [] [])],Aa⟩
def Zs (x : (Q10×Unit)) : Option (Bool×Unit) :=
 let (((a,b,c,_),d,e,f,_),_):=x; (Aa (a,b,c,d,e,f,0,())).bind (Sum.elim (fun z2=>some (z2.1,())) (Sum.elim (fun z3=>some (true,())) (fun _=>none)))
def Hy : Fn:=mkF (cx [Hh]) [(2,Fg),(7,FL)] 32 Tryd.f32 [(.rd,yQ9)] [(.tmp 2,true,.bool)] Zs [lp 2 Fg wj,lp 7 FL vQ] am ah rfl
def nM (x : Q6) : Option (Q6⊕((Bool×Unit)⊕(Unit⊕Empty))) :=
 let (a,b,c,_):=x; cond (ltI c (a.length : Nat)) ((aH a c).bind fun y1=>cond (eqI y1 b) (some (.inr (.inl (true,())))) (some (.inl (a,b,(ae .i64 c 1),())))) (some (.inr (.inr (.inl ()))))
def vj:=ab nM
def DO : Ann:=⟨sh [(0,.av (.val (.slice I))),(1,.av (.val I)),(5,.av (.val I))] [],[(.ret,sh [(4,.av (.val .bool))] []),(.exit 0,sh [] [])],vj⟩
def Zap (x : Q4) : Option (Bool×Unit) :=
 (vj (x.1,x.2.1,0,())).bind (Sum.elim (fun z2=>some (z2.1,())) (Sum.elim (fun z3=>some (false,())) (fun _=>none)))
def Gw : Fn:=mkF (cx []) [(2,DO)] 34 Tryd.f34 [(.rd,(.slice I)),(.rd,I)] [(.tmp 4,true,.bool)] Zap [lp 2 DO nM] am ah rfl
def sc (x : (ByteArray×Int×Int×Unit)) : Option ((ByteArray×Int×Int×Unit)⊕((Int×Unit)⊕Empty)) :=
 let (a,b,c,_):=x; cond (ltI c (a.size : Nat)) ((aH a.data.toList c).bind fun c1=>cond (eqI (c1.toNat : Int) 76) ((aH a.data.toList c).bind fun c2=>cond (eqI (c2.toNat : Int) 82) (some (.inl (a,(bf .i64 (ae .i64 b 1) 1),(ae .i64 c 1),()))) (some (.inl (a,(ae .i64 b 1),(ae .i64 c 1),())))) ((aH a.data.toList c).bind fun c3=>cond (eqI (c3.toNat : Int) 82) (some (.inl (a,(bf .i64 b 1),(ae .i64 c 1),()))) (some (.inl (a,b,(ae .i64 c 1),()))))) (some (.inr (.inl (b,()))))
def uG:=ab sc
def CK : Ann:=⟨sh [(0,.av (.val .str)),(3,.av (.val I)),(4,.av (.val I))] [],[(.exit 0,sh [(3,.av (.val I))] [])],uG⟩
def Zaj (x : Q3) : Option (Int×Unit) :=
 (uG (x.1,0,0,())).bind (Sum.elim (fun z2=>some (z2.1,())) (fun _=>none))
def GU : Fn:=mkF (cx []) [(3,CK)] 56 Tryd.f56 [(.rd,.str)] [(.tmp 2,true,I)] Zaj [lp 3 CK sc] am ah rfl
def rZ (x : Q33) : Option (Q33⊕((Int×Unit)⊕Empty)) :=
 let (a,b,c,d,e,f,g,h,i,_):=x; cond (ltI i (g.length : Nat)) ((aH g i).bind fun y1=>(aH e y1).bind fun y2=>(Zaj (y2,())).bind fun r3=>(aH g i).bind fun y4=>(aH d (iz .i64 y4 1)).bind fun y5=>some (.inl (a,b,c,d,e,f,g,(bf .i64 (ae .i64 (ae .i64 h r3.1) 2) y5),(ae .i64 i 1),()))) (some (.inr (.inl (h,()))))
def t5:=ab rZ
def CP : Ann:=⟨sh [(1,.av (.val (.slice I))),(2,.av (.ptr 2 0)),(5,.av (.val I)),(6,.av (.val I))] [(2,.box [.val I,.val (.slice yQ2),.val yQ3,.val (.slice I),.val (.slice .str),.val I])],[(.exit 0,sh [(5,.av (.val I))] [])],t5⟩
def Zaa (x : (Q10×List Int×Unit)) : Option (Int×Unit) :=
 let (((a,b,c,_),d,e,f,_),g,_):=x; (t5 (a,b,c,d,e,f,g,0,0,())).bind (Sum.elim (fun z2=>some (z2.1,())) (fun _=>none))
def GI : Fn:=mkF (cx [GU]) [(3,CP)] 35 Tryd.f35 [(.rd,yQ9),(.rd,(.slice I))] [(.tmp 4,true,I)] Zaa [lp 3 CP rZ] am ah rfl
def vp (x : Q35) : Option (Q35⊕((Int×Unit)⊕(Unit⊕Empty))) :=
 let (a,b,c,d,e,f,g,h,_):=x; cond (ltI h (g.length : Nat)) ((aI g.length h).bind fun j1=>(g[j1]?).bind fun y2=>(Zap (y2,f,())).bind fun r3=>cond r3.1 ((aI g.length h).bind fun j4=>(g[j4]?).bind fun y5=>(Zaa (((a,b,c,()),d,e,f,()),y5,())).bind fun r6=>cond (neI r6.1 (-4)) (some (.inr (.inl (13,())))) (some (.inl (a,b,c,d,e,f,g,(ae .i64 h 1),())))) ((aI g.length h).bind fun j7=>(g[j7]?).bind fun y8=>(Zaa (((a,b,c,()),d,e,f,()),y8,())).bind fun r9=>cond (neI r9.1 4) (some (.inr (.inl (13,())))) (some (.inl (a,b,c,d,e,f,g,(ae .i64 h 1),()))))) (some (.inr (.inr (.inl ()))))
def wD:=ab vp
def FK : Ann:=⟨sh [(1,.av (.ptr 1 0)),(4,.av (.own 4)),(5,.av (.val I))] [(1,.box [.val I,.val (.slice yQ2),.val yQ3,.val (.slice I),.val (.slice .str),.val I]),(4,.arr (.slice I))],[(.ret,sh [(2,.av (.val I))] []),(.exit 0,sh [] [])],wD⟩
def Zv (x : (Q10×Unit)) : Option (Int×Unit) :=
 let (((a,b,c,_),d,e,f,_),_):=x; let t_0:=(Zx ((a,b,c,()),())).bind fun r5=>(wD (a,b,c,d,e,f,r5.1,0,())).bind (Sum.elim (fun z7=>some (z7.1,())) (Sum.elim (fun z8=>some (0,())) (fun _=>none))); (Zt ((a,b,c,()),())).bind fun r1=>cond (!r1.1) (some (13,())) (cond (ltI a 1) (some (13,())) ((Zr ((a,b,c,()),())).bind fun r2=>cond (!r2.1) (some (13,())) (cond (neI (d.length : Nat) (aP .i64 2 (b.length : Nat))) (some (13,())) (cond (neI (e.length : Nat) (aP .i64 2 (b.length : Nat))) (some (13,())) ((Zal (((a,b,c,()),d,e,f,()),())).bind fun r3=>cond (!r3.1) (some (13,())) ((Zs (((a,b,c,()),d,e,f,()),())).bind fun r4=>cond (!r4.1) (some (13,())) (cond (ltI f 0) (some (13,())) (cond (gtI f 0) (cond (geI f (aP .i64 2 (b.length : Nat))) (some (13,())) t_0) t_0))))))))
def F4 : Fn:=mkF (cx [FZ,Hu,Gu,Hy,FP,Gw,GI]) [(8,FK)] 13 Tryd.f13 [(.rd,yQ9)] [(.tmp 2,true,I)] Zv [lp 8 FK vp] am ah rfl
def wu (x : Q23) : Option (Q23⊕((Bool×Unit)⊕(Unit⊕Empty))) :=
 let (a,b,c,d,e,f,g,_):=x; cond (ltI g (e.length : Nat)) ((aH e g).bind fun y1=>cond (neS y1 (ByteArray.mk #[])) (some (.inr (.inl (false,())))) (some (.inl (a,b,c,d,e,f,(ae .i64 g 1),())))) (some (.inr (.inr (.inl ()))))
def zK:=ab wu
def Fd : Ann:=⟨sh [(1,.av (.ptr 1 0)),(3,.av (.val I))] [(1,.box [.val I,.val (.slice yQ2),.val yQ3,.val (.slice I),.val (.slice .str),.val I])],[(.ret,sh [(2,.av (.val .bool))] []),(.exit 0,sh [] [])],zK⟩
def Zu (x : (Q10×Unit)) : Option (Bool×Unit) :=
 let (((a,b,c,_),d,e,f,_),_):=x; (zK (a,b,c,d,e,f,0,())).bind (Sum.elim (fun z2=>some (z2.1,())) (Sum.elim (fun z3=>some (true,())) (fun _=>none)))
def GS : Fn:=mkF (cx []) [(2,Fd)] 14 Tryd.f14 [(.rd,yQ9)] [(.tmp 2,true,.bool)] Zu [lp 2 Fd wu] am ah rfl
def rH (x : Q40) : Option (Q40⊕(((List (List Int))×Int×Unit)⊕(Q35⊕Empty))) :=
 let (a,b,c,d,e,f,g,h,i,_):=x; (aI g.length h).bind fun j1=>(g[j1]?).bind fun y2=>cond (ltI i (y2.length : Nat)) ((aI g.length h).bind fun j3=>(g[j3]?).bind fun y4=>(aH y4 i).bind fun y5=>cond (eqI y5 f) (some (.inr (.inl (g,h,())))) (some (.inl (a,b,c,d,e,f,g,h,(ae .i64 i 1),())))) (some (.inr (.inr (.inl (a,b,c,d,e,f,g,h,())))))
def pP:=ab rH
def Ef : Ann:=⟨sh [(1,.av (.ptr 1 0)),(4,.av (.own 4)),(5,.av (.val I)),(6,.av (.val I))] [(1,.box [.val I,.val (.slice yQ2),.val yQ3,.val (.slice I),.val (.slice .str),.val I]),(4,.arr (.slice I))],[(.ret,sh [(2,.av (.own 2)),(3,.av (.val I))] [(2,.arr (.slice I))]),(.exit 2,sh [(1,.av (.ptr 1 0)),(4,.av (.own 4)),(5,.av (.val I))] [(1,.box [.val I,.val (.slice yQ2),.val yQ3,.val (.slice I),.val (.slice .str),.val I]),(4,.arr (.slice I))])],pP⟩
def uw (x : Q35) : Option (Q35⊕(((List (List Int))×Int×Unit)⊕(Q5⊕Empty))) :=
 let (a,b,c,d,e,f,g,h,_):=x; cond (ltI h (g.length : Nat)) ((pP (a,b,c,d,e,f,g,h,0,())).bind (Sum.elim (fun z2=>some (.inr (.inl (z2.1,z2.2.1,())))) (Sum.elim (fun (a_3,b_3,c_3,d_3,e_3,f_3,g_3,h_3,_)=>some (.inl (a_3,b_3,c_3,d_3,e_3,f_3,g_3,(ae .i64 h_3 1),()))) (fun _=>none)))) (some (.inr (.inr (.inl (g,())))))
def ur:=ab uw
def DK : Ann:=⟨sh [(1,.av (.ptr 1 0)),(4,.av (.own 4)),(5,.av (.val I))] [(1,.box [.val I,.val (.slice yQ2),.val yQ3,.val (.slice I),.val (.slice .str),.val I]),(4,.arr (.slice I))],[(.ret,sh [(2,.av (.own 2)),(3,.av (.val I))] [(2,.arr (.slice I))]),(.exit 0,sh [(4,.av (.own 4))] [(4,.arr (.slice I))])],ur⟩
def Zac (x : (Q10×Unit)) : Option ((List (List Int))×Int×Unit) :=
 let (((a,b,c,_),d,e,f,_),_):=x; (Zx ((a,b,c,()),())).bind fun r1=>(ur (a,b,c,d,e,f,r1.1,0,())).bind (Sum.elim (fun z3=>some (z3.1,z3.2.1,())) (Sum.elim (fun z4=>some (z4.1,(-1),())) (fun _=>none)))
def G6 : Fn:=mkF (cx [FP]) [(3,DK),(6,Ef)] 43 Tryd.f43 [(.rd,yQ9)] [(.tmp 2,true,yQ3),(.tmp 3,true,I)] Zac [lp 3 DK uw,lp 6 Ef rH] am ah rfl
def qT (x : Q37) : Option (Q37⊕((Bool×Unit)⊕((Int×Unit)⊕Empty))) :=
 let (a,b,c,d,e,f,g,h,i,k,_):=x; cond (ltI k (g.length : Nat)) ((aH g k).bind fun y1=>(Zz (y1,())).bind fun r2=>(aH d r2.1).bind fun y3=>cond (eqI y3 h) (some (.inl (a,b,c,d,e,f,g,h,(ae .i64 i 1),(ae .i64 k 1),()))) (cond (neI y3 2) (some (.inr (.inl (false,())))) (some (.inl (a,b,c,d,e,f,g,h,i,(ae .i64 k 1),()))))) (some (.inr (.inr (.inl (i,())))))
def ui:=ab qT
def CO : Ann:=⟨sh [(1,.av (.val (.slice I))),(2,.av (.val I)),(3,.av (.ptr 3 0)),(7,.av (.val I)),(8,.av (.val I))] [(3,.box [.val I,.val (.slice yQ2),.val yQ3,.val (.slice I),.val (.slice .str),.val I])],[(.ret,sh [(6,.av (.val .bool))] []),(.exit 0,sh [(7,.av (.val I))] [])],ui⟩
def Zas (x : (Q10×List Int×Int×Unit)) : Option (Bool×Unit) :=
 let (((a,b,c,_),d,e,f,_),g,h,_):=x; (ui (a,b,c,d,e,f,g,h,0,0,())).bind (Sum.elim (fun z2=>some (z2.1,())) (Sum.elim (fun z3=>some ((eqI z3.1 4),())) (fun _=>none)))
def GY : Fn:=mkF (cx [DY]) [(3,CO)] 44 Tryd.f44 [(.rd,yQ9),(.rd,(.slice I)),(.rd,I)] [(.tmp 6,true,.bool)] Zas [lp 3 CO qT] am ah rfl
def vF (x : Q40) : Option (Q40⊕((Bool×Unit)⊕(Unit⊕Empty))) :=
 let (a,b,c,d,e,f,g,h,i,_):=x; cond (ltI i (g.length : Nat)) (cond (eqI i h) ((aI g.length i).bind fun j1=>(g[j1]?).bind fun y2=>(Zas (((a,b,c,()),d,e,f,()),y2,3,())).bind fun r3=>cond (!r3.1) (some (.inr (.inl (false,())))) (some (.inl (a,b,c,d,e,f,g,h,(ae .i64 i 1),())))) ((aI g.length i).bind fun j4=>(g[j4]?).bind fun y5=>(Zas (((a,b,c,()),d,e,f,()),y5,1,())).bind fun r6=>cond (!r6.1) (some (.inr (.inl (false,())))) (some (.inl (a,b,c,d,e,f,g,h,(ae .i64 i 1),()))))) (some (.inr (.inr (.inl ()))))
def Ae:=ab vF
def FF : Ann:=⟨sh [(1,.av (.ptr 1 0)),(3,.av (.own 3)),(4,.av (.val I)),(5,.av (.val I))] [(1,.box [.val I,.val (.slice yQ2),.val yQ3,.val (.slice I),.val (.slice .str),.val I]),(3,.arr (.slice I))],[(.ret,sh [(2,.av (.val .bool))] []),(.exit 0,sh [] [])],Ae⟩
def Zc (x : (Q10×Unit)) : Option (Bool×Unit) :=
 let (((a,b,c,_),d,e,f,_),_):=x; (Zv (((a,b,c,()),d,e,f,()),())).bind fun r1=>cond (neI r1.1 0) (some (false,())) ((Zu (((a,b,c,()),d,e,f,()),())).bind fun r2=>cond (!r2.1) (some (false,())) (cond (eqI (b.length : Nat) 0) (some (false,())) ((Zac (((a,b,c,()),d,e,f,()),())).bind fun r3=>(Ae (a,b,c,d,e,f,r3.1,r3.2.1,0,())).bind (Sum.elim (fun z5=>some (z5.1,())) (Sum.elim (fun z6=>some (true,())) (fun _=>none))))))
def Hp : Fn:=mkF (cx [F4,GS,G6,GY]) [(5,FF)] 17 Tryd.f17 [(.rd,yQ9)] [(.tmp 2,true,.bool)] Zc [lp 5 FF vF] am ah rfl
def qh (x : Q41) : Option (Q41⊕(Q1⊕Empty)) :=
 let (a,b,c,d,e,f,g,h,i,k,_):=x; cond (ltI k (i.length : Nat)) ((aI i.length k).bind fun j1=>(i[j1]?).bind fun y2=>(aI h.length y2).bind fun j3=>(h[j3]?).bind fun y4=>(Zz (y2,())).bind fun r5=>(aI g.length y4).bind fun j6=>(g[j6]?).bind fun y7=>cond (ltI y7 0) ((aI g.length y2).bind fun j8=>(g[j8]?).bind fun y9=>(aH d y2).bind fun y10=>(aI g.length y4).bind fun j11=>(g[j11]?).bind fun y12=>(app i [y4]).bind fun a13=>(aI (g.set j11 (cu (ae .i64 y9 y10) 4)).length r5.1).bind fun j14=>((g.set j11 (cu (ae .i64 y9 y10) 4))[j14]?).bind fun y15=>cond (ltI y15 0) ((aI (g.set j11 (cu (ae .i64 y9 y10) 4)).length y2).bind fun j16=>((g.set j11 (cu (ae .i64 y9 y10) 4))[j16]?).bind fun y17=>(aI (g.set j11 (cu (ae .i64 y9 y10) 4)).length r5.1).bind fun j18=>((g.set j11 (cu (ae .i64 y9 y10) 4))[j18]?).bind fun y19=>(app a13 [r5.1]).bind fun a20=>some (.inl (a,b,c,d,e,f,((g.set j11 (cu (ae .i64 y9 y10) 4)).set j18 (cu (ae .i64 y17 2) 4)),h,a20,(ae .i64 k 1),()))) (some (.inl (a,b,c,d,e,f,(g.set j11 (cu (ae .i64 y9 y10) 4)),h,a13,(ae .i64 k 1),())))) ((aI g.length r5.1).bind fun j21=>(g[j21]?).bind fun y22=>cond (ltI y22 0) ((aI g.length y2).bind fun j23=>(g[j23]?).bind fun y24=>(aI g.length r5.1).bind fun j25=>(g[j25]?).bind fun y26=>(app i [r5.1]).bind fun a27=>some (.inl (a,b,c,d,e,f,(g.set j25 (cu (ae .i64 y24 2) 4)),h,a27,(ae .i64 k 1),()))) (some (.inl (a,b,c,d,e,f,g,h,i,(ae .i64 k 1),()))))) (some (.inr (.inl (g,()))))
def qf:=ab qh
def D1 : Ann:=⟨sh [(1,.av (.ptr 1 0)),(3,.av (.own 3)),(5,.av (.own 5)),(6,.av (.own 6)),(7,.av (.val I))] [(1,.box [.val I,.val (.slice yQ2),.val yQ3,.val (.slice I),.val (.slice .str),.val I]),(3,.arr I),(5,.arr I),(6,.arr I)],[(.exit 2,sh [(3,.av (.own 3))] [(3,.arr I)])],qf⟩
def wH (x : Q29) : Option (Q29⊕((Int×(List Q2)×(List (List Int))×List Int×List ByteArray×Int×List Int×Unit)⊕Empty)) :=
 let (a,b,c,d,e,f,g,h,_):=x; cond (ltI h (g.length : Nat)) ((aI g.length h).bind fun j1=>(g[j1]?).bind fun y2=>some (.inl (a,b,c,d,e,f,(g.set j1 (-1)),(ae .i64 h 1),()))) (some (.inr (.inl (a,b,c,d,e,f,g,()))))
def wI:=ab wH
def FD : Ann:=⟨sh [(1,.av (.ptr 1 0)),(3,.av (.own 3)),(4,.av (.val I))] [(1,.box [.val I,.val (.slice yQ2),.val yQ3,.val (.slice I),.val (.slice .str),.val I]),(3,.arr I)],[(.exit 0,sh [(1,.av (.ptr 1 0)),(3,.av (.own 3))] [(1,.box [.val I,.val (.slice yQ2),.val yQ3,.val (.slice I),.val (.slice .str),.val I]),(3,.arr I)])],wI⟩
def Ze (x : (Q10×Unit)) : Option Q1 :=
 let (((a,b,c,_),d,e,f,_),_):=x; (dD I (aP .i64 2 (b.length : Nat)) (aP .i64 2 (b.length : Nat))).bind fun m1=>(wI (a,b,c,d,e,f,m1,0,())).bind (Sum.elim (fun (a_3,b_3,c_3,d_3,e_3,f_3,g_3,_)=>cond (eqI (g_3.length : Nat) 0) (some (g_3,())) ((aI g_3.length 0).bind fun j4=>(g_3[j4]?).bind fun y5=>(Zq ((a_3,b_3,c_3,()),())).bind fun r6=>(qf (a_3,b_3,c_3,d_3,e_3,f_3,(g_3.set j4 0),r6.1,[0],0,())).bind (Sum.elim (fun z8=>some (z8.1,())) (fun _=>none)))) (fun _=>none))
def Hv : Fn:=mkF (cx [DY,GP]) [(3,FD),(12,D1)] 45 Tryd.f45 [(.rd,yQ9)] [(.tmp 2,true,(.slice I))] Ze [lp 3 FD wH,lp 12 D1 qh] am ah rfl
def zN (x : Q34) : Option (Q34⊕(Q27⊕Empty)) :=
 let (a,b,c,d,e,f,g,h,i,k,l,_):=x; (aH c g).bind fun y1=>cond (ltI l (y1.length : Nat)) ((aH c g).bind fun y2=>(aH y2 l).bind fun y3=>(aH e y3).bind fun y4=>cond (eqI y4 h) ((Zz (y3,())).bind fun r5=>(aI d.length r5.1).bind fun j6=>(d[j6]?).bind fun y7=>some (.inl (a,b,c,d,e,f,g,h,i,y7,(ae .i64 l 1),()))) (some (.inl (a,b,c,d,e,f,g,h,i,k,(ae .i64 l 1),())))) (some (.inr (.inl (a,b,c,d,e,f,h,i,k,()))))
def zn:=ab zN
def Fw : Ann:=⟨sh [(1,.av (.val (.slice I))),(2,.av (.val I)),(3,.av (.val I)),(4,.av (.val I)),(5,.av (.ptr 5 0)),(11,.av (.own 11)),(12,.av (.val I)),(13,.av (.val I)),(14,.av (.val I))] [(5,.box [.val I,.val (.slice yQ2),.val yQ3]),(11,.arr I)],[(.exit 2,sh [(1,.av (.val (.slice I))),(2,.av (.val I)),(4,.av (.val I)),(5,.av (.ptr 5 0)),(11,.av (.own 11)),(12,.av (.val I)),(13,.av (.val I))] [(5,.box [.val I,.val (.slice yQ2),.val yQ3]),(11,.arr I)])],zn⟩
def vO (x : Q27) : Option (Q27⊕((Int×Unit)⊕(Unit⊕Empty))) :=
 let (a,b,c,d,e,f,g,h,i,_):=x; cond (leI i a) ((zn (a,b,c,d,e,f,g,h,i,(-1),0,())).bind (Sum.elim (fun (a_2,b_2,c_2,d_2,e_2,f_2,g_2,h_2,i_2,_)=>cond (ltI i_2 0) (some (.inr (.inl (i_2,())))) (cond (ltI i_2 f_2) (some (.inr (.inl (i_2,())))) (some (.inl (a_2,b_2,c_2,d_2,e_2,f_2,i_2,g_2,(ae .i64 h_2 1),()))))) (fun _=>none))) (some (.inr (.inr (.inl ()))))
def sK:=ab vO
def Fz : Ann:=⟨sh [(1,.av (.val (.slice I))),(2,.av (.val I)),(3,.av (.val I)),(4,.av (.val I)),(5,.av (.ptr 5 0)),(11,.av (.own 11)),(12,.av (.val I))] [(5,.box [.val I,.val (.slice yQ2),.val yQ3]),(11,.arr I)],[(.ret,sh [(10,.av (.val I))] []),(.exit 0,sh [] [])],sK⟩
def Zy (x : (Q9×List Int×Int×Int×Int×Unit)) : Option (Int×Unit) :=
 let ((a,b,c,_),d,e,f,g,_):=x; (Zad ((a,b,c,()),())).bind fun r1=>(sK (a,b,c,r1.1,d,e,f,g,0,())).bind (Sum.elim (fun z3=>some (z3.1,())) (Sum.elim (fun z4=>some ((-1),())) (fun _=>none)))
def Ho : Fn:=mkF (cx [CJ,DY]) [(3,Fz),(7,Fw)] 47 Tryd.f47 [(.rd,yQ6),(.rd,(.slice I)),(.rd,I),(.rd,I),(.rd,I)] [(.tmp 10,true,I)] Zy [lp 3 Fz vO,lp 7 Fw zN] am ah rfl
def oB (x : Q52) : Option (Q52⊕((Int×(List Q2)×(List (List Int))×List Int×List ByteArray×Int×Int×(List Q2)×(List (List Int))×List Int×List ByteArray×Int×List Int×List Int×List Int×Int×Bool×Unit)⊕Empty)) :=
 let (a,b,c,d,e,f,g,h,i,k,l,m,n,o,p,q,s,t,_):=x; cond (ltI t (n.length : Nat)) (cond s ((aI p.length t).bind fun j1=>(p[j1]?).bind fun y2=>(aI n.length t).bind fun j3=>(n[j3]?).bind fun y4=>(Zy ((a,b,c,()),o,g,y2,(cu (ae .i64 y4 q) 4),())).bind fun r5=>(Zz (t,())).bind fun r6=>(aI p.length r6.1).bind fun j7=>(p[j7]?).bind fun y8=>some (.inl (a,b,c,d,e,f,g,h,i,k,l,m,n,o,p,q,(eqI r5.1 y8),(ae .i64 t 1),()))) (some (.inr (.inl (a,b,c,d,e,f,g,h,i,k,l,m,n,o,p,q,s,()))))) (some (.inr (.inl (a,b,c,d,e,f,g,h,i,k,l,m,n,o,p,q,s,()))))
def rq:=ab oB
def Cq : Ann:=⟨sh [(2,.av (.ptr 2 0)),(3,.av (.ptr 3 0)),(5,.av (.own 5)),(6,.av (.own 6)),(7,.av (.own 7)),(8,.av (.val I)),(9,.av (.val .bool)),(10,.av (.val I))] [(2,.box [.val I,.val (.slice yQ2),.val yQ3,.val (.slice I),.val (.slice .str),.val I]),(3,.box [.val I,.val (.slice yQ2),.val yQ3,.val (.slice I),.val (.slice .str),.val I]),(5,.arr I),(6,.arr I),(7,.arr I)],[(.exit 2,sh [(2,.av (.ptr 2 0)),(3,.av (.ptr 3 0)),(5,.av (.own 5)),(6,.av (.own 6)),(7,.av (.own 7)),(8,.av (.val I)),(9,.av (.val .bool))] [(2,.box [.val I,.val (.slice yQ2),.val yQ3,.val (.slice I),.val (.slice .str),.val I]),(3,.box [.val I,.val (.slice yQ2),.val yQ3,.val (.slice I),.val (.slice .str),.val I]),(5,.arr I),(6,.arr I),(7,.arr I)])],rq⟩
def ww (x : Q51) : Option (Q51⊕((Bool×Unit)⊕(Unit⊕Empty))) :=
 let (a,b,c,d,e,f,g,h,i,k,l,m,n,o,p,q,_):=x; cond (ltI q 4) ((rq (a,b,c,d,e,f,g,h,i,k,l,m,n,o,p,q,true,0,())).bind (Sum.elim (fun (a_2,b_2,c_2,d_2,e_2,f_2,g_2,h_2,i_2,k_2,l_2,m_2,n_2,o_2,p_2,q_2,s_2,_)=>cond s_2 (some (.inr (.inl (true,())))) (some (.inl (a_2,b_2,c_2,d_2,e_2,f_2,g_2,h_2,i_2,k_2,l_2,m_2,n_2,o_2,p_2,(ae .i64 q_2 1),())))) (fun _=>none))) (some (.inr (.inr (.inl ()))))
def wv:=ab ww
def Fy : Ann:=⟨sh [(2,.av (.ptr 2 0)),(3,.av (.ptr 3 0)),(5,.av (.own 5)),(6,.av (.own 6)),(7,.av (.own 7)),(8,.av (.val I))] [(2,.box [.val I,.val (.slice yQ2),.val yQ3,.val (.slice I),.val (.slice .str),.val I]),(3,.box [.val I,.val (.slice yQ2),.val yQ3,.val (.slice I),.val (.slice .str),.val I]),(5,.arr I),(6,.arr I),(7,.arr I)],[(.ret,sh [(4,.av (.val .bool))] []),(.exit 0,sh [] [])],wv⟩
def Zi (x : (Q10×Q10×Unit)) : Option (Bool×Unit) :=
 let (((a,b,c,_),d,e,f,_),((g,h,i,_),k,l,m,_),_):=x; cond (ltI a g) (some (false,())) ((Ze (((g,h,i,()),k,l,m,()),())).bind fun r1=>(Ze (((a,b,c,()),d,e,f,()),())).bind fun r2=>(Zad ((g,h,i,()),())).bind fun r3=>(wv (a,b,c,d,e,f,g,h,i,k,l,m,r1.1,r2.1,r3.1,0,())).bind (Sum.elim (fun z5=>some (z5.1,())) (Sum.elim (fun z6=>some (false,())) (fun _=>none))))
def Ht : Fn:=mkF (cx [Hv,CJ,Ho,DY]) [(6,Fy),(10,Cq)] 18 Tryd.f18 [(.rd,yQ9),(.rd,yQ9)] [(.tmp 4,true,.bool)] Zi [lp 6 Fy ww,lp 10 Cq oB] am ah rfl
def Zb (x : (Q10×Unit)) : Option (Bool×Unit) :=
 let (((a,b,c,_),d,e,f,_),_):=x; (Zav (((a,b,c,()),d,e,f,()),())).bind fun r1=>cond (!r1.1) ((Zae ()).bind fun r2=>some (r2.1,())) (cond (gtI (b.length : Nat) 40) ((Zae ()).bind fun r3=>some (r3.1,())) ((Zay (((a,b,c,()),d,e,f,()),())).bind fun r4=>cond (neI r4.2.1 0) ((Zae ()).bind fun r5=>some (r5.1,())) (cond (gtI r4.1.1.1 (ae .i64 (ae .i64 a (aP .i64 4 (b.length : Nat))) 16)) (some (false,())) (cond (gtI (r4.1.1.2.1.length : Nat) (aP .i64 2 r4.1.1.1)) (some (false,())) ((Zv (((r4.1.1.1,r4.1.1.2.1,r4.1.1.2.2.1,()),r4.1.2.1,r4.1.2.2.1,r4.1.2.2.2.1,()),())).bind fun r6=>cond (neI r6.1 0) (some (false,())) ((Zu (((r4.1.1.1,r4.1.1.2.1,r4.1.1.2.2.1,()),r4.1.2.1,r4.1.2.2.1,r4.1.2.2.2.1,()),())).bind fun r7=>cond (!r7.1) (some (false,())) ((Zc (((r4.1.1.1,r4.1.1.2.1,r4.1.1.2.2.1,()),r4.1.2.1,r4.1.2.2.1,r4.1.2.2.2.1,()),())).bind fun r8=>cond r8.1 ((Zk (((r4.1.1.1,r4.1.1.2.1,r4.1.1.2.2.1,()),r4.1.2.1,r4.1.2.2.1,r4.1.2.2.2.1,()),())).bind fun r9=>cond r9.1 ((Zi (((r4.1.1.1,r4.1.1.2.1,r4.1.1.2.2.1,()),r4.1.2.1,r4.1.2.2.1,r4.1.2.2.2.1,()),((a,b,c,()),d,e,f,()),())).bind fun r10=>cond r10.1 ((Zae ()).bind fun r11=>some (r11.1,())) (some (false,()))) (some (false,()))) (some (false,())))))))))
def Zb_h : Fn:=mkF (cx [GC,Gp,F4,GS,FM,GZ,Hp,Ht]) [] 5 Tryd.f5 [(.rd,yQ9)] [(.tmp 2,true,.bool)] Zb [] am ah rfl
def Zb_c : Con:={ ins:=[(.rd,yQ9)],outs:=[(true,.bool)],fn:=Zb }
theorem Dt : Con.Holds Tryd.prog glob 5 Zb_c:=Zb_h.ok
def ox (x : Q26) : Option (Q26⊕((Int×Unit)⊕Empty)) :=
 let (a,b,c,d,e,f,g,h,_):=x; cond (ltI h (e.length : Nat)) ((aH e h).bind fun y1=>some (.inl (a,b,c,d,e,f,(ae .i64 g (y1.size : Nat)),(ae .i64 h 2),()))) (some (.inr (.inl (g,()))))
def pL:=ab ox
def Ca : Ann:=⟨sh [(1,.av (.ptr 1 0)),(3,.av (.val I)),(4,.av (.val I))] [(1,.box [.val I,.val (.slice yQ2),.val yQ3,.val (.slice I),.val (.slice .str),.val I])],[(.exit 0,sh [(3,.av (.val I))] [])],pL⟩
def Zaf (x : (Q10×Unit)) : Option (Int×Unit) :=
 let (((a,b,c,_),d,e,f,_),_):=x; (Zv (((a,b,c,()),d,e,f,()),())).bind fun r1=>cond (neI r1.1 0) (some (0,())) ((pL (a,b,c,d,e,f,0,0,())).bind (Sum.elim (fun z3=>some (z3.1,())) (fun _=>none)))
def HA : Fn:=mkF (cx [F4]) [(5,Ca)] 19 Tryd.f19 [(.rd,yQ9)] [(.tmp 2,true,I)] Zaf [lp 5 Ca ox] am ah rfl
def Hz : Con:={ ins:=[(.rd,yQ9)],outs:=[(true,I)],fn:=Zaf }
end
end Go.Vm

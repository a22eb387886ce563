/-
 The functions that the law reaches, as functions on values, and the proofs that the machine computes them.
-/
import Derived.Test.YtnnbdielbgljaaaDoorVmPack
import Derived.Test.YtnnbdielbgljaaaDoorS41C
import Derived.Test.YtnnbdielbgljaaaDoorVmExt4
import Derived.Test.YtnnbdielbgljaaaDoorProg
import Derived.KernelRfl
set_option linter.unusedVariables false
set_option linter.unusedSimpArgs false
namespace Go.Vm
open Go.Proofs
abbrev I : Ty:=.int .i64
abbrev yQ1 : Ty:=.prod I .unit
abbrev yQ2 : Ty:=.prod I yQ1
abbrev yQ3 : Ty:=.slice (.slice I)
abbrev yQ4 : Ty:=.prod yQ3 .unit
abbrev yQ5 : Ty:=.prod (.slice yQ2) yQ4
abbrev yQ6 : Ty:=.prod I yQ5
abbrev yQ7 : Ty:=.prod (.slice .str) yQ1
abbrev yQ8 : Ty:=.prod (.slice I) yQ7
abbrev yQ9 : Ty:=.prod yQ6 yQ8
abbrev Q1:=List Int×Unit
abbrev Q2:=Int×Int×Unit
abbrev Q3:=ByteArray×Unit
abbrev Q4:=List Int×Int×Unit
abbrev Q5:=(List (List Int))×Unit
abbrev Q6:=List Int×Int×Int×Unit
abbrev Q7:=List (Unit×ByteArray×Int)
abbrev Q8:=List Int×Int×Int×Int×Unit
abbrev Q9:=Int×(List Q2)×(List (List Int))×Unit
abbrev Q10:=Q9×List Int×List ByteArray×Int×Unit
abbrev Q11:=List Int×(List (List Int))×Int×Int×Unit
abbrev Q12:=Int×(List Q2)×(List (List Int))×Int×Unit
abbrev Q13:=Int×(List Q2)×(List (List Int))×List Int×Int×Unit
abbrev Q14:=Int×(List Q2)×(List (List Int))×List Bool×List Int×Int×Unit
abbrev Q15:=Int×(List Q2)×(List (List Int))×List Bool×Int×Int×Int×Unit
abbrev Q16:=List Int×List Bool×(List (List Int))×List Int×Int×Int×Int×Unit
abbrev Q17:=List Int×(List (List Int))×Int×Int×Int×List Int×Int×Int×Unit
abbrev Q18:=Int×(List Q2)×(List (List Int))×List Int×Int×List Int×Int×Unit
abbrev Q19:=Int×(List Q2)×(List (List Int))×List Int×List Bool×Int×Int×Unit
abbrev Q20:=Int×(List Q2)×(List (List Int))×Int×(List (List Int))×Int×Int×Unit
abbrev Q21:=Int×Int×(List Q2)×(List (List Int))×(List (List Int))×Int×Int×Unit
abbrev Q22:=List Int×List Int×(List (List Int))×Int×Int×List Int×Int×Int×Unit
abbrev Q23:=Int×(List Q2)×(List (List Int))×List Int×List ByteArray×Int×Int×Unit
abbrev Q24:=Int×(List Q2)×(List (List Int))×List Bool×List Int×Int×Int×Int×Unit
abbrev Q25:=Int×(List Q2)×(List (List Int))×List Int×List Bool×Int×Int×Int×Unit
abbrev Q26:=Int×(List Q2)×(List (List Int))×List Int×List ByteArray×Int×Int×Int×Unit
abbrev Q27:=Int×(List Q2)×(List (List Int))×List Int×List Int×Int×Int×Int×Int×Unit
abbrev Q28:=Int×(List Q2)×(List (List Int))×List Bool×Int×(List (List Int))×Int×Int×Unit
abbrev Q29:=Int×(List Q2)×(List (List Int))×List Int×List ByteArray×Int×List Int×Int×Unit
abbrev Q30:=Int×(List Q2)×(List (List Int))×List Bool×List Int×Int×List Int×Int×Int×Unit
abbrev Q31:=Int×(List Q2)×(List (List Int))×List Int×List ByteArray×Int×Int×Int×Int×Unit
abbrev Q32:=Int×(List Q2)×(List (List Int))×List Int×List ByteArray×Int×Int×Int×Bool×Unit
abbrev Q33:=Int×(List Q2)×(List (List Int))×List Int×List ByteArray×Int×List Int×Int×Int×Unit
abbrev Q34:=Int×(List Q2)×(List (List Int))×List Int×List Int×Int×Int×Int×Int×Int×Int×Unit
abbrev Q35:=Int×(List Q2)×(List (List Int))×List Int×List ByteArray×Int×(List (List Int))×Int×Unit
abbrev Q36:=Int×(List Q2)×(List (List Int))×List Int×List ByteArray×Int×Int×List Int×Int×Int×Unit
abbrev Q37:=Int×(List Q2)×(List (List Int))×List Int×List ByteArray×Int×List Int×Int×Int×Int×Unit
abbrev Q38:=Int×(List Q2)×(List (List Int))×List Bool×List Int×Int×Int×Int×List Int×Int×Int×Unit
abbrev Q39:=Int×(List Q2)×(List (List Int))×List Int×List ByteArray×Int×Int×Int×Int×Int×Int×Unit
abbrev Q40:=Int×(List Q2)×(List (List Int))×List Int×List ByteArray×Int×(List (List Int))×Int×Int×Unit
abbrev Q41:=Int×(List Q2)×(List (List Int))×List Int×List ByteArray×Int×List Int×List Int×List Int×Int×Unit
abbrev Q42:=Int×(List Q2)×(List (List Int))×List Int×List ByteArray×Int×List Int×(List (List Int))×Int×Int×Unit
abbrev Q43:=Int×(List Q2)×(List (List Int))×List Bool×Int×Int×(List (List Int))×Int×Int×List Int×Int×Int×Unit
abbrev Q44:=Int×(List Q2)×(List (List Int))×List Int×List ByteArray×Int×Int×Int×List Int×Int×Int×Int×Int×Unit
abbrev Q45:=Int×(List Q2)×(List (List Int))×List Int×List ByteArray×Int×Int×(List Q2)×(List (List Int))×Int×Int×Unit
abbrev Q46:=Int×(List Q2)×(List (List Int))×List Int×List ByteArray×Int×Int×Int×(List (List Int))×Bool×Int×Int×Unit
abbrev Q47:=Int×(List Q2)×(List (List Int))×List Int×List ByteArray×Int×List Int×Q7×List Int×(List (List Int))×Int×Int×Unit
abbrev Q48:=Int×(List Q2)×(List (List Int))×List Int×List ByteArray×Int×(List (List Int))×Int×Int×Int×Int×List Int×Int×Int×Unit
abbrev Q49:=Int×(List Q2)×(List (List Int))×List Int×List ByteArray×Int×List Int×Int×(List (List Int))×Int×Int×List Int×Int×Int×Unit
abbrev Q50:=Int×(List Q2)×(List (List Int))×List Int×List ByteArray×Int×Int×Int×Int×Int×(List (List Int))×(List Q2)×(List (List Int))×(List Q2)×Int×Int×Unit
abbrev Q51:=Int×(List Q2)×(List (List Int))×List Int×List ByteArray×Int×Int×(List Q2)×(List (List Int))×List Int×List ByteArray×Int×List Int×List Int×List Int×Int×Unit
abbrev Q52:=Int×(List Q2)×(List (List Int))×List Int×List ByteArray×Int×Int×(List Q2)×(List (List Int))×List Int×List ByteArray×Int×List Int×List Int×List Int×Int×Bool×Int×Unit
abbrev Q53:=Int×(List Q2)×(List (List Int))×List Int×List ByteArray×Int×Int×Int×Int×Int×(List (List Int))×Int×Int×List Int×Q7×(List Q2)×(List (List Int))×Int×(List Q2)×Int×Int×Unit
abbrev Q54:=Int×(List Q2)×(List (List Int))×List Int×List ByteArray×Int×Int×Int×Int×Int×(List (List Int))×(List Q2)×(List (List Int))×List Int×(List (List Int))×(List (List Int))×Int×Int×Unit
abbrev Q55:=Int×(List Q2)×(List (List Int))×List Int×List ByteArray×Int×Int×Int×Int×Int×(List (List Int))×List Int×(List Q2)×(List (List Int))×List Int×(List (List Int))×(List (List Int))×Int×Int×List Int×Int×Int×Unit
noncomputable section
def tab : Tab:=[(2,I),(3,I),(4,.bool),(5,(.int .u8)),(6,(.int .u8)),(7,(.prod I (.prod I (.prod .bool (.prod (.int .u8) .unit))))),(8,(.prod I (.prod I (.prod .bool (.prod (.int .u8) .unit))))),(9,.str),(10,.str),(11,.str),(12,(.int .u64)),(13,(.prod .str (.prod (.int .u64) .unit))),(14,(.prod .str (.prod (.int .u64) .unit))),(21,(.int .i32)),(22,(.slice yQ2)),(23,yQ3),(24,yQ6),(25,yQ6),(26,(.slice I)),(27,(.slice .str)),(28,yQ9),(29,yQ9),(32,I),(41,yQ2),(42,yQ2),(60,(.slice .bool)),(77,(.slice (.int .u8))),(81,(.arr 2 I)),(95,(.int .u32)),(96,(.int .u8)),(97,(.int .u8)),(100,(.int .i32)),(101,(.int .i32))]
def eqs : List Nat:=[]
def glob : List (Nat×(Σ t : Ty,t.den)):=[(0,⟨(.arr 2 I),[16384,32768]⟩)]
theorem am : SeatOK Tryd.prog tab eqs:=⟨by kernel_rfl,by kernel_rfl,by kernel_rfl⟩
abbrev Fn:=FnC Tryd.prog glob
def cx (l : List Fn) : Ctx:={ tab:=tab,con:=zC l,glob:=glob,eqs:=eqs }
set_option maxRecDepth 100000
def sb (x : Q12) : Option (Q12⊕((Bool×Unit)⊕(Unit⊕Empty))) :=
 let (a,b,c,d,_):=x; cond (ltI d (c.length : Nat)) ((aG c d).bind fun y1=>cond (gtI (y1.length : Nat) 100) (some (.inr (.inl (false,())))) (some (.inl (a,b,c,(ae .i64 d 1),())))) (some (.inr (.inr (.inl ()))))
def xD:=ab sb
def BM : Ann:=⟨sh [(1,.av (.ptr 1 0)),(3,.av (.val I))] [(1,.box [.val I,.val (.slice yQ2),.val yQ3])],[(.ret,sh [(2,.av (.val .bool))] []),(.exit 0,sh [] [])],xD⟩
def Zar (x : (Q9×Unit)) : Option (Bool×Unit) :=
 let ((a,b,c,_),_):=x; cond (gtI (b.length : Nat) 100) (some (false,())) (cond (gtI (c.length : Nat) 100) (some (false,())) ((xD (a,b,c,0,())).bind (Sum.elim (fun z2=>some (z2.1,())) (Sum.elim (fun z3=>some (true,())) (fun _=>none)))))
def GI : Fn:=mkF (cx []) [(4,BM)] 23 Tryd.f23 [(.rd,yQ6)] [(.tmp 2,true,.bool)] Zar [lp 4 BM sb] am ah rfl
def rR (x : Q26) : Option (Q26⊕((Int×Unit)⊕Empty)) :=
 let (a,b,c,d,e,f,g,h,_):=x; cond (ltI h (e.length : Nat)) ((aG e h).bind fun y1=>some (.inl (a,b,c,d,e,f,(ae .i64 g (y1.size : Nat)),(ae .i64 h 1),()))) (some (.inr (.inl (g,()))))
def vm:=ab rR
def BG : Ann:=⟨sh [(1,.av (.ptr 1 0)),(3,.av (.val I)),(4,.av (.val I))] [(1,.box [.val I,.val (.slice yQ2),.val yQ3,.val (.slice I),.val (.slice .str),.val I])],[(.exit 0,sh [(3,.av (.val I))] [])],vm⟩
def Zat (x : (Q10×Unit)) : Option (Bool×Unit) :=
 let (((a,b,c,_),d,e,f,_),_):=x; (Zar ((a,b,c,()),())).bind fun r1=>cond (!r1.1) (some (false,())) (cond (gtI (d.length : Nat) 200) (some (false,())) (cond (gtI (e.length : Nat) 200) (some (false,())) ((vm (a,b,c,d,e,f,0,0,())).bind (Sum.elim (fun z3=>some ((leI z3.1 400),())) (fun _=>none)))))
def GA : Fn:=mkF (cx [GI]) [(5,BG)] 8 Tryd.f8 [(.rd,yQ9)] [(.tmp 2,true,.bool)] Zat [lp 5 BG rR] am ah rfl
def Zbk (x : (Q2×Int×Unit)) : Option (Int×Unit) :=
 cond (eqI x.2.1 0) (some (x.1.1,())) (some (x.1.2.1,()))
def zW : Fn:=mkF (cx []) [] 81 Tryd.f81 [(.rd,yQ2),(.rd,I)] [(.tmp 4,true,I)] Zbk [] am ah rfl
def m9 (x : Q43) : Option (Q43⊕((Bool×Unit)⊕(Q28⊕Empty))) :=
 let (a,b,c,d,e,f,g,h,i,k,l,m,_):=x; cond (ltI m l) ((aG k m).bind fun y1=>cond (ltI y1 0) (some (.inr (.inl (false,())))) (cond (geI y1 (d.length : Nat)) (some (.inr (.inl (false,())))) ((aI d.length y1).bind fun j2=>(d[j2]?).bind fun y3=>cond y3 (some (.inr (.inl (false,())))) ((aG b (eZ .i64 y1 2)).bind fun y4=>(Zbk (y4,(cl y1 2),())).bind fun r5=>cond (neI r5.1 f) (some (.inr (.inl (false,())))) ((aI d.length y1).bind fun j6=>(d[j6]?).bind fun y7=>some (.inl (a,b,c,(d.set j6 true),(ae .i64 e 1),f,g,h,i,k,l,(ae .i64 m 1),()))))))) (some (.inr (.inr (.inl (a,b,c,d,e,g,h,i,())))))
def uD:=ab m9
def Aj : Ann:=⟨sh [(1,.av (.ptr 1 0)),(5,.av (.own 5)),(6,.av (.val I)),(7,.av (.val I)),(80,.av (.val yQ3)),(81,.av (.val I)),(82,.av (.val I)),(87,.av (.val (.slice I))),(88,.av (.val I)),(89,.av (.val I))] [(1,.box [.val I,.val (.slice yQ2),.val yQ3]),(5,.arr .bool)],[(.ret,sh [(2,.av (.val .bool))] []),(.exit 4,sh [(1,.av (.ptr 1 0)),(5,.av (.own 5)),(6,.av (.val I)),(80,.av (.val yQ3)),(81,.av (.val I)),(82,.av (.val I))] [(1,.box [.val I,.val (.slice yQ2),.val yQ3]),(5,.arr .bool)])],uD⟩
def nl (x : Q28) : Option (Q28⊕((Bool×Unit)⊕((List Bool×Int×Unit)⊕Empty))) :=
 let (a,b,c,d,e,f,g,h,_):=x; cond (ltI h g) ((aG f h).bind fun y1=>(uD (a,b,c,d,e,h,f,g,h,y1,(y1.length : Nat),0,())).bind (Sum.elim (fun z3=>some (.inr (.inl (z3.1,())))) (Sum.elim (fun (a_4,b_4,c_4,d_4,e_4,f_4,g_4,h_4,_)=>some (.inl (a_4,b_4,c_4,d_4,e_4,f_4,g_4,(ae .i64 h_4 1),()))) (fun _=>none)))) (some (.inr (.inr (.inl (d,e,())))))
def uJ:=ab nl
def zh : Ann:=⟨sh [(1,.av (.ptr 1 0)),(5,.av (.own 5)),(6,.av (.val I)),(80,.av (.val yQ3)),(81,.av (.val I)),(82,.av (.val I))] [(1,.box [.val I,.val (.slice yQ2),.val yQ3]),(5,.arr .bool)],[(.ret,sh [(2,.av (.val .bool))] []),(.exit 2,sh [(5,.av (.own 5)),(6,.av (.val I))] [(5,.arr .bool)])],uJ⟩
def sk (x : (Int×(List Q2)×(List (List Int))×(List Q2)×Int×Int×Unit)) : Option ((Int×(List Q2)×(List (List Int))×(List Q2)×Int×Int×Unit)⊕((Bool×Unit)⊕(Q9⊕Empty))) :=
 let (a,b,c,d,e,f,_):=x; cond (ltI f e) ((aG d f).bind fun y1=>cond (ltI y1.1 0) (some (.inr (.inl (false,())))) (cond (geI y1.1 a) (some (.inr (.inl (false,())))) (cond (ltI y1.2.1 0) (some (.inr (.inl (false,())))) (cond (geI y1.2.1 a) (some (.inr (.inl (false,())))) (cond (eqI y1.1 y1.2.1) (some (.inr (.inl (false,())))) (some (.inl (a,b,c,d,e,(ae .i64 f 1),())))))))) (some (.inr (.inr (.inl (a,b,c,())))))
def xP:=ab sk
def Eh : Ann:=⟨sh [(1,.av (.ptr 1 0)),(38,.av (.val (.slice yQ2))),(39,.av (.val I)),(40,.av (.val I))] [(1,.box [.val I,.val (.slice yQ2),.val yQ3])],[(.ret,sh [(2,.av (.val .bool))] []),(.exit 0,sh [(1,.av (.ptr 1 0))] [(1,.box [.val I,.val (.slice yQ2),.val yQ3])])],xP⟩
def Zbb (x : (Q9×Unit)) : Option (Bool×Unit) :=
 let ((a,b,c,_),_):=x; cond (ltI a 0) (some (false,())) ((aG [16384,32768] 0).bind fun y1=>cond (gtI a y1) (some (false,())) ((aG [16384,32768] 1).bind fun y2=>cond (gtI (b.length : Nat) y2) (some (false,())) (cond (neI (c.length : Nat) a) (some (false,())) ((xP (a,b,c,b,(b.length : Nat),0,())).bind (Sum.elim (fun z4=>some (z4.1,())) (Sum.elim (fun (a_5,b_5,c_5,_)=>(dF .bool (aQ .i64 2 (b_5.length : Nat)) (aQ .i64 2 (b_5.length : Nat))).bind fun m6=>(uJ (a_5,b_5,c_5,m6,0,c_5,(c_5.length : Nat),0,())).bind (Sum.elim (fun z8=>some (z8.1,())) (Sum.elim (fun z9=>some ((eqI z9.2.1 (z9.1.length : Nat)),())) (fun _=>none)))) (fun _=>none)))))))
def qg : Fn:=mkF (cx [zW]) [(4,Eh),(12,zh),(15,Aj)] 64 Tryd.f64 [(.rd,yQ6)] [(.tmp 2,true,.bool)] Zbb [lp 4 Eh sk,lp 12 zh nl,lp 15 Aj m9] am ah rfl
def Zbj (x : (Q9×Int×Unit)) : Option (Int×Unit) :=
 let ((a,b,c,_),d,_):=x; (Zbb ((a,b,c,()),())).bind fun r1=>cond (!r1.1) (some ((-1),())) (cond (ltI d 0) (some ((-1),())) (cond (geI d (aQ .i64 2 (b.length : Nat))) (some ((-1),())) ((aG b (eZ .i64 d 2)).bind fun y2=>(Zbk (y2,(cl d 2),())).bind fun r3=>some (r3.1,()))))
def DG : Fn:=mkF (cx [qg,zW]) [] 59 Tryd.f59 [(.rd,yQ6),(.rd,I)] [(.tmp 4,true,I)] Zbj [] am ah rfl
def nq (x : Q30) : Option (Q30⊕(Q14⊕Empty)) :=
 let (a,b,c,d,e,f,g,h,i,_):=x; cond (ltI i h) ((aG g i).bind fun y1=>(Zbj ((a,b,c,()),(iB .i64 y1 1),())).bind fun r2=>(aI d.length r2.1).bind fun j3=>(d[j3]?).bind fun y4=>cond (!y4) ((aI d.length r2.1).bind fun j5=>(d[j5]?).bind fun y6=>(app e [r2.1]).bind fun a7=>some (.inl (a,b,c,(d.set j5 true),a7,f,g,h,(ae .i64 i 1),()))) (some (.inl (a,b,c,d,e,f,g,h,(ae .i64 i 1),())))) (some (.inr (.inl (a,b,c,d,e,f,()))))
def uZ:=ab nq
def zB : Ann:=⟨sh [(1,.av (.ptr 1 0)),(3,.av (.own 3)),(4,.av (.own 4)),(5,.av (.val I)),(39,.av (.val (.slice I))),(40,.av (.val I)),(41,.av (.val I))] [(1,.box [.val I,.val (.slice yQ2),.val yQ3]),(3,.arr .bool),(4,.arr I)],[(.exit 2,sh [(1,.av (.ptr 1 0)),(3,.av (.own 3)),(4,.av (.own 4)),(5,.av (.val I))] [(1,.box [.val I,.val (.slice yQ2),.val yQ3]),(3,.arr .bool),(4,.arr I)])],uZ⟩
def rz (x : Q14) : Option (Q14⊕(Q12⊕Empty)) :=
 let (a,b,c,d,e,f,_):=x; cond (gtI (e.length : Nat) 0) ((aI e.length (bf .i64 (e.length : Nat) 1)).bind fun j1=>(e[j1]?).bind fun y2=>(iP e.length 0 (bf .i64 (e.length : Nat) 1)).bind fun v3=>(aG c y2).bind fun y4=>(uZ (a,b,c,d,((e.drop v3.1).take v3.2),(ae .i64 f 1),y4,(y4.length : Nat),0,())).bind (Sum.elim (fun (a_6,b_6,c_6,d_6,e_6,f_6,_)=>some (.inl (a_6,b_6,c_6,d_6,e_6,f_6,()))) (fun _=>none))) (some (.inr (.inl (a,b,c,f,()))))
def vl:=ab rz
def Ec : Ann:=⟨sh [(1,.av (.ptr 1 0)),(3,.av (.own 3)),(4,.av (.own 4)),(5,.av (.val I))] [(1,.box [.val I,.val (.slice yQ2),.val yQ3]),(3,.arr .bool),(4,.arr I)],[(.exit 0,sh [(1,.av (.ptr 1 0)),(5,.av (.val I))] [(1,.box [.val I,.val (.slice yQ2),.val yQ3])])],vl⟩
def Zav (x : (Q9×Unit)) : Option (Bool×Unit) :=
 let ((a,b,c,_),_):=x; cond (eqI a 0) (some (false,())) ((dF .bool a a).bind fun m1=>(aI m1.length 0).bind fun j2=>(m1[j2]?).bind fun y3=>(vl (a,b,c,(m1.set j2 true),[0],0,())).bind (Sum.elim (fun z5=>some ((eqI z5.2.2.2.1 z5.1),())) (fun _=>none)))
def GT : Fn:=mkF (cx [DG]) [(6,Ec),(11,zB)] 72 Tryd.f72 [(.rd,yQ6)] [(.tmp 2,true,.bool)] Zav [lp 6 Ec rz,lp 11 zB nq] am ah rfl
def sj (x : Q22) : Option (Q22⊕(Q11⊕Empty)) :=
 let (a,b,c,d,e,f,g,h,_):=x; cond (ltI h g) ((aG f h).bind fun y1=>cond (eqI (b.length : Nat) 0) none ((aG b (cl (ae .i64 h 1) (b.length : Nat))).bind fun y2=>(aI a.length (iB .i64 y1 1)).bind fun j3=>(a[j3]?).bind fun y4=>some (.inl ((a.set j3 y2),b,c,d,e,f,g,(ae .i64 h 1),())))) (some (.inr (.inl (a,c,d,e,()))))
def yS:=ab sj
def DS : Ann:=⟨sh [(3,.av (.own 3)),(5,.av (.val (.slice I))),(14,.av (.val yQ3)),(15,.av (.val I)),(16,.av (.val I)),(20,.av (.val (.slice I))),(21,.av (.val I)),(22,.av (.val I))] [(3,.arr I)],[(.exit 2,sh [(3,.av (.own 3)),(14,.av (.val yQ3)),(15,.av (.val I)),(16,.av (.val I))] [(3,.arr I)])],yS⟩
def sm (x : Q11) : Option (Q11⊕(Q1⊕Empty)) :=
 let (a,b,c,d,_):=x; cond (ltI d c) ((aG b d).bind fun y1=>(yS (a,y1,b,c,d,y1,(y1.length : Nat),0,())).bind (Sum.elim (fun z3=>some (.inl (z3.1,z3.2.1,z3.2.2.1,(ae .i64 z3.2.2.2.1 1),()))) (fun _=>none))) (some (.inr (.inl (a,()))))
def ud:=ab sm
def Dc : Ann:=⟨sh [(3,.av (.own 3)),(14,.av (.val yQ3)),(15,.av (.val I)),(16,.av (.val I))] [(3,.arr I)],[(.exit 0,sh [(3,.av (.own 3))] [(3,.arr I)])],ud⟩
def Zap (x : (Q9×Unit)) : Option Q1 :=
 let ((_,a,b,_),_):=x; (dF I (aQ .i64 2 (a.length : Nat)) (aQ .i64 2 (a.length : Nat))).bind fun m1=>(ud (m1,b,(b.length : Nat),0,())).bind (Sum.elim (fun z3=>some (z3.1,())) (fun _=>none))
def Gt : Fn:=mkF (cx []) [(3,Dc),(6,DS)] 65 Tryd.f65 [(.rd,yQ6)] [(.tmp 2,true,(.slice I))] Zap [lp 3 Dc sm,lp 6 DS sj] am ah rfl
def mT (x : Q16) : Option (Q16⊕((List Int×List Bool×(List (List Int))×List Int×Int×Int×Unit)⊕Empty)) :=
 let (a,b,c,d,e,f,g,_):=x; (aI b.length e).bind fun j1=>(b[j1]?).bind fun y2=>cond (!y2) ((aI b.length e).bind fun j3=>(b[j3]?).bind fun y4=>(app d [e]).bind fun a5=>(aI a.length e).bind fun j6=>(a[j6]?).bind fun y7=>some (.inl (a,(b.set j3 true),c,a5,y7,f,g,()))) (some (.inr (.inl (a,b,c,d,f,g,()))))
def ut:=ab mT
def zt : Ann:=⟨sh [(3,.av (.own 3)),(4,.av (.own 4)),(5,.av (.own 5)),(7,.av (.own 7)),(8,.av (.val I)),(18,.av (.val I)),(19,.av (.val I))] [(3,.arr I),(4,.arr .bool),(5,.arr (.slice I)),(7,.arr I)],[(.exit 2,sh [(3,.av (.own 3)),(4,.av (.own 4)),(5,.av (.own 5)),(7,.av (.own 7)),(18,.av (.val I)),(19,.av (.val I))] [(3,.arr I),(4,.arr .bool),(5,.arr (.slice I)),(7,.arr I)])],ut⟩
def sf (x : (List Int×List Bool×(List (List Int))×Int×Int×Unit)) : Option ((List Int×List Bool×(List (List Int))×Int×Int×Unit)⊕(Q5⊕Empty)) :=
 let (a,b,c,d,e,_):=x; cond (ltI e d) ((ut (a,b,c,[],e,d,e,())).bind (Sum.elim (fun (a_2,b_2,c_2,d_2,e_2,f_2,_)=>cond (gtI (d_2.length : Nat) 0) ((app c_2 [d_2]).bind fun a3=>some (.inl (a_2,b_2,a3,e_2,(ae .i64 f_2 1),()))) (some (.inl (a_2,b_2,c_2,e_2,(ae .i64 f_2 1),())))) (fun _=>none))) (some (.inr (.inl (c,()))))
def xL:=ab sf
def Dh : Ann:=⟨sh [(3,.av (.own 3)),(4,.av (.own 4)),(5,.av (.own 5)),(18,.av (.val I)),(19,.av (.val I))] [(3,.arr I),(4,.arr .bool),(5,.arr (.slice I))],[(.exit 0,sh [(5,.av (.own 5))] [(5,.arr (.slice I))])],xL⟩
def Zay (x : (Q9×Unit)) : Option Q5 :=
 let ((a,b,c,_),_):=x; (Zbb ((a,b,c,()),())).bind fun r1=>cond (!r1.1) (some ([],())) ((Zap ((a,b,c,()),())).bind fun r2=>(dF .bool (r2.1.length : Nat) (r2.1.length : Nat)).bind fun m3=>(xL (r2.1,m3,[],(r2.1.length : Nat),0,())).bind (Sum.elim (fun z5=>some (z5.1,())) (fun _=>none)))
def wL : Fn:=mkF (cx [qg,Gt]) [(7,Dh),(11,zt)] 39 Tryd.f39 [(.rd,yQ6)] [(.tmp 2,true,yQ3)] Zay [lp 7 Dh sf,lp 11 zt mT] am ah rfl
def si (x : Q38) : Option (Q38⊕(Q24⊕Empty)) :=
 let (a,b,c,d,e,f,g,h,i,k,l,_):=x; cond (ltI l k) ((aG i l).bind fun y1=>(aG b (eZ .i64 y1 2)).bind fun y2=>(Zbk (y2,(iB .i64 (cl y1 2) 1),())).bind fun r3=>(aI d.length r3.1).bind fun j4=>(d[j4]?).bind fun y5=>cond (!y5) ((aI d.length r3.1).bind fun j6=>(d[j6]?).bind fun y7=>(app e [r3.1]).bind fun a8=>some (.inl (a,b,c,(d.set j6 true),a8,f,g,h,i,k,(ae .i64 l 1),()))) (some (.inl (a,b,c,d,e,f,g,h,i,k,(ae .i64 l 1),())))) (some (.inr (.inl (a,b,c,d,e,f,g,h,()))))
def yV:=ab si
def Ej : Ann:=⟨sh [(1,.av (.ptr 1 0)),(3,.av (.own 3)),(4,.av (.val I)),(6,.av (.own 6)),(14,.av (.val I)),(15,.av (.val I)),(40,.av (.val (.slice I))),(41,.av (.val I)),(42,.av (.val I))] [(1,.box [.val I,.val (.slice yQ2),.val yQ3]),(3,.arr .bool),(6,.arr I)],[(.exit 4,sh [(1,.av (.ptr 1 0)),(3,.av (.own 3)),(4,.av (.val I)),(6,.av (.own 6)),(14,.av (.val I)),(15,.av (.val I))] [(1,.box [.val I,.val (.slice yQ2),.val yQ3]),(3,.arr .bool),(6,.arr I)])],yV⟩
def kr (x : Q24) : Option (Q24⊕(Q15⊕Empty)) :=
 let (a,b,c,d,e,f,g,h,_):=x; cond (gtI (e.length : Nat) 0) ((aI e.length 0).bind fun j1=>(e[j1]?).bind fun y2=>(aG c y2).bind fun y3=>(yV (a,b,c,d,e,f,g,h,y3,(y3.length : Nat),0,())).bind (Sum.elim (fun (a_5,b_5,c_5,d_5,e_5,f_5,g_5,h_5,_)=>(iP e_5.length 1 (e_5.length : Nat)).bind fun v6=>some (.inl (a_5,b_5,c_5,d_5,((e_5.drop v6.1).take v6.2),f_5,g_5,h_5,()))) (fun _=>none))) (some (.inr (.inl (a,b,c,d,f,g,h,()))))
def qO:=ab kr
def Dq : Ann:=⟨sh [(1,.av (.ptr 1 0)),(3,.av (.own 3)),(4,.av (.val I)),(6,.av (.own 6)),(14,.av (.val I)),(15,.av (.val I))] [(1,.box [.val I,.val (.slice yQ2),.val yQ3]),(3,.arr .bool),(6,.arr I)],[(.exit 2,sh [(1,.av (.ptr 1 0)),(3,.av (.own 3)),(4,.av (.val I)),(14,.av (.val I)),(15,.av (.val I))] [(1,.box [.val I,.val (.slice yQ2),.val yQ3]),(3,.arr .bool)])],qO⟩
def jM (x : Q15) : Option (Q15⊕((Int×Unit)⊕Empty)) :=
 let (a,b,c,d,e,f,g,_):=x; cond (ltI g f) ((aI d.length g).bind fun j1=>(d[j1]?).bind fun y2=>cond y2 (some (.inl (a,b,c,d,e,f,(ae .i64 g 1),()))) ((aI d.length g).bind fun j3=>(d[j3]?).bind fun y4=>(qO (a,b,c,(d.set j3 true),[g],(ae .i64 e 1),f,g,())).bind (Sum.elim (fun (a_6,b_6,c_6,d_6,e_6,f_6,g_6,_)=>some (.inl (a_6,b_6,c_6,d_6,e_6,f_6,(ae .i64 g_6 1),()))) (fun _=>none)))) (some (.inr (.inl (e,()))))
def tD:=ab jM
def FK : Ann:=⟨sh [(1,.av (.ptr 1 0)),(3,.av (.own 3)),(4,.av (.val I)),(14,.av (.val I)),(15,.av (.val I))] [(1,.box [.val I,.val (.slice yQ2),.val yQ3]),(3,.arr .bool)],[(.exit 0,sh [(4,.av (.val I))] [])],tD⟩
def Zn (x : (Q9×Unit)) : Option (Int×Unit) :=
 let ((a,b,c,_),_):=x; (dF .bool a a).bind fun m1=>(tD (a,b,c,m1,0,a,0,())).bind (Sum.elim (fun z3=>some (z3.1,())) (fun _=>none))
def He : Fn:=mkF (cx [zW]) [(4,FK),(10,Dq),(13,Ej)] 86 Tryd.f86 [(.rd,yQ6)] [(.tmp 2,true,I)] Zn [lp 4 FK jM,lp 10 Dq kr,lp 13 Ej si] am ah rfl
def km (x : Q20) : Option (Q20⊕(Q12⊕Empty)) :=
 let (a,b,c,d,e,f,g,_):=x; cond (ltI g f) ((aG e g).bind fun y1=>cond (eqI (y1.length : Nat) 0) (some (.inl (a,b,c,(ae .i64 d 1),e,f,(ae .i64 g 1),()))) (some (.inl (a,b,c,d,e,f,(ae .i64 g 1),())))) (some (.inr (.inl (a,b,c,d,()))))
def vf:=ab km
def Co : Ann:=⟨sh [(1,.av (.ptr 1 0)),(3,.av (.val I)),(13,.av (.val yQ3)),(14,.av (.val I)),(15,.av (.val I))] [(1,.box [.val I,.val (.slice yQ2),.val yQ3])],[(.exit 0,sh [(1,.av (.ptr 1 0)),(3,.av (.val I))] [(1,.box [.val I,.val (.slice yQ2),.val yQ3])])],vf⟩
def Zaw (x : (Q9×Unit)) : Option (Int×Unit) :=
 let ((a,b,c,_),_):=x; (Zbb ((a,b,c,()),())).bind fun r1=>cond (!r1.1) (some ((-1),())) ((Zay ((a,b,c,()),())).bind fun r2=>(vf (a,b,c,(r2.1.length : Nat),c,(c.length : Nat),0,())).bind (Sum.elim (fun z4=>(Zn ((z4.1,z4.2.1,z4.2.2.1,()),())).bind fun r5=>some ((bf .i64 r5.1 (eZ .i64 (ae .i64 (bf .i64 z4.1 (z4.2.1.length : Nat)) z4.2.2.2.1) 2)),())) (fun _=>none)))
def Gv : Fn:=mkF (cx [wL,qg,He]) [(5,Co)] 73 Tryd.f73 [(.rd,yQ6)] [(.tmp 2,true,I)] Zaw [lp 5 Co km] am ah rfl
def qB (x : Q49) : Option (Q49⊕((Bool×Unit)⊕((Int×(List Q2)×(List (List Int))×List Int×List ByteArray×Int×List Int×Int×(List (List Int))×Int×Int×Unit)⊕Empty))) :=
 let (a,b,c,d,e,f,g,h,i,k,l,m,n,o,_):=x; cond (ltI o n) ((aG m o).bind fun y1=>(aG d y1).bind fun y2=>cond (ltI y2 1) (some (.inr (.inl (false,())))) ((aG d y1).bind fun y3=>cond (gtI y3 4) (some (.inr (.inl (false,())))) ((aG d y1).bind fun y4=>some (.inl (a,b,c,d,e,f,g,(ae .i64 h y4),i,k,l,m,n,(ae .i64 o 1),()))))) (some (.inr (.inr (.inl (a,b,c,d,e,f,g,h,i,k,l,())))))
def yz:=ab qB
def DH : Ann:=⟨sh [(1,.av (.ptr 1 0)),(4,.av (.val (.slice I))),(5,.av (.val I)),(10,.av (.val yQ3)),(11,.av (.val I)),(12,.av (.val I)),(16,.av (.val (.slice I))),(17,.av (.val I)),(18,.av (.val I))] [(1,.box [.val I,.val (.slice yQ2),.val yQ3,.val (.slice I),.val (.slice .str),.val I])],[(.ret,sh [(2,.av (.val .bool))] []),(.exit 2,sh [(1,.av (.ptr 1 0)),(4,.av (.val (.slice I))),(5,.av (.val I)),(10,.av (.val yQ3)),(11,.av (.val I)),(12,.av (.val I))] [(1,.box [.val I,.val (.slice yQ2),.val yQ3,.val (.slice I),.val (.slice .str),.val I])])],yz⟩
def ru (x : Q40) : Option (Q40⊕((Bool×Unit)⊕(Unit⊕Empty))) :=
 let (a,b,c,d,e,f,g,h,i,_):=x; cond (ltI i h) ((aG g i).bind fun y1=>(yz (a,b,c,d,e,f,y1,0,g,h,i,y1,(y1.length : Nat),0,())).bind (Sum.elim (fun z3=>some (.inr (.inl (z3.1,())))) (Sum.elim (fun (a_4,b_4,c_4,d_4,e_4,f_4,g_4,h_4,i_4,k_4,l_4,_)=>cond (gtI (g_4.length : Nat) 0) (cond (neI h_4 4) (some (.inr (.inl (false,())))) (some (.inl (a_4,b_4,c_4,d_4,e_4,f_4,i_4,k_4,(ae .i64 l_4 1),())))) (some (.inl (a_4,b_4,c_4,d_4,e_4,f_4,i_4,k_4,(ae .i64 l_4 1),())))) (fun _=>none)))) (some (.inr (.inr (.inl ()))))
def yY:=ab ru
def DZ : Ann:=⟨sh [(1,.av (.ptr 1 0)),(10,.av (.val yQ3)),(11,.av (.val I)),(12,.av (.val I))] [(1,.box [.val I,.val (.slice yQ2),.val yQ3,.val (.slice I),.val (.slice .str),.val I])],[(.ret,sh [(2,.av (.val .bool))] []),(.exit 0,sh [] [])],yY⟩
def Zbl (x : (Q10×Unit)) : Option (Bool×Unit) :=
 let (((a,b,c,_),d,e,f,_),_):=x; (yY (a,b,c,d,e,f,c,(c.length : Nat),0,())).bind (Sum.elim (fun z2=>some (z2.1,())) (Sum.elim (fun z3=>some (true,())) (fun _=>none)))
def Gn : Fn:=mkF (cx []) [(2,DZ),(6,DH)] 74 Tryd.f74 [(.rd,yQ9)] [(.tmp 2,true,.bool)] Zbl [lp 2 DZ ru,lp 6 DH qB] am ah rfl
def Zbe (x : (Int×Unit)) : Option (Int×Bool×Unit) :=
 cond (eqI x.1 76) (some (82,true,())) (cond (eqI x.1 82) (some (76,true,())) (some (x.1,false,())))
def Fg : Fn:=mkF (cx []) [] 87 Tryd.f87 [(.rd,(.int .u8))] [(.tmp 2,true,(.int .u8)),(.tmp 3,true,.bool)] Zbe [] am ah rfl
def nL (x : Q6) : Option (Q6⊕((Bool×Unit)⊕(Unit⊕Empty))) :=
 let (a,b,c,_):=x; cond (ltI c b) ((aI a.length c).bind fun j1=>(a[j1]?).bind fun y2=>(Zbe (y2,())).bind fun r3=>cond (!r3.2.1) (some (.inr (.inl (false,())))) (some (.inl (a,b,(ae .i64 c 1),())))) (some (.inr (.inr (.inl ()))))
def uX:=ab nL
def Ek : Ann:=⟨sh [(11,.av (.own 11)),(12,.av (.val I)),(13,.av (.val I))] [(11,.arr (.int .u8))],[(.ret,sh [(2,.av (.val .bool))] []),(.exit 0,sh [] [])],uX⟩
def Zbv (x : Q3) : Option (Bool×Unit) :=
 cond (gtI (x.1.size : Nat) 64) (some (false,())) ((uX ((ar x.1),((ar x.1).length : Nat),0,())).bind (Sum.elim (fun z2=>some (z2.1,())) (Sum.elim (fun z3=>some (true,())) (fun _=>none))))
def GO : Fn:=mkF (cx [Fg]) [(4,Ek)] 75 Tryd.f75 [(.rd,.str)] [(.tmp 2,true,.bool)] Zbv [lp 4 Ek nL] am ah rfl
def FB (x : Q6) : Option (Q6⊕(Q1⊕Empty)) :=
 let (a,b,c,_):=x; cond (ltI b c) ((aI a.length c).bind fun j1=>(a[j1]?).bind fun y2=>(aI a.length b).bind fun j3=>(a[j3]?).bind fun y4=>(aI a.length b).bind fun j5=>(a[j5]?).bind fun y6=>(aI (a.set j5 y2).length c).bind fun j7=>((a.set j5 y2)[j7]?).bind fun y8=>some (.inl (((a.set j5 y2).set j7 y4),(ae .i64 b 1),(bf .i64 c 1),()))) (some (.inr (.inl (a,()))))
def C9:=ab FB
def FA : Ann:=⟨⟨[(0,.av (.own 0)),(2,.av (.val I)),(3,.av (.val I))],[(0,.arr (.int .u8))],[0]⟩,[(.exit 0,⟨[(0,.av (.own 0))],[(0,.arr (.int .u8))],[0]⟩)],C9⟩
def Zl (x : Q1) : Option Q1 :=
 (C9 (x.1,0,(bf .i64 (x.1.length : Nat) 1),())).bind (Sum.elim (fun z2=>some (z2.1,())) (fun _=>none))
def G9 : Fn:=mkF (cx []) [(1,FA)] 88 Tryd.f88 [(.upd,(.slice (.int .u8)))] [] Zl [lp 1 FA FB] am ah rfl
def nQ (x : Q6) : Option (Q6⊕(Q1⊕Empty)) :=
 let (a,b,c,_):=x; cond (ltI c b) ((aI a.length c).bind fun j1=>(a[j1]?).bind fun y2=>(Zbe (y2,())).bind fun r3=>(aI a.length c).bind fun j4=>(a[j4]?).bind fun y5=>some (.inl ((a.set j4 r3.1),b,(ae .i64 c 1),()))) (some (.inr (.inl (a,()))))
def vv:=ab nQ
def CI : Ann:=⟨sh [(3,.av (.own 3)),(10,.av (.own 3)),(11,.av (.val I)),(12,.av (.val I))] [(3,.arr (.int .u8))],[(.exit 0,sh [(3,.av (.own 3))] [(3,.arr (.int .u8))])],vv⟩
def Zbh (x : Q3) : Option Q3 :=
 (Zl ((ar x.1),())).bind fun r1=>(vv (r1.1,(r1.1.length : Nat),0,())).bind (Sum.elim (fun z3=>some ((de z3.1),())) (fun _=>none))
def Gs : Fn:=mkF (cx [Fg,G9]) [(4,CI)] 76 Tryd.f76 [(.rd,.str)] [(.tmp 2,true,.str)] Zbh [lp 4 CI nQ] am ah rfl
def jn (x : Q8) : Option (Q8⊕((Int×Unit)⊕(Unit⊕Empty))) :=
 let (a,b,c,d,_):=x; cond (ltI d c) ((aG a d).bind fun y1=>cond (eqI b y1) (some (.inr (.inl (d,())))) (some (.inl (a,b,c,(ae .i64 d 1),())))) (some (.inr (.inr (.inl ()))))
def qb:=ab jn
def Cb : Ann:=⟨sh [(0,.av (.val (.slice I))),(1,.av (.val I)),(7,.av (.val I)),(8,.av (.val I))] [],[(.ret,sh [(4,.av (.val I))] []),(.exit 0,sh [] [])],qb⟩
def Zak (x : Q4) : Option (Int×Unit) :=
 (qb (x.1,x.2.1,(x.1.length : Nat),0,())).bind (Sum.elim (fun z2=>some (z2.1,())) (Sum.elim (fun z3=>some ((-1),())) (fun _=>none)))
def wM : Fn:=mkF (cx []) [(2,Cb)] 66 Tryd.f66 [(.rd,(.slice I)),(.rd,I)] [(.tmp 4,true,I)] Zak [lp 2 Cb jn] am ah rfl
def Zm (x : Q4) : Option (Bool×Unit) :=
 (Zak (x.1,x.2.1,())).bind fun r1=>some ((geI r1.1 0),())
def FM : Fn:=mkF (cx [wM]) [] 40 Tryd.f40 [(.rd,(.slice I)),(.rd,I)] [(.tmp 4,true,.bool)] Zm [] am ah rfl
def qF (x : Q8) : Option (Q8⊕((Int×Unit)⊕Empty)) :=
 let (a,b,c,d,_):=x; cond (ltI d c) ((aI a.length d).bind fun j1=>(a[j1]?).bind fun y2=>cond (eqI y2 76) (some (.inl (a,(ae .i64 b 1),c,(ae .i64 d 1),()))) (some (.inl (a,(bf .i64 b 1),c,(ae .i64 d 1),())))) (some (.inr (.inl (b,()))))
def uI:=ab qF
def DC : Ann:=⟨sh [(5,.av (.val I)),(20,.av (.own 20)),(21,.av (.val I)),(22,.av (.val I))] [(20,.arr (.int .u8))],[(.exit 0,sh [(5,.av (.val I))] [])],uI⟩
def Zbu (x : (Q10×Int×Unit)) : Option (Int×Unit) :=
 (aG x.1.2.1 (iB .i64 x.2.1 1)).bind fun y1=>(aG x.1.2.2.1 x.2.1).bind fun y2=>(uI ((ar y2),(bf .i64 2 y1),((ar y2).length : Nat),0,())).bind (Sum.elim (fun z4=>some (z4.1,())) (fun _=>none))
def GM : Fn:=mkF (cx []) [(3,DC)] 89 Tryd.f89 [(.rd,yQ9),(.rd,I)] [(.tmp 4,true,I)] Zbu [lp 3 DC qF] am ah rfl
def qS (x : Q36) : Option (Q36⊕((Int×Unit)⊕Empty)) :=
 let (a,b,c,d,e,f,g,h,i,k,_):=x; cond (ltI k i) ((aG h k).bind fun y1=>(Zbu (((a,b,c,()),d,e,f,()),y1,())).bind fun r2=>some (.inl (a,b,c,d,e,f,(ae .i64 g r2.1),h,i,(ae .i64 k 1),()))) (some (.inr (.inl (g,()))))
def uA:=ab qS
def BD : Ann:=⟨sh [(2,.av (.ptr 2 0)),(5,.av (.val I)),(8,.av (.val (.slice I))),(9,.av (.val I)),(10,.av (.val I))] [(2,.box [.val I,.val (.slice yQ2),.val yQ3,.val (.slice I),.val (.slice .str),.val I])],[(.exit 0,sh [(5,.av (.val I))] [])],uA⟩
def Zbr (x : (Q10×List Int×Unit)) : Option (Int×Unit) :=
 let (((a,b,c,_),d,e,f,_),g,_):=x; (uA (a,b,c,d,e,f,0,g,(g.length : Nat),0,())).bind (Sum.elim (fun z2=>some (z2.1,())) (fun _=>none))
def GH : Fn:=mkF (cx [GM]) [(3,BD)] 77 Tryd.f77 [(.rd,yQ9),(.rd,(.slice I))] [(.tmp 4,true,I)] Zbr [lp 3 BD qS] am ah rfl
def np (x : Q40) : Option (Q40⊕((Bool×Unit)⊕(Unit⊕Empty))) :=
 let (a,b,c,d,e,f,g,h,i,_):=x; cond (ltI i h) ((aI g.length i).bind fun j1=>(g[j1]?).bind fun y2=>(Zm (y2,f,())).bind fun r3=>cond r3.1 ((Zbr (((a,b,c,()),d,e,f,()),y2,())).bind fun r4=>cond (neI r4.1 (-4)) (some (.inr (.inl (false,())))) (some (.inl (a,b,c,d,e,f,g,h,(ae .i64 i 1),())))) ((Zbr (((a,b,c,()),d,e,f,()),y2,())).bind fun r5=>cond (neI r5.1 4) (some (.inr (.inl (false,())))) (some (.inl (a,b,c,d,e,f,g,h,(ae .i64 i 1),()))))) (some (.inr (.inr (.inl ()))))
def pB:=ab np
def zL : Ann:=⟨sh [(1,.av (.ptr 1 0)),(85,.av (.own 85)),(86,.av (.val I)),(87,.av (.val I))] [(1,.box [.val I,.val (.slice yQ2),.val yQ3,.val (.slice I),.val (.slice .str),.val I]),(85,.arr (.slice I))],[(.ret,sh [(2,.av (.val .bool))] []),(.exit 2,sh [] [])],pB⟩
def qo (x : Q45) : Option (Q45⊕((Bool×Unit)⊕((Int×(List Q2)×(List (List Int))×List Int×List ByteArray×Int×Int×(List Q2)×(List (List Int))×Unit)⊕Empty))) :=
 let (a,b,c,d,e,f,g,h,i,k,l,_):=x; cond (ltI l k) ((aG e l).bind fun y1=>(Zbv (y1,())).bind fun r2=>cond (!r2.1) (some (.inr (.inl (false,())))) ((aG e (ae .i64 l 1)).bind fun y3=>(aG e l).bind fun y4=>(Zbh (y4,())).bind fun r5=>cond (neS y3 r5.1) (some (.inr (.inl (false,())))) (some (.inl (a,b,c,d,e,f,g,h,i,k,(ae .i64 l 2),()))))) (some (.inr (.inr (.inl (a,b,c,d,e,f,g,h,i,())))))
def oy:=ab qo
def CS : Ann:=⟨sh [(1,.av (.ptr 1 0)),(3,.av (.ptr 3 0)),(4,.av (.val I)),(5,.av (.val I))] [(1,.box [.val I,.val (.slice yQ2),.val yQ3,.val (.slice I),.val (.slice .str),.val I]),(3,.box [.val I,.val (.slice yQ2),.val yQ3])],[(.ret,sh [(2,.av (.val .bool))] []),(.exit 0,sh [(1,.av (.ptr 1 0)),(3,.av (.ptr 3 0))] [(1,.box [.val I,.val (.slice yQ2),.val yQ3,.val (.slice I),.val (.slice .str),.val I]),(3,.box [.val I,.val (.slice yQ2),.val yQ3])])],oy⟩
def Zbt (x : (Q10×Unit)) : Option (Bool×Unit) :=
 let (((a,b,c,_),d,e,f,_),_):=x; (Zbb ((a,b,c,()),())).bind fun r1=>cond (!r1.1) (some (false,())) ((Zav ((a,b,c,()),())).bind fun r2=>cond (!r2.1) (some (false,())) ((Zaw ((a,b,c,()),())).bind fun r3=>cond (neI r3.1 0) (some (false,())) (cond (neI (d.length : Nat) (aQ .i64 2 (b.length : Nat))) (some (false,())) (cond (neI (e.length : Nat) (aQ .i64 2 (b.length : Nat))) (some (false,())) (cond (ltI f 0) (some (false,())) (cond (geI f (jO (aQ .i64 2 (b.length : Nat)) 1)) (some (false,())) ((Zbl (((a,b,c,()),d,e,f,()),())).bind fun r4=>cond (!r4.1) (some (false,())) ((oy (a,b,c,d,e,f,a,b,c,(aQ .i64 2 (b.length : Nat)),0,())).bind (Sum.elim (fun z6=>some (z6.1,())) (Sum.elim (fun (a_7,b_7,c_7,d_7,e_7,f_7,g_7,h_7,i_7,_)=>(Zay ((g_7,h_7,i_7,()),())).bind fun r8=>(pB (a_7,b_7,c_7,d_7,e_7,f_7,r8.1,(r8.1.length : Nat),0,())).bind (Sum.elim (fun z10=>some (z10.1,())) (Sum.elim (fun z11=>some (true,())) (fun _=>none)))) (fun _=>none)))))))))))
def FH : Fn:=mkF (cx [wL,FM,qg,GT,Gv,Gn,GO,Gs,GH]) [(8,CS),(13,zL)] 50 Tryd.f50 [(.rd,yQ9)] [(.tmp 2,true,.bool)] Zbt [lp 8 CS qo,lp 13 zL np] am ah rfl
def Zbq (x : (Q10×Unit)) : Option (Int×Unit) :=
 let (((a,b,c,_),d,e,f,_),_):=x; (Zbt (((a,b,c,()),d,e,f,()),())).bind fun r1=>cond (!r1.1) (some (13,())) (some (0,()))
def BZ : Fn:=mkF (cx [FH]) [] 25 Tryd.f25 [(.rd,yQ9)] [(.tmp 2,true,I)] Zbq [] am ah rfl
def BB (x : Q47) : Option (Q47⊕(Q42⊕Empty)) :=
 let (a,b,c,d,e,f,g,h,i,k,l,m,_):=x; (xF .unit (.prod .str I) h).bind fun q1=>cond (nZ q1) ((aG i q1.2).bind fun y2=>(aG i (ae .i64 q1.2 1)).bind fun y3=>(aI g.length (ae .i64 y2 1)).bind fun j4=>(g[j4]?).bind fun y5=>(aI (g.set j4 1).length y3).bind fun j6=>((g.set j4 1)[j6]?).bind fun y7=>cond (eqI (lU q1) 82) ((aG i q1.2).bind fun y8=>(aG i (ae .i64 q1.2 1)).bind fun y9=>(aI ((g.set j4 1).set j6 3).length (ae .i64 y8 1)).bind fun j10=>(((g.set j4 1).set j6 3)[j10]?).bind fun y11=>(aI (((g.set j4 1).set j6 3).set j10 3).length y9).bind fun j12=>((((g.set j4 1).set j6 3).set j10 3)[j12]?).bind fun y13=>some (.inl (a,b,c,d,e,f,((((g.set j4 1).set j6 3).set j10 3).set j12 1),[((),ox q1)],i,k,l,m,()))) (some (.inl (a,b,c,d,e,f,((g.set j4 1).set j6 3),[((),ox q1)],i,k,l,m,())))) (some (.inr (.inl (a,b,c,d,e,f,g,k,l,m,()))))
def BH:=ab BB
def Do : Ann:=⟨sh [(3,.av (.ptr 3 0)),(7,.av (.own 7)),(9,.av (.val (.slice I))),(15,.av (.val yQ3)),(16,.av (.val I)),(17,.av (.val I)),(55,.av (.ownm 55))] [(3,.box [.val I,.val (.slice yQ2),.val yQ3,.val (.slice I),.val (.slice .str),.val I]),(7,.arr I),(55,.map .unit (.prod .str I))],[(.exit 2,sh [(3,.av (.ptr 3 0)),(7,.av (.own 7)),(15,.av (.val yQ3)),(16,.av (.val I)),(17,.av (.val I))] [(3,.box [.val I,.val (.slice yQ2),.val yQ3,.val (.slice I),.val (.slice .str),.val I]),(7,.arr I)])],BH⟩
def Cu (x : Q42) : Option (Q42⊕(Q1⊕Empty)) :=
 let (a,b,c,d,e,f,g,h,i,k,_):=x; cond (ltI k i) ((aG h k).bind fun y1=>(aG y1 0).bind fun y2=>(aG d (aQ .i64 2 k)).bind fun y3=>(aI g.length y2).bind fun j4=>(g[j4]?).bind fun y5=>(aG y1 (bf .i64 (y1.length : Nat) 1)).bind fun y6=>(aG d (ae .i64 (aQ .i64 2 k) 1)).bind fun y7=>(aI (g.set j4 y3).length (ae .i64 y6 1)).bind fun j8=>((g.set j4 y3)[j8]?).bind fun y9=>(aG e (aQ .i64 2 k)).bind fun y10=>(BH (a,b,c,d,e,f,((g.set j4 y3).set j8 y7),[((),y10,0)],y1,h,i,k,())).bind (Sum.elim (fun (a_12,b_12,c_12,d_12,e_12,f_12,g_12,h_12,i_12,k_12,_)=>some (.inl (a_12,b_12,c_12,d_12,e_12,f_12,g_12,h_12,i_12,(ae .i64 k_12 1),()))) (fun _=>none))) (some (.inr (.inl (g,()))))
def Di:=ab Cu
def D6 : Ann:=⟨sh [(3,.av (.ptr 3 0)),(7,.av (.own 7)),(15,.av (.val yQ3)),(16,.av (.val I)),(17,.av (.val I))] [(3,.box [.val I,.val (.slice yQ2),.val yQ3,.val (.slice I),.val (.slice .str),.val I]),(7,.arr I)],[(.exit 0,sh [(7,.av (.own 7))] [(7,.arr I)])],Di⟩
def Zbc (x : (Q10×(List (List Int))×Int×Unit)) : Option Q1 :=
 let (((a,b,c,_),d,e,f,_),g,h,_):=x; (dF I (aQ .i64 2 h) (aQ .i64 2 h)).bind fun m1=>(Di (a,b,c,d,e,f,m1,g,(g.length : Nat),0,())).bind (Sum.elim (fun z3=>some (z3.1,())) (fun _=>none))
def GG : Fn:=mkF (cx []) [(3,D6),(8,Do)] 26 Tryd.f26 [(.rd,yQ9),(.rd,yQ3),(.rd,I)] [(.tmp 6,true,(.slice I))] Zbc [lp 3 D6 Cu,lp 8 Do BB] am ah rfl
def Zi (x : (Int×(List (List Int))×Unit)) : Option (Int×Unit) :=
 let (a,b,_):=x; cond (eqI (cl a 2) 0) ((aG b (eZ .i64 a 2)).bind fun y1=>(aG y1 0).bind fun y2=>some (y2,())) ((aG b (eZ .i64 a 2)).bind fun y3=>(aG b (eZ .i64 a 2)).bind fun y4=>(aG y3 (bf .i64 (y4.length : Nat) 1)).bind fun y5=>some ((ae .i64 y5 1),()))
def Hq : Fn:=mkF (cx []) [] 27 Tryd.f27 [(.rd,I),(.rd,(.ptr yQ3))] [(.tmp 3,true,I)] Zi [] am ah rfl
def B9 (x : Q55) : Option (Q55⊕((Int×(List Q2)×(List (List Int))×List Int×List ByteArray×Int×Int×Int×Int×Int×(List (List Int))×List Int×(List Q2)×(List (List Int))×List Int×(List (List Int))×(List (List Int))×Int×Int×Unit)⊕Empty)) :=
 cond (ltI x.2.2.2.2.2.2.2.2.2.2.2.2.2.2.2.2.2.2.2.2.2.1 x.2.2.2.2.2.2.2.2.2.2.2.2.2.2.2.2.2.2.2.2.1) ((aG x.2.2.2.2.2.2.2.2.2.2.2.2.2.2.2.2.2.2.2.1 x.2.2.2.2.2.2.2.2.2.2.2.2.2.2.2.2.2.2.2.2.2.1).bind fun y1=>(Zi (y1,x.2.2.2.2.2.2.2.2.2.2.2.2.2.2.2.1,())).bind fun r2=>(app x.2.2.2.2.2.2.2.2.2.2.2.1 [r2.1]).bind fun a3=>some (.inl (x.1,x.2.1,x.2.2.1,x.2.2.2.1,x.2.2.2.2.1,x.2.2.2.2.2.1,x.2.2.2.2.2.2.1,x.2.2.2.2.2.2.2.1,x.2.2.2.2.2.2.2.2.1,x.2.2.2.2.2.2.2.2.2.1,x.2.2.2.2.2.2.2.2.2.2.1,a3,x.2.2.2.2.2.2.2.2.2.2.2.2.1,x.2.2.2.2.2.2.2.2.2.2.2.2.2.1,x.2.2.2.2.2.2.2.2.2.2.2.2.2.2.1,x.2.2.2.2.2.2.2.2.2.2.2.2.2.2.2.1,x.2.2.2.2.2.2.2.2.2.2.2.2.2.2.2.2.1,x.2.2.2.2.2.2.2.2.2.2.2.2.2.2.2.2.2.1,x.2.2.2.2.2.2.2.2.2.2.2.2.2.2.2.2.2.2.1,x.2.2.2.2.2.2.2.2.2.2.2.2.2.2.2.2.2.2.2.1,x.2.2.2.2.2.2.2.2.2.2.2.2.2.2.2.2.2.2.2.2.1,(ae .i64 x.2.2.2.2.2.2.2.2.2.2.2.2.2.2.2.2.2.2.2.2.2.1 1),()))) (some (.inr (.inl (x.1,x.2.1,x.2.2.1,x.2.2.2.1,x.2.2.2.2.1,x.2.2.2.2.2.1,x.2.2.2.2.2.2.1,x.2.2.2.2.2.2.2.1,x.2.2.2.2.2.2.2.2.1,x.2.2.2.2.2.2.2.2.2.1,x.2.2.2.2.2.2.2.2.2.2.1,x.2.2.2.2.2.2.2.2.2.2.2.1,x.2.2.2.2.2.2.2.2.2.2.2.2.1,x.2.2.2.2.2.2.2.2.2.2.2.2.2.1,x.2.2.2.2.2.2.2.2.2.2.2.2.2.2.1,x.2.2.2.2.2.2.2.2.2.2.2.2.2.2.2.1,x.2.2.2.2.2.2.2.2.2.2.2.2.2.2.2.2.1,x.2.2.2.2.2.2.2.2.2.2.2.2.2.2.2.2.2.1,x.2.2.2.2.2.2.2.2.2.2.2.2.2.2.2.2.2.2.1,()))))
def BQ:=ab B9
def BU : Ann:=⟨sh [(1,.av (.ptr 1 0)),(2,.av (.ptr 2 0)),(5,.av (.ptr 5 0)),(6,.av (.ptr 6 0)),(7,.av (.own 7)),(14,.av (.clo 27 [6])),(17,.av (.own 17)),(123,.av (.val yQ3)),(124,.av (.val I)),(125,.av (.val I)),(129,.av (.val (.slice I))),(130,.av (.val I)),(131,.av (.val I))] [(1,.box [.val I,.val (.slice yQ2),.val yQ3,.val (.slice I),.val (.slice .str),.val I]),(2,.box [.val I,.nils,.nils,.nils,.nils,.val I]),(5,.box [.val I,.own 600001,.own 600002,.own 600003,.nils,.val I]),(6,.box [.own 700000]),(7,.arr (.slice I)),(17,.arr I),(600001,.arr yQ2),(600002,.arr (.slice I)),(600003,.arr I),(700000,.arr (.slice I))],[(.exit 6,sh [(1,.av (.ptr 1 0)),(2,.av (.ptr 2 0)),(5,.av (.ptr 5 0)),(6,.av (.ptr 6 0)),(7,.av (.own 7)),(14,.av (.clo 27 [6])),(17,.av (.own 17)),(123,.av (.val yQ3)),(124,.av (.val I)),(125,.av (.val I))] [(1,.box [.val I,.val (.slice yQ2),.val yQ3,.val (.slice I),.val (.slice .str),.val I]),(2,.box [.val I,.nils,.nils,.nils,.nils,.val I]),(5,.box [.val I,.own 600001,.own 600002,.own 600003,.nils,.val I]),(6,.box [.own 700000]),(7,.arr (.slice I)),(17,.arr I),(600001,.arr yQ2),(600002,.arr (.slice I)),(600003,.arr I),(700000,.arr (.slice I))])],BQ⟩
def Dp (x : Q54) : Option (Q54⊕((Int×(List Q2)×(List (List Int))×List Int×List ByteArray×Int×Int×Int×Int×Int×(List (List Int))×(List Q2)×(List (List Int))×List Int×(List (List Int))×Unit)⊕Empty)) :=
 let (a,b,c,d,e,f,g,h,i,k,l,m,n,o,p,q,s,t,_):=x; cond (ltI t s) ((aG q t).bind fun y1=>(BQ (a,b,c,d,e,f,g,h,i,k,l,[],m,n,o,p,q,s,t,y1,(y1.length : Nat),0,())).bind (Sum.elim (fun (a_3,b_3,c_3,d_3,e_3,f_3,g_3,h_3,i_3,k_3,l_3,m_3,n_3,o_3,p_3,q_3,s_3,t_3,u_3,_)=>(app o_3 [m_3]).bind fun a4=>some (.inl (a_3,b_3,c_3,d_3,e_3,f_3,g_3,h_3,i_3,k_3,l_3,n_3,a4,p_3,q_3,s_3,t_3,(ae .i64 u_3 1),()))) (fun _=>none))) (some (.inr (.inl (a,b,c,d,e,f,g,h,i,k,l,m,n,o,p,()))))
def CK:=ab Dp
def C0 : Ann:=⟨sh [(1,.av (.ptr 1 0)),(2,.av (.ptr 2 0)),(5,.av (.ptr 5 0)),(6,.av (.ptr 6 0)),(7,.av (.own 7)),(14,.av (.clo 27 [6])),(123,.av (.val yQ3)),(124,.av (.val I)),(125,.av (.val I))] [(1,.box [.val I,.val (.slice yQ2),.val yQ3,.val (.slice I),.val (.slice .str),.val I]),(2,.box [.val I,.nils,.nils,.nils,.nils,.val I]),(5,.box [.val I,.own 600001,.own 600002,.own 600003,.nils,.val I]),(6,.box [.own 700000]),(7,.arr (.slice I)),(600001,.arr yQ2),(600002,.arr (.slice I)),(600003,.arr I),(700000,.arr (.slice I))],[(.exit 4,sh [(1,.av (.ptr 1 0)),(2,.av (.ptr 2 0)),(5,.av (.ptr 5 0)),(6,.av (.ptr 6 0)),(7,.av (.own 7)),(14,.av (.clo 27 [6]))] [(1,.box [.val I,.val (.slice yQ2),.val yQ3,.val (.slice I),.val (.slice .str),.val I]),(2,.box [.val I,.nils,.nils,.nils,.nils,.val I]),(5,.box [.val I,.own 600001,.own 600002,.own 600003,.nils,.val I]),(6,.box [.own 700000]),(7,.arr (.slice I)),(600001,.arr yQ2),(600002,.arr (.slice I)),(600003,.arr I),(700000,.arr (.slice I))])],CK⟩
def DT (x : Q53) : Option (Q53⊕((Int×(List Q2)×(List (List Int))×List Int×List ByteArray×Int×Int×Int×Int×Int×(List (List Int))×Int×Int×List Int×(List Q2)×(List (List Int))×Int×(List Q2)×Int×Int×Unit)⊕Empty)) :=
 (xF .unit (.prod .str I) x.2.2.2.2.2.2.2.2.2.2.2.2.2.2.1).bind fun q1=>cond (nZ q1) ((app x.2.2.2.2.2.2.2.2.2.2.2.2.2.1 [(aQ .i64 2 (x.2.2.2.2.2.2.2.2.2.2.2.2.2.2.2.1.length : Nat))]).bind fun a2=>(app x.2.2.2.2.2.2.2.2.2.2.2.2.2.2.2.1 [(x.2.2.2.2.2.2.2.2.2.2.2.2.2.2.2.2.2.1,x.2.2.2.2.2.2.2.2.1,())]).bind fun a3=>(app x.2.2.2.2.2.2.2.2.2.2.1 [[(ae .i64 (aQ .i64 2 (x.2.2.2.2.2.2.2.2.2.2.2.2.2.2.2.1.length : Nat)) 1),(ae .i64 (aQ .i64 2 (x.2.2.2.2.2.2.2.2.2.2.2.2.2.2.2.1.length : Nat)) 2)]]).bind fun a4=>some (.inl (x.1,x.2.1,x.2.2.1,x.2.2.2.1,x.2.2.2.2.1,x.2.2.2.2.2.1,x.2.2.2.2.2.2.1,x.2.2.2.2.2.2.2.1,(ae .i64 x.2.2.2.2.2.2.2.2.1 1),x.2.2.2.2.2.2.2.2.2.1,a4,x.2.2.2.2.2.2.2.2.2.2.2.1,x.2.2.2.2.2.2.2.2.2.2.2.2.1,a2,[((),ox q1)],a3,x.2.2.2.2.2.2.2.2.2.2.2.2.2.2.2.2.1,x.2.2.2.2.2.2.2.2.1,x.2.2.2.2.2.2.2.2.2.2.2.2.2.2.2.2.2.2.1,x.2.2.2.2.2.2.2.2.2.2.2.2.2.2.2.2.2.2.2.1,x.2.2.2.2.2.2.2.2.2.2.2.2.2.2.2.2.2.2.2.2.1,()))) (some (.inr (.inl (x.1,x.2.1,x.2.2.1,x.2.2.2.1,x.2.2.2.2.1,x.2.2.2.2.2.1,x.2.2.2.2.2.2.1,x.2.2.2.2.2.2.2.1,x.2.2.2.2.2.2.2.2.1,x.2.2.2.2.2.2.2.2.2.1,x.2.2.2.2.2.2.2.2.2.2.1,x.2.2.2.2.2.2.2.2.2.2.2.1,x.2.2.2.2.2.2.2.2.2.2.2.2.1,x.2.2.2.2.2.2.2.2.2.2.2.2.2.1,x.2.2.2.2.2.2.2.2.2.2.2.2.2.2.2.1,x.2.2.2.2.2.2.2.2.2.2.2.2.2.2.2.2.1,x.2.2.2.2.2.2.2.2.2.2.2.2.2.2.2.2.2.1,x.2.2.2.2.2.2.2.2.2.2.2.2.2.2.2.2.2.2.1,x.2.2.2.2.2.2.2.2.2.2.2.2.2.2.2.2.2.2.2.1,x.2.2.2.2.2.2.2.2.2.2.2.2.2.2.2.2.2.2.2.2.1,()))))
def BP:=ab DT
def DN : Ann:=⟨sh [(1,.av (.ptr 1 0)),(2,.av (.ptr 2 0)),(5,.av (.ptr 5 0)),(6,.av (.ptr 6 0)),(7,.av (.own 7)),(9,.av (.ptr 9 0)),(10,.av (.val I)),(11,.av (.own 11)),(31,.av (.val (.slice yQ2))),(32,.av (.val I)),(33,.av (.val I)),(46,.av (.ownm 46))] [(1,.box [.val I,.val (.slice yQ2),.val yQ3,.val (.slice I),.val (.slice .str),.val I]),(2,.box [.val I,.nils,.nils,.nils,.nils,.val I]),(5,.box [.val I,.own 600001,.nils,.nils,.nils,.val I]),(6,.box [.own 700000]),(7,.arr (.slice I)),(9,.box [.val I,.val I]),(11,.arr I),(46,.map .unit (.prod .str I)),(600001,.arr yQ2),(700000,.arr (.slice I))],[(.exit 2,sh [(1,.av (.ptr 1 0)),(2,.av (.ptr 2 0)),(5,.av (.ptr 5 0)),(6,.av (.ptr 6 0)),(7,.av (.own 7)),(9,.av (.ptr 9 0)),(10,.av (.val I)),(11,.av (.own 11)),(31,.av (.val (.slice yQ2))),(32,.av (.val I)),(33,.av (.val I))] [(1,.box [.val I,.val (.slice yQ2),.val yQ3,.val (.slice I),.val (.slice .str),.val I]),(2,.box [.val I,.nils,.nils,.nils,.nils,.val I]),(5,.box [.val I,.own 600001,.nils,.nils,.nils,.val I]),(6,.box [.own 700000]),(7,.arr (.slice I)),(9,.box [.val I,.val I]),(11,.arr I),(600001,.arr yQ2),(700000,.arr (.slice I))])],BP⟩
def FI (x : Q50) : Option (Q50⊕((Int×(List Q2)×(List (List Int))×List Int×List ByteArray×Int×Int×Int×Int×Int×(List (List Int))×(List Q2)×(List (List Int))×Unit)⊕Empty)) :=
 let (a,b,c,d,e,f,g,h,i,k,l,m,n,o,p,q,_):=x; cond (ltI q p) ((aG o q).bind fun y1=>(aG e (aQ .i64 2 q)).bind fun y2=>(BP (a,b,c,d,e,f,g,h,i,k,l,y1.1,y1.2.1,[],[((),y2,0)],m,n,y1.1,o,p,q,())).bind (Sum.elim (fun (a_4,b_4,c_4,d_4,e_4,f_4,g_4,h_4,i_4,k_4,l_4,_,m_4,n_4,o_4,p_4,q_4,s_4,t_4,u_4,_)=>(app n_4 [(aQ .i64 2 (o_4.length : Nat))]).bind fun a5=>(app o_4 [(q_4,m_4,())]).bind fun a6=>(app p_4 [a5]).bind fun a7=>some (.inl (a_4,b_4,c_4,d_4,e_4,f_4,g_4,h_4,i_4,k_4,l_4,a6,a7,s_4,t_4,(ae .i64 u_4 1),()))) (fun _=>none))) (some (.inr (.inl (a,b,c,d,e,f,g,h,i,k,l,m,n,()))))
def FC:=ab FI
def Fb : Ann:=⟨sh [(1,.av (.ptr 1 0)),(2,.av (.ptr 2 0)),(5,.av (.ptr 5 0)),(6,.av (.ptr 6 0)),(7,.av (.own 7)),(31,.av (.val (.slice yQ2))),(32,.av (.val I)),(33,.av (.val I))] [(1,.box [.val I,.val (.slice yQ2),.val yQ3,.val (.slice I),.val (.slice .str),.val I]),(2,.box [.val I,.nils,.nils,.nils,.nils,.val I]),(5,.box [.val I,.own 600001,.nils,.nils,.nils,.val I]),(6,.box [.own 700000]),(7,.arr (.slice I)),(600001,.arr yQ2),(700000,.arr (.slice I))],[(.exit 0,sh [(1,.av (.ptr 1 0)),(2,.av (.ptr 2 0)),(5,.av (.ptr 5 0)),(6,.av (.ptr 6 0)),(7,.av (.own 7))] [(1,.box [.val I,.val (.slice yQ2),.val yQ3,.val (.slice I),.val (.slice .str),.val I]),(2,.box [.val I,.nils,.nils,.nils,.nils,.val I]),(5,.box [.val I,.own 600001,.nils,.nils,.nils,.val I]),(6,.box [.own 700000]),(7,.arr (.slice I)),(600001,.arr yQ2),(700000,.arr (.slice I))])],FC⟩
def Zo (x : (Q10×Unit)) : Option (Q10×(List (List Int))×Int×Unit) :=
 let (((a,b,c,_),d,e,f,_),_):=x; (Zbq (((a,b,c,()),d,e,f,()),())).bind fun r1=>cond (neI r1.1 0) (some (((0,[],[],()),[],[],0,()),[],13,())) ((FC (a,b,c,d,e,f,0,0,a,0,[],[],[],b,(b.length : Nat),0,())).bind (Sum.elim (fun (a_3,b_3,c_3,d_3,e_3,f_3,g_3,h_3,i_3,k_3,l_3,m_3,n_3,_)=>(Zbc (((a_3,b_3,c_3,()),d_3,e_3,f_3,()),n_3,(m_3.length : Nat),())).bind fun r4=>(CK (a_3,b_3,c_3,d_3,e_3,f_3,g_3,h_3,i_3,k_3,l_3,m_3,[],r4.1,n_3,c_3,(c_3.length : Nat),0,())).bind (Sum.elim (fun (_,a_6,_,_,_,b_6,_,_,c_6,d_6,e_6,f_6,g_6,h_6,i_6,_)=>(app g_6 e_6).bind fun a7=>(dF .str (aQ .i64 2 (f_6.length : Nat)) (aQ .i64 2 (f_6.length : Nat))).bind fun m8=>cond (gtI (a_6.length : Nat) 0) ((Zi (b_6,i_6,())).bind fun r9=>some (((c_6,f_6,a7,()),h_6,m8,r9.1,()),i_6,0,())) (some (((c_6,f_6,a7,()),h_6,m8,d_6,()),i_6,0,()))) (fun _=>none))) (fun _=>none)))
def Hr : Fn:=mkF { cx [BZ,GG,Hq] with light:=[41],vars:=[2] } [(7,Fb),(12,DN),(27,C0),(31,BU)] 10 Tryd.f10 [(.rd,yQ9)] [(.cell 2 29,true,yQ9),(.tmp 3,true,yQ3),(.tmp 4,true,I)] Zo [lp 7 Fb FI,lp 12 DN DT,lp 27 C0 Dp,lp 31 BU B9] am ah rfl
def n7 (x : Q26) : Option (Q26⊕((Int×Unit)⊕Empty)) :=
 let (a,b,c,d,e,f,g,h,_):=x; cond (ltI h (e.length : Nat)) ((aG e h).bind fun y1=>some (.inl (a,b,c,d,e,f,(ae .i64 g (y1.size : Nat)),(ae .i64 h 2),()))) (some (.inr (.inl (g,()))))
def qd:=ab n7
def CA : Ann:=⟨sh [(1,.av (.ptr 1 0)),(3,.av (.val I)),(4,.av (.val I))] [(1,.box [.val I,.val (.slice yQ2),.val yQ3,.val (.slice I),.val (.slice .str),.val I])],[(.exit 0,sh [(3,.av (.val I))] [])],qd⟩
def Zbp (x : (Q10×Unit)) : Option (Int×Unit) :=
 let (((a,b,c,_),d,e,f,_),_):=x; (Zbt (((a,b,c,()),d,e,f,()),())).bind fun r1=>cond (!r1.1) (some (0,())) ((qd (a,b,c,d,e,f,0,0,())).bind (Sum.elim (fun z3=>some (z3.1,())) (fun _=>none)))
def FG : Fn:=mkF (cx [FH]) [(5,CA)] 36 Tryd.f36 [(.rd,yQ9)] [(.tmp 2,true,I)] Zbp [lp 5 CA n7] am ah rfl
def Zba (x : Unit) : Option (Q10×Unit) :=
 (dF .str 8 8).bind fun m1=>some (((4,[(0,1,()),(1,2,()),(2,3,()),(3,0,())],[[0,7],[2,1],[4,3],[6,5]],()),[3,1,3,1,3,1,3,1],m1,1,()),())
def Gl : Fn:=mkF (cx []) [] 37 Tryd.f37 [] [(.cell 0 29,true,yQ9)] Zba [] am ah rfl
def Zbf (x : (Q9×Int×Unit)) : Option (Int×Unit) :=
 let ((a,b,c,_),d,_):=x; (Zbb ((a,b,c,()),())).bind fun r1=>cond (!r1.1) (some ((-1),())) (cond (ltI d 0) (some ((-1),())) (cond (geI d (aQ .i64 2 (b.length : Nat))) (some ((-1),())) ((aG b (eZ .i64 d 2)).bind fun y2=>(Zbk (y2,(iB .i64 (cl d 2) 1),())).bind fun r3=>(aG c r3.1).bind fun y4=>(Zak (y4,(iB .i64 d 1),())).bind fun r5=>cond (eqI (y4.length : Nat) 0) none ((aG y4 (cl (ae .i64 r5.1 1) (y4.length : Nat))).bind fun y6=>some (y6,())))))
def Fc : Fn:=mkF (cx [qg,wM,zW]) [] 58 Tryd.f58 [(.rd,yQ6),(.rd,I)] [(.tmp 4,true,I)] Zbf [] am ah rfl
def mi (x : (Int×(List Q2)×(List (List Int))×Int×Int×Int×Unit)) : Option ((Int×(List Q2)×(List (List Int))×Int×Int×Int×Unit)⊕((Bool×Unit)⊕Empty)) :=
 let (a,b,c,d,e,f,_):=x; cond (eqI f e) (some (.inr (.inl (true,())))) ((Zbf ((a,b,c,()),f,())).bind fun r1=>cond (eqI r1.1 d) (some (.inr (.inl (false,())))) (some (.inl (a,b,c,d,e,r1.1,()))))
def yW:=ab mi
def Du : Ann:=⟨sh [(1,.av (.val I)),(2,.av (.val I)),(3,.av (.ptr 3 0)),(7,.av (.val I))] [(3,.box [.val I,.val (.slice yQ2),.val yQ3])],[(.ret,sh [(6,.av (.val .bool))] [])],yW⟩
def Zaj (x : (Q9×Int×Int×Unit)) : Option (Bool×Unit) :=
 let ((a,b,c,_),d,e,_):=x; (yW (a,b,c,d,e,d,())).bind (Sum.elim (fun z2=>some (z2.1,())) (fun _=>none))
def Gj : Fn:=mkF (cx [Fc]) [(2,Du)] 57 Tryd.f57 [(.rd,yQ6),(.rd,I),(.rd,I)] [(.tmp 6,true,.bool)] Zaj [lp 2 Du mi] am ah rfl
def Zag (x : ((List Q2)×Unit)) : Option ((List Q2)×Unit) :=
 cond x.1.isEmpty (kb (some ([],())) ((app [] x.1).bind fun a1=>some (a1,()))) ((app [] x.1).bind fun a1=>some (a1,()))
def Ff : Fn:=mkF (cx []) [] 60 Tryd.f60 [(.rd,(.slice yQ2))] [(.tmp 2,true,(.slice yQ2))] Zag [] am ah rfl
def Zf (x : Q5) : Option Q5 :=
 cond x.1.isEmpty (kb (some ([],())) ((app [] x.1).bind fun a1=>some (a1,()))) ((app [] x.1).bind fun a1=>some (a1,()))
def Hf : Fn:=mkF (cx []) [] 61 Tryd.f61 [(.rd,yQ3)] [(.tmp 2,true,yQ3)] Zf [] am ah rfl
def Zah (x : Q1) : Option Q1 :=
 cond x.1.isEmpty (kb (some ([],())) ((app [] x.1).bind fun a1=>some (a1,()))) ((app [] x.1).bind fun a1=>some (a1,()))
def zj : Fn:=mkF (cx []) [] 62 Tryd.f62 [(.rd,(.slice I))] [(.tmp 2,true,(.slice I))] Zah [] am ah rfl
def Zac (x : (List Int×Int×List Int×Unit)) : Option Q1:=insertC.fn x
def Ft : Fn:=⟨82,insertC,AR glob⟩
def Zbs (x : Q6) : Option Q1 :=
 (Zah (x.1,())).bind fun r1=>(Zak (x.1,x.2.2.1,())).bind fun r2=>(Zac (r1.1,r2.1,[x.2.1],())).bind fun r3=>some (r3.1,())
def GQ : Fn:=mkF (cx [zj,wM,Ft]) [] 63 Tryd.f63 [(.rd,(.slice I)),(.rd,I),(.rd,I)] [(.tmp 6,true,(.slice I))] Zbs [] am ah rfl
def ub (x : Q39) : Option (Q39⊕(Q31⊕Empty)) :=
 let (a,b,c,d,e,f,g,h,i,k,l,_):=x; cond (ltI l k) ((aG d (iB .i64 l 1)).bind fun y1=>cond (gtI y1 2) ((Zaj ((a,b,c,()),l,f,())).bind fun r2=>cond r2.1 (some (.inr (.inl (a,b,c,d,e,f,g,h,l,())))) (some (.inl (a,b,c,d,e,f,g,h,i,k,(ae .i64 l 1),())))) (some (.inl (a,b,c,d,e,f,g,h,i,k,(ae .i64 l 1),())))) (some (.inr (.inl (a,b,c,d,e,f,g,h,i,()))))
def rT:=ab ub
def Ck : Ann:=⟨sh [(1,.av (.ptr 1 0)),(2,.av (.ptr 2 0)),(3,.av (.val I)),(13,.av (.val I)),(14,.av (.val I))] [(1,.box [.val I,.val (.slice yQ2),.val yQ3,.val (.slice I),.val (.slice .str),.val I]),(2,.box [.val I,.nils,.nils,.nils,.nils,.val I])],[(.exit 0,sh [(1,.av (.ptr 1 0)),(2,.av (.ptr 2 0)),(3,.av (.val I))] [(1,.box [.val I,.val (.slice yQ2),.val yQ3,.val (.slice I),.val (.slice .str),.val I]),(2,.box [.val I,.nils,.nils,.nils,.nils,.val I])])],rT⟩
def Zaq (x : (Q10×Unit)) : Option (Q10×Unit) :=
 let (((a,b,c,_),d,e,f,_),_):=x; (rT (a,b,c,d,e,f,0,0,(-1),(d.length : Nat),0,())).bind (Sum.elim (fun (a_2,b_2,c_2,d_2,_,_,_,_,e_2,_)=>(Zbf ((a_2,b_2,c_2,()),e_2,())).bind fun r3=>(Zbj ((a_2,b_2,c_2,()),r3.1,())).bind fun r4=>(Zag (b_2,())).bind fun r5=>(Zf (c_2,())).bind fun r6=>(Zah (d_2,())).bind fun r7=>(app r5.1 [(r4.1,a_2,()),(a_2,(ae .i64 a_2 1),()),((ae .i64 a_2 1),(ae .i64 a_2 2),()),((ae .i64 a_2 2),(ae .i64 a_2 3),()),((ae .i64 a_2 3),(ae .i64 a_2 4),()),((ae .i64 a_2 4),a_2,())]).bind fun a8=>(aG c_2 r4.1).bind fun y9=>(Zbs (y9,(aQ .i64 2 (b_2.length : Nat)),r3.1,())).bind fun r10=>(aI r6.1.length r4.1).bind fun j11=>(r6.1[j11]?).bind fun y12=>(aG d_2 (iB .i64 e_2 1)).bind fun y13=>(aI r7.1.length (iB .i64 e_2 1)).bind fun j14=>(r7.1[j14]?).bind fun y15=>(app (r6.1.set j11 r10.1) [[(ae .i64 (aQ .i64 2 (b_2.length : Nat)) 2),(ae .i64 (aQ .i64 2 (b_2.length : Nat)) 11),(ae .i64 (aQ .i64 2 (b_2.length : Nat)) 1)],[(ae .i64 (aQ .i64 2 (b_2.length : Nat)) 3),(ae .i64 (aQ .i64 2 (b_2.length : Nat)) 4)],[(ae .i64 (aQ .i64 2 (b_2.length : Nat)) 5),(ae .i64 (aQ .i64 2 (b_2.length : Nat)) 6)],[(ae .i64 (aQ .i64 2 (b_2.length : Nat)) 7),(ae .i64 (aQ .i64 2 (b_2.length : Nat)) 8)],[(ae .i64 (aQ .i64 2 (b_2.length : Nat)) 9),(ae .i64 (aQ .i64 2 (b_2.length : Nat)) 10)]]).bind fun a16=>(app (r7.1.set j14 2) [(bf .i64 y13 2),1,2,1,3,1,3,1,3,1,3,1]).bind fun a17=>(dF .str (a17.length : Nat) (a17.length : Nat)).bind fun m18=>some ((((ae .i64 a_2 5),a8,a16,()),a17,m18,(ae .i64 (aQ .i64 2 (b_2.length : Nat)) 3),()),())) (fun _=>none))
def Gz : Fn:=mkF (cx [Gj,Fc,DG,Ff,Hf,zj,GQ]) [(3,Ck)] 38 Tryd.f38 [(.rd,yQ9)] [(.cell 2 29,true,yQ9)] Zaq [lp 3 Ck ub] am ah rfl
def Zal (x : (Int×Q10×Unit)) : Option (Bool×Unit) :=
 (aG x.2.1.2.1 (iB .i64 x.1 1)).bind fun y1=>some ((gtI y1 2),())
def GS : Fn:=mkF (cx []) [] 68 Tryd.f68 [(.rd,I),(.rd,(.ptr yQ9))] [(.tmp 3,true,.bool)] Zal [] am ah rfl
def qc (x : (List Int×(Q10×Unit)×Int×Int×Unit)) : Option ((List Int×(Q10×Unit)×Int×Int×Unit)⊕((Int×Unit)⊕(Unit⊕Empty))) :=
 let (a,b,c,d,_):=x; cond (ltI d c) ((aG a d).bind fun y1=>(Zal (y1,b.1,())).bind fun r2=>cond r2.1 (some (.inr (.inl (d,())))) (some (.inl (a,b,c,(ae .i64 d 1),())))) (some (.inr (.inr (.inl ()))))
def sO:=ab qc
def Fw : Ann:=⟨sh [(0,.av (.val (.slice I))),(1,.av (.val (.clo 68 (.prod (.ptr yQ9) .unit)))),(7,.av (.val I)),(8,.av (.val I))] [],[(.ret,sh [(4,.av (.val I))] []),(.exit 0,sh [] [])],sO⟩
def Za (x : (List Int×(Q10×Unit)×Unit)) : Option (Int×Unit) :=
 (sO (x.1,x.2.1,(x.1.length : Nat),0,())).bind (Sum.elim (fun z2=>some (z2.1,())) (Sum.elim (fun z3=>some ((-1),())) (fun _=>none)))
def G6 : Fn:=mkF (cx [GS]) [(2,Fw)] 67 Tryd.f67 [(.rd,(.slice I)),(.rd,(.clo 68 (.prod (.ptr yQ9) .unit)))] [(.tmp 4,true,I)] Za [lp 2 Fw qc] am ah rfl
def Zax (x : (Q10×List Int×Unit)) : Option (Int×Unit) :=
 let (((a,b,c,_),d,e,f,_),g,_):=x; (Za (g,(((a,b,c,()),d,e,f,()),()),())).bind fun r1=>some (r1.1,())
def GE : Fn:=mkF (cx [G6]) [] 41 Tryd.f41 [(.rd,yQ9),(.rd,(.slice I))] [(.tmp 4,true,I)] Zax [] am ah rfl
def pO (x : Q21) : Option (Q21⊕((Int×Int×(List Q2)×(List (List Int))×Unit)⊕Empty)) :=
 let (a,b,c,d,e,f,g,_):=x; cond (ltI g f) ((aG e g).bind fun y1=>(Zah (y1,())).bind fun r2=>(app d [r2.1]).bind fun a3=>some (.inl (a,b,c,a3,e,f,(ae .i64 g 1),()))) (some (.inr (.inl (a,b,c,d,()))))
def yl:=ab pO
def D2 : Ann:=⟨sh [(2,.av (.ptr 2 0)),(3,.av (.ptr 3 0)),(13,.av (.val yQ3)),(14,.av (.val I)),(15,.av (.val I))] [(2,.box [.val I,.nils,.nils]),(3,.box [.val I,.own 400001,.ownd 400002]),(400001,.arr yQ2),(400002,.deep I)],[(.exit 0,sh [(2,.av (.ptr 2 0)),(3,.av (.ptr 3 0))] [(2,.box [.val I,.nils,.nils]),(3,.box [.val I,.own 400001,.ownd 400002]),(400001,.arr yQ2),(400002,.deep I)])],yl⟩
def Zbg (x : (Q9×Unit)) : Option (Q9×Unit) :=
 let ((a,b,c,_),_):=x; (Zag (b,())).bind fun r1=>(yl (0,a,r1.1,[],c,(c.length : Nat),0,())).bind (Sum.elim (fun z3=>some ((z3.2.1,z3.2.2.1,z3.2.2.2.1,()),())) (fun _=>none))
def Fu : Fn:=mkF { cx [Ff,zj] with deep:=[23] } [(3,D2)] 83 Tryd.f83 [(.rd,yQ6)] [(.cell 2 25,true,yQ6)] Zbg [lp 3 D2 pO] am ah rfl (d:=true)
def Zbm (x : (Q9×Int×Unit)) : Option (Q9×Int×Unit) :=
 let ((a,b,c,_),d,_):=x; (Zbb ((a,b,c,()),())).bind fun r1=>cond (!r1.1) (some ((0,[],[],()),13,())) (cond (ltI d 0) (some ((0,[],[],()),3,())) (cond (geI d (b.length : Nat)) (some ((0,[],[],()),3,())) (cond (geI a 16384) (some ((0,[],[],()),2,())) (cond (geI (b.length : Nat) 32768) (some ((0,[],[],()),2,())) ((Zbg ((a,b,c,()),())).bind fun r2=>(aG b d).bind fun y3=>(aI r2.1.2.1.length d).bind fun j4=>(r2.1.2.1[j4]?).bind fun y5=>(app (r2.1.2.1.set j4 (y5.1,a,y5.2.2)) [(a,y3.2.1,())]).bind fun a6=>(aI r2.1.2.2.1.length y3.2.1).bind fun j7=>(Zak ((cz r2.1.2.2.1 j7),(ae .i64 (aQ .i64 2 d) 1),())).bind fun r8=>(aI (cz r2.1.2.2.1 j7).length r8.1).bind fun j9=>(app (r2.1.2.2.1.set j7 ((cz r2.1.2.2.1 j7).set j9 (ae .i64 (aQ .i64 2 (b.length : Nat)) 1))) [[(ae .i64 (aQ .i64 2 d) 1),(aQ .i64 2 (b.length : Nat))]]).bind fun a10=>some (((ae .i64 r2.1.1 1),a6,a10,()),0,()))))))
def GU : Fn:=mkF { cx [qg,wM,Fu] with deep:=[87] } [] 69 Tryd.f69 [(.rd,yQ6),(.rd,I)] [(.cell 4 25,true,yQ6),(.tmp 5,true,I)] Zbm [] am ah rfl (d:=true)
def Zam (x : (Int×Int×Int×Unit)) : Option (Int×Unit) :=
 cond (eqI x.1 (ae .i64 (aQ .i64 2 x.2.1) 1)) (some ((ae .i64 x.2.2.1 1),())) (some (x.1,()))
def GP : Fn:=mkF (cx []) [] 70 Tryd.f70 [(.rd,I),(.rd,(.ptr I)),(.rd,(.ptr I))] [(.tmp 4,true,I)] Zam [] am ah rfl
def ri (x : Q17) : Option (Q17⊕(Q11⊕Empty)) :=
 let (a,b,c,d,e,f,g,h,_):=x; cond (ltI h g) ((aG f h).bind fun y1=>(aI a.length y1).bind fun j2=>(a[j2]?).bind fun y3=>some (.inl ((a.set j2 c),b,c,d,e,f,g,(ae .i64 h 1),()))) (some (.inr (.inl (a,b,d,e,()))))
def uU:=ab ri
def Df : Ann:=⟨sh [(3,.av (.own 3)),(4,.av (.val I)),(14,.av (.own 14)),(15,.av (.val I)),(16,.av (.val I)),(21,.av (.val (.slice I))),(22,.av (.val I)),(23,.av (.val I))] [(3,.arr I),(14,.arr (.slice I))],[(.exit 2,sh [(3,.av (.own 3)),(14,.av (.own 14)),(15,.av (.val I)),(16,.av (.val I))] [(3,.arr I),(14,.arr (.slice I))])],uU⟩
def rY (x : Q11) : Option (Q11⊕(Q1⊕Empty)) :=
 let (a,b,c,d,_):=x; cond (ltI d c) ((aI b.length d).bind fun j1=>(b[j1]?).bind fun y2=>(uU (a,b,d,c,d,y2,(y2.length : Nat),0,())).bind (Sum.elim (fun z4=>some (.inl (z4.1,z4.2.1,z4.2.2.1,(ae .i64 z4.2.2.2.1 1),()))) (fun _=>none))) (some (.inr (.inl (a,()))))
def yX:=ab rY
def C4 : Ann:=⟨sh [(3,.av (.own 3)),(14,.av (.own 14)),(15,.av (.val I)),(16,.av (.val I))] [(3,.arr I),(14,.arr (.slice I))],[(.exit 0,sh [(3,.av (.own 3))] [(3,.arr I)])],yX⟩
def Zbn (x : (Q9×Unit)) : Option Q1 :=
 let ((a,b,c,_),_):=x; (dF I (aQ .i64 2 (b.length : Nat)) (aQ .i64 2 (b.length : Nat))).bind fun m1=>(Zay ((a,b,c,()),())).bind fun r2=>(yX (m1,r2.1,(r2.1.length : Nat),0,())).bind (Sum.elim (fun z4=>some (z4.1,())) (fun _=>none))
def GY : Fn:=mkF (cx [wL]) [(3,C4),(6,Df)] 84 Tryd.f84 [(.rd,yQ6)] [(.tmp 2,true,(.slice I))] Zbn [lp 3 C4 rY,lp 6 Df ri] am ah rfl
def Zbi (x : Q6) : Option Q1 :=
 (Zak (x.1,x.2.2.1,())).bind fun r1=>(Zac (x.1,r1.1,[x.2.1],())).bind fun r2=>some (r2.1,())
def GX : Fn:=mkF (cx [wM,Ft]) [] 85 Tryd.f85 [(.take,(.slice I)),(.rd,I),(.rd,I)] [(.tmp 6,true,(.slice I))] Zbi [] am ah rfl
def Zbo (x : (Q9×Int×Int×Unit)) : Option (Q9×Int×Unit) :=
 let ((a,b,c,_),d,e,_):=x; (Zbb ((a,b,c,()),())).bind fun r1=>cond (!r1.1) (some ((0,[],[],()),13,())) (cond (ltI (sE d e) 0) (some ((0,[],[],()),3,())) (cond (geI (jO d e) (aQ .i64 2 (b.length : Nat))) (some ((0,[],[],()),3,())) ((Zbj ((a,b,c,()),d,())).bind fun r2=>(Zbj ((a,b,c,()),e,())).bind fun r3=>cond (eqI r2.1 r3.1) (some ((0,[],[],()),8,())) ((Zbn ((a,b,c,()),())).bind fun r4=>(aI r4.1.length d).bind fun j5=>(r4.1[j5]?).bind fun y6=>(aI r4.1.length e).bind fun j7=>(r4.1[j7]?).bind fun y8=>cond (neI y6 y8) (some ((0,[],[],()),15,())) (cond (geI (b.length : Nat) 32768) (some ((0,[],[],()),2,())) ((Zbg ((a,b,c,()),())).bind fun r9=>(app r9.1.2.1 [(r2.1,r3.1,())]).bind fun a10=>(aI r9.1.2.2.1.length r2.1).bind fun j11=>(Zbi ((cz r9.1.2.2.1 j11),(aQ .i64 2 (b.length : Nat)),d,())).bind fun r12=>(aI r9.1.2.2.1.length r2.1).bind fun j13=>if j11=j13 then (aI (r9.1.2.2.1.set j13 r12.1).length r3.1).bind fun j14=>(Zbi ((cz (r9.1.2.2.1.set j13 r12.1) j14),(ae .i64 (aQ .i64 2 (b.length : Nat)) 1),e,())).bind fun r15=>(aI (r9.1.2.2.1.set j13 r12.1).length r3.1).bind fun j16=>if j14=j16 then some ((r9.1.1,a10,((r9.1.2.2.1.set j13 r12.1).set j16 r15.1),()),0,()) else none else none))))))
def Gy : Fn:=mkF { cx [DG,qg,Fu,GY,GX] with light:=[16,17] } [] 71 Tryd.f71 [(.rd,yQ6),(.rd,I),(.rd,I)] [(.cell 6 25,false,yQ6),(.tmp 7,true,I)] Zbo [] am ah rfl
def vw (x : Q44) : Option (Q44⊕((Int×Int×Int×Unit)⊕((Int×(List Q2)×(List (List Int))×List Int×List ByteArray×Int×Int×Int×List Int×Int×Int×Int×Unit)⊕Empty))) :=
 let (a,b,c,d,e,f,g,h,i,k,l,m,n,_):=x; cond (neI n 1) (cond (eqI l 0) none ((aG i (cl m l)).bind fun y1=>(aG d (iB .i64 y1 1)).bind fun y2=>cond (gtI (ae .i64 m 1) (ae .i64 k l)) (some (.inr (.inl (0,0,13,())))) (some (.inl (a,b,c,d,e,f,g,h,i,k,l,(ae .i64 m 1),(ae .i64 n (bf .i64 2 y2)),()))))) (some (.inr (.inr (.inl (a,b,c,d,e,f,g,h,i,k,l,m,())))))
def uv:=ab vw
def Ct : Ann:=⟨sh [(1,.av (.val (.slice I))),(2,.av (.val I)),(3,.av (.ptr 3 0)),(6,.av (.ptr 6 0)),(8,.av (.val I)),(9,.av (.val I)),(10,.av (.val I))] [(3,.box [.val I,.val (.slice yQ2),.val yQ3,.val (.slice I),.val (.slice .str),.val I]),(6,.box [.val I,.nils,.nils,.nils,.nils,.val I])],[(.ret,sh [(6,.av (.ptr 6 0)),(7,.av (.val I))] [(6,.box [.val I,.nils,.nils,.nils,.nils,.val I])]),(.exit 0,sh [(1,.av (.val (.slice I))),(2,.av (.val I)),(3,.av (.ptr 3 0)),(6,.av (.ptr 6 0)),(8,.av (.val I)),(9,.av (.val I))] [(3,.box [.val I,.val (.slice yQ2),.val yQ3,.val (.slice I),.val (.slice .str),.val I]),(6,.box [.val I,.nils,.nils,.nils,.nils,.val I])])],uv⟩
def Zaz (x : (Q10×List Int×Int×Unit)) : Option (Q10×Int×Unit) :=
 let (((a,b,c,_),d,e,f,_),g,h,_):=x; (uv (a,b,c,d,e,f,0,0,g,h,(g.length : Nat),h,0,())).bind (Sum.elim (fun z2=>some (((z2.1,[],[],()),[],[],z2.2.1,()),z2.2.2.1,())) (Sum.elim (fun (a_3,b_3,c_3,d_3,_,e_3,_,_,f_3,g_3,h_3,i_3,_)=>(aG f_3 g_3).bind fun y4=>cond (eqI h_3 0) none ((aG f_3 (cl (ae .i64 g_3 1) h_3)).bind fun y5=>cond (eqI h_3 0) none ((aG f_3 (cl i_3 h_3)).bind fun y6=>(Zbm ((a_3,b_3,c_3,()),(eZ .i64 y6 2),())).bind fun r7=>cond (neI r7.2.1 0) (some (((0,[],[],()),[],[],0,()),r7.2.1,())) ((Zah (d_3,())).bind fun r8=>(aG d_3 (ae .i64 (aQ .i64 2 (eZ .i64 y6 2)) 1)).bind fun y9=>(app r8.1 [2,y9,0,0]).bind fun a10=>(aI a10.length (ae .i64 (aQ .i64 2 (eZ .i64 y6 2)) 1)).bind fun j11=>(a10[j11]?).bind fun y12=>cond (eqI (cl y6 2) 1) ((Zam ((iB .i64 y4 1),(eZ .i64 y6 2),(aQ .i64 2 (b_3.length : Nat)),())).bind fun r13=>(aI (a10.set j11 2).length r13.1).bind fun j14=>((a10.set j11 2)[j14]?).bind fun y15=>(Zam (y5,(eZ .i64 y6 2),(aQ .i64 2 (b_3.length : Nat)),())).bind fun r16=>(Zbo ((r7.1.1,r7.1.2.1,r7.1.2.2.1,()),r16.1,(ae .i64 (aQ .i64 2 (eZ .i64 y6 2)) 1),())).bind fun r17=>cond (neI r17.2.1 0) (some (((0,[],[],()),[],[],0,()),r17.2.1,())) ((aI (a10.set j11 2).length r13.1).bind fun j18=>((a10.set j11 2)[j18]?).bind fun y19=>(aI ((a10.set j11 2).set j18 2).length (ae .i64 (aQ .i64 2 (b_3.length : Nat)) 2)).bind fun j20=>(((a10.set j11 2).set j18 2)[j20]?).bind fun y21=>(aI (((a10.set j11 2).set j18 2).set j20 (bf .i64 y15 2)).length (aQ .i64 2 (b_3.length : Nat))).bind fun j22=>((((a10.set j11 2).set j18 2).set j20 (bf .i64 y15 2))[j22]?).bind fun y23=>(aI ((((a10.set j11 2).set j18 2).set j20 (bf .i64 y15 2)).set j22 1).length (ae .i64 (aQ .i64 2 (b_3.length : Nat)) 3)).bind fun j24=>(((((a10.set j11 2).set j18 2).set j20 (bf .i64 y15 2)).set j22 1)[j24]?).bind fun y25=>(aI (((((a10.set j11 2).set j18 2).set j20 (bf .i64 y15 2)).set j22 1).set j24 1).length (ae .i64 (aQ .i64 2 (eZ .i64 y6 2)) 1)).bind fun j26=>((((((a10.set j11 2).set j18 2).set j20 (bf .i64 y15 2)).set j22 1).set j24 1)[j26]?).bind fun y27=>(dF .str (((((((a10.set j11 2).set j18 2).set j20 (bf .i64 y15 2)).set j22 1).set j24 1).set j26 2).length : Nat) (((((((a10.set j11 2).set j18 2).set j20 (bf .i64 y15 2)).set j22 1).set j24 1).set j26 2).length : Nat)).bind fun m28=>(Zam (e_3,(eZ .i64 y6 2),(aQ .i64 2 (b_3.length : Nat)),())).bind fun r29=>some (((r17.1.1,r17.1.2.1,r17.1.2.2.1,()),((((((a10.set j11 2).set j18 2).set j20 (bf .i64 y15 2)).set j22 1).set j24 1).set j26 2),m28,r29.1,()),0,()))) ((Zam ((iB .i64 y4 1),(eZ .i64 y6 2),(aQ .i64 2 (b_3.length : Nat)),())).bind fun r30=>(aI (a10.set j11 2).length r30.1).bind fun j31=>((a10.set j11 2)[j31]?).bind fun y32=>(Zam (y5,(eZ .i64 y6 2),(aQ .i64 2 (b_3.length : Nat)),())).bind fun r33=>(Zbo ((r7.1.1,r7.1.2.1,r7.1.2.2.1,()),r33.1,(aQ .i64 2 (b_3.length : Nat)),())).bind fun r34=>cond (neI r34.2.1 0) (some (((0,[],[],()),[],[],0,()),r34.2.1,())) ((aI (a10.set j11 2).length r30.1).bind fun j35=>((a10.set j11 2)[j35]?).bind fun y36=>(aI ((a10.set j11 2).set j35 2).length (ae .i64 (aQ .i64 2 (b_3.length : Nat)) 2)).bind fun j37=>(((a10.set j11 2).set j35 2)[j37]?).bind fun y38=>(aI (((a10.set j11 2).set j35 2).set j37 (bf .i64 y32 2)).length (ae .i64 (aQ .i64 2 (eZ .i64 y6 2)) 1)).bind fun j39=>((((a10.set j11 2).set j35 2).set j37 (bf .i64 y32 2))[j39]?).bind fun y40=>(aI ((((a10.set j11 2).set j35 2).set j37 (bf .i64 y32 2)).set j39 1).length (ae .i64 (aQ .i64 2 (b_3.length : Nat)) 3)).bind fun j41=>(((((a10.set j11 2).set j35 2).set j37 (bf .i64 y32 2)).set j39 1)[j41]?).bind fun y42=>(aI (((((a10.set j11 2).set j35 2).set j37 (bf .i64 y32 2)).set j39 1).set j41 1).length (aQ .i64 2 (b_3.length : Nat))).bind fun j43=>((((((a10.set j11 2).set j35 2).set j37 (bf .i64 y32 2)).set j39 1).set j41 1)[j43]?).bind fun y44=>(dF .str (((((((a10.set j11 2).set j35 2).set j37 (bf .i64 y32 2)).set j39 1).set j41 1).set j43 2).length : Nat) (((((((a10.set j11 2).set j35 2).set j37 (bf .i64 y32 2)).set j39 1).set j41 1).set j43 2).length : Nat)).bind fun m45=>(Zam (e_3,(eZ .i64 y6 2),(aQ .i64 2 (b_3.length : Nat)),())).bind fun r46=>some (((r34.1.1,r34.1.2.1,r34.1.2.2.1,()),((((((a10.set j11 2).set j35 2).set j37 (bf .i64 y32 2)).set j39 1).set j41 1).set j43 2),m45,r46.1,()),0,()))))))) (fun _=>none)))
def Gm : Fn:=mkF { cx [zj,GU,GP,Gy] with frz:=[21],light:=[24,25],hold:=[(21,97),(21,98)] } [(3,Ct)] 42 Tryd.f42 [(.rd,yQ9),(.rd,(.slice I)),(.rd,I)] [(.cell 6 29,false,yQ9),(.tmp 7,true,I)] Zaz [lp 3 Ct vw] am ah rfl
def jj (x : Q46) : Option (Q46⊕((Int×Int×Int×Unit)⊕(Q32⊕Empty))) :=
 let (a,b,c,d,e,f,g,h,i,k,l,m,_):=x; cond (ltI m l) ((aI i.length m).bind fun j1=>(i[j1]?).bind fun y2=>(Zm (y2,f,())).bind fun r3=>cond r3.1 (some (.inl (a,b,c,d,e,f,g,h,i,k,l,(ae .i64 m 1),()))) ((Zax (((a,b,c,()),d,e,f,()),y2,())).bind fun r4=>cond (ltI r4.1 0) (some (.inl (a,b,c,d,e,f,g,h,i,k,l,(ae .i64 m 1),()))) ((Zaz (((a,b,c,()),d,e,f,()),y2,r4.1,())).bind fun r5=>cond (neI r5.2.1 0) (some (.inr (.inl (0,0,r5.2.1,())))) (some (.inr (.inr (.inl (r5.1.1.1,r5.1.1.2.1,r5.1.1.2.2.1,r5.1.2.1,r5.1.2.2.1,r5.1.2.2.2.1,g,h,true,())))))))) (some (.inr (.inr (.inl (a,b,c,d,e,f,g,h,k,())))))
def ib:=ab jj
def zy : Ann:=⟨sh [(1,.av (.ptr 1 0)),(2,.av (.ptr 2 0)),(4,.av (.val .bool)),(32,.av (.own 32)),(33,.av (.val I)),(34,.av (.val I))] [(1,.box [.val I,.val (.slice yQ2),.val yQ3,.val (.slice I),.val (.slice .str),.val I]),(2,.box [.val I,.nils,.nils,.nils,.nils,.val I]),(32,.arr (.slice I))],[(.ret,sh [(2,.av (.ptr 2 0)),(3,.av (.val I))] [(2,.box [.val I,.nils,.nils,.nils,.nils,.val I])]),(.exit 3,sh [(1,.av (.ptr 1 0)),(2,.av (.ptr 2 0)),(4,.av (.val .bool))] [(1,.box [.val I,.val (.slice yQ2),.val yQ3,.val (.slice I),.val (.slice .str),.val I]),(2,.box [.val I,.nils,.nils,.nils,.nils,.val I])])],ib⟩
def qK (x : Q32) : Option (Q32⊕((Int×Int×Int×Unit)⊕(Q26⊕Empty))) :=
 let (a,b,c,d,e,f,g,h,i,_):=x; cond i ((Zay ((a,b,c,()),())).bind fun r1=>(ib (a,b,c,d,e,f,g,h,r1.1,false,(r1.1.length : Nat),0,())).bind (Sum.elim (fun z3=>some (.inr (.inl (z3.1,z3.2.1,z3.2.2.1,())))) (Sum.elim (fun (a_4,b_4,c_4,d_4,e_4,f_4,g_4,h_4,i_4,_)=>some (.inl (a_4,b_4,c_4,d_4,e_4,f_4,g_4,h_4,i_4,()))) (fun _=>none)))) (some (.inr (.inr (.inl (a,b,c,d,e,f,g,h,())))))
def yy:=ab qK
def BJ : Ann:=⟨sh [(1,.av (.ptr 1 0)),(2,.av (.ptr 2 0)),(4,.av (.val .bool))] [(1,.box [.val I,.val (.slice yQ2),.val yQ3,.val (.slice I),.val (.slice .str),.val I]),(2,.box [.val I,.nils,.nils,.nils,.nils,.val I])],[(.ret,sh [(2,.av (.ptr 2 0)),(3,.av (.val I))] [(2,.box [.val I,.nils,.nils,.nils,.nils,.val I])]),(.exit 1,sh [(1,.av (.ptr 1 0)),(2,.av (.ptr 2 0))] [(1,.box [.val I,.val (.slice yQ2),.val yQ3,.val (.slice I),.val (.slice .str),.val I]),(2,.box [.val I,.nils,.nils,.nils,.nils,.val I])])],yy⟩
def Zbd (x : (Q10×Unit)) : Option (Q10×Int×Unit) :=
 let (((a,b,c,_),d,e,f,_),_):=x; (Zbq (((a,b,c,()),d,e,f,()),())).bind fun r1=>cond (neI r1.1 0) (some (((0,[],[],()),[],[],0,()),13,())) ((Zbp (((a,b,c,()),d,e,f,()),())).bind fun r2=>cond (neI r2.1 0) (some (((0,[],[],()),[],[],0,()),13,())) (cond (eqI (b.length : Nat) 0) ((Zba ()).bind fun r3=>some (((r3.1.1.1,r3.1.1.2.1,r3.1.1.2.2.1,()),r3.1.2.1,r3.1.2.2.1,r3.1.2.2.2.1,()),0,())) ((Zaq (((a,b,c,()),d,e,f,()),())).bind fun r4=>(yy (r4.1.1.1,r4.1.1.2.1,r4.1.1.2.2.1,r4.1.2.1,r4.1.2.2.1,r4.1.2.2.2.1,0,0,true,())).bind (Sum.elim (fun z6=>some (((z6.1,[],[],()),[],[],z6.2.1,()),z6.2.2.1,())) (Sum.elim (fun (a_7,b_7,c_7,d_7,e_7,f_7,_)=>some (((a_7,b_7,c_7,()),d_7,e_7,f_7,()),0,())) (fun _=>none))))))
def Fy : Fn:=mkF (cx [BZ,FG,Gl,Gz,wL,FM,GE,Gm]) [(7,BJ),(10,zy)] 15 Tryd.f15 [(.rd,yQ9)] [(.cell 2 29,false,yQ9),(.tmp 3,true,I)] Zbd [lp 7 BJ qK,lp 10 zy jj] am ah rfl
def rQ (x : Q48) : Option (Q48⊕((Bool×Unit)⊕((Int×(List Q2)×(List (List Int))×List Int×List ByteArray×Int×(List (List Int))×Int×Int×Int×Unit)⊕Empty))) :=
 let (a,b,c,d,e,f,g,h,i,k,l,m,n,o,_):=x; cond (ltI o n) ((aG m o).bind fun y1=>(aG d (iB .i64 y1 1)).bind fun y2=>cond (eqI (bf .i64 2 y2) h) (some (.inl (a,b,c,d,e,f,g,h,(ae .i64 i 1),k,l,m,n,(ae .i64 o 1),()))) (cond (eqI (bf .i64 2 y2) 0) (some (.inl (a,b,c,d,e,f,g,h,i,k,l,m,n,(ae .i64 o 1),()))) (some (.inr (.inl (false,())))))) (some (.inr (.inr (.inl (a,b,c,d,e,f,g,i,k,l,())))))
def n6:=ab rQ
def Dl : Ann:=⟨sh [(1,.av (.ptr 1 0)),(5,.av (.val I)),(6,.av (.val I)),(26,.av (.own 26)),(27,.av (.val I)),(28,.av (.val I)),(36,.av (.val (.slice I))),(37,.av (.val I)),(38,.av (.val I))] [(1,.box [.val I,.val (.slice yQ2),.val yQ3,.val (.slice I),.val (.slice .str),.val I]),(26,.arr (.slice I))],[(.ret,sh [(2,.av (.val .bool))] []),(.exit 2,sh [(1,.av (.ptr 1 0)),(6,.av (.val I)),(26,.av (.own 26)),(27,.av (.val I)),(28,.av (.val I))] [(1,.box [.val I,.val (.slice yQ2),.val yQ3,.val (.slice I),.val (.slice .str),.val I]),(26,.arr (.slice I))])],n6⟩
def wz (x : Q40) : Option (Q40⊕((Bool×Unit)⊕(Unit⊕Empty))) :=
  let t_0:=Sum.elim (fun z5=>some (.inr (.inl (z5.1,())))) (Sum.elim (fun (a_6,b_6,c_6,d_6,e_6,f_6,g_6,h_6,i_6,k_6,_)=>cond (neI h_6 4) (some (.inr (.inl (false,())))) (some (.inl (a_6,b_6,c_6,d_6,e_6,f_6,g_6,i_6,(ae .i64 k_6 1),())))) (fun _=>none));let (a,b,c,d,e,f,g,h,i,_):=x; cond (ltI i h) ((aI g.length i).bind fun j1=>(g[j1]?).bind fun y2=>(Zm (y2,f,())).bind fun r3=>cond r3.1 ((n6 (a,b,c,d,e,f,g,(-1),0,h,i,y2,(y2.length : Nat),0,())).bind t_0) ((n6 (a,b,c,d,e,f,g,1,0,h,i,y2,(y2.length : Nat),0,())).bind t_0)) (some (.inr (.inr (.inl ()))))
def zi:=ab wz
def Fo : Ann:=⟨sh [(1,.av (.ptr 1 0)),(26,.av (.own 26)),(27,.av (.val I)),(28,.av (.val I))] [(1,.box [.val I,.val (.slice yQ2),.val yQ3,.val (.slice I),.val (.slice .str),.val I]),(26,.arr (.slice I))],[(.ret,sh [(2,.av (.val .bool))] []),(.exit 0,sh [] [])],zi⟩
def Zj (x : (Q10×Unit)) : Option (Bool×Unit) :=
 let (((a,b,c,_),d,e,f,_),_):=x; (Zbq (((a,b,c,()),d,e,f,()),())).bind fun r1=>cond (neI r1.1 0) (some (false,())) ((Zbp (((a,b,c,()),d,e,f,()),())).bind fun r2=>cond (neI r2.1 0) (some (false,())) (cond (eqI (b.length : Nat) 0) (some (false,())) ((Zay ((a,b,c,()),())).bind fun r3=>(zi (a,b,c,d,e,f,r3.1,(r3.1.length : Nat),0,())).bind (Sum.elim (fun z5=>some (z5.1,())) (Sum.elim (fun z6=>some (true,())) (fun _=>none))))))
def Gx : Fn:=mkF (cx [BZ,FG,wL,FM]) [(4,Fo),(11,Dl)] 16 Tryd.f16 [(.rd,yQ9)] [(.tmp 2,true,.bool)] Zj [lp 4 Fo wz,lp 11 Dl rQ] am ah rfl
def Zp (x : Unit) : Option (Q10×Unit) :=
 (dF .str 8 8).bind fun m1=>some (((4,[(0,1,()),(1,2,()),(2,3,()),(3,0,())],[[7,0],[1,2],[3,4],[5,6]],()),[3,1,3,1,3,1,3,1],m1,1,()),())
def Hb : Fn:=mkF (cx []) [] 24 Tryd.f24 [] [(.cell 0 29,true,yQ9)] Zp [] am ah rfl
def Zz (x : Unit) : Option (Bool×Unit) :=
 (Zo (((2,[(0,1,())],[[0],[1]],()),[4,4],[(ByteArray.mk #[76]),(ByteArray.mk #[82])],0,()),())).bind fun r1=>(Zbd (((2,[(0,1,())],[[0],[1]],()),[4,4],[(ByteArray.mk #[76]),(ByteArray.mk #[82])],0,()),())).bind fun r2=>(Zbd (((2,[(0,1,())],[[0],[1]],()),[4,4],[(ByteArray.mk #[]),(ByteArray.mk #[])],0,()),())).bind fun r3=>cond (neI r1.2.2.1 0) (some (false,())) (cond (neI (r1.2.1.length : Nat) 1) (some (false,())) ((aI r1.2.1.length 0).bind fun j4=>(r1.2.1[j4]?).bind fun y5=>cond (neI (y5.length : Nat) 2) (some (false,())) ((aI r1.2.1.length 0).bind fun j6=>(r1.2.1[j6]?).bind fun y7=>(aG y7 1).bind fun y8=>cond (neI y8 2) (some (false,())) (cond (neI r1.1.1.1 3) (some (false,())) (cond (neI (r1.1.2.1.length : Nat) 4) (some (false,())) (cond (neI (r1.1.1.2.2.1.length : Nat) 3) (some (false,())) ((aI r1.1.2.1.length 1).bind fun j9=>(r1.1.2.1[j9]?).bind fun y10=>cond (eqI y10 1) ((aI r1.1.2.1.length 2).bind fun j11=>(r1.1.2.1[j11]?).bind fun y12=>cond (eqI y12 3) (cond (eqI r2.2.1 13) (cond (eqI r3.2.1 0) ((Zj (((r3.1.1.1,r3.1.1.2.1,r3.1.1.2.2.1,()),r3.1.2.1,r3.1.2.2.1,r3.1.2.2.2.1,()),())).bind fun r13=>cond r13.1 ((Zp ()).bind fun r14=>(Zj (((r14.1.1.1,r14.1.1.2.1,r14.1.1.2.2.1,()),r14.1.2.1,r14.1.2.2.1,r14.1.2.2.2.1,()),())).bind fun r15=>cond r15.1 ((Zj (((2,[(0,1,())],[[0],[1]],()),[4,4],[(ByteArray.mk #[]),(ByteArray.mk #[])],0,()),())).bind fun r16=>some ((!r16.1),())) (some (false,()))) (some (false,()))) (some (false,()))) (some (false,()))) (some (false,()))) (some (false,())))))))))
def Hj : Fn:=mkF (cx [Hr,Fy,Gx,Hb]) [] 9 Tryd.f9 [] [(.tmp 0,true,.bool)] Zz [] am ah rfl
def xk (x : Q13) : Option (Q13⊕(Q1⊕Empty)) :=
 let (a,b,c,d,e,_):=x; cond (ltI e (b.length : Nat)) ((aG b e).bind fun y1=>(aG b e).bind fun y2=>(app d [y1.1,y2.2.1]).bind fun a3=>some (.inl (a,b,c,a3,(ae .i64 e 1),()))) (some (.inr (.inl (d,()))))
def Cp:=ab xk
def FJ : Ann:=⟨sh [(1,.av (.ptr 1 0)),(3,.av (.own 3)),(4,.av (.val I))] [(1,.box [.val I,.val (.slice yQ2),.val yQ3]),(3,.arr I)],[(.exit 0,sh [(3,.av (.own 3))] [(3,.arr I)])],Cp⟩
def Zw (x : (Q9×Unit)) : Option Q1 :=
 (Cp (x.1.1,x.1.2.1,x.1.2.2.1,[],0,())).bind (Sum.elim (fun z2=>some (z2.1,())) (fun _=>none))
def FW : Fn:=mkF (cx []) [(3,FJ)] 46 Tryd.f46 [(.rd,yQ6)] [(.tmp 2,true,(.slice I))] Zw [lp 3 FJ xk] am ah rfl
def mM (x : Q25) : Option (Q25⊕((Bool×Unit)⊕(Q19⊕Empty))) :=
 let (a,b,c,d,e,f,g,h,_):=x; (aG c g).bind fun y1=>cond (ltI h (y1.length : Nat)) ((aG c g).bind fun y2=>(aG y2 h).bind fun y3=>cond (ltI y3 0) (some (.inr (.inl (false,())))) (cond (geI y3 (d.length : Nat)) (some (.inr (.inl (false,())))) ((aI e.length y3).bind fun j4=>(e[j4]?).bind fun y5=>cond y5 (some (.inr (.inl (false,())))) ((aI d.length y3).bind fun j6=>(d[j6]?).bind fun y7=>cond (neI y7 g) (some (.inr (.inl (false,())))) ((aI e.length y3).bind fun j8=>(e[j8]?).bind fun y9=>some (.inl (a,b,c,d,(e.set j8 true),(ae .i64 f 1),g,(ae .i64 h 1),()))))))) (some (.inr (.inr (.inl (a,b,c,d,e,f,g,())))))
def uK:=ab mM
def zU : Ann:=⟨sh [(1,.av (.ptr 1 0)),(5,.av (.own 5)),(6,.av (.own 6)),(7,.av (.val I)),(8,.av (.val I)),(9,.av (.val I))] [(1,.box [.val I,.val (.slice yQ2),.val yQ3]),(5,.arr I),(6,.arr .bool)],[(.ret,sh [(2,.av (.val .bool))] []),(.exit 4,sh [(1,.av (.ptr 1 0)),(5,.av (.own 5)),(6,.av (.own 6)),(7,.av (.val I)),(8,.av (.val I))] [(1,.box [.val I,.val (.slice yQ2),.val yQ3]),(5,.arr I),(6,.arr .bool)])],uK⟩
def m4 (x : Q19) : Option (Q19⊕((Bool×Unit)⊕(Q4⊕Empty))) :=
 let (a,b,c,d,e,f,g,_):=x; cond (ltI g a) ((uK (a,b,c,d,e,f,g,0,())).bind (Sum.elim (fun z2=>some (.inr (.inl (z2.1,())))) (Sum.elim (fun (a_3,b_3,c_3,d_3,e_3,f_3,g_3,_)=>some (.inl (a_3,b_3,c_3,d_3,e_3,f_3,(ae .i64 g_3 1),()))) (fun _=>none)))) (some (.inr (.inr (.inl (d,f,())))))
def vo:=ab m4
def zT : Ann:=⟨sh [(1,.av (.ptr 1 0)),(5,.av (.own 5)),(6,.av (.own 6)),(7,.av (.val I)),(8,.av (.val I))] [(1,.box [.val I,.val (.slice yQ2),.val yQ3]),(5,.arr I),(6,.arr .bool)],[(.ret,sh [(2,.av (.val .bool))] []),(.exit 2,sh [(5,.av (.own 5)),(7,.av (.val I))] [(5,.arr I)])],vo⟩
def pR (x : Q12) : Option (Q12⊕((Bool×Unit)⊕(Q9⊕Empty))) :=
 let (a,b,c,d,_):=x; cond (ltI d (b.length : Nat)) ((aG b d).bind fun y1=>cond (ltI y1.1 0) (some (.inr (.inl (false,())))) (cond (geI y1.1 a) (some (.inr (.inl (false,())))) (cond (ltI y1.2.1 0) (some (.inr (.inl (false,())))) (cond (geI y1.2.1 a) (some (.inr (.inl (false,())))) (cond (eqI y1.1 y1.2.1) (some (.inr (.inl (false,())))) (some (.inl (a,b,c,(ae .i64 d 1),())))))))) (some (.inr (.inr (.inl (a,b,c,())))))
def xK:=ab pR
def Ci : Ann:=⟨sh [(1,.av (.ptr 1 0)),(3,.av (.val I))] [(1,.box [.val I,.val (.slice yQ2),.val yQ3])],[(.ret,sh [(2,.av (.val .bool))] []),(.exit 0,sh [(1,.av (.ptr 1 0))] [(1,.box [.val I,.val (.slice yQ2),.val yQ3])])],xK⟩
def Zaa (x : (Q9×Unit)) : Option (Bool×Unit) :=
 let ((a,b,c,_),_):=x; cond (ltI a 0) (some (false,())) (cond (gtI a 16384) (some (false,())) (cond (gtI (b.length : Nat) 32768) (some (false,())) (cond (neI (c.length : Nat) a) (some (false,())) ((xK (a,b,c,0,())).bind (Sum.elim (fun z2=>some (z2.1,())) (Sum.elim (fun (a_3,b_3,c_3,_)=>(Zw ((a_3,b_3,c_3,()),())).bind fun r4=>(dF .bool (r4.1.length : Nat) (r4.1.length : Nat)).bind fun m5=>(vo (a_3,b_3,c_3,r4.1,m5,0,0,())).bind (Sum.elim (fun z7=>some (z7.1,())) (Sum.elim (fun z8=>some ((eqI z8.2.1 (z8.1.length : Nat)),())) (fun _=>none)))) (fun _=>none)))))))
def DX : Fn:=mkF (cx [FW]) [(4,Ci),(13,zT),(16,zU)] 29 Tryd.f29 [(.rd,yQ6)] [(.tmp 2,true,.bool)] Zaa [lp 4 Ci pR,lp 13 zT m4,lp 16 zU mM] am ah rfl
def wa (x : Q18) : Option (Q18⊕(Q13⊕Empty)) :=
 let (a,b,c,d,e,f,g,_):=x; cond (ltI g (f.length : Nat)) ((aG f g).bind fun y1=>cond (eqI (f.length : Nat) 0) none ((aG f (cl (ae .i64 g 1) (f.length : Nat))).bind fun y2=>(aI d.length y1).bind fun j3=>(d[j3]?).bind fun y4=>some (.inl (a,b,c,(d.set j3 y2),e,f,(ae .i64 g 1),())))) (some (.inr (.inl (a,b,c,d,e,()))))
def CL:=ab wa
def Fx : Ann:=⟨sh [(1,.av (.ptr 1 0)),(3,.av (.own 3)),(4,.av (.val I)),(5,.av (.val (.slice I))),(6,.av (.val I))] [(1,.box [.val I,.val (.slice yQ2),.val yQ3]),(3,.arr I)],[(.exit 2,sh [(1,.av (.ptr 1 0)),(3,.av (.own 3)),(4,.av (.val I))] [(1,.box [.val I,.val (.slice yQ2),.val yQ3]),(3,.arr I)])],CL⟩
def wK (x : Q13) : Option (Q13⊕(Q1⊕Empty)) :=
 let (a,b,c,d,e,_):=x; cond (ltI e a) ((aG c e).bind fun y1=>(CL (a,b,c,d,e,y1,0,())).bind (Sum.elim (fun z3=>some (.inl (z3.1,z3.2.1,z3.2.2.1,z3.2.2.2.1,(ae .i64 z3.2.2.2.2.1 1),()))) (fun _=>none))) (some (.inr (.inl (d,()))))
def Ah:=ab wK
def FE : Ann:=⟨sh [(1,.av (.ptr 1 0)),(3,.av (.own 3)),(4,.av (.val I))] [(1,.box [.val I,.val (.slice yQ2),.val yQ3]),(3,.arr I)],[(.exit 0,sh [(3,.av (.own 3))] [(3,.arr I)])],Ah⟩
def Zr (x : (Q9×Unit)) : Option Q1 :=
 let ((a,b,c,_),_):=x; (dF I (aQ .i64 2 (b.length : Nat)) (aQ .i64 2 (b.length : Nat))).bind fun m1=>(Ah (a,b,c,m1,0,())).bind (Sum.elim (fun z3=>some (z3.1,())) (fun _=>none))
def GR : Fn:=mkF (cx []) [(3,FE),(7,Fx)] 55 Tryd.f55 [(.rd,yQ6)] [(.tmp 2,true,(.slice I))] Zr [lp 3 FE wK,lp 7 Fx wa] am ah rfl
def Zs (x : (Int×Unit)) : Option (Int×Unit) :=
 cond (eqI (cl x.1 2) 0) (some ((ae .i64 x.1 1),())) (some ((bf .i64 x.1 1),()))
def BI : Fn:=mkF (cx []) [] 48 Tryd.f48 [(.rd,I)] [(.tmp 2,true,I)] Zs [] am ah rfl
def so (x : ((List (List Int))×List Int×List Bool×List Int×Int×Int×Unit)) : Option (((List (List Int))×List Int×List Bool×List Int×Int×Int×Unit)⊕(((List (List Int))×List Int×List Bool×List Int×Int×Unit)⊕Empty)) :=
 let (a,b,c,d,e,f,_):=x; (aI c.length f).bind fun j1=>(c[j1]?).bind fun y2=>cond (!y2) ((aI c.length f).bind fun j3=>(c[j3]?).bind fun y4=>(app d [f]).bind fun a5=>(Zs (f,())).bind fun r6=>(aI b.length r6.1).bind fun j7=>(b[j7]?).bind fun y8=>some (.inl (a,b,(c.set j3 true),a5,e,y8,()))) (some (.inr (.inl (a,b,c,d,e,()))))
def xp:=ab so
def BV : Ann:=⟨sh [(3,.av (.own 3)),(4,.av (.own 4)),(5,.av (.own 5)),(6,.av (.val I)),(7,.av (.own 7)),(8,.av (.val I))] [(3,.arr (.slice I)),(4,.arr I),(5,.arr .bool),(7,.arr I)],[(.exit 2,sh [(3,.av (.own 3)),(4,.av (.own 4)),(5,.av (.own 5)),(6,.av (.val I)),(7,.av (.own 7))] [(3,.arr (.slice I)),(4,.arr I),(5,.arr .bool),(7,.arr I)])],xp⟩
def vT (x : ((List (List Int))×List Int×List Bool×Int×Unit)) : Option (((List (List Int))×List Int×List Bool×Int×Unit)⊕(Q5⊕Empty)) :=
 let (a,b,c,d,_):=x; cond (ltI d (b.length : Nat)) ((aI c.length d).bind fun j1=>(c[j1]?).bind fun y2=>cond y2 (some (.inl (a,b,c,(ae .i64 d 1),()))) ((xp (a,b,c,[],d,d,())).bind (Sum.elim (fun z4=>(app z4.1 [z4.2.2.2.1]).bind fun a5=>some (.inl (a5,z4.2.1,z4.2.2.1,(ae .i64 z4.2.2.2.2.1 1),()))) (fun _=>none)))) (some (.inr (.inl (a,()))))
def CN:=ab vT
def Fs : Ann:=⟨sh [(3,.av (.own 3)),(4,.av (.own 4)),(5,.av (.own 5)),(6,.av (.val I))] [(3,.arr (.slice I)),(4,.arr I),(5,.arr .bool)],[(.exit 0,sh [(3,.av (.own 3))] [(3,.arr (.slice I))])],CN⟩
def Zy (x : (Q9×Unit)) : Option Q5 :=
 let ((a,b,c,_),_):=x; (Zaa ((a,b,c,()),())).bind fun r1=>cond (!r1.1) (some ([],())) ((Zr ((a,b,c,()),())).bind fun r2=>(dF .bool (r2.1.length : Nat) (r2.1.length : Nat)).bind fun m3=>(CN ([],r2.1,m3,0,())).bind (Sum.elim (fun z5=>some (z5.1,())) (fun _=>none)))
def FR : Fn:=mkF (cx [DX,BI,GR]) [(7,Fs),(12,BV)] 33 Tryd.f33 [(.rd,yQ6)] [(.tmp 2,true,yQ3)] Zy [lp 7 Fs vT,lp 12 BV so] am ah rfl
def qX (x : Q4) : Option (Q4⊕((Int×Unit)⊕Empty)) :=
 let (a,b,_):=x; (aG a b).bind fun y1=>cond (neI y1 b) ((aG a b).bind fun y2=>some (.inl (a,y2,()))) (some (.inr (.inl (b,()))))
def yu:=ab qX
def BT : Ann:=⟨sh [(0,.av (.val (.slice I))),(1,.av (.val I))] [],[(.exit 0,sh [(1,.av (.val I))] [])],yu⟩
def Zao (x : Q4) : Option (Int×Unit) :=
 (yu (x.1,x.2.1,())).bind (Sum.elim (fun z2=>some (z2.1,())) (fun _=>none))
def Gq : Fn:=mkF (cx []) [(1,BT)] 79 Tryd.f79 [(.rd,(.slice I)),(.rd,I)] [(.tmp 4,true,I)] Zao [lp 1 BT qX] am ah rfl
def xi (x : (Int×(List Q2)×(List (List Int))×List Int×Int×Int×Unit)) : Option ((Int×(List Q2)×(List (List Int))×List Int×Int×Int×Unit)⊕((Int×Unit)⊕Empty)) :=
 let (a,b,c,d,e,f,_):=x; cond (ltI f (b.length : Nat)) ((aG b f).bind fun y1=>(Zao (d,y1.1,())).bind fun r2=>(aG b f).bind fun y3=>(Zao (d,y3.2.1,())).bind fun r4=>cond (neI r2.1 r4.1) ((aI d.length (jO r2.1 r4.1)).bind fun j5=>(d[j5]?).bind fun y6=>some (.inl (a,b,c,(d.set j5 (sE r2.1 r4.1)),(bf .i64 e 1),(ae .i64 f 1),()))) (some (.inl (a,b,c,d,e,(ae .i64 f 1),())))) (some (.inr (.inl (e,()))))
def BK:=ab xi
def Fd : Ann:=⟨sh [(1,.av (.ptr 1 0)),(3,.av (.own 3)),(5,.av (.val I)),(6,.av (.val I))] [(1,.box [.val I,.val (.slice yQ2),.val yQ3]),(3,.arr I)],[(.exit 2,sh [(5,.av (.val I))] [])],BK⟩
def pf (x : Q13) : Option (Q13⊕((Int×(List Q2)×(List (List Int))×List Int×Unit)⊕Empty)) :=
 let (a,b,c,d,e,_):=x; cond (ltI e a) ((app d [e]).bind fun a1=>some (.inl (a,b,c,a1,(ae .i64 e 1),()))) (some (.inr (.inl (a,b,c,d,()))))
def tJ:=ab pf
def Fe : Ann:=⟨sh [(1,.av (.ptr 1 0)),(3,.av (.own 3)),(4,.av (.val I))] [(1,.box [.val I,.val (.slice yQ2),.val yQ3]),(3,.arr I)],[(.exit 0,sh [(1,.av (.ptr 1 0)),(3,.av (.own 3))] [(1,.box [.val I,.val (.slice yQ2),.val yQ3]),(3,.arr I)])],tJ⟩
def Zd (x : (Q9×Unit)) : Option (Int×Unit) :=
 (tJ (x.1.1,x.1.2.1,x.1.2.2.1,[],0,())).bind (Sum.elim (fun z2=>(BK (z2.1,z2.2.1,z2.2.2.1,z2.2.2.2.1,z2.1,0,())).bind (Sum.elim (fun z4=>some (z4.1,())) (fun _=>none))) (fun _=>none))
def GJ : Fn:=mkF (cx [Gq]) [(3,Fe),(8,Fd)] 53 Tryd.f53 [(.rd,yQ6)] [(.tmp 2,true,I)] Zd [lp 3 Fe pf,lp 8 Fd xi] am ah rfl
def oL (x : (Int×(List Q2)×(List (List Int))×Int×Int×Unit)) : Option ((Int×(List Q2)×(List (List Int))×Int×Int×Unit)⊕(Q12⊕Empty)) :=
 let (a,b,c,d,e,_):=x; cond (ltI e a) ((aG c e).bind fun y1=>cond (eqI (y1.length : Nat) 0) (some (.inl (a,b,c,(ae .i64 d 1),(ae .i64 e 1),()))) (some (.inl (a,b,c,d,(ae .i64 e 1),())))) (some (.inr (.inl (a,b,c,d,()))))
def zI:=ab oL
def Fj : Ann:=⟨sh [(1,.av (.ptr 1 0)),(3,.av (.val I)),(4,.av (.val I))] [(1,.box [.val I,.val (.slice yQ2),.val yQ3])],[(.exit 0,sh [(1,.av (.ptr 1 0)),(3,.av (.val I))] [(1,.box [.val I,.val (.slice yQ2),.val yQ3])])],zI⟩
def Zv (x : (Q9×Unit)) : Option (Int×Unit) :=
 let ((a,b,c,_),_):=x; (Zaa ((a,b,c,()),())).bind fun r1=>cond (!r1.1) (some ((-1),())) ((Zy ((a,b,c,()),())).bind fun r2=>(zI (a,b,c,(r2.1.length : Nat),0,())).bind (Sum.elim (fun z4=>(Zd ((z4.1,z4.2.1,z4.2.2.1,()),())).bind fun r5=>some ((bf .i64 r5.1 (eZ .i64 (ae .i64 (bf .i64 z4.1 (z4.2.1.length : Nat)) z4.2.2.2.1) 2)),())) (fun _=>none)))
def Hm : Fn:=mkF (cx [DX,FR,GJ]) [(5,Fj)] 52 Tryd.f52 [(.rd,yQ6)] [(.tmp 2,true,I)] Zv [lp 5 Fj oL] am ah rfl
def Zq (x : (Q9×Unit)) : Option (Bool×Unit) :=
 let ((a,b,c,_),_):=x; (Zv ((a,b,c,()),())).bind fun r1=>cond (eqI r1.1 0) ((Zd ((a,b,c,()),())).bind fun r2=>some ((eqI r2.1 1),())) (some (false,()))
def Hd : Fn:=mkF (cx [Hm,GJ]) [] 30 Tryd.f30 [(.rd,yQ6)] [(.tmp 2,true,.bool)] Zq [] am ah rfl
def rD (x : Q31) : Option (Q31⊕((Bool×Unit)⊕(Q26⊕Empty))) :=
 let (a,b,c,d,e,f,g,h,i,_):=x; (aG c g).bind fun y1=>cond (ltI i (y1.length : Nat)) ((aG c g).bind fun y2=>(aG y2 i).bind fun y3=>(aG d y3).bind fun y4=>cond (ltI y4 1) (some (.inr (.inl (false,())))) (cond (gtI y4 4) (some (.inr (.inl (false,())))) (some (.inl (a,b,c,d,e,f,g,(ae .i64 h y4),(ae .i64 i 1),()))))) (some (.inr (.inr (.inl (a,b,c,d,e,f,g,h,())))))
def xw:=ab rD
def CV : Ann:=⟨sh [(1,.av (.ptr 1 0)),(3,.av (.val I)),(4,.av (.val I)),(5,.av (.val I))] [(1,.box [.val I,.val (.slice yQ2),.val yQ3,.val (.slice I),.val (.slice .str),.val I])],[(.ret,sh [(2,.av (.val .bool))] []),(.exit 2,sh [(1,.av (.ptr 1 0)),(3,.av (.val I)),(4,.av (.val I))] [(1,.box [.val I,.val (.slice yQ2),.val yQ3,.val (.slice I),.val (.slice .str),.val I])])],xw⟩
def rI (x : Q23) : Option (Q23⊕((Bool×Unit)⊕(Unit⊕Empty))) :=
 let (a,b,c,d,e,f,g,_):=x; cond (ltI g a) ((xw (a,b,c,d,e,f,g,0,0,())).bind (Sum.elim (fun z2=>some (.inr (.inl (z2.1,())))) (Sum.elim (fun (a_3,b_3,c_3,d_3,e_3,f_3,g_3,h_3,_)=>cond (neI h_3 4) ((aG c_3 g_3).bind fun y4=>cond (gtI (y4.length : Nat) 0) (some (.inr (.inl (false,())))) (some (.inl (a_3,b_3,c_3,d_3,e_3,f_3,(ae .i64 g_3 1),())))) (some (.inl (a_3,b_3,c_3,d_3,e_3,f_3,(ae .i64 g_3 1),())))) (fun _=>none)))) (some (.inr (.inr (.inl ()))))
def xy:=ab rI
def DB : Ann:=⟨sh [(1,.av (.ptr 1 0)),(3,.av (.val I))] [(1,.box [.val I,.val (.slice yQ2),.val yQ3,.val (.slice I),.val (.slice .str),.val I])],[(.ret,sh [(2,.av (.val .bool))] []),(.exit 0,sh [] [])],xy⟩
def Zan (x : (Q10×Unit)) : Option (Bool×Unit) :=
 let (((a,b,c,_),d,e,f,_),_):=x; (xy (a,b,c,d,e,f,0,())).bind (Sum.elim (fun z2=>some (z2.1,())) (Sum.elim (fun z3=>some (true,())) (fun _=>none)))
def Gw : Fn:=mkF (cx []) [(2,DB),(6,CV)] 31 Tryd.f31 [(.rd,yQ9)] [(.tmp 2,true,.bool)] Zan [lp 2 DB rI,lp 6 CV rD] am ah rfl
def Zh (x : (Int×Unit)) : Option (Int×Unit) :=
 cond (eqI x.1 76) (some (82,())) (cond (eqI x.1 82) (some (76,())) (some (x.1,())))
def Hc : Fn:=mkF (cx []) [] 80 Tryd.f80 [(.rd,(.int .u8))] [(.tmp 2,true,(.int .u8))] Zh [] am ah rfl
def tX (x : (List Int×ByteArray×Int×Unit)) : Option ((List Int×ByteArray×Int×Unit)⊕(Q1⊕Empty)) :=
 let (a,b,c,_):=x; cond (geI c 0) ((aG b.data.toList c).bind fun c1=>(Zh ((c1.toNat : Int),())).bind fun r2=>(app a [r2.1]).bind fun a3=>some (.inl (a3,b,(bf .i64 c 1),()))) (some (.inr (.inl (a,()))))
def zl:=ab tX
def Fz : Ann:=⟨sh [(0,.av (.val .str)),(3,.av (.own 3)),(4,.av (.val I))] [(3,.arr (.int .u8))],[(.exit 0,sh [(3,.av (.own 3))] [(3,.arr (.int .u8))])],zl⟩
def Zk (x : Q3) : Option Q3 :=
 (zl ([],x.1,(bf .i64 (x.1.size : Nat) 1),())).bind (Sum.elim (fun z2=>some ((de z2.1),())) (fun _=>none))
def Hk : Fn:=mkF (cx [Hc]) [(3,Fz)] 54 Tryd.f54 [(.rd,.str)] [(.tmp 2,true,.str)] Zk [lp 3 Fz tX] am ah rfl
def rs (x : Q26) : Option (Q26⊕((Bool×Unit)⊕(Q23⊕Empty))) :=
 let (a,b,c,d,e,f,g,h,_):=x; (aG e g).bind fun y1=>cond (ltI h (y1.size : Nat)) ((aG e g).bind fun y2=>(aG y2.data.toList h).bind fun c3=>cond (neI (c3.toNat : Int) 76) ((aG e g).bind fun y4=>(aG y4.data.toList h).bind fun c5=>cond (neI (c5.toNat : Int) 82) (some (.inr (.inl (false,())))) (some (.inl (a,b,c,d,e,f,g,(ae .i64 h 1),())))) (some (.inl (a,b,c,d,e,f,g,(ae .i64 h 1),())))) (some (.inr (.inr (.inl (a,b,c,d,e,f,g,())))))
def vg:=ab rs
def Cx : Ann:=⟨sh [(1,.av (.ptr 1 0)),(3,.av (.val I)),(4,.av (.val I))] [(1,.box [.val I,.val (.slice yQ2),.val yQ3,.val (.slice I),.val (.slice .str),.val I])],[(.ret,sh [(2,.av (.val .bool))] []),(.exit 2,sh [(1,.av (.ptr 1 0)),(3,.av (.val I))] [(1,.box [.val I,.val (.slice yQ2),.val yQ3,.val (.slice I),.val (.slice .str),.val I])])],vg⟩
def qW (x : Q23) : Option (Q23⊕((Bool×Unit)⊕(Unit⊕Empty))) :=
 let (a,b,c,d,e,f,g,_):=x; cond (ltI g (e.length : Nat)) ((aG e g).bind fun y1=>cond (gtI (y1.size : Nat) 64) (some (.inr (.inl (false,())))) ((aG e (iB .i64 g 1)).bind fun y2=>(aG e g).bind fun y3=>(Zk (y3,())).bind fun r4=>cond (neS y2 r4.1) (some (.inr (.inl (false,())))) ((vg (a,b,c,d,e,f,g,0,())).bind (Sum.elim (fun z6=>some (.inr (.inl (z6.1,())))) (Sum.elim (fun (a_7,b_7,c_7,d_7,e_7,f_7,g_7,_)=>some (.inl (a_7,b_7,c_7,d_7,e_7,f_7,(ae .i64 g_7 1),()))) (fun _=>none)))))) (some (.inr (.inr (.inl ()))))
def u7:=ab qW
def BS : Ann:=⟨sh [(1,.av (.ptr 1 0)),(3,.av (.val I))] [(1,.box [.val I,.val (.slice yQ2),.val yQ3,.val (.slice I),.val (.slice .str),.val I])],[(.ret,sh [(2,.av (.val .bool))] []),(.exit 0,sh [] [])],u7⟩
def Zab (x : (Q10×Unit)) : Option (Bool×Unit) :=
 let (((a,b,c,_),d,e,f,_),_):=x; (u7 (a,b,c,d,e,f,0,())).bind (Sum.elim (fun z2=>some (z2.1,())) (Sum.elim (fun z3=>some (true,())) (fun _=>none)))
def GW : Fn:=mkF (cx [Hk]) [(2,BS),(7,Cx)] 32 Tryd.f32 [(.rd,yQ9)] [(.tmp 2,true,.bool)] Zab [lp 2 BS qW,lp 7 Cx rs] am ah rfl
def ol (x : Q6) : Option (Q6⊕((Bool×Unit)⊕(Unit⊕Empty))) :=
 let (a,b,c,_):=x; cond (ltI c (a.length : Nat)) ((aG a c).bind fun y1=>cond (eqI y1 b) (some (.inr (.inl (true,())))) (some (.inl (a,b,(ae .i64 c 1),())))) (some (.inr (.inr (.inl ()))))
def t9:=ab ol
def CT : Ann:=⟨sh [(0,.av (.val (.slice I))),(1,.av (.val I)),(5,.av (.val I))] [],[(.ret,sh [(4,.av (.val .bool))] []),(.exit 0,sh [] [])],t9⟩
def Zau (x : Q4) : Option (Bool×Unit) :=
 (t9 (x.1,x.2.1,0,())).bind (Sum.elim (fun z2=>some (z2.1,())) (Sum.elim (fun z3=>some (false,())) (fun _=>none)))
def G2 : Fn:=mkF (cx []) [(2,CT)] 34 Tryd.f34 [(.rd,(.slice I)),(.rd,I)] [(.tmp 4,true,.bool)] Zau [lp 2 CT ol] am ah rfl
def rm (x : (ByteArray×Int×Int×Unit)) : Option ((ByteArray×Int×Int×Unit)⊕((Int×Unit)⊕Empty)) :=
 let (a,b,c,_):=x; cond (ltI c (a.size : Nat)) ((aG a.data.toList c).bind fun c1=>cond (eqI (c1.toNat : Int) 76) ((aG a.data.toList c).bind fun c2=>cond (eqI (c2.toNat : Int) 82) (some (.inl (a,(bf .i64 (ae .i64 b 1) 1),(ae .i64 c 1),()))) (some (.inl (a,(ae .i64 b 1),(ae .i64 c 1),())))) ((aG a.data.toList c).bind fun c3=>cond (eqI (c3.toNat : Int) 82) (some (.inl (a,(bf .i64 b 1),(ae .i64 c 1),()))) (some (.inl (a,b,(ae .i64 c 1),()))))) (some (.inr (.inl (b,()))))
def uC:=ab rm
def En : Ann:=⟨sh [(0,.av (.val .str)),(3,.av (.val I)),(4,.av (.val I))] [],[(.exit 0,sh [(3,.av (.val I))] [])],uC⟩
def Zai (x : Q3) : Option (Int×Unit) :=
 (uC (x.1,0,0,())).bind (Sum.elim (fun z2=>some (z2.1,())) (fun _=>none))
def GL : Fn:=mkF (cx []) [(3,En)] 56 Tryd.f56 [(.rd,.str)] [(.tmp 2,true,I)] Zai [lp 3 En rm] am ah rfl
def rh (x : Q33) : Option (Q33⊕((Int×Unit)⊕Empty)) :=
 let (a,b,c,d,e,f,g,h,i,_):=x; cond (ltI i (g.length : Nat)) ((aG g i).bind fun y1=>(aG e y1).bind fun y2=>(Zai (y2,())).bind fun r3=>(aG g i).bind fun y4=>(aG d (iB .i64 y4 1)).bind fun y5=>some (.inl (a,b,c,d,e,f,g,(bf .i64 (ae .i64 (ae .i64 h r3.1) 2) y5),(ae .i64 i 1),()))) (some (.inr (.inl (h,()))))
def u6:=ab rh
def Em : Ann:=⟨sh [(1,.av (.val (.slice I))),(2,.av (.ptr 2 0)),(5,.av (.val I)),(6,.av (.val I))] [(2,.box [.val I,.val (.slice yQ2),.val yQ3,.val (.slice I),.val (.slice .str),.val I])],[(.exit 0,sh [(5,.av (.val I))] [])],u6⟩
def Zaf (x : (Q10×List Int×Unit)) : Option (Int×Unit) :=
 let (((a,b,c,_),d,e,f,_),g,_):=x; (u6 (a,b,c,d,e,f,g,0,0,())).bind (Sum.elim (fun z2=>some (z2.1,())) (fun _=>none))
def Gg : Fn:=mkF (cx [GL]) [(3,Em)] 35 Tryd.f35 [(.rd,yQ9),(.rd,(.slice I))] [(.tmp 4,true,I)] Zaf [lp 3 Em rh] am ah rfl
def wo (x : Q35) : Option (Q35⊕((Int×Unit)⊕(Unit⊕Empty))) :=
 let (a,b,c,d,e,f,g,h,_):=x; cond (ltI h (g.length : Nat)) ((aI g.length h).bind fun j1=>(g[j1]?).bind fun y2=>(Zau (y2,f,())).bind fun r3=>cond r3.1 ((aI g.length h).bind fun j4=>(g[j4]?).bind fun y5=>(Zaf (((a,b,c,()),d,e,f,()),y5,())).bind fun r6=>cond (neI r6.1 (-4)) (some (.inr (.inl (13,())))) (some (.inl (a,b,c,d,e,f,g,(ae .i64 h 1),())))) ((aI g.length h).bind fun j7=>(g[j7]?).bind fun y8=>(Zaf (((a,b,c,()),d,e,f,()),y8,())).bind fun r9=>cond (neI r9.1 4) (some (.inr (.inl (13,())))) (some (.inl (a,b,c,d,e,f,g,(ae .i64 h 1),()))))) (some (.inr (.inr (.inl ()))))
def wi:=ab wo
def Fh : Ann:=⟨sh [(1,.av (.ptr 1 0)),(4,.av (.own 4)),(5,.av (.val I))] [(1,.box [.val I,.val (.slice yQ2),.val yQ3,.val (.slice I),.val (.slice .str),.val I]),(4,.arr (.slice I))],[(.ret,sh [(2,.av (.val I))] []),(.exit 0,sh [] [])],wi⟩
def Zt (x : (Q10×Unit)) : Option (Int×Unit) :=
 let (((a,b,c,_),d,e,f,_),_):=x; let t_0:=(Zy ((a,b,c,()),())).bind fun r5=>(wi (a,b,c,d,e,f,r5.1,0,())).bind (Sum.elim (fun z7=>some (z7.1,())) (Sum.elim (fun z8=>some (0,())) (fun _=>none))); (Zaa ((a,b,c,()),())).bind fun r1=>cond (!r1.1) (some (13,())) (cond (ltI a 1) (some (13,())) ((Zq ((a,b,c,()),())).bind fun r2=>cond (!r2.1) (some (13,())) (cond (neI (d.length : Nat) (aQ .i64 2 (b.length : Nat))) (some (13,())) (cond (neI (e.length : Nat) (aQ .i64 2 (b.length : Nat))) (some (13,())) ((Zan (((a,b,c,()),d,e,f,()),())).bind fun r3=>cond (!r3.1) (some (13,())) ((Zab (((a,b,c,()),d,e,f,()),())).bind fun r4=>cond (!r4.1) (some (13,())) (cond (ltI f 0) (some (13,())) (cond (gtI f 0) (cond (geI f (aQ .i64 2 (b.length : Nat))) (some (13,())) t_0) t_0))))))))
def F4 : Fn:=mkF (cx [DX,Hd,Gw,GW,FR,G2,Gg]) [(8,Fh)] 13 Tryd.f13 [(.rd,yQ9)] [(.tmp 2,true,I)] Zt [lp 8 Fh wo] am ah rfl
def sc (x : Q41) : Option (Q41⊕(Q1⊕Empty)) :=
 let (a,b,c,d,e,f,g,h,i,k,_):=x; cond (ltI k (i.length : Nat)) ((aI i.length k).bind fun j1=>(i[j1]?).bind fun y2=>(aI h.length y2).bind fun j3=>(h[j3]?).bind fun y4=>(Zs (y2,())).bind fun r5=>(aI g.length y4).bind fun j6=>(g[j6]?).bind fun y7=>cond (ltI y7 0) ((aI g.length y2).bind fun j8=>(g[j8]?).bind fun y9=>(aG d y2).bind fun y10=>(aI g.length y4).bind fun j11=>(g[j11]?).bind fun y12=>(app i [y4]).bind fun a13=>(aI (g.set j11 (cl (ae .i64 y9 y10) 4)).length r5.1).bind fun j14=>((g.set j11 (cl (ae .i64 y9 y10) 4))[j14]?).bind fun y15=>cond (ltI y15 0) ((aI (g.set j11 (cl (ae .i64 y9 y10) 4)).length y2).bind fun j16=>((g.set j11 (cl (ae .i64 y9 y10) 4))[j16]?).bind fun y17=>(aI (g.set j11 (cl (ae .i64 y9 y10) 4)).length r5.1).bind fun j18=>((g.set j11 (cl (ae .i64 y9 y10) 4))[j18]?).bind fun y19=>(app a13 [r5.1]).bind fun a20=>some (.inl (a,b,c,d,e,f,((g.set j11 (cl (ae .i64 y9 y10) 4)).set j18 (cl (ae .i64 y17 2) 4)),h,a20,(ae .i64 k 1),()))) (some (.inl (a,b,c,d,e,f,(g.set j11 (cl (ae .i64 y9 y10) 4)),h,a13,(ae .i64 k 1),())))) ((aI g.length r5.1).bind fun j21=>(g[j21]?).bind fun y22=>cond (ltI y22 0) ((aI g.length y2).bind fun j23=>(g[j23]?).bind fun y24=>(aI g.length r5.1).bind fun j25=>(g[j25]?).bind fun y26=>(app i [r5.1]).bind fun a27=>some (.inl (a,b,c,d,e,f,(g.set j25 (cl (ae .i64 y24 2) 4)),h,a27,(ae .i64 k 1),()))) (some (.inl (a,b,c,d,e,f,g,h,i,(ae .i64 k 1),()))))) (some (.inr (.inl (g,()))))
def rE:=ab sc
def CP : Ann:=⟨sh [(1,.av (.ptr 1 0)),(3,.av (.own 3)),(5,.av (.own 5)),(6,.av (.own 6)),(7,.av (.val I))] [(1,.box [.val I,.val (.slice yQ2),.val yQ3,.val (.slice I),.val (.slice .str),.val I]),(3,.arr I),(5,.arr I),(6,.arr I)],[(.exit 2,sh [(3,.av (.own 3))] [(3,.arr I)])],rE⟩
def Al (x : Q29) : Option (Q29⊕((Int×(List Q2)×(List (List Int))×List Int×List ByteArray×Int×List Int×Unit)⊕Empty)) :=
 let (a,b,c,d,e,f,g,h,_):=x; cond (ltI h (g.length : Nat)) ((aI g.length h).bind fun j1=>(g[j1]?).bind fun y2=>some (.inl (a,b,c,d,e,f,(g.set j1 (-1)),(ae .i64 h 1),()))) (some (.inr (.inl (a,b,c,d,e,f,g,()))))
def zS:=ab Al
def Fp : Ann:=⟨sh [(1,.av (.ptr 1 0)),(3,.av (.own 3)),(4,.av (.val I))] [(1,.box [.val I,.val (.slice yQ2),.val yQ3,.val (.slice I),.val (.slice .str),.val I]),(3,.arr I)],[(.exit 0,sh [(1,.av (.ptr 1 0)),(3,.av (.own 3))] [(1,.box [.val I,.val (.slice yQ2),.val yQ3,.val (.slice I),.val (.slice .str),.val I]),(3,.arr I)])],zS⟩
def Ze (x : (Q10×Unit)) : Option Q1 :=
 let (((a,b,c,_),d,e,f,_),_):=x; (dF I (aQ .i64 2 (b.length : Nat)) (aQ .i64 2 (b.length : Nat))).bind fun m1=>(zS (a,b,c,d,e,f,m1,0,())).bind (Sum.elim (fun (a_3,b_3,c_3,d_3,e_3,f_3,g_3,_)=>cond (eqI (g_3.length : Nat) 0) (some (g_3,())) ((aI g_3.length 0).bind fun j4=>(g_3[j4]?).bind fun y5=>(Zr ((a_3,b_3,c_3,()),())).bind fun r6=>(rE (a_3,b_3,c_3,d_3,e_3,f_3,(g_3.set j4 0),r6.1,[0],0,())).bind (Sum.elim (fun z8=>some (z8.1,())) (fun _=>none)))) (fun _=>none))
def Hl : Fn:=mkF (cx [BI,GR]) [(3,Fp),(12,CP)] 45 Tryd.f45 [(.rd,yQ9)] [(.tmp 2,true,(.slice I))] Ze [lp 3 Fp Al,lp 12 CP sc] am ah rfl
def vA (x : Q34) : Option (Q34⊕(Q27⊕Empty)) :=
 let (a,b,c,d,e,f,g,h,i,k,l,_):=x; (aG c g).bind fun y1=>cond (ltI l (y1.length : Nat)) ((aG c g).bind fun y2=>(aG y2 l).bind fun y3=>(aG e y3).bind fun y4=>cond (eqI y4 h) ((Zs (y3,())).bind fun r5=>(aI d.length r5.1).bind fun j6=>(d[j6]?).bind fun y7=>some (.inl (a,b,c,d,e,f,g,h,i,y7,(ae .i64 l 1),()))) (some (.inl (a,b,c,d,e,f,g,h,i,k,(ae .i64 l 1),())))) (some (.inr (.inl (a,b,c,d,e,f,h,i,k,()))))
def uF:=ab vA
def CF : Ann:=⟨sh [(1,.av (.val (.slice I))),(2,.av (.val I)),(3,.av (.val I)),(4,.av (.val I)),(5,.av (.ptr 5 0)),(11,.av (.own 11)),(12,.av (.val I)),(13,.av (.val I)),(14,.av (.val I))] [(5,.box [.val I,.val (.slice yQ2),.val yQ3]),(11,.arr I)],[(.exit 2,sh [(1,.av (.val (.slice I))),(2,.av (.val I)),(4,.av (.val I)),(5,.av (.ptr 5 0)),(11,.av (.own 11)),(12,.av (.val I)),(13,.av (.val I))] [(5,.box [.val I,.val (.slice yQ2),.val yQ3]),(11,.arr I)])],uF⟩
def qN (x : Q27) : Option (Q27⊕((Int×Unit)⊕(Unit⊕Empty))) :=
 let (a,b,c,d,e,f,g,h,i,_):=x; cond (leI i a) ((uF (a,b,c,d,e,f,g,h,i,(-1),0,())).bind (Sum.elim (fun (a_2,b_2,c_2,d_2,e_2,f_2,g_2,h_2,i_2,_)=>cond (ltI i_2 0) (some (.inr (.inl (i_2,())))) (cond (ltI i_2 f_2) (some (.inr (.inl (i_2,())))) (some (.inl (a_2,b_2,c_2,d_2,e_2,f_2,i_2,g_2,(ae .i64 h_2 1),()))))) (fun _=>none))) (some (.inr (.inr (.inl ()))))
def nV:=ab qN
def CG : Ann:=⟨sh [(1,.av (.val (.slice I))),(2,.av (.val I)),(3,.av (.val I)),(4,.av (.val I)),(5,.av (.ptr 5 0)),(11,.av (.own 11)),(12,.av (.val I))] [(5,.box [.val I,.val (.slice yQ2),.val yQ3]),(11,.arr I)],[(.ret,sh [(10,.av (.val I))] []),(.exit 0,sh [] [])],nV⟩
def Zad (x : (Q9×List Int×Int×Int×Int×Unit)) : Option (Int×Unit) :=
 let ((a,b,c,_),d,e,f,g,_):=x; (Zw ((a,b,c,()),())).bind fun r1=>(nV (a,b,c,r1.1,d,e,f,g,0,())).bind (Sum.elim (fun z3=>some (z3.1,())) (Sum.elim (fun z4=>some ((-1),())) (fun _=>none)))
def GK : Fn:=mkF (cx [FW,BI]) [(3,CG),(7,CF)] 47 Tryd.f47 [(.rd,yQ6),(.rd,(.slice I)),(.rd,I),(.rd,I),(.rd,I)] [(.tmp 10,true,I)] Zad [lp 3 CG qN,lp 7 CF vA] am ah rfl
def qi (x : Q52) : Option (Q52⊕((Int×(List Q2)×(List (List Int))×List Int×List ByteArray×Int×Int×(List Q2)×(List (List Int))×List Int×List ByteArray×Int×List Int×List Int×List Int×Int×Bool×Unit)⊕Empty)) :=
 let (a,b,c,d,e,f,g,h,i,k,l,m,n,o,p,q,s,t,_):=x; cond (ltI t (n.length : Nat)) (cond s ((aI p.length t).bind fun j1=>(p[j1]?).bind fun y2=>(aI n.length t).bind fun j3=>(n[j3]?).bind fun y4=>(Zad ((a,b,c,()),o,g,y2,(cl (ae .i64 y4 q) 4),())).bind fun r5=>(Zs (t,())).bind fun r6=>(aI p.length r6.1).bind fun j7=>(p[j7]?).bind fun y8=>some (.inl (a,b,c,d,e,f,g,h,i,k,l,m,n,o,p,q,(eqI r5.1 y8),(ae .i64 t 1),()))) (some (.inr (.inl (a,b,c,d,e,f,g,h,i,k,l,m,n,o,p,q,s,()))))) (some (.inr (.inl (a,b,c,d,e,f,g,h,i,k,l,m,n,o,p,q,s,()))))
def ux:=ab qi
def Cj : Ann:=⟨sh [(2,.av (.ptr 2 0)),(3,.av (.ptr 3 0)),(5,.av (.own 5)),(6,.av (.own 6)),(7,.av (.own 7)),(8,.av (.val I)),(9,.av (.val .bool)),(10,.av (.val I))] [(2,.box [.val I,.val (.slice yQ2),.val yQ3,.val (.slice I),.val (.slice .str),.val I]),(3,.box [.val I,.val (.slice yQ2),.val yQ3,.val (.slice I),.val (.slice .str),.val I]),(5,.arr I),(6,.arr I),(7,.arr I)],[(.exit 2,sh [(2,.av (.ptr 2 0)),(3,.av (.ptr 3 0)),(5,.av (.own 5)),(6,.av (.own 6)),(7,.av (.own 7)),(8,.av (.val I)),(9,.av (.val .bool))] [(2,.box [.val I,.val (.slice yQ2),.val yQ3,.val (.slice I),.val (.slice .str),.val I]),(3,.box [.val I,.val (.slice yQ2),.val yQ3,.val (.slice I),.val (.slice .str),.val I]),(5,.arr I),(6,.arr I),(7,.arr I)])],ux⟩
def Am (x : Q51) : Option (Q51⊕((Bool×Unit)⊕(Unit⊕Empty))) :=
 let (a,b,c,d,e,f,g,h,i,k,l,m,n,o,p,q,_):=x; cond (ltI q 4) ((ux (a,b,c,d,e,f,g,h,i,k,l,m,n,o,p,q,true,0,())).bind (Sum.elim (fun (a_2,b_2,c_2,d_2,e_2,f_2,g_2,h_2,i_2,k_2,l_2,m_2,n_2,o_2,p_2,q_2,s_2,_)=>cond s_2 (some (.inr (.inl (true,())))) (some (.inl (a_2,b_2,c_2,d_2,e_2,f_2,g_2,h_2,i_2,k_2,l_2,m_2,n_2,o_2,p_2,(ae .i64 q_2 1),())))) (fun _=>none))) (some (.inr (.inr (.inl ()))))
def zK:=ab Am
def FD : Ann:=⟨sh [(2,.av (.ptr 2 0)),(3,.av (.ptr 3 0)),(5,.av (.own 5)),(6,.av (.own 6)),(7,.av (.own 7)),(8,.av (.val I))] [(2,.box [.val I,.val (.slice yQ2),.val yQ3,.val (.slice I),.val (.slice .str),.val I]),(3,.box [.val I,.val (.slice yQ2),.val yQ3,.val (.slice I),.val (.slice .str),.val I]),(5,.arr I),(6,.arr I),(7,.arr I)],[(.ret,sh [(4,.av (.val .bool))] []),(.exit 0,sh [] [])],zK⟩
def Zg (x : (Q10×Q10×Unit)) : Option (Bool×Unit) :=
 let (((a,b,c,_),d,e,f,_),((g,h,i,_),k,l,m,_),_):=x; cond (ltI a g) (some (false,())) ((Ze (((g,h,i,()),k,l,m,()),())).bind fun r1=>(Ze (((a,b,c,()),d,e,f,()),())).bind fun r2=>(Zw ((g,h,i,()),())).bind fun r3=>(zK (a,b,c,d,e,f,g,h,i,k,l,m,r1.1,r2.1,r3.1,0,())).bind (Sum.elim (fun z5=>some (z5.1,())) (Sum.elim (fun z6=>some (false,())) (fun _=>none))))
def Hn : Fn:=mkF (cx [Hl,FW,GK,BI]) [(6,FD),(10,Cj)] 18 Tryd.f18 [(.rd,yQ9),(.rd,yQ9)] [(.tmp 4,true,.bool)] Zg [lp 6 FD Am,lp 10 Cj qi] am ah rfl
def Zb (x : (Q10×Unit)) : Option (Bool×Unit) :=
 let (((a,b,c,_),d,e,f,_),_):=x; (Zat (((a,b,c,()),d,e,f,()),())).bind fun r1=>cond (!r1.1) ((Zz ()).bind fun r2=>some (r2.1,())) (cond (gtI (b.length : Nat) 16) ((Zz ()).bind fun r3=>some (r3.1,())) ((Zbd (((a,b,c,()),d,e,f,()),())).bind fun r4=>cond (neI r4.2.1 0) (cond (neI r4.2.1 0) ((Zz ()).bind fun r5=>some (r5.1,())) (some (false,()))) (cond (gtI (r4.1.1.2.1.length : Nat) 400) (cond (neI r4.2.1 0) ((Zz ()).bind fun r6=>some (r6.1,())) (some (false,()))) ((Zt (((r4.1.1.1,r4.1.1.2.1,r4.1.1.2.2.1,()),r4.1.2.1,r4.1.2.2.1,r4.1.2.2.2.1,()),())).bind fun r7=>cond (neI r7.1 0) (cond (neI r4.2.1 0) ((Zz ()).bind fun r8=>some (r8.1,())) (some (false,()))) ((Zbd (((r4.1.1.1,r4.1.1.2.1,r4.1.1.2.2.1,()),r4.1.2.1,r4.1.2.2.1,r4.1.2.2.2.1,()),())).bind fun r9=>(Zj (((r4.1.1.1,r4.1.1.2.1,r4.1.1.2.2.1,()),r4.1.2.1,r4.1.2.2.1,r4.1.2.2.2.1,()),())).bind fun r10=>cond r10.1 (cond (eqI r9.2.1 0) ((Zt (((r9.1.1.1,r9.1.1.2.1,r9.1.1.2.2.1,()),r9.1.2.1,r9.1.2.2.1,r9.1.2.2.2.1,()),())).bind fun r11=>cond (eqI r11.1 0) ((Zj (((r9.1.1.1,r9.1.1.2.1,r9.1.1.2.2.1,()),r9.1.2.1,r9.1.2.2.1,r9.1.2.2.2.1,()),())).bind fun r12=>cond r12.1 ((Zg (((r9.1.1.1,r9.1.1.2.1,r9.1.1.2.2.1,()),r9.1.2.1,r9.1.2.2.1,r9.1.2.2.2.1,()),((r4.1.1.1,r4.1.1.2.1,r4.1.1.2.2.1,()),r4.1.2.1,r4.1.2.2.1,r4.1.2.2.2.1,()),())).bind fun r13=>cond r13.1 ((Zz ()).bind fun r14=>some (r14.1,())) (some (false,()))) (some (false,()))) (some (false,()))) (some (false,()))) (some (false,())))))))
def Zb_h : Fn:=mkF (cx [GA,Hj,F4,Fy,Gx,Hn]) [] 7 Tryd.f7 [(.rd,yQ9)] [(.tmp 2,true,.bool)] Zb [] am ah rfl
def Zb_c : Con:={ ins:=[(.rd,yQ9)],outs:=[(true,.bool)],fn:=Zb }
theorem C8 : Con.Holds Tryd.prog glob 7 Zb_c:=Zb_h.ok
def vM (x : Q23) : Option (Q23⊕((Bool×Unit)⊕(Unit⊕Empty))) :=
 let (a,b,c,d,e,f,g,_):=x; cond (ltI g (e.length : Nat)) ((aG e g).bind fun y1=>cond (neS y1 (ByteArray.mk #[])) (some (.inr (.inl (false,())))) (some (.inl (a,b,c,d,e,f,(ae .i64 g 1),())))) (some (.inr (.inr (.inl ()))))
def zE:=ab vM
def FF : Ann:=⟨sh [(1,.av (.ptr 1 0)),(3,.av (.val I))] [(1,.box [.val I,.val (.slice yQ2),.val yQ3,.val (.slice I),.val (.slice .str),.val I])],[(.ret,sh [(2,.av (.val .bool))] []),(.exit 0,sh [] [])],zE⟩
def Zx (x : (Q10×Unit)) : Option (Bool×Unit) :=
 let (((a,b,c,_),d,e,f,_),_):=x; (zE (a,b,c,d,e,f,0,())).bind (Sum.elim (fun z2=>some (z2.1,())) (Sum.elim (fun z3=>some (true,())) (fun _=>none)))
def Ho : Fn:=mkF (cx []) [(2,FF)] 14 Tryd.f14 [(.rd,yQ9)] [(.tmp 2,true,.bool)] Zx [lp 2 FF vM] am ah rfl
def Hy : Con:={ ins:=[(.rd,yQ9)],outs:=[(true,.bool)],fn:=Zx }
def wy (x : Q40) : Option (Q40⊕(((List (List Int))×Int×Unit)⊕(Q35⊕Empty))) :=
 let (a,b,c,d,e,f,g,h,i,_):=x; (aI g.length h).bind fun j1=>(g[j1]?).bind fun y2=>cond (ltI i (y2.length : Nat)) ((aI g.length h).bind fun j3=>(g[j3]?).bind fun y4=>(aG y4 i).bind fun y5=>cond (eqI y5 f) (some (.inr (.inl (g,h,())))) (some (.inl (a,b,c,d,e,f,g,h,(ae .i64 i 1),())))) (some (.inr (.inr (.inl (a,b,c,d,e,f,g,h,())))))
def wR:=ab wy
def Fl : Ann:=⟨sh [(1,.av (.ptr 1 0)),(4,.av (.own 4)),(5,.av (.val I)),(6,.av (.val I))] [(1,.box [.val I,.val (.slice yQ2),.val yQ3,.val (.slice I),.val (.slice .str),.val I]),(4,.arr (.slice I))],[(.ret,sh [(2,.av (.own 2)),(3,.av (.val I))] [(2,.arr (.slice I))]),(.exit 2,sh [(1,.av (.ptr 1 0)),(4,.av (.own 4)),(5,.av (.val I))] [(1,.box [.val I,.val (.slice yQ2),.val yQ3,.val (.slice I),.val (.slice .str),.val I]),(4,.arr (.slice I))])],wR⟩
def zz (x : Q35) : Option (Q35⊕(((List (List Int))×Int×Unit)⊕(Q5⊕Empty))) :=
 let (a,b,c,d,e,f,g,h,_):=x; cond (ltI h (g.length : Nat)) ((wR (a,b,c,d,e,f,g,h,0,())).bind (Sum.elim (fun z2=>some (.inr (.inl (z2.1,z2.2.1,())))) (Sum.elim (fun (a_3,b_3,c_3,d_3,e_3,f_3,g_3,h_3,_)=>some (.inl (a_3,b_3,c_3,d_3,e_3,f_3,g_3,(ae .i64 h_3 1),()))) (fun _=>none)))) (some (.inr (.inr (.inl (g,())))))
def zG:=ab zz
def Fq : Ann:=⟨sh [(1,.av (.ptr 1 0)),(4,.av (.own 4)),(5,.av (.val I))] [(1,.box [.val I,.val (.slice yQ2),.val yQ3,.val (.slice I),.val (.slice .str),.val I]),(4,.arr (.slice I))],[(.ret,sh [(2,.av (.own 2)),(3,.av (.val I))] [(2,.arr (.slice I))]),(.exit 0,sh [(4,.av (.own 4))] [(4,.arr (.slice I))])],zG⟩
def Zu (x : (Q10×Unit)) : Option ((List (List Int))×Int×Unit) :=
 let (((a,b,c,_),d,e,f,_),_):=x; (Zy ((a,b,c,()),())).bind fun r1=>(zG (a,b,c,d,e,f,r1.1,0,())).bind (Sum.elim (fun z3=>some (z3.1,z3.2.1,())) (Sum.elim (fun z4=>some (z4.1,(-1),())) (fun _=>none)))
def Hs : Fn:=mkF (cx [FR]) [(3,Fq),(6,Fl)] 43 Tryd.f43 [(.rd,yQ9)] [(.tmp 2,true,yQ3),(.tmp 3,true,I)] Zu [lp 3 Fq zz,lp 6 Fl wy] am ah rfl
def pX (x : Q37) : Option (Q37⊕((Bool×Unit)⊕((Int×Unit)⊕Empty))) :=
 let (a,b,c,d,e,f,g,h,i,k,_):=x; cond (ltI k (g.length : Nat)) ((aG g k).bind fun y1=>(Zs (y1,())).bind fun r2=>(aG d r2.1).bind fun y3=>cond (eqI y3 h) (some (.inl (a,b,c,d,e,f,g,h,(ae .i64 i 1),(ae .i64 k 1),()))) (cond (neI y3 2) (some (.inr (.inl (false,())))) (some (.inl (a,b,c,d,e,f,g,h,i,(ae .i64 k 1),()))))) (some (.inr (.inr (.inl (i,())))))
def uN:=ab pX
def Cc : Ann:=⟨sh [(1,.av (.val (.slice I))),(2,.av (.val I)),(3,.av (.ptr 3 0)),(7,.av (.val I)),(8,.av (.val I))] [(3,.box [.val I,.val (.slice yQ2),.val yQ3,.val (.slice I),.val (.slice .str),.val I])],[(.ret,sh [(6,.av (.val .bool))] []),(.exit 0,sh [(7,.av (.val I))] [])],uN⟩
def Zas (x : (Q10×List Int×Int×Unit)) : Option (Bool×Unit) :=
 let (((a,b,c,_),d,e,f,_),g,h,_):=x; (uN (a,b,c,d,e,f,g,h,0,0,())).bind (Sum.elim (fun z2=>some (z2.1,())) (Sum.elim (fun z3=>some ((eqI z3.1 4),())) (fun _=>none)))
def GZ : Fn:=mkF (cx [BI]) [(3,Cc)] 44 Tryd.f44 [(.rd,yQ9),(.rd,(.slice I)),(.rd,I)] [(.tmp 6,true,.bool)] Zas [lp 3 Cc pX] am ah rfl
def wH (x : Q40) : Option (Q40⊕((Bool×Unit)⊕(Unit⊕Empty))) :=
 let (a,b,c,d,e,f,g,h,i,_):=x; cond (ltI i (g.length : Nat)) (cond (eqI i h) ((aI g.length i).bind fun j1=>(g[j1]?).bind fun y2=>(Zas (((a,b,c,()),d,e,f,()),y2,3,())).bind fun r3=>cond (!r3.1) (some (.inr (.inl (false,())))) (some (.inl (a,b,c,d,e,f,g,h,(ae .i64 i 1),())))) ((aI g.length i).bind fun j4=>(g[j4]?).bind fun y5=>(Zas (((a,b,c,()),d,e,f,()),y5,1,())).bind fun r6=>cond (!r6.1) (some (.inr (.inl (false,())))) (some (.inl (a,b,c,d,e,f,g,h,(ae .i64 i 1),()))))) (some (.inr (.inr (.inl ()))))
def zo:=ab wH
def Fa : Ann:=⟨sh [(1,.av (.ptr 1 0)),(3,.av (.own 3)),(4,.av (.val I)),(5,.av (.val I))] [(1,.box [.val I,.val (.slice yQ2),.val yQ3,.val (.slice I),.val (.slice .str),.val I]),(3,.arr (.slice I))],[(.ret,sh [(2,.av (.val .bool))] []),(.exit 0,sh [] [])],zo⟩
def Zc (x : (Q10×Unit)) : Option (Bool×Unit) :=
 let (((a,b,c,_),d,e,f,_),_):=x; (Zt (((a,b,c,()),d,e,f,()),())).bind fun r1=>cond (neI r1.1 0) (some (false,())) ((Zx (((a,b,c,()),d,e,f,()),())).bind fun r2=>cond (!r2.1) (some (false,())) (cond (eqI (b.length : Nat) 0) (some (false,())) ((Zu (((a,b,c,()),d,e,f,()),())).bind fun r3=>(zo (a,b,c,d,e,f,r3.1,r3.2.1,0,())).bind (Sum.elim (fun z5=>some (z5.1,())) (Sum.elim (fun z6=>some (true,())) (fun _=>none))))))
def Hx : Fn:=mkF (cx [F4,Ho,Hs,GZ]) [(5,Fa)] 17 Tryd.f17 [(.rd,yQ9)] [(.tmp 2,true,.bool)] Zc [lp 5 Fa wH] am ah rfl
def Hv : Con:={ ins:=[(.rd,yQ9)],outs:=[(true,.bool)],fn:=Zc }
def nH (x : Q26) : Option (Q26⊕((Int×Unit)⊕Empty)) :=
 let (a,b,c,d,e,f,g,h,_):=x; cond (ltI h (e.length : Nat)) ((aG e h).bind fun y1=>some (.inl (a,b,c,d,e,f,(ae .i64 g (y1.size : Nat)),(ae .i64 h 2),()))) (some (.inr (.inl (g,()))))
def sa:=ab nH
def BE : Ann:=⟨sh [(1,.av (.ptr 1 0)),(3,.av (.val I)),(4,.av (.val I))] [(1,.box [.val I,.val (.slice yQ2),.val yQ3,.val (.slice I),.val (.slice .str),.val I])],[(.exit 0,sh [(3,.av (.val I))] [])],sa⟩
def Zae (x : (Q10×Unit)) : Option (Int×Unit) :=
 let (((a,b,c,_),d,e,f,_),_):=x; (Zt (((a,b,c,()),d,e,f,()),())).bind fun r1=>cond (neI r1.1 0) (some (0,())) ((sa (a,b,c,d,e,f,0,0,())).bind (Sum.elim (fun z3=>some (z3.1,())) (fun _=>none)))
def Ht : Fn:=mkF (cx [F4]) [(5,BE)] 19 Tryd.f19 [(.rd,yQ9)] [(.tmp 2,true,I)] Zae [lp 5 BE nH] am ah rfl
def Hu : Con:={ ins:=[(.rd,yQ9)],outs:=[(true,I)],fn:=Zae }
end
end Go.Vm

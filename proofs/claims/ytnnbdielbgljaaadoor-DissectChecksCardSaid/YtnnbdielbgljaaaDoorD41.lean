/-
 The functions that the law reaches, as functions on values, and the proofs that the machine computes them.
-/
import Derived.Test.YtnnbdielbgljaaaDoorVmA
import Derived.Test.YtnnbdielbgljaaaDoorVmExt4
import Derived.Test.YtnnbdielbgljaaaDoorProg
import Derived.KernelRfl
set_option linter.unusedVariables false
set_option linter.unusedSimpArgs false
namespace Go.Vm
open Go.Proofs
abbrev I : Ty:=.int .i64
abbrev yQ1 : Ty:=.prod I .unit
abbrev yQ2 : Ty:=.prod I yQ1
abbrev yQ3 : Ty:=.slice (.slice I)
abbrev yQ4 : Ty:=.prod yQ3 .unit
abbrev yQ5 : Ty:=.prod (.slice yQ2) yQ4
abbrev yQ6 : Ty:=.prod I yQ5
abbrev yQ7 : Ty:=.prod (.slice .str) yQ1
abbrev yQ8 : Ty:=.prod (.slice I) yQ7
abbrev yQ9 : Ty:=.prod yQ6 yQ8
abbrev Q1:=List Int×Unit
abbrev Q2:=Int×Int×Unit
abbrev Q3:=ByteArray×Unit
abbrev Q4:=List Int×Int×Unit
abbrev Q5:=Unit×ByteArray×Int
abbrev Q6:=Int×Int×Int×Unit
abbrev Q7:=(List (List Int))×Unit
abbrev Q8:=List Int×Int×Int×Unit
abbrev Q9:=(List (List Int))×Int×Unit
abbrev Q10:=List Int×Int×Int×Int×Unit
abbrev Q11:=Int×(List Q2)×(List (List Int))×Unit
abbrev Q12:=Q11×List Int×List ByteArray×Int×Unit
abbrev Q13:=List Int×(Q12×Unit)×Int×Int×Unit
abbrev Q14:=List Int×List Int×Int×Bool×Int×Unit
abbrev Q15:=List Int×(List (List Int))×Int×Int×Unit
abbrev Q16:=Int×(List Q2)×(List (List Int))×Int×Unit
abbrev Q17:=(List (List Int))×List Int×List Bool×Int×Unit
abbrev Q18:=Int×(List Q2)×(List (List Int))×Int×Int×Unit
abbrev Q19:=List Int×List Bool×(List (List Int))×Int×Int×Unit
abbrev Q20:=Int×(List Q2)×(List (List Int))×List Int×Int×Unit
abbrev Q21:=Int×(List Q2)×(List (List Int))×Int×Int×Int×Unit
abbrev Q22:=Int×(List Q2)×(List (List Int))×List Int×Int×Int×Unit
abbrev Q23:=Int×(List Q2)×(List (List Int))×(List Q2)×Int×Int×Unit
abbrev Q24:=(List (List Int))×List Int×List Bool×List Int×Int×Int×Unit
abbrev Q25:=Int×(List Q2)×(List (List Int))×List Bool×List Int×Int×Unit
abbrev Q26:=Int×(List Q2)×(List (List Int))×List Bool×Int×Int×Int×Unit
abbrev Q27:=List Int×List Bool×(List (List Int))×List Int×Int×Int×Int×Unit
abbrev Q28:=List Int×(List (List Int))×Int×Int×Int×List Int×Int×Int×Unit
abbrev Q29:=Int×(List Q2)×(List (List Int))×List Int×Int×List Int×Int×Unit
abbrev Q30:=Int×(List Q2)×(List (List Int))×List Int×List Bool×Int×Int×Unit
abbrev Q31:=Int×(List Q2)×(List (List Int))×Int×(List (List Int))×Int×Int×Unit
abbrev Q32:=Int×Int×(List Q2)×(List (List Int))×(List (List Int))×Int×Int×Unit
abbrev Q33:=Int×(List Q2)×(List (List Int))×Int×(List Q2)×(List (List Int))×Unit
abbrev Q34:=List Int×List Int×(List (List Int))×Int×Int×List Int×Int×Int×Unit
abbrev Q35:=Int×(List Q2)×(List (List Int))×List Int×List ByteArray×Int×Int×Unit
abbrev Q36:=Int×(List Q2)×(List (List Int))×List Bool×List Int×Int×Int×Int×Unit
abbrev Q37:=Int×(List Q2)×(List (List Int))×List Int×List Bool×Int×Int×Int×Unit
abbrev Q38:=Int×(List Q2)×(List (List Int))×Int×(List Q2)×(List (List Int))×Int×Unit
abbrev Q39:=Int×(List Q2)×(List (List Int))×List Int×List ByteArray×Int×Int×Int×Unit
abbrev Q40:=Int×(List Q2)×(List (List Int))×List Bool×Int×(List (List Int))×Int×Int×Unit
abbrev Q41:=Int×(List Q2)×(List (List Int))×Int×(List Q2)×(List (List Int))×Int×Int×Unit
abbrev Q42:=Int×(List Q2)×(List (List Int))×List Bool×List Int×Int×List Int×Int×Int×Unit
abbrev Q43:=Int×(List Q2)×(List (List Int))×List Int×List ByteArray×Int×Int×Int×Int×Unit
abbrev Q44:=Int×(List Q2)×(List (List Int))×List Int×List ByteArray×Int×Int×Int×Bool×Unit
abbrev Q45:=Int×(List Q2)×(List (List Int))×List Int×List ByteArray×Int×List Int×Int×Int×Unit
abbrev Q46:=Int×(List Q2)×(List (List Int))×List Int×List ByteArray×Int×(List (List Int))×Int×Unit
abbrev Q47:=Int×(List Q2)×(List (List Int))×List Int×List ByteArray×Int×Int×List Int×Int×Int×Unit
abbrev Q48:=Int×(List Q2)×(List (List Int))×List Int×List ByteArray×Int×List Int×Int×Int×Int×Unit
abbrev Q49:=Int×(List Q2)×(List (List Int))×List Bool×List Int×Int×Int×Int×List Int×Int×Int×Unit
abbrev Q50:=Int×(List Q2)×(List (List Int))×List Int×List ByteArray×Int×Int×Int×Int×Int×Int×Unit
abbrev Q51:=Int×(List Q2)×(List (List Int))×List Int×List ByteArray×Int×(List (List Int))×Int×Int×Unit
abbrev Q52:=Int×(List Q2)×(List (List Int))×List Int×List ByteArray×Int×Int×(List Q2)×(List (List Int))×Unit
abbrev Q53:=Int×(List Q2)×(List (List Int))×List Int×List ByteArray×Int×(List (List Int))×Int×Int×Int×Unit
abbrev Q54:=Int×(List Q2)×(List (List Int))×List Int×List ByteArray×Int×Int×Int×List Int×Int×Int×Int×Unit
abbrev Q55:=Int×(List Q2)×(List (List Int))×List Int×List ByteArray×Int×List Int×(List (List Int))×Int×Int×Unit
abbrev Q56:=Int×(List Q2)×(List (List Int))×List Bool×Int×Int×(List (List Int))×Int×Int×List Int×Int×Int×Unit
abbrev Q57:=Int×(List Q2)×(List (List Int))×List Int×List ByteArray×Int×Int×Int×List Int×Int×Int×Int×Int×Unit
abbrev Q58:=Int×(List Q2)×(List (List Int))×List Int×List ByteArray×Int×List Int×Int×(List (List Int))×Int×Int×Unit
abbrev Q59:=Int×(List Q2)×(List (List Int))×List Int×List ByteArray×Int×Int×(List Q2)×(List (List Int))×Int×Int×Unit
abbrev Q60:=Int×(List Q2)×(List (List Int))×List Int×List ByteArray×Int×Int×Int×(List (List Int))×Bool×Int×Int×Unit
abbrev Q61:=Int×(List Q2)×(List (List Int))×List Int×List ByteArray×Int×List Int×(List Q5)×List Int×(List (List Int))×Int×Int×Unit
abbrev Q62:=Int×(List Q2)×(List (List Int))×List Int×List ByteArray×Int×(List (List Int))×Int×Int×Int×Int×List Int×Int×Int×Unit
abbrev Q63:=Int×(List Q2)×(List (List Int))×List Int×List ByteArray×Int×List Int×Int×(List (List Int))×Int×Int×List Int×Int×Int×Unit
abbrev Q64:=Int×(List Q2)×(List (List Int))×List Int×List ByteArray×Int×Int×(List Q2)×(List (List Int))×List Int×List ByteArray×Int×Unit
abbrev Q65:=Int×(List Q2)×(List (List Int))×List Int×List ByteArray×Int×Int×Int×Int×Int×(List (List Int))×(List Q2)×(List (List Int))×Unit
abbrev Q66:=Int×(List Q2)×(List (List Int))×List Int×List ByteArray×Int×Int×(List Q2)×(List (List Int))×List Int×List ByteArray×Int×Int×Unit
abbrev Q67:=Int×(List Q2)×(List (List Int))×List Int×List ByteArray×Int×Int×Int×Int×Int×(List (List Int))×(List Q2)×(List (List Int))×(List Q2)×Int×Int×Unit
abbrev Q68:=Int×(List Q2)×(List (List Int))×List Int×List ByteArray×Int×Int×Int×Int×Int×(List (List Int))×(List Q2)×(List (List Int))×List Int×(List (List Int))×Unit
abbrev Q69:=Int×(List Q2)×(List (List Int))×List Int×List ByteArray×Int×Int×Int×Int×Int×(List (List Int))×Int×Int×List Int×(List Q2)×(List (List Int))×Int×(List Q2)×Int×Int×Unit
abbrev Q70:=Int×(List Q2)×(List (List Int))×List Int×List ByteArray×Int×Int×Int×Int×Int×(List (List Int))×(List Q2)×(List (List Int))×List Int×(List (List Int))×(List (List Int))×Int×Int×Unit
abbrev Q71:=Int×(List Q2)×(List (List Int))×List Int×List ByteArray×Int×Int×Int×Int×Int×(List (List Int))×Int×Int×List Int×(List Q5)×(List Q2)×(List (List Int))×Int×(List Q2)×Int×Int×Unit
abbrev Q72:=Int×(List Q2)×(List (List Int))×List Int×List ByteArray×Int×Int×Int×Int×Int×(List (List Int))×List Int×(List Q2)×(List (List Int))×List Int×(List (List Int))×(List (List Int))×Int×Int×Unit
abbrev Q73:=Int×(List Q2)×(List (List Int))×List Int×List ByteArray×Int×Int×Int×Int×Int×(List (List Int))×List Int×(List Q2)×(List (List Int))×List Int×(List (List Int))×(List (List Int))×Int×Int×List Int×Int×Int×Unit
noncomputable section
def tab : Tab:=[(2,I),(3,I),(4,.bool),(5,(.int .u8)),(6,(.int .u8)),(7,(.prod I (.prod I (.prod .bool (.prod (.int .u8) .unit))))),(8,(.prod I (.prod I (.prod .bool (.prod (.int .u8) .unit))))),(9,.str),(10,.str),(11,.str),(12,(.int .u64)),(13,(.prod .str (.prod (.int .u64) .unit))),(14,(.prod .str (.prod (.int .u64) .unit))),(21,(.int .i32)),(22,(.slice yQ2)),(23,yQ3),(24,yQ6),(25,yQ6),(26,(.slice I)),(27,(.slice .str)),(28,yQ9),(29,yQ9),(32,I),(41,yQ2),(42,yQ2),(60,(.slice .bool)),(77,(.slice (.int .u8))),(81,(.arr 2 I)),(95,(.int .u32)),(96,(.int .u8)),(97,(.int .u8)),(100,(.int .i32)),(101,(.int .i32))]
def eqs : List Nat:=[42]
def glob : List (Nat×(Σ t : Ty,t.den)):=[(0,⟨(.arr 2 I),[16384,32768]⟩)]
set_option maxRecDepth 100000
def Zar_H4 : Shape:={ env:=[(1,.av (.ptr 1 0)),(3,.av (.val I))],objs:=[(1,.box [.val I,.val (.slice yQ2),.val yQ3])] }
def LT : List (Ex×Shape):=[(.ret,{ env:=[(2,.av (.val .bool))],objs:=[] }),(.exit 0,{ env:=[],objs:=[] })]
def oU (x : Q16) : Option (Q16⊕((Bool×Unit)⊕(Unit⊕Empty))) :=
 let (a,b,c,d,_):=x; cond (ltI d (c.length : Nat)) ((aG c d).bind fun y1=>cond (gtI (y1.length : Nat) 100) (some (.inr (.inl (false,())))) (some (.inl (a,b,c,(ak .i64 d 1),())))) (some (.inr (.inr (.inl ()))))
def zi : Q16→Option ((Bool×Unit)⊕(Unit⊕Empty)):=ab oU
def zI : Ann:={ head:=Zar_H4,exits:=LT,fn:=zi }
def sF : Anns:=[(4,zI)]
def Zar (x : (Q11×Unit)) : Option (Bool×Unit) :=
 let ((a,b,c,_),_):=x; cond (gtI (b.length : Nat) 100) (some (false,())) (cond (gtI (c.length : Nat) 100) (some (false,())) ((zi (a,b,c,0,())).bind (Sum.elim (fun z2=>some (z2.1,())) (Sum.elim (fun z3=>some (true,())) (fun _=>none)))))
def Zar_c : Con:={ ins:=[(.rd,yQ6)],outs:=[(true,.bool)],fn:=Zar }
def sB : Ctx:={ tab:=tab,con:=fun _ _=>none,glob:=glob,eqs:=eqs }
theorem Mx (x : Zar_H4.ty.den) : aO sB sF zI (af 4 (aa Tryd.f23)) x=oU x:=by kernel_rfl
theorem K4 (x : (ao [yQ6]).den) : aB sB sF (aa Tryd.f23) [(.rd,yQ6)] [(.tmp 2,true,.bool)] x=Zar x:=by kernel_rfl
def Zat_H5 : Shape:={ env:=[(1,.av (.ptr 1 0)),(3,.av (.val I)),(4,.av (.val I))],objs:=[(1,.box [.val I,.val (.slice yQ2),.val yQ3,.val (.slice I),.val (.slice .str),.val I])] }
def Mn : List (Ex×Shape):=[(.exit 0,{ env:=[(3,.av (.val I))],objs:=[] })]
def n7 (x : Q39) : Option (Q39⊕((Int×Unit)⊕Empty)) :=
 let (a,b,c,d,e,f,g,h,_):=x; cond (ltI h (e.length : Nat)) ((aG e h).bind fun y1=>some (.inl (a,b,c,d,e,f,(ak .i64 g (y1.size : Nat)),(ak .i64 h 1),()))) (some (.inr (.inl (g,()))))
def vG : Q39→Option ((Int×Unit)⊕Empty):=ab n7
def AH : Ann:={ head:=Zat_H5,exits:=Mn,fn:=vG }
def qD : Anns:=[(5,AH)]
def Zat (x : (Q12×Unit)) : Option (Bool×Unit) :=
 let (((a,b,c,_),d,e,f,_),_):=x; (Zar ((a,b,c,()),())).bind fun r1=>cond (!r1.1) (some (false,())) (cond (gtI (d.length : Nat) 200) (some (false,())) (cond (gtI (e.length : Nat) 200) (some (false,())) ((vG (a,b,c,d,e,f,0,0,())).bind (Sum.elim (fun z3=>some ((leI z3.1 400),())) (fun _=>none)))))
def Zat_c : Con:={ ins:=[(.rd,yQ9)],outs:=[(true,.bool)],fn:=Zat }
def pn : Ctx:={ tab:=tab,con:=fun | 23,_=>some Zar_c | _,_=>none,glob:=glob,eqs:=eqs }
theorem ME (x : Zat_H5.ty.den) : aO pn qD AH (af 5 (aa Tryd.f8)) x=n7 x:=by kernel_rfl
theorem Nu (x : (ao [yQ9]).den) : aB pn qD (aa Tryd.f8) [(.rd,yQ9)] [(.tmp 2,true,.bool)] x=Zat x:=by kernel_rfl
def vk : Anns:=[]
def Zbl (x : (Q2×Int×Unit)) : Option (Int×Unit) :=
 cond (eqI x.2.1 0) (some (x.1.1,())) (some (x.1.2.1,()))
def Zbl_c : Con:={ ins:=[(.rd,yQ2),(.rd,I)],outs:=[(true,I)],fn:=Zbl }
def uz : Ctx:={ tab:=tab,con:=fun _ _=>none,glob:=glob,eqs:=eqs }
theorem M8 (x : (ao [yQ2,I]).den) : aB uz vk (aa Tryd.f81) [(.rd,yQ2),(.rd,I)] [(.tmp 4,true,I)] x=Zbl x:=by kernel_rfl
def Zaz_H15 : Shape:={ env:=[(1,.av (.ptr 1 0)),(5,.av (.own 5)),(6,.av (.val I)),(7,.av (.val I)),(80,.av (.val yQ3)),(81,.av (.val I)),(82,.av (.val I)),(87,.av (.val (.slice I))),(88,.av (.val I)),(89,.av (.val I))],objs:=[(1,.box [.val I,.val (.slice yQ2),.val yQ3]),(5,.arr .bool)] }
def JA : List (Ex×Shape):=[(.ret,{ env:=[(2,.av (.val .bool))],objs:=[] }),(.exit 4,{ env:=[(1,.av (.ptr 1 0)),(5,.av (.own 5)),(6,.av (.val I)),(80,.av (.val yQ3)),(81,.av (.val I)),(82,.av (.val I))],objs:=[(1,.box [.val I,.val (.slice yQ2),.val yQ3]),(5,.arr .bool)] })]
def kA (x : Q56) : Option (Q56⊕((Bool×Unit)⊕(Q40⊕Empty))) :=
 let (a,b,c,d,e,f,g,h,i,k,l,m,_):=x; cond (ltI m l) ((aG k m).bind fun y1=>cond (ltI y1 0) (some (.inr (.inl (false,())))) (cond (geI y1 (d.length : Nat)) (some (.inr (.inl (false,())))) ((aT d.length y1).bind fun j2=>(d[j2]?).bind fun y3=>cond y3 (some (.inr (.inl (false,())))) ((aG b (eO .i64 y1 2)).bind fun y4=>(Zbl (y4,(gO y1 2),())).bind fun r5=>cond (neI r5.1 f) (some (.inr (.inl (false,())))) ((aT d.length y1).bind fun j6=>(d[j6]?).bind fun y7=>some (.inl (a,b,c,(d.set j6 true),(ak .i64 e 1),f,g,h,i,k,l,(ak .i64 m 1),()))))))) (some (.inr (.inr (.inl (a,b,c,d,e,g,h,i,())))))
def vW : Q56→Option ((Bool×Unit)⊕(Q40⊕Empty)):=ab kA
def vM : Ann:={ head:=Zaz_H15,exits:=JA,fn:=vW }
def Zaz_H12 : Shape:={ env:=[(1,.av (.ptr 1 0)),(5,.av (.own 5)),(6,.av (.val I)),(80,.av (.val yQ3)),(81,.av (.val I)),(82,.av (.val I))],objs:=[(1,.box [.val I,.val (.slice yQ2),.val yQ3]),(5,.arr .bool)] }
def Ki : List (Ex×Shape):=[(.ret,{ env:=[(2,.av (.val .bool))],objs:=[] }),(.exit 2,{ env:=[(5,.av (.own 5)),(6,.av (.val I))],objs:=[(5,.arr .bool)] })]
def kv (x : Q40) : Option (Q40⊕((Bool×Unit)⊕((List Bool×Int×Unit)⊕Empty))) :=
 let (a,b,c,d,e,f,g,h,_):=x; cond (ltI h g) ((aG f h).bind fun y1=>(vW (a,b,c,d,e,h,f,g,h,y1,(y1.length : Nat),0,())).bind (Sum.elim (fun z3=>some (.inr (.inl (z3.1,())))) (Sum.elim (fun (a_4,b_4,c_4,d_4,e_4,f_4,g_4,h_4,_)=>some (.inl (a_4,b_4,c_4,d_4,e_4,f_4,g_4,(ak .i64 h_4 1),()))) (fun _=>none)))) (some (.inr (.inr (.inl (d,e,())))))
def vy : Q40→Option ((Bool×Unit)⊕((List Bool×Int×Unit)⊕Empty)):=ab kv
def wJ : Ann:={ head:=Zaz_H12,exits:=Ki,fn:=vy }
def Zaz_H4 : Shape:={ env:=[(1,.av (.ptr 1 0)),(38,.av (.val (.slice yQ2))),(39,.av (.val I)),(40,.av (.val I))],objs:=[(1,.box [.val I,.val (.slice yQ2),.val yQ3])] }
def MM : List (Ex×Shape):=[(.ret,{ env:=[(2,.av (.val .bool))],objs:=[] }),(.exit 0,{ env:=[(1,.av (.ptr 1 0))],objs:=[(1,.box [.val I,.val (.slice yQ2),.val yQ3])] })]
def np (x : Q23) : Option (Q23⊕((Bool×Unit)⊕(Q11⊕Empty))) :=
 let (a,b,c,d,e,f,_):=x; cond (ltI f e) ((aG d f).bind fun y1=>cond (ltI y1.1 0) (some (.inr (.inl (false,())))) (cond (geI y1.1 a) (some (.inr (.inl (false,())))) (cond (ltI y1.2.1 0) (some (.inr (.inl (false,())))) (cond (geI y1.2.1 a) (some (.inr (.inl (false,())))) (cond (eqI y1.1 y1.2.1) (some (.inr (.inl (false,())))) (some (.inl (a,b,c,d,e,(ak .i64 f 1),())))))))) (some (.inr (.inr (.inl (a,b,c,())))))
def Bq : Q23→Option ((Bool×Unit)⊕(Q11⊕Empty)):=ab np
def BA : Ann:={ head:=Zaz_H4,exits:=MM,fn:=Bq }
def lL : Anns:=[(4,BA),(12,wJ),(15,vM)]
def Zaz (x : (Q11×Unit)) : Option (Bool×Unit) :=
 let ((a,b,c,_),_):=x; cond (ltI a 0) (some (false,())) ((aG [16384,32768] 0).bind fun y1=>cond (gtI a y1) (some (false,())) ((aG [16384,32768] 1).bind fun y2=>cond (gtI (b.length : Nat) y2) (some (false,())) (cond (neI (c.length : Nat) a) (some (false,())) ((Bq (a,b,c,b,(b.length : Nat),0,())).bind (Sum.elim (fun z4=>some (z4.1,())) (Sum.elim (fun (a_5,b_5,c_5,_)=>(dJ .bool (aX .i64 2 (b_5.length : Nat)) (aX .i64 2 (b_5.length : Nat))).bind fun m6=>(vy (a_5,b_5,c_5,m6,0,c_5,(c_5.length : Nat),0,())).bind (Sum.elim (fun z8=>some (z8.1,())) (Sum.elim (fun z9=>some ((eqI z9.2.1 (z9.1.length : Nat)),())) (fun _=>none)))) (fun _=>none)))))))
def Zaz_c : Con:={ ins:=[(.rd,yQ6)],outs:=[(true,.bool)],fn:=Zaz }
def lk : Ctx:={ tab:=tab,con:=fun | 81,_=>some Zbl_c | _,_=>none,glob:=glob,eqs:=eqs }
theorem Kn (x : Zaz_H15.ty.den) : aO lk lL vM (af 15 (aa Tryd.f64)) x=kA x:=by kernel_rfl
theorem Kr (x : Zaz_H12.ty.den) : aO lk lL wJ (af 12 (aa Tryd.f64)) x=kv x:=by kernel_rfl
theorem Mk (x : Zaz_H4.ty.den) : aO lk lL BA (af 4 (aa Tryd.f64)) x=np x:=by kernel_rfl
theorem NV (x : (ao [yQ6]).den) : aB lk lL (aa Tryd.f64) [(.rd,yQ6)] [(.tmp 2,true,.bool)] x=Zaz x:=by kernel_rfl
def wL : Anns:=[]
def Zbg (x : (Q11×Int×Unit)) : Option (Int×Unit) :=
 let ((a,b,c,_),d,_):=x; (Zaz ((a,b,c,()),())).bind fun r1=>cond (!r1.1) (some ((-1),())) (cond (ltI d 0) (some ((-1),())) (cond (geI d (aX .i64 2 (b.length : Nat))) (some ((-1),())) ((aG b (eO .i64 d 2)).bind fun y2=>(Zbl (y2,(gO d 2),())).bind fun r3=>some (r3.1,()))))
def Zbg_c : Con:={ ins:=[(.rd,yQ6),(.rd,I)],outs:=[(true,I)],fn:=Zbg }
def sN : Ctx:={ tab:=tab,con:=fun | 64,_=>some Zaz_c | 81,_=>some Zbl_c | _,_=>none,glob:=glob,eqs:=eqs }
theorem LX (x : (ao [yQ6,I]).den) : aB sN wL (aa Tryd.f59) [(.rd,yQ6),(.rd,I)] [(.tmp 4,true,I)] x=Zbg x:=by kernel_rfl
def Zas_H11 : Shape:={ env:=[(1,.av (.ptr 1 0)),(3,.av (.own 3)),(4,.av (.own 4)),(5,.av (.val I)),(39,.av (.val (.slice I))),(40,.av (.val I)),(41,.av (.val I))],objs:=[(1,.box [.val I,.val (.slice yQ2),.val yQ3]),(3,.arr .bool),(4,.arr I)] }
def JD : List (Ex×Shape):=[(.exit 2,{ env:=[(1,.av (.ptr 1 0)),(3,.av (.own 3)),(4,.av (.own 4)),(5,.av (.val I))],objs:=[(1,.box [.val I,.val (.slice yQ2),.val yQ3]),(3,.arr .bool),(4,.arr I)] })]
def kH (x : Q42) : Option (Q42⊕(Q25⊕Empty)) :=
 let (a,b,c,d,e,f,g,h,i,_):=x; cond (ltI i h) ((aG g i).bind fun y1=>(Zbg ((a,b,c,()),(ij .i64 y1 1),())).bind fun r2=>(aT d.length r2.1).bind fun j3=>(d[j3]?).bind fun y4=>cond (!y4) ((aT d.length r2.1).bind fun j5=>(d[j5]?).bind fun y6=>(app e [r2.1]).bind fun a7=>some (.inl (a,b,c,(d.set j5 true),a7,f,g,h,(ak .i64 i 1),()))) (some (.inl (a,b,c,d,e,f,g,h,(ak .i64 i 1),())))) (some (.inr (.inl (a,b,c,d,e,f,()))))
def vB : Q42→Option (Q25⊕Empty):=ab kH
def wH : Ann:={ head:=Zas_H11,exits:=JD,fn:=vB }
def Zas_H6 : Shape:={ env:=[(1,.av (.ptr 1 0)),(3,.av (.own 3)),(4,.av (.own 4)),(5,.av (.val I))],objs:=[(1,.box [.val I,.val (.slice yQ2),.val yQ3]),(3,.arr .bool),(4,.arr I)] }
def Le : List (Ex×Shape):=[(.exit 0,{ env:=[(1,.av (.ptr 1 0)),(5,.av (.val I))],objs:=[(1,.box [.val I,.val (.slice yQ2),.val yQ3])] })]
def nQ (x : Q25) : Option (Q25⊕(Q16⊕Empty)) :=
 let (a,b,c,d,e,f,_):=x; cond (gtI (e.length : Nat) 0) ((aT e.length (bq .i64 (e.length : Nat) 1)).bind fun j1=>(e[j1]?).bind fun y2=>(iH e.length 0 (bq .i64 (e.length : Nat) 1)).bind fun v3=>(aG c y2).bind fun y4=>(vB (a,b,c,d,((e.drop v3.1).take v3.2),(ak .i64 f 1),y4,(y4.length : Nat),0,())).bind (Sum.elim (fun (a_6,b_6,c_6,d_6,e_6,f_6,_)=>some (.inl (a_6,b_6,c_6,d_6,e_6,f_6,()))) (fun _=>none))) (some (.inr (.inl (a,b,c,f,()))))
def wm : Q25→Option (Q16⊕Empty):=ab nQ
def Ay : Ann:={ head:=Zas_H6,exits:=Le,fn:=wm }
def pd : Anns:=[(6,Ay),(11,wH)]
def Zas (x : (Q11×Unit)) : Option (Bool×Unit) :=
 let ((a,b,c,_),_):=x; cond (eqI a 0) (some (false,())) ((dJ .bool a a).bind fun m1=>(aT m1.length 0).bind fun j2=>(m1[j2]?).bind fun y3=>(wm (a,b,c,(m1.set j2 true),[0],0,())).bind (Sum.elim (fun z5=>some ((eqI z5.2.2.2.1 z5.1),())) (fun _=>none)))
def Zas_c : Con:={ ins:=[(.rd,yQ6)],outs:=[(true,.bool)],fn:=Zas }
def nc : Ctx:={ tab:=tab,con:=fun | 59,_=>some Zbg_c | _,_=>none,glob:=glob,eqs:=eqs }
theorem JL (x : Zas_H11.ty.den) : aO nc pd wH (af 11 (aa Tryd.f72)) x=kH x:=by kernel_rfl
theorem NP (x : Zas_H6.ty.den) : aO nc pd Ay (af 6 (aa Tryd.f72)) x=nQ x:=by kernel_rfl
theorem MU (x : (ao [yQ6]).den) : aB nc pd (aa Tryd.f72) [(.rd,yQ6)] [(.tmp 2,true,.bool)] x=Zas x:=by kernel_rfl
def Zaq_H6 : Shape:={ env:=[(3,.av (.own 3)),(5,.av (.val (.slice I))),(14,.av (.val yQ3)),(15,.av (.val I)),(16,.av (.val I)),(20,.av (.val (.slice I))),(21,.av (.val I)),(22,.av (.val I))],objs:=[(3,.arr I)] }
def Nm : List (Ex×Shape):=[(.exit 2,{ env:=[(3,.av (.own 3)),(14,.av (.val yQ3)),(15,.av (.val I)),(16,.av (.val I))],objs:=[(3,.arr I)] })]
def nL (x : Q34) : Option (Q34⊕(Q15⊕Empty)) :=
 let (a,b,c,d,e,f,g,h,_):=x; cond (ltI h g) ((aG f h).bind fun y1=>cond (eqI (b.length : Nat) 0) none ((aG b (gO (ak .i64 h 1) (b.length : Nat))).bind fun y2=>(aT a.length (ij .i64 y1 1)).bind fun j3=>(a[j3]?).bind fun y4=>some (.inl ((a.set j3 y2),b,c,d,e,f,g,(ak .i64 h 1),())))) (some (.inr (.inl (a,c,d,e,()))))
def zH : Q34→Option (Q15⊕Empty):=ab nL
def zO : Ann:={ head:=Zaq_H6,exits:=Nm,fn:=zH }
def Zaq_H3 : Shape:={ env:=[(3,.av (.own 3)),(14,.av (.val yQ3)),(15,.av (.val I)),(16,.av (.val I))],objs:=[(3,.arr I)] }
def MP : List (Ex×Shape):=[(.exit 0,{ env:=[(3,.av (.own 3))],objs:=[(3,.arr I)] })]
def n8 (x : Q15) : Option (Q15⊕(Q1⊕Empty)) :=
 let (a,b,c,d,_):=x; cond (ltI d c) ((aG b d).bind fun y1=>(zH (a,y1,b,c,d,y1,(y1.length : Nat),0,())).bind (Sum.elim (fun z3=>some (.inl (z3.1,z3.2.1,z3.2.2.1,(ak .i64 z3.2.2.2.1 1),()))) (fun _=>none))) (some (.inr (.inl (a,()))))
def vU : Q15→Option (Q1⊕Empty):=ab n8
def zX : Ann:={ head:=Zaq_H3,exits:=MP,fn:=vU }
def ox : Anns:=[(3,zX),(6,zO)]
def Zaq (x : (Q11×Unit)) : Option Q1 :=
 let ((_,a,b,_),_):=x; (dJ I (aX .i64 2 (a.length : Nat)) (aX .i64 2 (a.length : Nat))).bind fun m1=>(vU (m1,b,(b.length : Nat),0,())).bind (Sum.elim (fun z3=>some (z3.1,())) (fun _=>none))
def Zaq_c : Con:={ ins:=[(.rd,yQ6)],outs:=[(true,(.slice I))],fn:=Zaq }
def pq : Ctx:={ tab:=tab,con:=fun _ _=>none,glob:=glob,eqs:=eqs }
theorem M5 (x : Zaq_H6.ty.den) : aO pq ox zO (af 6 (aa Tryd.f65)) x=nL x:=by kernel_rfl
theorem LK (x : Zaq_H3.ty.den) : aO pq ox zX (af 3 (aa Tryd.f65)) x=n8 x:=by kernel_rfl
theorem Mm (x : (ao [yQ6]).den) : aB pq ox (aa Tryd.f65) [(.rd,yQ6)] [(.tmp 2,true,(.slice I))] x=Zaq x:=by kernel_rfl
def Zbd_H11 : Shape:={ env:=[(3,.av (.own 3)),(4,.av (.own 4)),(5,.av (.own 5)),(7,.av (.own 7)),(8,.av (.val I)),(18,.av (.val I)),(19,.av (.val I))],objs:=[(3,.arr I),(4,.arr .bool),(5,.arr (.slice I)),(7,.arr I)] }
def Jz : List (Ex×Shape):=[(.exit 2,{ env:=[(3,.av (.own 3)),(4,.av (.own 4)),(5,.av (.own 5)),(7,.av (.own 7)),(18,.av (.val I)),(19,.av (.val I))],objs:=[(3,.arr I),(4,.arr .bool),(5,.arr (.slice I)),(7,.arr I)] })]
def kG (x : Q27) : Option (Q27⊕((List Int×List Bool×(List (List Int))×List Int×Int×Int×Unit)⊕Empty)) :=
 let (a,b,c,d,e,f,g,_):=x; (aT b.length e).bind fun j1=>(b[j1]?).bind fun y2=>cond (!y2) ((aT b.length e).bind fun j3=>(b[j3]?).bind fun y4=>(app d [e]).bind fun a5=>(aT a.length e).bind fun j6=>(a[j6]?).bind fun y7=>some (.inl (a,(b.set j3 true),c,a5,y7,f,g,()))) (some (.inr (.inl (a,b,c,d,f,g,()))))
def vE : Q27→Option ((List Int×List Bool×(List (List Int))×List Int×Int×Int×Unit)⊕Empty):=ab kG
def wK : Ann:={ head:=Zbd_H11,exits:=Jz,fn:=vE }
def Zbd_H7 : Shape:={ env:=[(3,.av (.own 3)),(4,.av (.own 4)),(5,.av (.own 5)),(18,.av (.val I)),(19,.av (.val I))],objs:=[(3,.arr I),(4,.arr .bool),(5,.arr (.slice I))] }
def Mo : List (Ex×Shape):=[(.exit 0,{ env:=[(5,.av (.own 5))],objs:=[(5,.arr (.slice I))] })]
def oA (x : Q19) : Option (Q19⊕(Q7⊕Empty)) :=
 let (a,b,c,d,e,_):=x; cond (ltI e d) ((vE (a,b,c,[],e,d,e,())).bind (Sum.elim (fun (a_2,b_2,c_2,d_2,e_2,f_2,_)=>cond (gtI (d_2.length : Nat) 0) ((app c_2 [d_2]).bind fun a3=>some (.inl (a_2,b_2,a3,e_2,(ak .i64 f_2 1),()))) (some (.inl (a_2,b_2,c_2,e_2,(ak .i64 f_2 1),())))) (fun _=>none))) (some (.inr (.inl (c,()))))
def zy : Q19→Option (Q7⊕Empty):=ab oA
def AN : Ann:={ head:=Zbd_H7,exits:=Mo,fn:=zy }
def nA : Anns:=[(7,AN),(11,wK)]
def Zbd (x : (Q11×Unit)) : Option Q7 :=
 let ((a,b,c,_),_):=x; (Zaz ((a,b,c,()),())).bind fun r1=>cond (!r1.1) (some ([],())) ((Zaq ((a,b,c,()),())).bind fun r2=>(dJ .bool (r2.1.length : Nat) (r2.1.length : Nat)).bind fun m3=>(zy (r2.1,m3,[],(r2.1.length : Nat),0,())).bind (Sum.elim (fun z5=>some (z5.1,())) (fun _=>none)))
def Zbd_c : Con:={ ins:=[(.rd,yQ6)],outs:=[(true,yQ3)],fn:=Zbd }
def mm : Ctx:={ tab:=tab,con:=fun | 64,_=>some Zaz_c | 65,_=>some Zaq_c | _,_=>none,glob:=glob,eqs:=eqs }
theorem Jx (x : Zbd_H11.ty.den) : aO mm nA wK (af 11 (aa Tryd.f39)) x=kG x:=by kernel_rfl
theorem NX (x : Zbd_H7.ty.den) : aO mm nA AN (af 7 (aa Tryd.f39)) x=oA x:=by kernel_rfl
theorem MF (x : (ao [yQ6]).den) : aB mm nA (aa Tryd.f39) [(.rd,yQ6)] [(.tmp 2,true,yQ3)] x=Zbd x:=by kernel_rfl
def Zk_H13 : Shape:={ env:=[(1,.av (.ptr 1 0)),(3,.av (.own 3)),(4,.av (.val I)),(6,.av (.own 6)),(14,.av (.val I)),(15,.av (.val I)),(40,.av (.val (.slice I))),(41,.av (.val I)),(42,.av (.val I))],objs:=[(1,.box [.val I,.val (.slice yQ2),.val yQ3]),(3,.arr .bool),(6,.arr I)] }
def Nv : List (Ex×Shape):=[(.exit 4,{ env:=[(1,.av (.ptr 1 0)),(3,.av (.own 3)),(4,.av (.val I)),(6,.av (.own 6)),(14,.av (.val I)),(15,.av (.val I))],objs:=[(1,.box [.val I,.val (.slice yQ2),.val yQ3]),(3,.arr .bool),(6,.arr I)] })]
def oz (x : Q49) : Option (Q49⊕(Q36⊕Empty)) :=
 let (a,b,c,d,e,f,g,h,i,k,l,_):=x; cond (ltI l k) ((aG i l).bind fun y1=>(aG b (eO .i64 y1 2)).bind fun y2=>(Zbl (y2,(ij .i64 (gO y1 2) 1),())).bind fun r3=>(aT d.length r3.1).bind fun j4=>(d[j4]?).bind fun y5=>cond (!y5) ((aT d.length r3.1).bind fun j6=>(d[j6]?).bind fun y7=>(app e [r3.1]).bind fun a8=>some (.inl (a,b,c,(d.set j6 true),a8,f,g,h,i,k,(ak .i64 l 1),()))) (some (.inl (a,b,c,d,e,f,g,h,i,k,(ak .i64 l 1),())))) (some (.inr (.inl (a,b,c,d,e,f,g,h,()))))
def zB : Q49→Option (Q36⊕Empty):=ab oz
def Bb : Ann:={ head:=Zk_H13,exits:=Nv,fn:=zB }
def Zk_H10 : Shape:={ env:=[(1,.av (.ptr 1 0)),(3,.av (.own 3)),(4,.av (.val I)),(6,.av (.own 6)),(14,.av (.val I)),(15,.av (.val I))],objs:=[(1,.box [.val I,.val (.slice yQ2),.val yQ3]),(3,.arr .bool),(6,.arr I)] }
def L0 : List (Ex×Shape):=[(.exit 2,{ env:=[(1,.av (.ptr 1 0)),(3,.av (.own 3)),(4,.av (.val I)),(14,.av (.val I)),(15,.av (.val I))],objs:=[(1,.box [.val I,.val (.slice yQ2),.val yQ3]),(3,.arr .bool)] })]
def i9 (x : Q36) : Option (Q36⊕(Q26⊕Empty)) :=
 let (a,b,c,d,e,f,g,h,_):=x; cond (gtI (e.length : Nat) 0) ((aT e.length 0).bind fun j1=>(e[j1]?).bind fun y2=>(aG c y2).bind fun y3=>(zB (a,b,c,d,e,f,g,h,y3,(y3.length : Nat),0,())).bind (Sum.elim (fun (a_5,b_5,c_5,d_5,e_5,f_5,g_5,h_5,_)=>(iH e_5.length 1 (e_5.length : Nat)).bind fun v6=>some (.inl (a_5,b_5,c_5,d_5,((e_5.drop v6.1).take v6.2),f_5,g_5,h_5,()))) (fun _=>none))) (some (.inr (.inl (a,b,c,d,f,g,h,()))))
def qR : Q36→Option (Q26⊕Empty):=ab i9
def AV : Ann:={ head:=Zk_H10,exits:=L0,fn:=qR }
def Zk_H4 : Shape:={ env:=[(1,.av (.ptr 1 0)),(3,.av (.own 3)),(4,.av (.val I)),(14,.av (.val I)),(15,.av (.val I))],objs:=[(1,.box [.val I,.val (.slice yQ2),.val yQ3]),(3,.arr .bool)] }
def Pf : List (Ex×Shape):=[(.exit 0,{ env:=[(4,.av (.val I))],objs:=[] })]
def iA (x : Q26) : Option (Q26⊕((Int×Unit)⊕Empty)) :=
 let (a,b,c,d,e,f,g,_):=x; cond (ltI g f) ((aT d.length g).bind fun j1=>(d[j1]?).bind fun y2=>cond y2 (some (.inl (a,b,c,d,e,f,(ak .i64 g 1),()))) ((aT d.length g).bind fun j3=>(d[j3]?).bind fun y4=>(qR (a,b,c,(d.set j3 true),[g],(ak .i64 e 1),f,g,())).bind (Sum.elim (fun (a_6,b_6,c_6,d_6,e_6,f_6,g_6,_)=>some (.inl (a_6,b_6,c_6,d_6,e_6,f_6,(ak .i64 g_6 1),()))) (fun _=>none)))) (some (.inr (.inl (e,()))))
def tQ : Q26→Option ((Int×Unit)⊕Empty):=ab iA
def GA : Ann:={ head:=Zk_H4,exits:=Pf,fn:=tQ }
def ry : Anns:=[(4,GA),(10,AV),(13,Bb)]
def Zk (x : (Q11×Unit)) : Option (Int×Unit) :=
 let ((a,b,c,_),_):=x; (dJ .bool a a).bind fun m1=>(tQ (a,b,c,m1,0,a,0,())).bind (Sum.elim (fun z3=>some (z3.1,())) (fun _=>none))
def Zk_c : Con:={ ins:=[(.rd,yQ6)],outs:=[(true,I)],fn:=Zk }
def tm : Ctx:={ tab:=tab,con:=fun | 81,_=>some Zbl_c | _,_=>none,glob:=glob,eqs:=eqs }
theorem Np (x : Zk_H13.ty.den) : aO tm ry Bb (af 13 (aa Tryd.f86)) x=oz x:=by kernel_rfl
theorem LV (x : Zk_H10.ty.den) : aO tm ry AV (af 10 (aa Tryd.f86)) x=i9 x:=by kernel_rfl
theorem Pa (x : Zk_H4.ty.den) : aO tm ry GA (af 4 (aa Tryd.f86)) x=iA x:=by kernel_rfl
theorem Pb (x : (ao [yQ6]).den) : aB tm ry (aa Tryd.f86) [(.rd,yQ6)] [(.tmp 2,true,I)] x=Zk x:=by kernel_rfl
def Zba_H5 : Shape:={ env:=[(1,.av (.ptr 1 0)),(3,.av (.val I)),(13,.av (.val yQ3)),(14,.av (.val I)),(15,.av (.val I))],objs:=[(1,.box [.val I,.val (.slice yQ2),.val yQ3])] }
def Nr : List (Ex×Shape):=[(.exit 0,{ env:=[(1,.av (.ptr 1 0)),(3,.av (.val I))],objs:=[(1,.box [.val I,.val (.slice yQ2),.val yQ3])] })]
def jd (x : Q31) : Option (Q31⊕(Q16⊕Empty)) :=
 let (a,b,c,d,e,f,g,_):=x; cond (ltI g f) ((aG e g).bind fun y1=>cond (eqI (y1.length : Nat) 0) (some (.inl (a,b,c,(ak .i64 d 1),e,f,(ak .i64 g 1),()))) (some (.inl (a,b,c,d,e,f,(ak .i64 g 1),())))) (some (.inr (.inl (a,b,c,d,()))))
def wk : Q31→Option (Q16⊕Empty):=ab jd
def BG : Ann:={ head:=Zba_H5,exits:=Nr,fn:=wk }
def qE : Anns:=[(5,BG)]
def Zba (x : (Q11×Unit)) : Option (Int×Unit) :=
 let ((a,b,c,_),_):=x; (Zaz ((a,b,c,()),())).bind fun r1=>cond (!r1.1) (some ((-1),())) ((Zbd ((a,b,c,()),())).bind fun r2=>(wk (a,b,c,(r2.1.length : Nat),c,(c.length : Nat),0,())).bind (Sum.elim (fun z4=>(Zk ((z4.1,z4.2.1,z4.2.2.1,()),())).bind fun r5=>some ((bq .i64 r5.1 (eO .i64 (ak .i64 (bq .i64 z4.1 (z4.2.1.length : Nat)) z4.2.2.2.1) 2)),())) (fun _=>none)))
def Zba_c : Con:={ ins:=[(.rd,yQ6)],outs:=[(true,I)],fn:=Zba }
def pm : Ctx:={ tab:=tab,con:=fun | 39,_=>some Zbd_c | 64,_=>some Zaz_c | 86,_=>some Zk_c | _,_=>none,glob:=glob,eqs:=eqs }
theorem Ns (x : Zba_H5.ty.den) : aO pm qE BG (af 5 (aa Tryd.f73)) x=jd x:=by kernel_rfl
theorem LL (x : (ao [yQ6]).den) : aB pm qE (aa Tryd.f73) [(.rd,yQ6)] [(.tmp 2,true,I)] x=Zba x:=by kernel_rfl
def Zbm_H6 : Shape:={ env:=[(1,.av (.ptr 1 0)),(4,.av (.val (.slice I))),(5,.av (.val I)),(10,.av (.val yQ3)),(11,.av (.val I)),(12,.av (.val I)),(16,.av (.val (.slice I))),(17,.av (.val I)),(18,.av (.val I))],objs:=[(1,.box [.val I,.val (.slice yQ2),.val yQ3,.val (.slice I),.val (.slice .str),.val I])] }
def LR : List (Ex×Shape):=[(.ret,{ env:=[(2,.av (.val .bool))],objs:=[] }),(.exit 2,{ env:=[(1,.av (.ptr 1 0)),(4,.av (.val (.slice I))),(5,.av (.val I)),(10,.av (.val yQ3)),(11,.av (.val I)),(12,.av (.val I))],objs:=[(1,.box [.val I,.val (.slice yQ2),.val yQ3,.val (.slice I),.val (.slice .str),.val I])] })]
def oK (x : Q63) : Option (Q63⊕((Bool×Unit)⊕(Q58⊕Empty))) :=
 let (a,b,c,d,e,f,g,h,i,k,l,m,n,o,_):=x; cond (ltI o n) ((aG m o).bind fun y1=>(aG d y1).bind fun y2=>cond (ltI y2 1) (some (.inr (.inl (false,())))) ((aG d y1).bind fun y3=>cond (gtI y3 4) (some (.inr (.inl (false,())))) ((aG d y1).bind fun y4=>some (.inl (a,b,c,d,e,f,g,(ak .i64 h y4),i,k,l,m,n,(ak .i64 o 1),()))))) (some (.inr (.inr (.inl (a,b,c,d,e,f,g,h,i,k,l,())))))
def zK : Q63→Option ((Bool×Unit)⊕(Q58⊕Empty)):=ab oK
def zp : Ann:={ head:=Zbm_H6,exits:=LR,fn:=zK }
def Zbm_H2 : Shape:={ env:=[(1,.av (.ptr 1 0)),(10,.av (.val yQ3)),(11,.av (.val I)),(12,.av (.val I))],objs:=[(1,.box [.val I,.val (.slice yQ2),.val yQ3,.val (.slice I),.val (.slice .str),.val I])] }
def Lq : List (Ex×Shape):=[(.ret,{ env:=[(2,.av (.val .bool))],objs:=[] }),(.exit 0,{ env:=[],objs:=[] })]
def pc (x : Q51) : Option (Q51⊕((Bool×Unit)⊕(Unit⊕Empty))) :=
 let (a,b,c,d,e,f,g,h,i,_):=x; cond (ltI i h) ((aG g i).bind fun y1=>(zK (a,b,c,d,e,f,y1,0,g,h,i,y1,(y1.length : Nat),0,())).bind (Sum.elim (fun z3=>some (.inr (.inl (z3.1,())))) (Sum.elim (fun (a_4,b_4,c_4,d_4,e_4,f_4,g_4,h_4,i_4,k_4,l_4,_)=>cond (gtI (g_4.length : Nat) 0) (cond (neI h_4 4) (some (.inr (.inl (false,())))) (some (.inl (a_4,b_4,c_4,d_4,e_4,f_4,i_4,k_4,(ak .i64 l_4 1),())))) (some (.inl (a_4,b_4,c_4,d_4,e_4,f_4,i_4,k_4,(ak .i64 l_4 1),())))) (fun _=>none)))) (some (.inr (.inr (.inl ()))))
def AB : Q51→Option ((Bool×Unit)⊕(Unit⊕Empty)):=ab pc
def At : Ann:={ head:=Zbm_H2,exits:=Lq,fn:=AB }
def nE : Anns:=[(2,At),(6,zp)]
def Zbm (x : (Q12×Unit)) : Option (Bool×Unit) :=
 let (((a,b,c,_),d,e,f,_),_):=x; (AB (a,b,c,d,e,f,c,(c.length : Nat),0,())).bind (Sum.elim (fun z2=>some (z2.1,())) (Sum.elim (fun z3=>some (true,())) (fun _=>none)))
def Zbm_c : Con:={ ins:=[(.rd,yQ9)],outs:=[(true,.bool)],fn:=Zbm }
def pW : Ctx:={ tab:=tab,con:=fun _ _=>none,glob:=glob,eqs:=eqs }
theorem Lv (x : Zbm_H6.ty.den) : aO pW nE zp (af 6 (aa Tryd.f74)) x=oK x:=by kernel_rfl
theorem M6 (x : Zbm_H2.ty.den) : aO pW nE At (af 2 (aa Tryd.f74)) x=pc x:=by kernel_rfl
theorem K9 (x : (ao [yQ9]).den) : aB pW nE (aa Tryd.f74) [(.rd,yQ9)] [(.tmp 2,true,.bool)] x=Zbm x:=by kernel_rfl
def vl : Anns:=[]
def Zbi (x : (Int×Unit)) : Option (Int×Bool×Unit) :=
 cond (eqI x.1 76) (some (82,true,())) (cond (eqI x.1 82) (some (76,true,())) (some (x.1,false,())))
def Zbi_c : Con:={ ins:=[(.rd,(.int .u8))],outs:=[(true,(.int .u8)),(true,.bool)],fn:=Zbi }
def uN : Ctx:={ tab:=tab,con:=fun _ _=>none,glob:=glob,eqs:=eqs }
theorem My (x : (ao [(.int .u8)]).den) : aB uN vl (aa Tryd.f87) [(.rd,(.int .u8))] [(.tmp 2,true,(.int .u8)),(.tmp 3,true,.bool)] x=Zbi x:=by kernel_rfl
def Zbw_H4 : Shape:={ env:=[(11,.av (.own 11)),(12,.av (.val I)),(13,.av (.val I))],objs:=[(11,.arr (.int .u8))] }
def Lk : List (Ex×Shape):=[(.ret,{ env:=[(2,.av (.val .bool))],objs:=[] }),(.exit 0,{ env:=[],objs:=[] })]
def lO (x : Q8) : Option (Q8⊕((Bool×Unit)⊕(Unit⊕Empty))) :=
 let (a,b,c,_):=x; cond (ltI c b) ((aT a.length c).bind fun j1=>(a[j1]?).bind fun y2=>(Zbi (y2,())).bind fun r3=>cond (!r3.2.1) (some (.inr (.inl (false,())))) (some (.inl (a,b,(ak .i64 c 1),())))) (some (.inr (.inr (.inl ()))))
def vN : Q8→Option ((Bool×Unit)⊕(Unit⊕Empty)):=ab lO
def BV : Ann:={ head:=Zbw_H4,exits:=Lk,fn:=vN }
def qM : Anns:=[(4,BV)]
def Zbw (x : Q3) : Option (Bool×Unit) :=
 cond (gtI (x.1.size : Nat) 64) (some (false,())) ((vN ((az x.1),((az x.1).length : Nat),0,())).bind (Sum.elim (fun z2=>some (z2.1,())) (Sum.elim (fun z3=>some (true,())) (fun _=>none))))
def Zbw_c : Con:={ ins:=[(.rd,.str)],outs:=[(true,.bool)],fn:=Zbw }
def pI : Ctx:={ tab:=tab,con:=fun | 87,_=>some Zbi_c | _,_=>none,glob:=glob,eqs:=eqs }
theorem Ma (x : Zbw_H4.ty.den) : aO pI qM BV (af 4 (aa Tryd.f75)) x=lO x:=by kernel_rfl
theorem NB (x : (ao [.str]).den) : aB pI qM (aa Tryd.f75) [(.rd,.str)] [(.tmp 2,true,.bool)] x=Zbw x:=by kernel_rfl
def Zl_H1 : Shape:={ env:=[(0,.av (.own 0)),(2,.av (.val I)),(3,.av (.val I))],objs:=[(0,.arr (.int .u8))],pins:=[0] }
def O4 : List (Ex×Shape):=[(.exit 0,{ env:=[(0,.av (.own 0))],objs:=[(0,.arr (.int .u8))],pins:=[0] })]
def Ix (x : Q8) : Option (Q8⊕(Q1⊕Empty)) :=
 let (a,b,c,_):=x; cond (ltI b c) ((aT a.length c).bind fun j1=>(a[j1]?).bind fun y2=>(aT a.length b).bind fun j3=>(a[j3]?).bind fun y4=>(aT a.length b).bind fun j5=>(a[j5]?).bind fun y6=>(aT (a.set j5 y2).length c).bind fun j7=>((a.set j5 y2)[j7]?).bind fun y8=>some (.inl (((a.set j5 y2).set j7 y4),(ak .i64 b 1),(bq .i64 c 1),()))) (some (.inr (.inl (a,()))))
def GN : Q8→Option (Q1⊕Empty):=ab Ix
def Jr : Ann:={ head:=Zl_H1,exits:=O4,fn:=GN }
def xQ : Anns:=[(1,Jr)]
def Zl (x : Q1) : Option Q1 :=
 (GN (x.1,0,(bq .i64 (x.1.length : Nat) 1),())).bind (Sum.elim (fun z2=>some (z2.1,())) (fun _=>none))
def Zl_c : Con:={ ins:=[(.upd,(.slice (.int .u8)))],outs:=[],fn:=Zl }
def Aq : Ctx:={ tab:=tab,con:=fun _ _=>none,glob:=glob,eqs:=eqs }
theorem PX (x : Zl_H1.ty.den) : aO Aq xQ Jr (af 1 (aa Tryd.f88)) x=Ix x:=by kernel_rfl
theorem Pz (x : (ao [(.slice (.int .u8))]).den) : aB Aq xQ (aa Tryd.f88) [(.upd,(.slice (.int .u8)))] [] x=Zl x:=by kernel_rfl
def Zbj_H4 : Shape:={ env:=[(3,.av (.own 3)),(10,.av (.own 3)),(11,.av (.val I)),(12,.av (.val I))],objs:=[(3,.arr (.int .u8))] }
def Ml : List (Ex×Shape):=[(.exit 0,{ env:=[(3,.av (.own 3))],objs:=[(3,.arr (.int .u8))] })]
def mc (x : Q8) : Option (Q8⊕(Q1⊕Empty)) :=
 let (a,b,c,_):=x; cond (ltI c b) ((aT a.length c).bind fun j1=>(a[j1]?).bind fun y2=>(Zbi (y2,())).bind fun r3=>(aT a.length c).bind fun j4=>(a[j4]?).bind fun y5=>some (.inl ((a.set j4 r3.1),b,(ak .i64 c 1),()))) (some (.inr (.inl (a,()))))
def wd : Q8→Option (Q1⊕Empty):=ab mc
def AW : Ann:={ head:=Zbj_H4,exits:=Ml,fn:=wd }
def rk : Anns:=[(4,AW)]
def Zbj (x : Q3) : Option Q3 :=
 (Zl ((az x.1),())).bind fun r1=>(wd (r1.1,(r1.1.length : Nat),0,())).bind (Sum.elim (fun z3=>some ((cZ z3.1),())) (fun _=>none))
def Zbj_c : Con:={ ins:=[(.rd,.str)],outs:=[(true,.str)],fn:=Zbj }
def pQ : Ctx:={ tab:=tab,con:=fun | 87,_=>some Zbi_c | 88,_=>some Zl_c | _,_=>none,glob:=glob,eqs:=eqs }
theorem MZ (x : Zbj_H4.ty.den) : aO pQ rk AW (af 4 (aa Tryd.f76)) x=mc x:=by kernel_rfl
theorem NJ (x : (ao [.str]).den) : aB pQ rk (aa Tryd.f76) [(.rd,.str)] [(.tmp 2,true,.str)] x=Zbj x:=by kernel_rfl
def Zai_H2 : Shape:={ env:=[(0,.av (.val (.slice I))),(1,.av (.val I)),(7,.av (.val I)),(8,.av (.val I))],objs:=[] }
def Mq : List (Ex×Shape):=[(.ret,{ env:=[(4,.av (.val I))],objs:=[] }),(.exit 0,{ env:=[],objs:=[] })]
def g9 (x : Q10) : Option (Q10⊕((Int×Unit)⊕(Unit⊕Empty))) :=
 let (a,b,c,d,_):=x; cond (ltI d c) ((aG a d).bind fun y1=>cond (eqI b y1) (some (.inr (.inl (d,())))) (some (.inl (a,b,c,(ak .i64 d 1),())))) (some (.inr (.inr (.inl ()))))
def sg : Q10→Option ((Int×Unit)⊕(Unit⊕Empty)):=ab g9
def AR : Ann:={ head:=Zai_H2,exits:=Mq,fn:=sg }
def rV : Anns:=[(2,AR)]
def Zai (x : Q4) : Option (Int×Unit) :=
 (sg (x.1,x.2.1,(x.1.length : Nat),0,())).bind (Sum.elim (fun z2=>some (z2.1,())) (Sum.elim (fun z3=>some ((-1),())) (fun _=>none)))
def Zai_c : Con:={ ins:=[(.rd,(.slice I)),(.rd,I)],outs:=[(true,I)],fn:=Zai }
def qK : Ctx:={ tab:=tab,con:=fun _ _=>none,glob:=glob,eqs:=eqs }
theorem LM (x : Zai_H2.ty.den) : aO qK rV AR (af 2 (aa Tryd.f66)) x=g9 x:=by kernel_rfl
theorem LE (x : (ao [(.slice I),I]).den) : aB qK rV (aa Tryd.f66) [(.rd,(.slice I)),(.rd,I)] [(.tmp 4,true,I)] x=Zai x:=by kernel_rfl
def CA : Anns:=[]
def Zh (x : Q4) : Option (Bool×Unit) :=
 (Zai (x.1,x.2.1,())).bind fun r1=>some ((geI r1.1 0),())
def Zh_c : Con:={ ins:=[(.rd,(.slice I)),(.rd,I)],outs:=[(true,.bool)],fn:=Zh }
def BN : Ctx:={ tab:=tab,con:=fun | 66,_=>some Zai_c | _,_=>none,glob:=glob,eqs:=eqs }
theorem PY (x : (ao [(.slice I),I]).den) : aB BN CA (aa Tryd.f40) [(.rd,(.slice I)),(.rd,I)] [(.tmp 4,true,.bool)] x=Zh x:=by kernel_rfl
def Zbv_H3 : Shape:={ env:=[(5,.av (.val I)),(20,.av (.own 20)),(21,.av (.val I)),(22,.av (.val I))],objs:=[(20,.arr (.int .u8))] }
def Nl : List (Ex×Shape):=[(.exit 0,{ env:=[(5,.av (.val I))],objs:=[] })]
def ol (x : Q10) : Option (Q10⊕((Int×Unit)⊕Empty)) :=
 let (a,b,c,d,_):=x; cond (ltI d c) ((aT a.length d).bind fun j1=>(a[j1]?).bind fun y2=>cond (eqI y2 76) (some (.inl (a,(ak .i64 b 1),c,(ak .i64 d 1),()))) (some (.inl (a,(bq .i64 b 1),c,(ak .i64 d 1),())))) (some (.inr (.inl (b,()))))
def wt : Q10→Option ((Int×Unit)⊕Empty):=ab ol
def zj : Ann:={ head:=Zbv_H3,exits:=Nl,fn:=wt }
def sS : Anns:=[(3,zj)]
def Zbv (x : (Q12×Int×Unit)) : Option (Int×Unit) :=
 (aG x.1.2.1 (ij .i64 x.2.1 1)).bind fun y1=>(aG x.1.2.2.1 x.2.1).bind fun y2=>(wt ((az y2),(bq .i64 2 y1),((az y2).length : Nat),0,())).bind (Sum.elim (fun z4=>some (z4.1,())) (fun _=>none))
def Zbv_c : Con:={ ins:=[(.rd,yQ9),(.rd,I)],outs:=[(true,I)],fn:=Zbv }
def sq : Ctx:={ tab:=tab,con:=fun _ _=>none,glob:=glob,eqs:=eqs }
theorem LP (x : Zbv_H3.ty.den) : aO sq sS zj (af 3 (aa Tryd.f89)) x=ol x:=by kernel_rfl
theorem MI (x : (ao [yQ9,I]).den) : aB sq sS (aa Tryd.f89) [(.rd,yQ9),(.rd,I)] [(.tmp 4,true,I)] x=Zbv x:=by kernel_rfl
def Zbu_H3 : Shape:={ env:=[(2,.av (.ptr 2 0)),(5,.av (.val I)),(8,.av (.val (.slice I))),(9,.av (.val I)),(10,.av (.val I))],objs:=[(2,.box [.val I,.val (.slice yQ2),.val yQ3,.val (.slice I),.val (.slice .str),.val I])] }
def Ny : List (Ex×Shape):=[(.exit 0,{ env:=[(5,.av (.val I))],objs:=[] })]
def oV (x : Q47) : Option (Q47⊕((Int×Unit)⊕Empty)) :=
 let (a,b,c,d,e,f,g,h,i,k,_):=x; cond (ltI k i) ((aG h k).bind fun y1=>(Zbv (((a,b,c,()),d,e,f,()),y1,())).bind fun r2=>some (.inl (a,b,c,d,e,f,(ak .i64 g r2.1),h,i,(ak .i64 k 1),()))) (some (.inr (.inl (g,()))))
def ws : Q47→Option ((Int×Unit)⊕Empty):=ab oV
def zR : Ann:={ head:=Zbu_H3,exits:=Ny,fn:=ws }
def qU : Anns:=[(3,zR)]
def Zbu (x : (Q12×List Int×Unit)) : Option (Int×Unit) :=
 let (((a,b,c,_),d,e,f,_),g,_):=x; (ws (a,b,c,d,e,f,0,g,(g.length : Nat),0,())).bind (Sum.elim (fun z2=>some (z2.1,())) (fun _=>none))
def Zbu_c : Con:={ ins:=[(.rd,yQ9),(.rd,(.slice I))],outs:=[(true,I)],fn:=Zbu }
def pR : Ctx:={ tab:=tab,con:=fun | 89,_=>some Zbv_c | _,_=>none,glob:=glob,eqs:=eqs }
theorem Lp (x : Zbu_H3.ty.den) : aO pR qU zR (af 3 (aa Tryd.f77)) x=oV x:=by kernel_rfl
theorem Lc (x : (ao [yQ9,(.slice I)]).den) : aB pR qU (aa Tryd.f77) [(.rd,yQ9),(.rd,(.slice I))] [(.tmp 4,true,I)] x=Zbu x:=by kernel_rfl
def Zbt_H13 : Shape:={ env:=[(1,.av (.ptr 1 0)),(85,.av (.own 85)),(86,.av (.val I)),(87,.av (.val I))],objs:=[(1,.box [.val I,.val (.slice yQ2),.val yQ3,.val (.slice I),.val (.slice .str),.val I]),(85,.arr (.slice I))] }
def Ke : List (Ex×Shape):=[(.ret,{ env:=[(2,.av (.val .bool))],objs:=[] }),(.exit 2,{ env:=[],objs:=[] })]
def kn (x : Q51) : Option (Q51⊕((Bool×Unit)⊕(Unit⊕Empty))) :=
 let (a,b,c,d,e,f,g,h,i,_):=x; cond (ltI i h) ((aT g.length i).bind fun j1=>(g[j1]?).bind fun y2=>(Zh (y2,f,())).bind fun r3=>cond r3.1 ((Zbu (((a,b,c,()),d,e,f,()),y2,())).bind fun r4=>cond (neI r4.1 (-4)) (some (.inr (.inl (false,())))) (some (.inl (a,b,c,d,e,f,g,h,(ak .i64 i 1),())))) ((Zbu (((a,b,c,()),d,e,f,()),y2,())).bind fun r5=>cond (neI r5.1 4) (some (.inr (.inl (false,())))) (some (.inl (a,b,c,d,e,f,g,h,(ak .i64 i 1),()))))) (some (.inr (.inr (.inl ()))))
def qt : Q51→Option ((Bool×Unit)⊕(Unit⊕Empty)):=ab kn
def xf : Ann:={ head:=Zbt_H13,exits:=Ke,fn:=qt }
def Zbt_H8 : Shape:={ env:=[(1,.av (.ptr 1 0)),(3,.av (.ptr 3 0)),(4,.av (.val I)),(5,.av (.val I))],objs:=[(1,.box [.val I,.val (.slice yQ2),.val yQ3,.val (.slice I),.val (.slice .str),.val I]),(3,.box [.val I,.val (.slice yQ2),.val yQ3])] }
def Lr : List (Ex×Shape):=[(.ret,{ env:=[(2,.av (.val .bool))],objs:=[] }),(.exit 0,{ env:=[(1,.av (.ptr 1 0)),(3,.av (.ptr 3 0))],objs:=[(1,.box [.val I,.val (.slice yQ2),.val yQ3,.val (.slice I),.val (.slice .str),.val I]),(3,.box [.val I,.val (.slice yQ2),.val yQ3])] })]
def oh (x : Q59) : Option (Q59⊕((Bool×Unit)⊕(Q52⊕Empty))) :=
 let (a,b,c,d,e,f,g,h,i,k,l,_):=x; cond (ltI l k) ((aG e l).bind fun y1=>(Zbw (y1,())).bind fun r2=>cond (!r2.1) (some (.inr (.inl (false,())))) ((aG e (ak .i64 l 1)).bind fun y3=>(aG e l).bind fun y4=>(Zbj (y4,())).bind fun r5=>cond (neS y3 r5.1) (some (.inr (.inl (false,())))) (some (.inl (a,b,c,d,e,f,g,h,i,k,(ak .i64 l 2),()))))) (some (.inr (.inr (.inl (a,b,c,d,e,f,g,h,i,())))))
def pb : Q59→Option ((Bool×Unit)⊕(Q52⊕Empty)):=ab oh
def Az : Ann:={ head:=Zbt_H8,exits:=Lr,fn:=pb }
def oL : Anns:=[(8,Az),(13,xf)]
def Zbt (x : (Q12×Unit)) : Option (Bool×Unit) :=
 let (((a,b,c,_),d,e,f,_),_):=x; (Zaz ((a,b,c,()),())).bind fun r1=>cond (!r1.1) (some (false,())) ((Zas ((a,b,c,()),())).bind fun r2=>cond (!r2.1) (some (false,())) ((Zba ((a,b,c,()),())).bind fun r3=>cond (neI r3.1 0) (some (false,())) (cond (neI (d.length : Nat) (aX .i64 2 (b.length : Nat))) (some (false,())) (cond (neI (e.length : Nat) (aX .i64 2 (b.length : Nat))) (some (false,())) (cond (ltI f 0) (some (false,())) (cond (geI f (jv (aX .i64 2 (b.length : Nat)) 1)) (some (false,())) ((Zbm (((a,b,c,()),d,e,f,()),())).bind fun r4=>cond (!r4.1) (some (false,())) ((pb (a,b,c,d,e,f,a,b,c,(aX .i64 2 (b.length : Nat)),0,())).bind (Sum.elim (fun z6=>some (z6.1,())) (Sum.elim (fun (a_7,b_7,c_7,d_7,e_7,f_7,g_7,h_7,i_7,_)=>(Zbd ((g_7,h_7,i_7,()),())).bind fun r8=>(qt (a_7,b_7,c_7,d_7,e_7,f_7,r8.1,(r8.1.length : Nat),0,())).bind (Sum.elim (fun z10=>some (z10.1,())) (Sum.elim (fun z11=>some (true,())) (fun _=>none)))) (fun _=>none)))))))))))
def Zbt_c : Con:={ ins:=[(.rd,yQ9)],outs:=[(true,.bool)],fn:=Zbt }
def mJ : Ctx:={ tab:=tab,con:=fun | 39,_=>some Zbd_c | 40,_=>some Zh_c | 64,_=>some Zaz_c | 72,_=>some Zas_c | 73,_=>some Zba_c | 74,_=>some Zbm_c | 75,_=>some Zbw_c | 76,_=>some Zbj_c | 77,_=>some Zbu_c | _,_=>none,glob:=glob,eqs:=eqs }
theorem JZ (x : Zbt_H13.ty.den) : aO mJ oL xf (af 13 (aa Tryd.f50)) x=kn x:=by kernel_rfl
theorem Nn (x : Zbt_H8.ty.den) : aO mJ oL Az (af 8 (aa Tryd.f50)) x=oh x:=by kernel_rfl
theorem NG (x : (ao [yQ9]).den) : aB mJ oL (aa Tryd.f50) [(.rd,yQ9)] [(.tmp 2,true,.bool)] x=Zbt x:=by kernel_rfl
def wx : Anns:=[]
def Zbp (x : (Q12×Unit)) : Option (Int×Unit) :=
 let (((a,b,c,_),d,e,f,_),_):=x; (Zbt (((a,b,c,()),d,e,f,()),())).bind fun r1=>cond (!r1.1) (some (13,())) (some (0,()))
def Zbp_c : Con:={ ins:=[(.rd,yQ9)],outs:=[(true,I)],fn:=Zbp }
def rr : Ctx:={ tab:=tab,con:=fun | 50,_=>some Zbt_c | _,_=>none,glob:=glob,eqs:=eqs }
theorem MD (x : (ao [yQ9]).den) : aB rr wx (aa Tryd.f25) [(.rd,yQ9)] [(.tmp 2,true,I)] x=Zbp x:=by kernel_rfl
def Zbb_H8 : Shape:={ env:=[(3,.av (.ptr 3 0)),(7,.av (.own 7)),(9,.av (.val (.slice I))),(15,.av (.val yQ3)),(16,.av (.val I)),(17,.av (.val I)),(55,.av (.ownm 55))],objs:=[(3,.box [.val I,.val (.slice yQ2),.val yQ3,.val (.slice I),.val (.slice .str),.val I]),(7,.arr I),(55,.map .unit (.prod .str I))] }
def M2 : List (Ex×Shape):=[(.exit 2,{ env:=[(3,.av (.ptr 3 0)),(7,.av (.own 7)),(15,.av (.val yQ3)),(16,.av (.val I)),(17,.av (.val I))],objs:=[(3,.box [.val I,.val (.slice yQ2),.val yQ3,.val (.slice I),.val (.slice .str),.val I]),(7,.arr I)] })]
def zv (x : Q61) : Option (Q61⊕(Q55⊕Empty)) :=
 let (a,b,c,d,e,f,g,h,i,k,l,m,_):=x; (Ac .unit (.prod .str I) h).bind fun q1=>cond (oC q1) ((aG i q1.2).bind fun y2=>(aG i (ak .i64 q1.2 1)).bind fun y3=>(aT g.length (ak .i64 y2 1)).bind fun j4=>(g[j4]?).bind fun y5=>(aT (g.set j4 1).length y3).bind fun j6=>((g.set j4 1)[j6]?).bind fun y7=>cond (eqI (l9 q1) 82) ((aG i q1.2).bind fun y8=>(aG i (ak .i64 q1.2 1)).bind fun y9=>(aT ((g.set j4 1).set j6 3).length (ak .i64 y8 1)).bind fun j10=>(((g.set j4 1).set j6 3)[j10]?).bind fun y11=>(aT (((g.set j4 1).set j6 3).set j10 3).length y9).bind fun j12=>((((g.set j4 1).set j6 3).set j10 3)[j12]?).bind fun y13=>some (.inl (a,b,c,d,e,f,((((g.set j4 1).set j6 3).set j10 3).set j12 1),[((),oW q1)],i,k,l,m,()))) (some (.inl (a,b,c,d,e,f,((g.set j4 1).set j6 3),[((),oW q1)],i,k,l,m,())))) (some (.inr (.inl (a,b,c,d,e,f,g,k,l,m,()))))
def GX : Q61→Option (Q55⊕Empty):=ab zv
def zE : Ann:={ head:=Zbb_H8,exits:=M2,fn:=GX }
def Zbb_H3 : Shape:={ env:=[(3,.av (.ptr 3 0)),(7,.av (.own 7)),(15,.av (.val yQ3)),(16,.av (.val I)),(17,.av (.val I))],objs:=[(3,.box [.val I,.val (.slice yQ2),.val yQ3,.val (.slice I),.val (.slice .str),.val I]),(7,.arr I)] }
def Lg : List (Ex×Shape):=[(.exit 0,{ env:=[(7,.av (.own 7))],objs:=[(7,.arr I)] })]
def AT (x : Q55) : Option (Q55⊕(Q1⊕Empty)) :=
 let (a,b,c,d,e,f,g,h,i,k,_):=x; cond (ltI k i) ((aG h k).bind fun y1=>(aG y1 0).bind fun y2=>(aG d (aX .i64 2 k)).bind fun y3=>(aT g.length y2).bind fun j4=>(g[j4]?).bind fun y5=>(aG y1 (bq .i64 (y1.length : Nat) 1)).bind fun y6=>(aG d (ak .i64 (aX .i64 2 k) 1)).bind fun y7=>(aT (g.set j4 y3).length (ak .i64 y6 1)).bind fun j8=>((g.set j4 y3)[j8]?).bind fun y9=>(aG e (aX .i64 2 k)).bind fun y10=>(GX (a,b,c,d,e,f,((g.set j4 y3).set j8 y7),[((),y10,0)],y1,h,i,k,())).bind (Sum.elim (fun (a_12,b_12,c_12,d_12,e_12,f_12,g_12,h_12,i_12,k_12,_)=>some (.inl (a_12,b_12,c_12,d_12,e_12,f_12,g_12,h_12,i_12,(ak .i64 k_12 1),()))) (fun _=>none))) (some (.inr (.inl (g,()))))
def Ij : Q55→Option (Q1⊕Empty):=ab AT
def zq : Ann:={ head:=Zbb_H3,exits:=Lg,fn:=Ij }
def nv : Anns:=[(3,zq),(8,zE)]
def Zbb (x : (Q12×(List (List Int))×Int×Unit)) : Option Q1 :=
 let (((a,b,c,_),d,e,f,_),g,h,_):=x; (dJ I (aX .i64 2 h) (aX .i64 2 h)).bind fun m1=>(Ij (a,b,c,d,e,f,m1,g,(g.length : Nat),0,())).bind (Sum.elim (fun z3=>some (z3.1,())) (fun _=>none))
def Zbb_c : Con:={ ins:=[(.rd,yQ9),(.rd,yQ3),(.rd,I)],outs:=[(true,(.slice I))],fn:=Zbb }
def pC : Ctx:={ tab:=tab,con:=fun _ _=>none,glob:=glob,eqs:=eqs }
theorem LY (x : Zbb_H8.ty.den) : aO pC nv zE (af 8 (aa Tryd.f26)) x=zv x:=by kernel_rfl
theorem Li (x : Zbb_H3.ty.den) : aO pC nv zq (af 3 (aa Tryd.f26)) x=AT x:=by kernel_rfl
theorem Lu (x : (ao [yQ9,yQ3,I]).den) : aB pC nv (aa Tryd.f26) [(.rd,yQ9),(.rd,yQ3),(.rd,I)] [(.tmp 6,true,(.slice I))] x=Zbb x:=by kernel_rfl
def CH : Anns:=[]
def Zf (x : (Int×(List (List Int))×Unit)) : Option (Int×Unit) :=
 let (a,b,_):=x; cond (eqI (gO a 2) 0) ((aG b (eO .i64 a 2)).bind fun y1=>(aG y1 0).bind fun y2=>some (y2,())) ((aG b (eO .i64 a 2)).bind fun y3=>(aG b (eO .i64 a 2)).bind fun y4=>(aG y3 (bq .i64 (y4.length : Nat) 1)).bind fun y5=>some ((ak .i64 y5 1),()))
def Zf_c : Con:={ ins:=[(.rd,I),(.rd,(.ptr yQ3))],outs:=[(true,I)],fn:=Zf }
def ED : Ctx:={ tab:=tab,con:=fun _ _=>none,glob:=glob,eqs:=eqs }
theorem Ps (x : (ao [I,(.ptr yQ3)]).den) : aB ED CH (aa Tryd.f27) [(.rd,I),(.rd,(.ptr yQ3))] [(.tmp 3,true,I)] x=Zf x:=by kernel_rfl
def Zq_H31 : Shape:={ env:=[(1,.av (.ptr 1 0)),(2,.av (.ptr 2 0)),(5,.av (.ptr 5 0)),(6,.av (.ptr 6 0)),(7,.av (.own 7)),(14,.av (.clo 27 [6])),(17,.av (.own 17)),(123,.av (.val yQ3)),(124,.av (.val I)),(125,.av (.val I)),(129,.av (.val (.slice I))),(130,.av (.val I)),(131,.av (.val I))],objs:=[(1,.box [.val I,.val (.slice yQ2),.val yQ3,.val (.slice I),.val (.slice .str),.val I]),(2,.box [.val I,.nils,.nils,.nils,.nils,.val I]),(5,.box [.val I,.own 600001,.own 600002,.own 600003,.nils,.val I]),(6,.box [.own 700000]),(7,.arr (.slice I)),(17,.arr I),(600001,.arr yQ2),(600002,.arr (.slice I)),(600003,.arr I),(700000,.arr (.slice I))] }
def K8 : List (Ex×Shape):=[(.exit 6,{ env:=[(1,.av (.ptr 1 0)),(2,.av (.ptr 2 0)),(5,.av (.ptr 5 0)),(6,.av (.ptr 6 0)),(7,.av (.own 7)),(14,.av (.clo 27 [6])),(17,.av (.own 17)),(123,.av (.val yQ3)),(124,.av (.val I)),(125,.av (.val I))],objs:=[(1,.box [.val I,.val (.slice yQ2),.val yQ3,.val (.slice I),.val (.slice .str),.val I]),(2,.box [.val I,.nils,.nils,.nils,.nils,.val I]),(5,.box [.val I,.own 600001,.own 600002,.own 600003,.nils,.val I]),(6,.box [.own 700000]),(7,.arr (.slice I)),(17,.arr I),(600001,.arr yQ2),(600002,.arr (.slice I)),(600003,.arr I),(700000,.arr (.slice I))] })]
def zQ (x : Q73) : Option (Q73⊕(Q72⊕Empty)) :=
 cond (ltI x.2.2.2.2.2.2.2.2.2.2.2.2.2.2.2.2.2.2.2.2.2.1 x.2.2.2.2.2.2.2.2.2.2.2.2.2.2.2.2.2.2.2.2.1) ((aG x.2.2.2.2.2.2.2.2.2.2.2.2.2.2.2.2.2.2.2.1 x.2.2.2.2.2.2.2.2.2.2.2.2.2.2.2.2.2.2.2.2.2.1).bind fun y1=>(Zf (y1,x.2.2.2.2.2.2.2.2.2.2.2.2.2.2.2.1,())).bind fun r2=>(app x.2.2.2.2.2.2.2.2.2.2.2.1 [r2.1]).bind fun a3=>some (.inl (x.1,x.2.1,x.2.2.1,x.2.2.2.1,x.2.2.2.2.1,x.2.2.2.2.2.1,x.2.2.2.2.2.2.1,x.2.2.2.2.2.2.2.1,x.2.2.2.2.2.2.2.2.1,x.2.2.2.2.2.2.2.2.2.1,x.2.2.2.2.2.2.2.2.2.2.1,a3,x.2.2.2.2.2.2.2.2.2.2.2.2.1,x.2.2.2.2.2.2.2.2.2.2.2.2.2.1,x.2.2.2.2.2.2.2.2.2.2.2.2.2.2.1,x.2.2.2.2.2.2.2.2.2.2.2.2.2.2.2.1,x.2.2.2.2.2.2.2.2.2.2.2.2.2.2.2.2.1,x.2.2.2.2.2.2.2.2.2.2.2.2.2.2.2.2.2.1,x.2.2.2.2.2.2.2.2.2.2.2.2.2.2.2.2.2.2.1,x.2.2.2.2.2.2.2.2.2.2.2.2.2.2.2.2.2.2.2.1,x.2.2.2.2.2.2.2.2.2.2.2.2.2.2.2.2.2.2.2.2.1,(ak .i64 x.2.2.2.2.2.2.2.2.2.2.2.2.2.2.2.2.2.2.2.2.2.1 1),()))) (some (.inr (.inl (x.1,x.2.1,x.2.2.1,x.2.2.2.1,x.2.2.2.2.1,x.2.2.2.2.2.1,x.2.2.2.2.2.2.1,x.2.2.2.2.2.2.2.1,x.2.2.2.2.2.2.2.2.1,x.2.2.2.2.2.2.2.2.2.1,x.2.2.2.2.2.2.2.2.2.2.1,x.2.2.2.2.2.2.2.2.2.2.2.1,x.2.2.2.2.2.2.2.2.2.2.2.2.1,x.2.2.2.2.2.2.2.2.2.2.2.2.2.1,x.2.2.2.2.2.2.2.2.2.2.2.2.2.2.1,x.2.2.2.2.2.2.2.2.2.2.2.2.2.2.2.1,x.2.2.2.2.2.2.2.2.2.2.2.2.2.2.2.2.1,x.2.2.2.2.2.2.2.2.2.2.2.2.2.2.2.2.2.1,x.2.2.2.2.2.2.2.2.2.2.2.2.2.2.2.2.2.2.1,()))))
def HN : Q73→Option (Q72⊕Empty):=ab zQ
def Bk : Ann:={ head:=Zq_H31,exits:=K8,fn:=HN }
def Zq_H27 : Shape:={ env:=[(1,.av (.ptr 1 0)),(2,.av (.ptr 2 0)),(5,.av (.ptr 5 0)),(6,.av (.ptr 6 0)),(7,.av (.own 7)),(14,.av (.clo 27 [6])),(123,.av (.val yQ3)),(124,.av (.val I)),(125,.av (.val I))],objs:=[(1,.box [.val I,.val (.slice yQ2),.val yQ3,.val (.slice I),.val (.slice .str),.val I]),(2,.box [.val I,.nils,.nils,.nils,.nils,.val I]),(5,.box [.val I,.own 600001,.own 600002,.own 600003,.nils,.val I]),(6,.box [.own 700000]),(7,.arr (.slice I)),(600001,.arr yQ2),(600002,.arr (.slice I)),(600003,.arr I),(700000,.arr (.slice I))] }
def Mv : List (Ex×Shape):=[(.exit 4,{ env:=[(1,.av (.ptr 1 0)),(2,.av (.ptr 2 0)),(5,.av (.ptr 5 0)),(6,.av (.ptr 6 0)),(7,.av (.own 7)),(14,.av (.clo 27 [6]))],objs:=[(1,.box [.val I,.val (.slice yQ2),.val yQ3,.val (.slice I),.val (.slice .str),.val I]),(2,.box [.val I,.nils,.nils,.nils,.nils,.val I]),(5,.box [.val I,.own 600001,.own 600002,.own 600003,.nils,.val I]),(6,.box [.own 700000]),(7,.arr (.slice I)),(600001,.arr yQ2),(600002,.arr (.slice I)),(600003,.arr I),(700000,.arr (.slice I))] })]
def Au (x : Q70) : Option (Q70⊕(Q68⊕Empty)) :=
 let (a,b,c,d,e,f,g,h,i,k,l,m,n,o,p,q,s,t,_):=x; cond (ltI t s) ((aG q t).bind fun y1=>(HN (a,b,c,d,e,f,g,h,i,k,l,[],m,n,o,p,q,s,t,y1,(y1.length : Nat),0,())).bind (Sum.elim (fun (a_3,b_3,c_3,d_3,e_3,f_3,g_3,h_3,i_3,k_3,l_3,m_3,n_3,o_3,p_3,q_3,s_3,t_3,u_3,_)=>(app o_3 [m_3]).bind fun a4=>some (.inl (a_3,b_3,c_3,d_3,e_3,f_3,g_3,h_3,i_3,k_3,l_3,n_3,a4,p_3,q_3,s_3,t_3,(ak .i64 u_3 1),()))) (fun _=>none))) (some (.inr (.inl (a,b,c,d,e,f,g,h,i,k,l,m,n,o,p,()))))
def FK : Q70→Option (Q68⊕Empty):=ab Au
def Ak : Ann:={ head:=Zq_H27,exits:=Mv,fn:=FK }
def Zq_H12 : Shape:={ env:=[(1,.av (.ptr 1 0)),(2,.av (.ptr 2 0)),(5,.av (.ptr 5 0)),(6,.av (.ptr 6 0)),(7,.av (.own 7)),(9,.av (.ptr 9 0)),(10,.av (.val I)),(11,.av (.own 11)),(31,.av (.val (.slice yQ2))),(32,.av (.val I)),(33,.av (.val I)),(46,.av (.ownm 46))],objs:=[(1,.box [.val I,.val (.slice yQ2),.val yQ3,.val (.slice I),.val (.slice .str),.val I]),(2,.box [.val I,.nils,.nils,.nils,.nils,.val I]),(5,.box [.val I,.own 600001,.nils,.nils,.nils,.val I]),(6,.box [.own 700000]),(7,.arr (.slice I)),(9,.box [.val I,.val I]),(11,.arr I),(46,.map .unit (.prod .str I)),(600001,.arr yQ2),(700000,.arr (.slice I))] }
def NU : List (Ex×Shape):=[(.exit 2,{ env:=[(1,.av (.ptr 1 0)),(2,.av (.ptr 2 0)),(5,.av (.ptr 5 0)),(6,.av (.ptr 6 0)),(7,.av (.own 7)),(9,.av (.ptr 9 0)),(10,.av (.val I)),(11,.av (.own 11)),(31,.av (.val (.slice yQ2))),(32,.av (.val I)),(33,.av (.val I))],objs:=[(1,.box [.val I,.val (.slice yQ2),.val yQ3,.val (.slice I),.val (.slice .str),.val I]),(2,.box [.val I,.nils,.nils,.nils,.nils,.val I]),(5,.box [.val I,.own 600001,.nils,.nils,.nils,.val I]),(6,.box [.own 700000]),(7,.arr (.slice I)),(9,.box [.val I,.val I]),(11,.arr I),(600001,.arr yQ2),(700000,.arr (.slice I))] })]
def Br (x : Q71) : Option (Q71⊕(Q69⊕Empty)) :=
 (Ac .unit (.prod .str I) x.2.2.2.2.2.2.2.2.2.2.2.2.2.2.1).bind fun q1=>cond (oC q1) ((app x.2.2.2.2.2.2.2.2.2.2.2.2.2.1 [(aX .i64 2 (x.2.2.2.2.2.2.2.2.2.2.2.2.2.2.2.1.length : Nat))]).bind fun a2=>(app x.2.2.2.2.2.2.2.2.2.2.2.2.2.2.2.1 [(x.2.2.2.2.2.2.2.2.2.2.2.2.2.2.2.2.2.1,x.2.2.2.2.2.2.2.2.1,())]).bind fun a3=>(app x.2.2.2.2.2.2.2.2.2.2.1 [[(ak .i64 (aX .i64 2 (x.2.2.2.2.2.2.2.2.2.2.2.2.2.2.2.1.length : Nat)) 1),(ak .i64 (aX .i64 2 (x.2.2.2.2.2.2.2.2.2.2.2.2.2.2.2.1.length : Nat)) 2)]]).bind fun a4=>some (.inl (x.1,x.2.1,x.2.2.1,x.2.2.2.1,x.2.2.2.2.1,x.2.2.2.2.2.1,x.2.2.2.2.2.2.1,x.2.2.2.2.2.2.2.1,(ak .i64 x.2.2.2.2.2.2.2.2.1 1),x.2.2.2.2.2.2.2.2.2.1,a4,x.2.2.2.2.2.2.2.2.2.2.2.1,x.2.2.2.2.2.2.2.2.2.2.2.2.1,a2,[((),oW q1)],a3,x.2.2.2.2.2.2.2.2.2.2.2.2.2.2.2.2.1,x.2.2.2.2.2.2.2.2.1,x.2.2.2.2.2.2.2.2.2.2.2.2.2.2.2.2.2.2.1,x.2.2.2.2.2.2.2.2.2.2.2.2.2.2.2.2.2.2.2.1,x.2.2.2.2.2.2.2.2.2.2.2.2.2.2.2.2.2.2.2.2.1,()))) (some (.inr (.inl (x.1,x.2.1,x.2.2.1,x.2.2.2.1,x.2.2.2.2.1,x.2.2.2.2.2.1,x.2.2.2.2.2.2.1,x.2.2.2.2.2.2.2.1,x.2.2.2.2.2.2.2.2.1,x.2.2.2.2.2.2.2.2.2.1,x.2.2.2.2.2.2.2.2.2.2.1,x.2.2.2.2.2.2.2.2.2.2.2.1,x.2.2.2.2.2.2.2.2.2.2.2.2.1,x.2.2.2.2.2.2.2.2.2.2.2.2.2.1,x.2.2.2.2.2.2.2.2.2.2.2.2.2.2.2.1,x.2.2.2.2.2.2.2.2.2.2.2.2.2.2.2.2.1,x.2.2.2.2.2.2.2.2.2.2.2.2.2.2.2.2.2.1,x.2.2.2.2.2.2.2.2.2.2.2.2.2.2.2.2.2.2.1,x.2.2.2.2.2.2.2.2.2.2.2.2.2.2.2.2.2.2.2.1,x.2.2.2.2.2.2.2.2.2.2.2.2.2.2.2.2.2.2.2.2.1,()))))
def F5 : Q71→Option (Q69⊕Empty):=ab Br
def zz : Ann:={ head:=Zq_H12,exits:=NU,fn:=F5 }
def Zq_H7 : Shape:={ env:=[(1,.av (.ptr 1 0)),(2,.av (.ptr 2 0)),(5,.av (.ptr 5 0)),(6,.av (.ptr 6 0)),(7,.av (.own 7)),(31,.av (.val (.slice yQ2))),(32,.av (.val I)),(33,.av (.val I))],objs:=[(1,.box [.val I,.val (.slice yQ2),.val yQ3,.val (.slice I),.val (.slice .str),.val I]),(2,.box [.val I,.nils,.nils,.nils,.nils,.val I]),(5,.box [.val I,.own 600001,.nils,.nils,.nils,.val I]),(6,.box [.own 700000]),(7,.arr (.slice I)),(600001,.arr yQ2),(700000,.arr (.slice I))] }
def N8 : List (Ex×Shape):=[(.exit 0,{ env:=[(1,.av (.ptr 1 0)),(2,.av (.ptr 2 0)),(5,.av (.ptr 5 0)),(6,.av (.ptr 6 0)),(7,.av (.own 7))],objs:=[(1,.box [.val I,.val (.slice yQ2),.val yQ3,.val (.slice I),.val (.slice .str),.val I]),(2,.box [.val I,.nils,.nils,.nils,.nils,.val I]),(5,.box [.val I,.own 600001,.nils,.nils,.nils,.val I]),(6,.box [.own 700000]),(7,.arr (.slice I)),(600001,.arr yQ2),(700000,.arr (.slice I))] })]
def He (x : Q67) : Option (Q67⊕(Q65⊕Empty)) :=
 let (a,b,c,d,e,f,g,h,i,k,l,m,n,o,p,q,_):=x; cond (ltI q p) ((aG o q).bind fun y1=>(aG e (aX .i64 2 q)).bind fun y2=>(F5 (a,b,c,d,e,f,g,h,i,k,l,y1.1,y1.2.1,[],[((),y2,0)],m,n,y1.1,o,p,q,())).bind (Sum.elim (fun (a_4,b_4,c_4,d_4,e_4,f_4,g_4,h_4,i_4,k_4,l_4,_,m_4,n_4,o_4,p_4,q_4,s_4,t_4,u_4,_)=>(app n_4 [(aX .i64 2 (o_4.length : Nat))]).bind fun a5=>(app o_4 [(q_4,m_4,())]).bind fun a6=>(app p_4 [a5]).bind fun a7=>some (.inl (a_4,b_4,c_4,d_4,e_4,f_4,g_4,h_4,i_4,k_4,l_4,a6,a7,s_4,t_4,(ak .i64 u_4 1),()))) (fun _=>none))) (some (.inr (.inl (a,b,c,d,e,f,g,h,i,k,l,m,n,()))))
def KW : Q67→Option (Q65⊕Empty):=ab He
def Ja : Ann:={ head:=Zq_H7,exits:=N8,fn:=KW }
def pS : Anns:=[(7,Ja),(12,zz),(27,Ak),(31,Bk)]
def Zq (x : (Q12×Unit)) : Option (Q12×(List (List Int))×Int×Unit) :=
 let (((a,b,c,_),d,e,f,_),_):=x; (Zbp (((a,b,c,()),d,e,f,()),())).bind fun r1=>cond (neI r1.1 0) (some (((0,[],[],()),[],[],0,()),[],13,())) ((KW (a,b,c,d,e,f,0,0,a,0,[],[],[],b,(b.length : Nat),0,())).bind (Sum.elim (fun (a_3,b_3,c_3,d_3,e_3,f_3,g_3,h_3,i_3,k_3,l_3,m_3,n_3,_)=>(Zbb (((a_3,b_3,c_3,()),d_3,e_3,f_3,()),n_3,(m_3.length : Nat),())).bind fun r4=>(FK (a_3,b_3,c_3,d_3,e_3,f_3,g_3,h_3,i_3,k_3,l_3,m_3,[],r4.1,n_3,c_3,(c_3.length : Nat),0,())).bind (Sum.elim (fun (_,a_6,_,_,_,b_6,_,_,c_6,d_6,e_6,f_6,g_6,h_6,i_6,_)=>(app g_6 e_6).bind fun a7=>(dJ .str (aX .i64 2 (f_6.length : Nat)) (aX .i64 2 (f_6.length : Nat))).bind fun m8=>cond (gtI (a_6.length : Nat) 0) ((Zf (b_6,i_6,())).bind fun r9=>some (((c_6,f_6,a7,()),h_6,m8,r9.1,()),i_6,0,())) (some (((c_6,f_6,a7,()),h_6,m8,d_6,()),i_6,0,()))) (fun _=>none))) (fun _=>none)))
def Zq_c : Con:={ ins:=[(.rd,yQ9)],outs:=[(true,yQ9),(true,yQ3),(true,I)],fn:=Zq }
def rO : Ctx:={ tab:=tab,con:=fun | 25,_=>some Zbp_c | 26,_=>some Zbb_c | 27,_=>some Zf_c | _,_=>none,glob:=glob,eqs:=eqs,light:=[41],vars:=[2] }
theorem Nq (x : Zq_H31.ty.den) : aO rO pS Bk (af 31 (aa Tryd.f10)) x=zQ x:=by kernel_rfl
theorem Ll (x : Zq_H27.ty.den) : aO rO pS Ak (af 27 (aa Tryd.f10)) x=Au x:=by kernel_rfl
theorem Nk (x : Zq_H12.ty.den) : aO rO pS zz (af 12 (aa Tryd.f10)) x=Br x:=by kernel_rfl
theorem Pm (x : Zq_H7.ty.den) : aO rO pS Ja (af 7 (aa Tryd.f10)) x=He x:=by kernel_rfl
theorem OU (x : (ao [yQ9]).den) : aB rO pS (aa Tryd.f10) [(.rd,yQ9)] [(.cell 2 29,true,yQ9),(.tmp 3,true,yQ3),(.tmp 4,true,I)] x=Zq x:=by kernel_rfl
def Zbq_H5 : Shape:={ env:=[(1,.av (.ptr 1 0)),(3,.av (.val I)),(4,.av (.val I))],objs:=[(1,.box [.val I,.val (.slice yQ2),.val yQ3,.val (.slice I),.val (.slice .str),.val I])] }
def MB : List (Ex×Shape):=[(.exit 0,{ env:=[(3,.av (.val I))],objs:=[] })]
def lw (x : Q39) : Option (Q39⊕((Int×Unit)⊕Empty)) :=
 let (a,b,c,d,e,f,g,h,_):=x; cond (ltI h (e.length : Nat)) ((aG e h).bind fun y1=>some (.inl (a,b,c,d,e,f,(ak .i64 g (y1.size : Nat)),(ak .i64 h 2),()))) (some (.inr (.inl (g,()))))
def sb : Q39→Option ((Int×Unit)⊕Empty):=ab lw
def BU : Ann:={ head:=Zbq_H5,exits:=MB,fn:=sb }
def rJ : Anns:=[(5,BU)]
def Zbq (x : (Q12×Unit)) : Option (Int×Unit) :=
 let (((a,b,c,_),d,e,f,_),_):=x; (Zbt (((a,b,c,()),d,e,f,()),())).bind fun r1=>cond (!r1.1) (some (0,())) ((sb (a,b,c,d,e,f,0,0,())).bind (Sum.elim (fun z3=>some (z3.1,())) (fun _=>none)))
def Zbq_c : Con:={ ins:=[(.rd,yQ9)],outs:=[(true,I)],fn:=Zbq }
def pK : Ctx:={ tab:=tab,con:=fun | 50,_=>some Zbt_c | _,_=>none,glob:=glob,eqs:=eqs }
theorem Lj (x : Zbq_H5.ty.den) : aO pK rJ BU (af 5 (aa Tryd.f36)) x=lw x:=by kernel_rfl
theorem Mi (x : (ao [yQ9]).den) : aB pK rJ (aa Tryd.f36) [(.rd,yQ9)] [(.tmp 2,true,I)] x=Zbq x:=by kernel_rfl
def xg : Anns:=[]
def Zax (x : Unit) : Option (Q12×Unit) :=
 (dJ .str 8 8).bind fun m1=>some (((4,[(0,1,()),(1,2,()),(2,3,()),(3,0,())],[[0,7],[2,1],[4,3],[6,5]],()),[3,1,3,1,3,1,3,1],m1,1,()),())
def Zax_c : Con:={ ins:=[],outs:=[(true,yQ9)],fn:=Zax }
def u9 : Ctx:={ tab:=tab,con:=fun _ _=>none,glob:=glob,eqs:=eqs }
theorem Mu (x : (ao []).den) : aB u9 xg (aa Tryd.f37) [] [(.cell 0 29,true,yQ9)] x=Zax x:=by kernel_rfl
def wl : Anns:=[]
def Zbf (x : (Q11×Int×Unit)) : Option (Int×Unit) :=
 let ((a,b,c,_),d,_):=x; (Zaz ((a,b,c,()),())).bind fun r1=>cond (!r1.1) (some ((-1),())) (cond (ltI d 0) (some ((-1),())) (cond (geI d (aX .i64 2 (b.length : Nat))) (some ((-1),())) ((aG b (eO .i64 d 2)).bind fun y2=>(Zbl (y2,(ij .i64 (gO d 2) 1),())).bind fun r3=>(aG c r3.1).bind fun y4=>(Zai (y4,(ij .i64 d 1),())).bind fun r5=>cond (eqI (y4.length : Nat) 0) none ((aG y4 (gO (ak .i64 r5.1 1) (y4.length : Nat))).bind fun y6=>some (y6,())))))
def Zbf_c : Con:={ ins:=[(.rd,yQ6),(.rd,I)],outs:=[(true,I)],fn:=Zbf }
def qY : Ctx:={ tab:=tab,con:=fun | 64,_=>some Zaz_c | 66,_=>some Zai_c | 81,_=>some Zbl_c | _,_=>none,glob:=glob,eqs:=eqs }
theorem ML (x : (ao [yQ6,I]).den) : aB qY wl (aa Tryd.f58) [(.rd,yQ6),(.rd,I)] [(.tmp 4,true,I)] x=Zbf x:=by kernel_rfl
def Zam_H2 : Shape:={ env:=[(1,.av (.val I)),(2,.av (.val I)),(3,.av (.ptr 3 0)),(7,.av (.val I))],objs:=[(3,.box [.val I,.val (.slice yQ2),.val yQ3])] }
def Mp : List (Ex×Shape):=[(.ret,{ env:=[(6,.av (.val .bool))],objs:=[] })]
def jM (x : Q21) : Option (Q21⊕((Bool×Unit)⊕Empty)) :=
 let (a,b,c,d,e,f,_):=x; cond (eqI f e) (some (.inr (.inl (true,())))) ((Zbf ((a,b,c,()),f,())).bind fun r1=>cond (eqI r1.1 d) (some (.inr (.inl (false,())))) (some (.inl (a,b,c,d,e,r1.1,()))))
def BS : Q21→Option ((Bool×Unit)⊕Empty):=ab jM
def BL : Ann:={ head:=Zam_H2,exits:=Mp,fn:=BS }
def sm : Anns:=[(2,BL)]
def Zam (x : (Q11×Int×Int×Unit)) : Option (Bool×Unit) :=
 let ((a,b,c,_),d,e,_):=x; (BS (a,b,c,d,e,d,())).bind (Sum.elim (fun z2=>some (z2.1,())) (fun _=>none))
def Zam_c : Con:={ ins:=[(.rd,yQ6),(.rd,I),(.rd,I)],outs:=[(true,.bool)],fn:=Zam }
def pA : Ctx:={ tab:=tab,con:=fun | 58,_=>some Zbf_c | _,_=>none,glob:=glob,eqs:=eqs }
theorem Mh (x : Zam_H2.ty.den) : aO pA sm BL (af 2 (aa Tryd.f57)) x=jM x:=by kernel_rfl
theorem Nj (x : (ao [yQ6,I,I]).den) : aB pA sm (aa Tryd.f57) [(.rd,yQ6),(.rd,I),(.rd,I)] [(.tmp 6,true,.bool)] x=Zam x:=by kernel_rfl
def wT : Anns:=[]
def Zap (x : ((List Q2)×Unit)) : Option ((List Q2)×Unit) :=
 cond x.1.isEmpty (nh (some ([],())) ((app [] x.1).bind fun a1=>some (a1,()))) ((app [] x.1).bind fun a1=>some (a1,()))
def Zap_c : Con:={ ins:=[(.rd,(.slice yQ2))],outs:=[(true,(.slice yQ2))],fn:=Zap }
def ul : Ctx:={ tab:=tab,con:=fun _ _=>none,glob:=glob,eqs:=eqs }
theorem Lm (x : (ao [(.slice yQ2)]).den) : aB ul wT (aa Tryd.f60) [(.rd,(.slice yQ2))] [(.tmp 2,true,(.slice yQ2))] x=Zap x:=by kernel_rfl
def CR : Anns:=[]
def Ze (x : Q7) : Option Q7 :=
 cond x.1.isEmpty (nh (some ([],())) ((app [] x.1).bind fun a1=>some (a1,()))) ((app [] x.1).bind fun a1=>some (a1,()))
def Ze_c : Con:={ ins:=[(.rd,yQ3)],outs:=[(true,yQ3)],fn:=Ze }
def Fe : Ctx:={ tab:=tab,con:=fun _ _=>none,glob:=glob,eqs:=eqs }
theorem PP (x : (ao [yQ3]).den) : aB Fe CR (aa Tryd.f61) [(.rd,yQ3)] [(.tmp 2,true,yQ3)] x=Ze x:=by kernel_rfl
def wg : Anns:=[]
def Zag (x : Q1) : Option Q1 :=
 cond x.1.isEmpty (nh (some ([],())) ((app [] x.1).bind fun a1=>some (a1,()))) ((app [] x.1).bind fun a1=>some (a1,()))
def Zag_c : Con:={ ins:=[(.rd,(.slice I))],outs:=[(true,(.slice I))],fn:=Zag }
def tT : Ctx:={ tab:=tab,con:=fun _ _=>none,glob:=glob,eqs:=eqs }
theorem LG (x : (ao [(.slice I)]).den) : aB tT wg (aa Tryd.f62) [(.rd,(.slice I))] [(.tmp 2,true,(.slice I))] x=Zag x:=by kernel_rfl
def Zr (x : (List Int×Int×List Int×Unit)) : Option Q1:=insertC.fn x
def Zr_c : Con:=insertC
def vp : Anns:=[]
def Zbs (x : Q8) : Option Q1 :=
 (Zag (x.1,())).bind fun r1=>(Zai (x.1,x.2.2.1,())).bind fun r2=>(Zr (r1.1,r2.1,[x.2.1],())).bind fun r3=>some (r3.1,())
def Zbs_c : Con:={ ins:=[(.rd,(.slice I)),(.rd,I),(.rd,I)],outs:=[(true,(.slice I))],fn:=Zbs }
def qC : Ctx:={ tab:=tab,con:=fun | 62,_=>some Zag_c | 66,_=>some Zai_c | 82,_=>some Zr_c | _,_=>none,glob:=glob,eqs:=eqs }
theorem Nx (x : (ao [(.slice I),I,I]).den) : aB qC vp (aa Tryd.f63) [(.rd,(.slice I)),(.rd,I),(.rd,I)] [(.tmp 6,true,(.slice I))] x=Zbs x:=by kernel_rfl
def Zav_H3 : Shape:={ env:=[(1,.av (.ptr 1 0)),(2,.av (.ptr 2 0)),(3,.av (.val I)),(13,.av (.val I)),(14,.av (.val I))],objs:=[(1,.box [.val I,.val (.slice yQ2),.val yQ3,.val (.slice I),.val (.slice .str),.val I]),(2,.box [.val I,.nils,.nils,.nils,.nils,.val I])] }
def MY : List (Ex×Shape):=[(.exit 0,{ env:=[(1,.av (.ptr 1 0)),(2,.av (.ptr 2 0)),(3,.av (.val I))],objs:=[(1,.box [.val I,.val (.slice yQ2),.val yQ3,.val (.slice I),.val (.slice .str),.val I]),(2,.box [.val I,.nils,.nils,.nils,.nils,.val I])] })]
def rA (x : Q50) : Option (Q50⊕(Q43⊕Empty)) :=
 let (a,b,c,d,e,f,g,h,i,k,l,_):=x; cond (ltI l k) ((aG d (ij .i64 l 1)).bind fun y1=>cond (gtI y1 2) ((Zam ((a,b,c,()),l,f,())).bind fun r2=>cond r2.1 (some (.inr (.inl (a,b,c,d,e,f,g,h,l,())))) (some (.inl (a,b,c,d,e,f,g,h,i,k,(ak .i64 l 1),())))) (some (.inl (a,b,c,d,e,f,g,h,i,k,(ak .i64 l 1),())))) (some (.inr (.inl (a,b,c,d,e,f,g,h,i,()))))
def sV : Q50→Option (Q43⊕Empty):=ab rA
def AL : Ann:={ head:=Zav_H3,exits:=MY,fn:=sV }
def sk : Anns:=[(3,AL)]
def Zav (x : (Q12×Unit)) : Option (Q12×Unit) :=
 let (((a,b,c,_),d,e,f,_),_):=x; (sV (a,b,c,d,e,f,0,0,(-1),(d.length : Nat),0,())).bind (Sum.elim (fun (a_2,b_2,c_2,d_2,_,_,_,_,e_2,_)=>(Zbf ((a_2,b_2,c_2,()),e_2,())).bind fun r3=>(Zbg ((a_2,b_2,c_2,()),r3.1,())).bind fun r4=>(Zap (b_2,())).bind fun r5=>(Ze (c_2,())).bind fun r6=>(Zag (d_2,())).bind fun r7=>(app r5.1 [(r4.1,a_2,()),(a_2,(ak .i64 a_2 1),()),((ak .i64 a_2 1),(ak .i64 a_2 2),()),((ak .i64 a_2 2),(ak .i64 a_2 3),()),((ak .i64 a_2 3),(ak .i64 a_2 4),()),((ak .i64 a_2 4),a_2,())]).bind fun a8=>(aG c_2 r4.1).bind fun y9=>(Zbs (y9,(aX .i64 2 (b_2.length : Nat)),r3.1,())).bind fun r10=>(aT r6.1.length r4.1).bind fun j11=>(r6.1[j11]?).bind fun y12=>(aG d_2 (ij .i64 e_2 1)).bind fun y13=>(aT r7.1.length (ij .i64 e_2 1)).bind fun j14=>(r7.1[j14]?).bind fun y15=>(app (r6.1.set j11 r10.1) [[(ak .i64 (aX .i64 2 (b_2.length : Nat)) 2),(ak .i64 (aX .i64 2 (b_2.length : Nat)) 11),(ak .i64 (aX .i64 2 (b_2.length : Nat)) 1)],[(ak .i64 (aX .i64 2 (b_2.length : Nat)) 3),(ak .i64 (aX .i64 2 (b_2.length : Nat)) 4)],[(ak .i64 (aX .i64 2 (b_2.length : Nat)) 5),(ak .i64 (aX .i64 2 (b_2.length : Nat)) 6)],[(ak .i64 (aX .i64 2 (b_2.length : Nat)) 7),(ak .i64 (aX .i64 2 (b_2.length : Nat)) 8)],[(ak .i64 (aX .i64 2 (b_2.length : Nat)) 9),(ak .i64 (aX .i64 2 (b_2.length : Nat)) 10)]]).bind fun a16=>(app (r7.1.set j14 2) [(bq .i64 y13 2),1,2,1,3,1,3,1,3,1,3,1]).bind fun a17=>(dJ .str (a17.length : Nat) (a17.length : Nat)).bind fun m18=>some ((((ak .i64 a_2 5),a8,a16,()),a17,m18,(ak .i64 (aX .i64 2 (b_2.length : Nat)) 3),()),())) (fun _=>none))
def Zav_c : Con:={ ins:=[(.rd,yQ9)],outs:=[(true,yQ9)],fn:=Zav }
def pE : Ctx:={ tab:=tab,con:=fun | 57,_=>some Zam_c | 58,_=>some Zbf_c | 59,_=>some Zbg_c | 60,_=>some Zap_c | 61,_=>some Ze_c | 62,_=>some Zag_c | 63,_=>some Zbs_c | _,_=>none,glob:=glob,eqs:=eqs }
theorem NI (x : Zav_H3.ty.den) : aO pE sk AL (af 3 (aa Tryd.f38)) x=rA x:=by kernel_rfl
theorem Mt (x : (ao [yQ9]).den) : aB pE sk (aa Tryd.f38) [(.rd,yQ9)] [(.cell 2 29,true,yQ9)] x=Zav x:=by kernel_rfl
def wj : Anns:=[]
def Zao (x : (Int×Q12×Unit)) : Option (Bool×Unit) :=
 (aG x.2.1.2.1 (ij .i64 x.1 1)).bind fun y1=>some ((gtI y1 2),())
def Zao_c : Con:={ ins:=[(.rd,I),(.rd,(.ptr yQ9))],outs:=[(true,.bool)],fn:=Zao }
def uC : Ctx:={ tab:=tab,con:=fun _ _=>none,glob:=glob,eqs:=eqs }
theorem LD (x : (ao [I,(.ptr yQ9)]).den) : aB uC wj (aa Tryd.f68) [(.rd,I),(.rd,(.ptr yQ9))] [(.tmp 3,true,.bool)] x=Zao x:=by kernel_rfl
def Za_H2 : Shape:={ env:=[(0,.av (.val (.slice I))),(1,.av (.val (.clo 68 (.prod (.ptr yQ9) .unit)))),(7,.av (.val I)),(8,.av (.val I))],objs:=[] }
def NZ : List (Ex×Shape):=[(.ret,{ env:=[(4,.av (.val I))],objs:=[] }),(.exit 0,{ env:=[],objs:=[] })]
def pO (x : Q13) : Option (Q13⊕((Int×Unit)⊕(Unit⊕Empty))) :=
 let (a,b,c,d,_):=x; cond (ltI d c) ((aG a d).bind fun y1=>(Zao (y1,b.1,())).bind fun r2=>cond r2.1 (some (.inr (.inl (d,())))) (some (.inl (a,b,c,(ak .i64 d 1),())))) (some (.inr (.inr (.inl ()))))
def tC : Q13→Option ((Int×Unit)⊕(Unit⊕Empty)):=ab pO
def Hb : Ann:={ head:=Za_H2,exits:=NZ,fn:=tC }
def xR : Anns:=[(2,Hb)]
def Za (x : (List Int×(Q12×Unit)×Unit)) : Option (Int×Unit) :=
 (tC (x.1,x.2.1,(x.1.length : Nat),0,())).bind (Sum.elim (fun z2=>some (z2.1,())) (Sum.elim (fun z3=>some ((-1),())) (fun _=>none)))
def Za_c : Con:={ ins:=[(.rd,(.slice I)),(.rd,(.clo 68 (.prod (.ptr yQ9) .unit)))],outs:=[(true,I)],fn:=Za }
def yj : Ctx:={ tab:=tab,con:=fun | 68,_=>some Zao_c | _,_=>none,glob:=glob,eqs:=eqs }
theorem On (x : Za_H2.ty.den) : aO yj xR Hb (af 2 (aa Tryd.f67)) x=pO x:=by kernel_rfl
theorem Ot (x : (ao [(.slice I),(.clo 68 (.prod (.ptr yQ9) .unit))]).den) : aB yj xR (aa Tryd.f67) [(.rd,(.slice I)),(.rd,(.clo 68 (.prod (.ptr yQ9) .unit)))] [(.tmp 4,true,I)] x=Za x:=by kernel_rfl
def wM : Anns:=[]
def Zbe (x : (Q12×List Int×Unit)) : Option (Int×Unit) :=
 let (((a,b,c,_),d,e,f,_),g,_):=x; (Za (g,(((a,b,c,()),d,e,f,()),()),())).bind fun r1=>some (r1.1,())
def Zbe_c : Con:={ ins:=[(.rd,yQ9),(.rd,(.slice I))],outs:=[(true,I)],fn:=Zbe }
def rY : Ctx:={ tab:=tab,con:=fun | 67,_=>some Za_c | _,_=>none,glob:=glob,eqs:=eqs }
theorem Ls (x : (ao [yQ9,(.slice I)]).den) : aB rY wM (aa Tryd.f41) [(.rd,yQ9),(.rd,(.slice I))] [(.tmp 4,true,I)] x=Zbe x:=by kernel_rfl
def Zbk_H3 : Shape:={ env:=[(2,.av (.ptr 2 0)),(3,.av (.ptr 3 0)),(13,.av (.val yQ3)),(14,.av (.val I)),(15,.av (.val I))],objs:=[(2,.box [.val I,.nils,.nils]),(3,.box [.val I,.own 400001,.ownd 400002]),(400001,.arr yQ2),(400002,.deep I)] }
def Nz : List (Ex×Shape):=[(.exit 0,{ env:=[(2,.av (.ptr 2 0)),(3,.av (.ptr 3 0))],objs:=[(2,.box [.val I,.nils,.nils]),(3,.box [.val I,.own 400001,.ownd 400002]),(400001,.arr yQ2),(400002,.deep I)] })]
def nT (x : Q32) : Option (Q32⊕((Int×Int×(List Q2)×(List (List Int))×Unit)⊕Empty)) :=
 let (a,b,c,d,e,f,g,_):=x; cond (ltI g f) ((aG e g).bind fun y1=>(Zag (y1,())).bind fun r2=>(app d [r2.1]).bind fun a3=>some (.inl (a,b,c,a3,e,f,(ak .i64 g 1),()))) (some (.inr (.inl (a,b,c,d,()))))
def AY : Q32→Option ((Int×Int×(List Q2)×(List (List Int))×Unit)⊕Empty):=ab nT
def AK : Ann:={ head:=Zbk_H3,exits:=Nz,fn:=AY }
def sZ : Anns:=[(3,AK)]
def Zbk (x : (Q11×Unit)) : Option (Q11×Unit) :=
 let ((a,b,c,_),_):=x; (Zap (b,())).bind fun r1=>(AY (0,a,r1.1,[],c,(c.length : Nat),0,())).bind (Sum.elim (fun z3=>some ((z3.2.1,z3.2.2.1,z3.2.2.2.1,()),())) (fun _=>none))
def Zbk_c : Con:={ ins:=[(.rd,yQ6)],outs:=[(true,yQ6)],fn:=Zbk,deep:=true }
def pg : Ctx:={ tab:=tab,con:=fun | 60,_=>some Zap_c | 62,_=>some Zag_c | _,_=>none,glob:=glob,eqs:=eqs,deep:=[23] }
theorem MS (x : Zbk_H3.ty.den) : aO pg sZ AK (af 3 (aa Tryd.f83)) x=nT x:=by kernel_rfl
theorem LC (x : (ao [yQ6]).den) : aB pg sZ (aa Tryd.f83) [(.rd,yQ6)] [(.cell 2 25,true,yQ6)] x true=Zbk x:=by kernel_rfl
def vJ : Anns:=[]
def Zbn (x : (Q11×Int×Unit)) : Option (Q11×Int×Unit) :=
 let ((a,b,c,_),d,_):=x; (Zaz ((a,b,c,()),())).bind fun r1=>cond (!r1.1) (some ((0,[],[],()),13,())) (cond (ltI d 0) (some ((0,[],[],()),3,())) (cond (geI d (b.length : Nat)) (some ((0,[],[],()),3,())) (cond (geI a 16384) (some ((0,[],[],()),2,())) (cond (geI (b.length : Nat) 32768) (some ((0,[],[],()),2,())) ((Zbk ((a,b,c,()),())).bind fun r2=>(aG b d).bind fun y3=>(aT r2.1.2.1.length d).bind fun j4=>(r2.1.2.1[j4]?).bind fun y5=>(app (r2.1.2.1.set j4 (y5.1,a,y5.2.2)) [(a,y3.2.1,())]).bind fun a6=>(aT r2.1.2.2.1.length y3.2.1).bind fun j7=>(Zai ((cC r2.1.2.2.1 j7),(ak .i64 (aX .i64 2 d) 1),())).bind fun r8=>(aT (cC r2.1.2.2.1 j7).length r8.1).bind fun j9=>(app (r2.1.2.2.1.set j7 ((cC r2.1.2.2.1 j7).set j9 (ak .i64 (aX .i64 2 (b.length : Nat)) 1))) [[(ak .i64 (aX .i64 2 d) 1),(aX .i64 2 (b.length : Nat))]]).bind fun a10=>some (((ak .i64 r2.1.1 1),a6,a10,()),0,()))))))
def Zbn_c : Con:={ ins:=[(.rd,yQ6),(.rd,I)],outs:=[(true,yQ6),(true,I)],fn:=Zbn,deep:=true }
def sM : Ctx:={ tab:=tab,con:=fun | 64,_=>some Zaz_c | 66,_=>some Zai_c | 83,_=>some Zbk_c | _,_=>none,glob:=glob,eqs:=eqs,deep:=[87] }
theorem M9 (x : (ao [yQ6,I]).den) : aB sM vJ (aa Tryd.f69) [(.rd,yQ6),(.rd,I)] [(.cell 4 25,true,yQ6),(.tmp 5,true,I)] x true=Zbn x:=by kernel_rfl
def vZ : Anns:=[]
def Zan (x : Q6) : Option (Int×Unit) :=
 cond (eqI x.1 (ak .i64 (aX .i64 2 x.2.1) 1)) (some ((ak .i64 x.2.2.1 1),())) (some (x.1,()))
def Zan_c : Con:={ ins:=[(.rd,I),(.rd,(.ptr I)),(.rd,(.ptr I))],outs:=[(true,I)],fn:=Zan }
def uS : Ctx:={ tab:=tab,con:=fun _ _=>none,glob:=glob,eqs:=eqs }
theorem LJ (x : (ao [I,(.ptr I),(.ptr I)]).den) : aB uS vZ (aa Tryd.f70) [(.rd,I),(.rd,(.ptr I)),(.rd,(.ptr I))] [(.tmp 4,true,I)] x=Zan x:=by kernel_rfl
def Zbo_H6 : Shape:={ env:=[(3,.av (.own 3)),(4,.av (.val I)),(14,.av (.own 14)),(15,.av (.val I)),(16,.av (.val I)),(21,.av (.val (.slice I))),(22,.av (.val I)),(23,.av (.val I))],objs:=[(3,.arr I),(14,.arr (.slice I))] }
def Lz : List (Ex×Shape):=[(.exit 2,{ env:=[(3,.av (.own 3)),(14,.av (.own 14)),(15,.av (.val I)),(16,.av (.val I))],objs:=[(3,.arr I),(14,.arr (.slice I))] })]
def oj (x : Q28) : Option (Q28⊕(Q15⊕Empty)) :=
 let (a,b,c,d,e,f,g,h,_):=x; cond (ltI h g) ((aG f h).bind fun y1=>(aT a.length y1).bind fun j2=>(a[j2]?).bind fun y3=>some (.inl ((a.set j2 c),b,c,d,e,f,g,(ak .i64 h 1),()))) (some (.inr (.inl (a,b,d,e,()))))
def vC : Q28→Option (Q15⊕Empty):=ab oj
def Aj : Ann:={ head:=Zbo_H6,exits:=Lz,fn:=vC }
def Zbo_H3 : Shape:={ env:=[(3,.av (.own 3)),(14,.av (.own 14)),(15,.av (.val I)),(16,.av (.val I))],objs:=[(3,.arr I),(14,.arr (.slice I))] }
def MQ : List (Ex×Shape):=[(.exit 0,{ env:=[(3,.av (.own 3))],objs:=[(3,.arr I)] })]
def nO (x : Q15) : Option (Q15⊕(Q1⊕Empty)) :=
 let (a,b,c,d,_):=x; cond (ltI d c) ((aT b.length d).bind fun j1=>(b[j1]?).bind fun y2=>(vC (a,b,d,c,d,y2,(y2.length : Nat),0,())).bind (Sum.elim (fun z4=>some (.inl (z4.1,z4.2.1,z4.2.2.1,(ak .i64 z4.2.2.2.1 1),()))) (fun _=>none))) (some (.inr (.inl (a,()))))
def AU : Q15→Option (Q1⊕Empty):=ab nO
def zn : Ann:={ head:=Zbo_H3,exits:=MQ,fn:=AU }
def oD : Anns:=[(3,zn),(6,Aj)]
def Zbo (x : (Q11×Unit)) : Option Q1 :=
 let ((a,b,c,_),_):=x; (dJ I (aX .i64 2 (b.length : Nat)) (aX .i64 2 (b.length : Nat))).bind fun m1=>(Zbd ((a,b,c,()),())).bind fun r2=>(AU (m1,r2.1,(r2.1.length : Nat),0,())).bind (Sum.elim (fun z4=>some (z4.1,())) (fun _=>none))
def Zbo_c : Con:={ ins:=[(.rd,yQ6)],outs:=[(true,(.slice I))],fn:=Zbo }
def mB : Ctx:={ tab:=tab,con:=fun | 39,_=>some Zbd_c | _,_=>none,glob:=glob,eqs:=eqs }
theorem Lx (x : Zbo_H6.ty.den) : aO mB oD Aj (af 6 (aa Tryd.f84)) x=oj x:=by kernel_rfl
theorem Lf (x : Zbo_H3.ty.den) : aO mB oD zn (af 3 (aa Tryd.f84)) x=nO x:=by kernel_rfl
theorem Ms (x : (ao [yQ6]).den) : aB mB oD (aa Tryd.f84) [(.rd,yQ6)] [(.tmp 2,true,(.slice I))] x=Zbo x:=by kernel_rfl
def vH : Anns:=[]
def Zbh (x : Q8) : Option Q1 :=
 (Zai (x.1,x.2.2.1,())).bind fun r1=>(Zr (x.1,r1.1,[x.2.1],())).bind fun r2=>some (r2.1,())
def Zbh_c : Con:={ ins:=[(.take,(.slice I)),(.rd,I),(.rd,I)],outs:=[(true,(.slice I))],fn:=Zbh }
def sx : Ctx:={ tab:=tab,con:=fun | 66,_=>some Zai_c | 82,_=>some Zr_c | _,_=>none,glob:=glob,eqs:=eqs }
theorem NL (x : (ao [(.slice I),I,I]).den) : aB sx vH (aa Tryd.f85) [(.take,(.slice I)),(.rd,I),(.rd,I)] [(.tmp 6,true,(.slice I))] x=Zbh x:=by kernel_rfl
def vi : Anns:=[]
def Zbr (x : (Q11×Int×Int×Unit)) : Option (Q11×Int×Unit) :=
 let ((a,b,c,_),d,e,_):=x; (Zaz ((a,b,c,()),())).bind fun r1=>cond (!r1.1) (some ((0,[],[],()),13,())) (cond (ltI (tj d e) 0) (some ((0,[],[],()),3,())) (cond (geI (jv d e) (aX .i64 2 (b.length : Nat))) (some ((0,[],[],()),3,())) ((Zbg ((a,b,c,()),d,())).bind fun r2=>(Zbg ((a,b,c,()),e,())).bind fun r3=>cond (eqI r2.1 r3.1) (some ((0,[],[],()),8,())) ((Zbo ((a,b,c,()),())).bind fun r4=>(aT r4.1.length d).bind fun j5=>(r4.1[j5]?).bind fun y6=>(aT r4.1.length e).bind fun j7=>(r4.1[j7]?).bind fun y8=>cond (neI y6 y8) (some ((0,[],[],()),15,())) (cond (geI (b.length : Nat) 32768) (some ((0,[],[],()),2,())) ((Zbk ((a,b,c,()),())).bind fun r9=>(app r9.1.2.1 [(r2.1,r3.1,())]).bind fun a10=>(aT r9.1.2.2.1.length r2.1).bind fun j11=>(Zbh ((cC r9.1.2.2.1 j11),(aX .i64 2 (b.length : Nat)),d,())).bind fun r12=>(aT r9.1.2.2.1.length r2.1).bind fun j13=>if j11=j13 then (aT (r9.1.2.2.1.set j13 r12.1).length r3.1).bind fun j14=>(Zbh ((cC (r9.1.2.2.1.set j13 r12.1) j14),(ak .i64 (aX .i64 2 (b.length : Nat)) 1),e,())).bind fun r15=>(aT (r9.1.2.2.1.set j13 r12.1).length r3.1).bind fun j16=>if j14=j16 then some ((r9.1.1,a10,((r9.1.2.2.1.set j13 r12.1).set j16 r15.1),()),0,()) else none else none))))))
def Zbr_c : Con:={ ins:=[(.rd,yQ6),(.rd,I),(.rd,I)],outs:=[(false,yQ6),(true,I)],fn:=Zbr }
def qS : Ctx:={ tab:=tab,con:=fun | 59,_=>some Zbg_c | 64,_=>some Zaz_c | 83,_=>some Zbk_c | 84,_=>some Zbo_c | 85,_=>some Zbh_c | _,_=>none,glob:=glob,eqs:=eqs,light:=[16,17] }
theorem K6 (x : (ao [yQ6,I,I]).den) : aB qS vi (aa Tryd.f71) [(.rd,yQ6),(.rd,I),(.rd,I)] [(.cell 6 25,false,yQ6),(.tmp 7,true,I)] x=Zbr x:=by kernel_rfl
def Zbc_H3 : Shape:={ env:=[(1,.av (.val (.slice I))),(2,.av (.val I)),(3,.av (.ptr 3 0)),(6,.av (.ptr 6 0)),(8,.av (.val I)),(9,.av (.val I)),(10,.av (.val I))],objs:=[(3,.box [.val I,.val (.slice yQ2),.val yQ3,.val (.slice I),.val (.slice .str),.val I]),(6,.box [.val I,.nils,.nils,.nils,.nils,.val I])] }
def LZ : List (Ex×Shape):=[(.ret,{ env:=[(6,.av (.ptr 6 0)),(7,.av (.val I))],objs:=[(6,.box [.val I,.nils,.nils,.nils,.nils,.val I])] }),(.exit 0,{ env:=[(1,.av (.val (.slice I))),(2,.av (.val I)),(3,.av (.ptr 3 0)),(6,.av (.ptr 6 0)),(8,.av (.val I)),(9,.av (.val I))],objs:=[(3,.box [.val I,.val (.slice yQ2),.val yQ3,.val (.slice I),.val (.slice .str),.val I]),(6,.box [.val I,.nils,.nils,.nils,.nils,.val I])] })]
def sY (x : Q57) : Option (Q57⊕(Q6⊕(Q54⊕Empty))) :=
 let (a,b,c,d,e,f,g,h,i,k,l,m,n,_):=x; cond (neI n 1) (cond (eqI l 0) none ((aG i (gO m l)).bind fun y1=>(aG d (ij .i64 y1 1)).bind fun y2=>cond (gtI (ak .i64 m 1) (ak .i64 k l)) (some (.inr (.inl (0,0,13,())))) (some (.inl (a,b,c,d,e,f,g,h,i,k,l,(ak .i64 m 1),(ak .i64 n (bq .i64 2 y2)),()))))) (some (.inr (.inr (.inl (a,b,c,d,e,f,g,h,i,k,l,m,())))))
def wz : Q57→Option (Q6⊕(Q54⊕Empty)):=ab sY
def Ar : Ann:={ head:=Zbc_H3,exits:=LZ,fn:=wz }
def sL : Anns:=[(3,Ar)]
def Zbc (x : (Q12×List Int×Int×Unit)) : Option (Q12×Int×Unit) :=
 let (((a,b,c,_),d,e,f,_),g,h,_):=x; (wz (a,b,c,d,e,f,0,0,g,h,(g.length : Nat),h,0,())).bind (Sum.elim (fun z2=>some (((z2.1,[],[],()),[],[],z2.2.1,()),z2.2.2.1,())) (Sum.elim (fun (a_3,b_3,c_3,d_3,_,e_3,_,_,f_3,g_3,h_3,i_3,_)=>(aG f_3 g_3).bind fun y4=>cond (eqI h_3 0) none ((aG f_3 (gO (ak .i64 g_3 1) h_3)).bind fun y5=>cond (eqI h_3 0) none ((aG f_3 (gO i_3 h_3)).bind fun y6=>(Zbn ((a_3,b_3,c_3,()),(eO .i64 y6 2),())).bind fun r7=>cond (neI r7.2.1 0) (some (((0,[],[],()),[],[],0,()),r7.2.1,())) ((Zag (d_3,())).bind fun r8=>(aG d_3 (ak .i64 (aX .i64 2 (eO .i64 y6 2)) 1)).bind fun y9=>(app r8.1 [2,y9,0,0]).bind fun a10=>(aT a10.length (ak .i64 (aX .i64 2 (eO .i64 y6 2)) 1)).bind fun j11=>(a10[j11]?).bind fun y12=>cond (eqI (gO y6 2) 1) ((Zan ((ij .i64 y4 1),(eO .i64 y6 2),(aX .i64 2 (b_3.length : Nat)),())).bind fun r13=>(aT (a10.set j11 2).length r13.1).bind fun j14=>((a10.set j11 2)[j14]?).bind fun y15=>(Zan (y5,(eO .i64 y6 2),(aX .i64 2 (b_3.length : Nat)),())).bind fun r16=>(Zbr ((r7.1.1,r7.1.2.1,r7.1.2.2.1,()),r16.1,(ak .i64 (aX .i64 2 (eO .i64 y6 2)) 1),())).bind fun r17=>cond (neI r17.2.1 0) (some (((0,[],[],()),[],[],0,()),r17.2.1,())) ((aT (a10.set j11 2).length r13.1).bind fun j18=>((a10.set j11 2)[j18]?).bind fun y19=>(aT ((a10.set j11 2).set j18 2).length (ak .i64 (aX .i64 2 (b_3.length : Nat)) 2)).bind fun j20=>(((a10.set j11 2).set j18 2)[j20]?).bind fun y21=>(aT (((a10.set j11 2).set j18 2).set j20 (bq .i64 y15 2)).length (aX .i64 2 (b_3.length : Nat))).bind fun j22=>((((a10.set j11 2).set j18 2).set j20 (bq .i64 y15 2))[j22]?).bind fun y23=>(aT ((((a10.set j11 2).set j18 2).set j20 (bq .i64 y15 2)).set j22 1).length (ak .i64 (aX .i64 2 (b_3.length : Nat)) 3)).bind fun j24=>(((((a10.set j11 2).set j18 2).set j20 (bq .i64 y15 2)).set j22 1)[j24]?).bind fun y25=>(aT (((((a10.set j11 2).set j18 2).set j20 (bq .i64 y15 2)).set j22 1).set j24 1).length (ak .i64 (aX .i64 2 (eO .i64 y6 2)) 1)).bind fun j26=>((((((a10.set j11 2).set j18 2).set j20 (bq .i64 y15 2)).set j22 1).set j24 1)[j26]?).bind fun y27=>(dJ .str (((((((a10.set j11 2).set j18 2).set j20 (bq .i64 y15 2)).set j22 1).set j24 1).set j26 2).length : Nat) (((((((a10.set j11 2).set j18 2).set j20 (bq .i64 y15 2)).set j22 1).set j24 1).set j26 2).length : Nat)).bind fun m28=>(Zan (e_3,(eO .i64 y6 2),(aX .i64 2 (b_3.length : Nat)),())).bind fun r29=>some (((r17.1.1,r17.1.2.1,r17.1.2.2.1,()),((((((a10.set j11 2).set j18 2).set j20 (bq .i64 y15 2)).set j22 1).set j24 1).set j26 2),m28,r29.1,()),0,()))) ((Zan ((ij .i64 y4 1),(eO .i64 y6 2),(aX .i64 2 (b_3.length : Nat)),())).bind fun r30=>(aT (a10.set j11 2).length r30.1).bind fun j31=>((a10.set j11 2)[j31]?).bind fun y32=>(Zan (y5,(eO .i64 y6 2),(aX .i64 2 (b_3.length : Nat)),())).bind fun r33=>(Zbr ((r7.1.1,r7.1.2.1,r7.1.2.2.1,()),r33.1,(aX .i64 2 (b_3.length : Nat)),())).bind fun r34=>cond (neI r34.2.1 0) (some (((0,[],[],()),[],[],0,()),r34.2.1,())) ((aT (a10.set j11 2).length r30.1).bind fun j35=>((a10.set j11 2)[j35]?).bind fun y36=>(aT ((a10.set j11 2).set j35 2).length (ak .i64 (aX .i64 2 (b_3.length : Nat)) 2)).bind fun j37=>(((a10.set j11 2).set j35 2)[j37]?).bind fun y38=>(aT (((a10.set j11 2).set j35 2).set j37 (bq .i64 y32 2)).length (ak .i64 (aX .i64 2 (eO .i64 y6 2)) 1)).bind fun j39=>((((a10.set j11 2).set j35 2).set j37 (bq .i64 y32 2))[j39]?).bind fun y40=>(aT ((((a10.set j11 2).set j35 2).set j37 (bq .i64 y32 2)).set j39 1).length (ak .i64 (aX .i64 2 (b_3.length : Nat)) 3)).bind fun j41=>(((((a10.set j11 2).set j35 2).set j37 (bq .i64 y32 2)).set j39 1)[j41]?).bind fun y42=>(aT (((((a10.set j11 2).set j35 2).set j37 (bq .i64 y32 2)).set j39 1).set j41 1).length (aX .i64 2 (b_3.length : Nat))).bind fun j43=>((((((a10.set j11 2).set j35 2).set j37 (bq .i64 y32 2)).set j39 1).set j41 1)[j43]?).bind fun y44=>(dJ .str (((((((a10.set j11 2).set j35 2).set j37 (bq .i64 y32 2)).set j39 1).set j41 1).set j43 2).length : Nat) (((((((a10.set j11 2).set j35 2).set j37 (bq .i64 y32 2)).set j39 1).set j41 1).set j43 2).length : Nat)).bind fun m45=>(Zan (e_3,(eO .i64 y6 2),(aX .i64 2 (b_3.length : Nat)),())).bind fun r46=>some (((r34.1.1,r34.1.2.1,r34.1.2.2.1,()),((((((a10.set j11 2).set j35 2).set j37 (bq .i64 y32 2)).set j39 1).set j41 1).set j43 2),m45,r46.1,()),0,()))))))) (fun _=>none)))
def Zbc_c : Con:={ ins:=[(.rd,yQ9),(.rd,(.slice I)),(.rd,I)],outs:=[(false,yQ9),(true,I)],fn:=Zbc }
def pj : Ctx:={ tab:=tab,con:=fun | 62,_=>some Zag_c | 69,_=>some Zbn_c | 70,_=>some Zan_c | 71,_=>some Zbr_c | _,_=>none,glob:=glob,eqs:=eqs,frz:=[21],light:=[24,25],hold:=[(21,97),(21,98)] }
theorem K0 (x : Zbc_H3.ty.den) : aO pj sL Ar (af 3 (aa Tryd.f42)) x=sY x:=by kernel_rfl
theorem Mf (x : (ao [yQ9,(.slice I),I]).den) : aB pj sL (aa Tryd.f42) [(.rd,yQ9),(.rd,(.slice I)),(.rd,I)] [(.cell 6 29,false,yQ9),(.tmp 7,true,I)] x=Zbc x:=by kernel_rfl
def Zay_H10 : Shape:={ env:=[(1,.av (.ptr 1 0)),(2,.av (.ptr 2 0)),(4,.av (.val .bool)),(32,.av (.own 32)),(33,.av (.val I)),(34,.av (.val I))],objs:=[(1,.box [.val I,.val (.slice yQ2),.val yQ3,.val (.slice I),.val (.slice .str),.val I]),(2,.box [.val I,.nils,.nils,.nils,.nils,.val I]),(32,.arr (.slice I))] }
def JM : List (Ex×Shape):=[(.ret,{ env:=[(2,.av (.ptr 2 0)),(3,.av (.val I))],objs:=[(2,.box [.val I,.nils,.nils,.nils,.nils,.val I])] }),(.exit 3,{ env:=[(1,.av (.ptr 1 0)),(2,.av (.ptr 2 0)),(4,.av (.val .bool))],objs:=[(1,.box [.val I,.val (.slice yQ2),.val yQ3,.val (.slice I),.val (.slice .str),.val I]),(2,.box [.val I,.nils,.nils,.nils,.nils,.val I])] })]
def gY (x : Q60) : Option (Q60⊕(Q6⊕(Q44⊕Empty))) :=
 let (a,b,c,d,e,f,g,h,i,k,l,m,_):=x; cond (ltI m l) ((aT i.length m).bind fun j1=>(i[j1]?).bind fun y2=>(Zh (y2,f,())).bind fun r3=>cond r3.1 (some (.inl (a,b,c,d,e,f,g,h,i,k,l,(ak .i64 m 1),()))) ((Zbe (((a,b,c,()),d,e,f,()),y2,())).bind fun r4=>cond (ltI r4.1 0) (some (.inl (a,b,c,d,e,f,g,h,i,k,l,(ak .i64 m 1),()))) ((Zbc (((a,b,c,()),d,e,f,()),y2,r4.1,())).bind fun r5=>cond (neI r5.2.1 0) (some (.inr (.inl (0,0,r5.2.1,())))) (some (.inr (.inr (.inl (r5.1.1.1,r5.1.1.2.1,r5.1.1.2.2.1,r5.1.2.1,r5.1.2.2.1,r5.1.2.2.2.1,g,h,true,())))))))) (some (.inr (.inr (.inl (a,b,c,d,e,f,g,h,k,())))))
def gX : Q60→Option (Q6⊕(Q44⊕Empty)):=ab gY
def wh : Ann:={ head:=Zay_H10,exits:=JM,fn:=gX }
def Zay_H7 : Shape:={ env:=[(1,.av (.ptr 1 0)),(2,.av (.ptr 2 0)),(4,.av (.val .bool))],objs:=[(1,.box [.val I,.val (.slice yQ2),.val yQ3,.val (.slice I),.val (.slice .str),.val I]),(2,.box [.val I,.nils,.nils,.nils,.nils,.val I])] }
def K5 : List (Ex×Shape):=[(.ret,{ env:=[(2,.av (.ptr 2 0)),(3,.av (.val I))],objs:=[(2,.box [.val I,.nils,.nils,.nils,.nils,.val I])] }),(.exit 1,{ env:=[(1,.av (.ptr 1 0)),(2,.av (.ptr 2 0))],objs:=[(1,.box [.val I,.val (.slice yQ2),.val yQ3,.val (.slice I),.val (.slice .str),.val I]),(2,.box [.val I,.nils,.nils,.nils,.nils,.val I])] })]
def oE (x : Q44) : Option (Q44⊕(Q6⊕(Q39⊕Empty))) :=
 let (a,b,c,d,e,f,g,h,i,_):=x; cond i ((Zbd ((a,b,c,()),())).bind fun r1=>(gX (a,b,c,d,e,f,g,h,r1.1,false,(r1.1.length : Nat),0,())).bind (Sum.elim (fun z3=>some (.inr (.inl (z3.1,z3.2.1,z3.2.2.1,())))) (Sum.elim (fun (a_4,b_4,c_4,d_4,e_4,f_4,g_4,h_4,i_4,_)=>some (.inl (a_4,b_4,c_4,d_4,e_4,f_4,g_4,h_4,i_4,()))) (fun _=>none)))) (some (.inr (.inr (.inl (a,b,c,d,e,f,g,h,())))))
def zY : Q44→Option (Q6⊕(Q39⊕Empty)):=ab oE
def Af : Ann:={ head:=Zay_H7,exits:=K5,fn:=zY }
def oF : Anns:=[(7,Af),(10,wh)]
def Zay (x : (Q12×Unit)) : Option (Q12×Int×Unit) :=
 let (((a,b,c,_),d,e,f,_),_):=x; (Zbp (((a,b,c,()),d,e,f,()),())).bind fun r1=>cond (neI r1.1 0) (some (((0,[],[],()),[],[],0,()),13,())) ((Zbq (((a,b,c,()),d,e,f,()),())).bind fun r2=>cond (neI r2.1 0) (some (((0,[],[],()),[],[],0,()),13,())) (cond (eqI (b.length : Nat) 0) ((Zax ()).bind fun r3=>some (((r3.1.1.1,r3.1.1.2.1,r3.1.1.2.2.1,()),r3.1.2.1,r3.1.2.2.1,r3.1.2.2.2.1,()),0,())) ((Zav (((a,b,c,()),d,e,f,()),())).bind fun r4=>(zY (r4.1.1.1,r4.1.1.2.1,r4.1.1.2.2.1,r4.1.2.1,r4.1.2.2.1,r4.1.2.2.2.1,0,0,true,())).bind (Sum.elim (fun z6=>some (((z6.1,[],[],()),[],[],z6.2.1,()),z6.2.2.1,())) (Sum.elim (fun (a_7,b_7,c_7,d_7,e_7,f_7,_)=>some (((a_7,b_7,c_7,()),d_7,e_7,f_7,()),0,())) (fun _=>none))))))
def Zay_c : Con:={ ins:=[(.rd,yQ9)],outs:=[(false,yQ9),(true,I)],fn:=Zay }
def nk : Ctx:={ tab:=tab,con:=fun | 25,_=>some Zbp_c | 36,_=>some Zbq_c | 37,_=>some Zax_c | 38,_=>some Zav_c | 39,_=>some Zbd_c | 40,_=>some Zh_c | 41,_=>some Zbe_c | 42,_=>some Zbc_c | _,_=>none,glob:=glob,eqs:=eqs }
theorem KB (x : Zay_H10.ty.den) : aO nk oF wh (af 10 (aa Tryd.f15)) x=gY x:=by kernel_rfl
theorem NW (x : Zay_H7.ty.den) : aO nk oF Af (af 7 (aa Tryd.f15)) x=oE x:=by kernel_rfl
theorem Nt (x : (ao [yQ9]).den) : aB nk oF (aa Tryd.f15) [(.rd,yQ9)] [(.cell 2 29,false,yQ9),(.tmp 3,true,I)] x=Zay x:=by kernel_rfl
def Zi_H11 : Shape:={ env:=[(1,.av (.ptr 1 0)),(5,.av (.val I)),(6,.av (.val I)),(26,.av (.own 26)),(27,.av (.val I)),(28,.av (.val I)),(36,.av (.val (.slice I))),(37,.av (.val I)),(38,.av (.val I))],objs:=[(1,.box [.val I,.val (.slice yQ2),.val yQ3,.val (.slice I),.val (.slice .str),.val I]),(26,.arr (.slice I))] }
def Nw : List (Ex×Shape):=[(.ret,{ env:=[(2,.av (.val .bool))],objs:=[] }),(.exit 2,{ env:=[(1,.av (.ptr 1 0)),(6,.av (.val I)),(26,.av (.own 26)),(27,.av (.val I)),(28,.av (.val I))],objs:=[(1,.box [.val I,.val (.slice yQ2),.val yQ3,.val (.slice I),.val (.slice .str),.val I]),(26,.arr (.slice I))] })]
def nB (x : Q62) : Option (Q62⊕((Bool×Unit)⊕(Q53⊕Empty))) :=
 let (a,b,c,d,e,f,g,h,i,k,l,m,n,o,_):=x; cond (ltI o n) ((aG m o).bind fun y1=>(aG d (ij .i64 y1 1)).bind fun y2=>cond (eqI (bq .i64 2 y2) h) (some (.inl (a,b,c,d,e,f,g,h,(ak .i64 i 1),k,l,m,n,(ak .i64 o 1),()))) (cond (eqI (bq .i64 2 y2) 0) (some (.inl (a,b,c,d,e,f,g,h,i,k,l,m,n,(ak .i64 o 1),()))) (some (.inr (.inl (false,())))))) (some (.inr (.inr (.inl (a,b,c,d,e,f,g,i,k,l,())))))
def ou : Q62→Option ((Bool×Unit)⊕(Q53⊕Empty)):=ab nB
def Ad : Ann:={ head:=Zi_H11,exits:=Nw,fn:=ou }
def Zi_H4 : Shape:={ env:=[(1,.av (.ptr 1 0)),(26,.av (.own 26)),(27,.av (.val I)),(28,.av (.val I))],objs:=[(1,.box [.val I,.val (.slice yQ2),.val yQ3,.val (.slice I),.val (.slice .str),.val I]),(26,.arr (.slice I))] }
def OG : List (Ex×Shape):=[(.ret,{ env:=[(2,.av (.val .bool))],objs:=[] }),(.exit 0,{ env:=[],objs:=[] })]
def uj (x : Q51) : Option (Q51⊕((Bool×Unit)⊕(Unit⊕Empty))) :=
  let t_0:=Sum.elim (fun z5=>some (.inr (.inl (z5.1,())))) (Sum.elim (fun (a_6,b_6,c_6,d_6,e_6,f_6,g_6,h_6,i_6,k_6,_)=>cond (neI h_6 4) (some (.inr (.inl (false,())))) (some (.inl (a_6,b_6,c_6,d_6,e_6,f_6,g_6,i_6,(ak .i64 k_6 1),())))) (fun _=>none));let (a,b,c,d,e,f,g,h,i,_):=x; cond (ltI i h) ((aT g.length i).bind fun j1=>(g[j1]?).bind fun y2=>(Zh (y2,f,())).bind fun r3=>cond r3.1 ((ou (a,b,c,d,e,f,g,(-1),0,h,i,y2,(y2.length : Nat),0,())).bind t_0) ((ou (a,b,c,d,e,f,g,1,0,h,i,y2,(y2.length : Nat),0,())).bind t_0)) (some (.inr (.inr (.inl ()))))
def Cz : Q51→Option ((Bool×Unit)⊕(Unit⊕Empty)):=ab uj
def GB : Ann:={ head:=Zi_H4,exits:=OG,fn:=Cz }
def ut : Anns:=[(4,GB),(11,Ad)]
def Zi (x : (Q12×Unit)) : Option (Bool×Unit) :=
 let (((a,b,c,_),d,e,f,_),_):=x; (Zbp (((a,b,c,()),d,e,f,()),())).bind fun r1=>cond (neI r1.1 0) (some (false,())) ((Zbq (((a,b,c,()),d,e,f,()),())).bind fun r2=>cond (neI r2.1 0) (some (false,())) (cond (eqI (b.length : Nat) 0) (some (false,())) ((Zbd ((a,b,c,()),())).bind fun r3=>(Cz (a,b,c,d,e,f,r3.1,(r3.1.length : Nat),0,())).bind (Sum.elim (fun z5=>some (z5.1,())) (Sum.elim (fun z6=>some (true,())) (fun _=>none))))))
def Zi_c : Con:={ ins:=[(.rd,yQ9)],outs:=[(true,.bool)],fn:=Zi }
def ww : Ctx:={ tab:=tab,con:=fun | 25,_=>some Zbp_c | 36,_=>some Zbq_c | 39,_=>some Zbd_c | 40,_=>some Zh_c | _,_=>none,glob:=glob,eqs:=eqs }
theorem MV (x : Zi_H11.ty.den) : aO ww ut Ad (af 11 (aa Tryd.f16)) x=nB x:=by kernel_rfl
theorem PF (x : Zi_H4.ty.den) : aO ww ut GB (af 4 (aa Tryd.f16)) x=uj x:=by kernel_rfl
theorem Pi (x : (ao [yQ9]).den) : aB ww ut (aa Tryd.f16) [(.rd,yQ9)] [(.tmp 2,true,.bool)] x=Zi x:=by kernel_rfl
def CW : Anns:=[]
def Zo (x : Unit) : Option (Q12×Unit) :=
 (dJ .str 8 8).bind fun m1=>some (((4,[(0,1,()),(1,2,()),(2,3,()),(3,0,())],[[7,0],[1,2],[3,4],[5,6]],()),[3,1,3,1,3,1,3,1],m1,1,()),())
def Zo_c : Con:={ ins:=[],outs:=[(true,yQ9)],fn:=Zo }
def Fu : Ctx:={ tab:=tab,con:=fun _ _=>none,glob:=glob,eqs:=eqs }
theorem OY (x : (ao []).den) : aB Fu CW (aa Tryd.f24) [] [(.cell 0 29,true,yQ9)] x=Zo x:=by kernel_rfl
def Cn : Anns:=[]
def Zv (x : Unit) : Option (Bool×Unit) :=
 (Zq (((2,[(0,1,())],[[0],[1]],()),[4,4],[(ByteArray.mk #[76]),(ByteArray.mk #[82])],0,()),())).bind fun r1=>(Zay (((2,[(0,1,())],[[0],[1]],()),[4,4],[(ByteArray.mk #[76]),(ByteArray.mk #[82])],0,()),())).bind fun r2=>(Zay (((2,[(0,1,())],[[0],[1]],()),[4,4],[(ByteArray.mk #[]),(ByteArray.mk #[])],0,()),())).bind fun r3=>cond (neI r1.2.2.1 0) (some (false,())) (cond (neI (r1.2.1.length : Nat) 1) (some (false,())) ((aT r1.2.1.length 0).bind fun j4=>(r1.2.1[j4]?).bind fun y5=>cond (neI (y5.length : Nat) 2) (some (false,())) ((aT r1.2.1.length 0).bind fun j6=>(r1.2.1[j6]?).bind fun y7=>(aG y7 1).bind fun y8=>cond (neI y8 2) (some (false,())) (cond (neI r1.1.1.1 3) (some (false,())) (cond (neI (r1.1.2.1.length : Nat) 4) (some (false,())) (cond (neI (r1.1.1.2.2.1.length : Nat) 3) (some (false,())) ((aT r1.1.2.1.length 1).bind fun j9=>(r1.1.2.1[j9]?).bind fun y10=>cond (eqI y10 1) ((aT r1.1.2.1.length 2).bind fun j11=>(r1.1.2.1[j11]?).bind fun y12=>cond (eqI y12 3) (cond (eqI r2.2.1 13) (cond (eqI r3.2.1 0) ((Zi (((r3.1.1.1,r3.1.1.2.1,r3.1.1.2.2.1,()),r3.1.2.1,r3.1.2.2.1,r3.1.2.2.2.1,()),())).bind fun r13=>cond r13.1 ((Zo ()).bind fun r14=>(Zi (((r14.1.1.1,r14.1.1.2.1,r14.1.1.2.2.1,()),r14.1.2.1,r14.1.2.2.1,r14.1.2.2.2.1,()),())).bind fun r15=>cond r15.1 ((Zi (((2,[(0,1,())],[[0],[1]],()),[4,4],[(ByteArray.mk #[]),(ByteArray.mk #[])],0,()),())).bind fun r16=>some ((!r16.1),())) (some (false,()))) (some (false,()))) (some (false,()))) (some (false,()))) (some (false,()))) (some (false,())))))))))
def Zv_c : Con:={ ins:=[],outs:=[(true,.bool)],fn:=Zv }
def BO : Ctx:={ tab:=tab,con:=fun | 10,_=>some Zq_c | 15,_=>some Zay_c | 16,_=>some Zi_c | 24,_=>some Zo_c | _,_=>none,glob:=glob,eqs:=eqs }
theorem Pn (x : (ao []).den) : aB BO Cn (aa Tryd.f9) [] [(.tmp 0,true,.bool)] x=Zv x:=by kernel_rfl
def Zae_H3 : Shape:={ env:=[(1,.av (.ptr 1 0)),(3,.av (.own 3)),(4,.av (.val I))],objs:=[(1,.box [.val I,.val (.slice yQ2),.val yQ3]),(3,.arr I)] }
def LB : List (Ex×Shape):=[(.exit 0,{ env:=[(3,.av (.own 3))],objs:=[(3,.arr I)] })]
def o6 (x : Q20) : Option (Q20⊕(Q1⊕Empty)) :=
 let (a,b,c,d,e,_):=x; cond (ltI e (b.length : Nat)) ((aG b e).bind fun y1=>(aG b e).bind fun y2=>(app d [y1.1,y2.2.1]).bind fun a3=>some (.inl (a,b,c,a3,(ak .i64 e 1),()))) (some (.inr (.inl (d,()))))
def zs : Q20→Option (Q1⊕Empty):=ab o6
def Bf : Ann:={ head:=Zae_H3,exits:=LB,fn:=zs }
def rT : Anns:=[(3,Bf)]
def Zae (x : (Q11×Unit)) : Option Q1 :=
 (zs (x.1.1,x.1.2.1,x.1.2.2.1,[],0,())).bind (Sum.elim (fun z2=>some (z2.1,())) (fun _=>none))
def Zae_c : Con:={ ins:=[(.rd,yQ6)],outs:=[(true,(.slice I))],fn:=Zae }
def su : Ctx:={ tab:=tab,con:=fun _ _=>none,glob:=glob,eqs:=eqs }
theorem Lo (x : Zae_H3.ty.den) : aO su rT Bf (af 3 (aa Tryd.f46)) x=o6 x:=by kernel_rfl
theorem Mb (x : (ao [yQ6]).den) : aB su rT (aa Tryd.f46) [(.rd,yQ6)] [(.tmp 2,true,(.slice I))] x=Zae x:=by kernel_rfl
def Zad_H16 : Shape:={ env:=[(1,.av (.ptr 1 0)),(5,.av (.own 5)),(6,.av (.own 6)),(7,.av (.val I)),(8,.av (.val I)),(9,.av (.val I))],objs:=[(1,.box [.val I,.val (.slice yQ2),.val yQ3]),(5,.arr I),(6,.arr .bool)] }
def Kt : List (Ex×Shape):=[(.ret,{ env:=[(2,.av (.val .bool))],objs:=[] }),(.exit 4,{ env:=[(1,.av (.ptr 1 0)),(5,.av (.own 5)),(6,.av (.own 6)),(7,.av (.val I)),(8,.av (.val I))],objs:=[(1,.box [.val I,.val (.slice yQ2),.val yQ3]),(5,.arr I),(6,.arr .bool)] })]
def kk (x : Q37) : Option (Q37⊕((Bool×Unit)⊕(Q30⊕Empty))) :=
 let (a,b,c,d,e,f,g,h,_):=x; (aG c g).bind fun y1=>cond (ltI h (y1.length : Nat)) ((aG c g).bind fun y2=>(aG y2 h).bind fun y3=>cond (ltI y3 0) (some (.inr (.inl (false,())))) (cond (geI y3 (d.length : Nat)) (some (.inr (.inl (false,())))) ((aT e.length y3).bind fun j4=>(e[j4]?).bind fun y5=>cond y5 (some (.inr (.inl (false,())))) ((aT d.length y3).bind fun j6=>(d[j6]?).bind fun y7=>cond (neI y7 g) (some (.inr (.inl (false,())))) ((aT e.length y3).bind fun j8=>(e[j8]?).bind fun y9=>some (.inl (a,b,c,d,(e.set j8 true),(ak .i64 f 1),g,(ak .i64 h 1),()))))))) (some (.inr (.inr (.inl (a,b,c,d,e,f,g,())))))
def wI : Q37→Option ((Bool×Unit)⊕(Q30⊕Empty)):=ab kk
def wB : Ann:={ head:=Zad_H16,exits:=Kt,fn:=wI }
def Zad_H13 : Shape:={ env:=[(1,.av (.ptr 1 0)),(5,.av (.own 5)),(6,.av (.own 6)),(7,.av (.val I)),(8,.av (.val I))],objs:=[(1,.box [.val I,.val (.slice yQ2),.val yQ3]),(5,.arr I),(6,.arr .bool)] }
def J8 : List (Ex×Shape):=[(.ret,{ env:=[(2,.av (.val .bool))],objs:=[] }),(.exit 2,{ env:=[(5,.av (.own 5)),(7,.av (.val I))],objs:=[(5,.arr I)] })]
def kp (x : Q30) : Option (Q30⊕((Bool×Unit)⊕(Q4⊕Empty))) :=
 let (a,b,c,d,e,f,g,_):=x; cond (ltI g a) ((wI (a,b,c,d,e,f,g,0,())).bind (Sum.elim (fun z2=>some (.inr (.inl (z2.1,())))) (Sum.elim (fun (a_3,b_3,c_3,d_3,e_3,f_3,g_3,_)=>some (.inl (a_3,b_3,c_3,d_3,e_3,f_3,(ak .i64 g_3 1),()))) (fun _=>none)))) (some (.inr (.inr (.inl (d,f,())))))
def wU : Q30→Option ((Bool×Unit)⊕(Q4⊕Empty)):=ab kp
def wi : Ann:={ head:=Zad_H13,exits:=J8,fn:=wU }
def Zad_H4 : Shape:={ env:=[(1,.av (.ptr 1 0)),(3,.av (.val I))],objs:=[(1,.box [.val I,.val (.slice yQ2),.val yQ3])] }
def Ng : List (Ex×Shape):=[(.ret,{ env:=[(2,.av (.val .bool))],objs:=[] }),(.exit 0,{ env:=[(1,.av (.ptr 1 0))],objs:=[(1,.box [.val I,.val (.slice yQ2),.val yQ3])] })]
def oM (x : Q16) : Option (Q16⊕((Bool×Unit)⊕(Q11⊕Empty))) :=
 let (a,b,c,d,_):=x; cond (ltI d (b.length : Nat)) ((aG b d).bind fun y1=>cond (ltI y1.1 0) (some (.inr (.inl (false,())))) (cond (geI y1.1 a) (some (.inr (.inl (false,())))) (cond (ltI y1.2.1 0) (some (.inr (.inl (false,())))) (cond (geI y1.2.1 a) (some (.inr (.inl (false,())))) (cond (eqI y1.1 y1.2.1) (some (.inr (.inl (false,())))) (some (.inl (a,b,c,(ak .i64 d 1),())))))))) (some (.inr (.inr (.inl (a,b,c,())))))
def AJ : Q16→Option ((Bool×Unit)⊕(Q11⊕Empty)):=ab oM
def BH : Ann:={ head:=Zad_H4,exits:=Ng,fn:=AJ }
def l6 : Anns:=[(4,BH),(13,wi),(16,wB)]
def Zad (x : (Q11×Unit)) : Option (Bool×Unit) :=
 let ((a,b,c,_),_):=x; cond (ltI a 0) (some (false,())) (cond (gtI a 16384) (some (false,())) (cond (gtI (b.length : Nat) 32768) (some (false,())) (cond (neI (c.length : Nat) a) (some (false,())) ((AJ (a,b,c,0,())).bind (Sum.elim (fun z2=>some (z2.1,())) (Sum.elim (fun (a_3,b_3,c_3,_)=>(Zae ((a_3,b_3,c_3,()),())).bind fun r4=>(dJ .bool (r4.1.length : Nat) (r4.1.length : Nat)).bind fun m5=>(wU (a_3,b_3,c_3,r4.1,m5,0,0,())).bind (Sum.elim (fun z7=>some (z7.1,())) (Sum.elim (fun z8=>some ((eqI z8.2.1 (z8.1.length : Nat)),())) (fun _=>none)))) (fun _=>none)))))))
def Zad_c : Con:={ ins:=[(.rd,yQ6)],outs:=[(true,.bool)],fn:=Zad }
def lf : Ctx:={ tab:=tab,con:=fun | 46,_=>some Zae_c | _,_=>none,glob:=glob,eqs:=eqs }
theorem Kj (x : Zad_H16.ty.den) : aO lf l6 wB (af 16 (aa Tryd.f29)) x=kk x:=by kernel_rfl
theorem JG (x : Zad_H13.ty.den) : aO lf l6 wi (af 13 (aa Tryd.f29)) x=kp x:=by kernel_rfl
theorem MJ (x : Zad_H4.ty.den) : aO lf l6 BH (af 4 (aa Tryd.f29)) x=oM x:=by kernel_rfl
theorem K3 (x : (ao [yQ6]).den) : aB lf l6 (aa Tryd.f29) [(.rd,yQ6)] [(.tmp 2,true,.bool)] x=Zad x:=by kernel_rfl
def Zm_H7 : Shape:={ env:=[(1,.av (.ptr 1 0)),(3,.av (.own 3)),(4,.av (.val I)),(5,.av (.val (.slice I))),(6,.av (.val I))],objs:=[(1,.box [.val I,.val (.slice yQ2),.val yQ3]),(3,.arr I)] }
def OA : List (Ex×Shape):=[(.exit 2,{ env:=[(1,.av (.ptr 1 0)),(3,.av (.own 3)),(4,.av (.val I))],objs:=[(1,.box [.val I,.val (.slice yQ2),.val yQ3]),(3,.arr I)] })]
def tW (x : Q29) : Option (Q29⊕(Q20⊕Empty)) :=
 let (a,b,c,d,e,f,g,_):=x; cond (ltI g (f.length : Nat)) ((aG f g).bind fun y1=>cond (eqI (f.length : Nat) 0) none ((aG f (gO (ak .i64 g 1) (f.length : Nat))).bind fun y2=>(aT d.length y1).bind fun j3=>(d[j3]?).bind fun y4=>some (.inl (a,b,c,(d.set j3 y2),e,f,(ak .i64 g 1),())))) (some (.inr (.inl (a,b,c,d,e,()))))
def Gl : Q29→Option (Q20⊕Empty):=ab tW
def HM : Ann:={ head:=Zm_H7,exits:=OA,fn:=Gl }
def Zm_H3 : Shape:={ env:=[(1,.av (.ptr 1 0)),(3,.av (.own 3)),(4,.av (.val I))],objs:=[(1,.box [.val I,.val (.slice yQ2),.val yQ3]),(3,.arr I)] }
def OL : List (Ex×Shape):=[(.exit 0,{ env:=[(3,.av (.own 3))],objs:=[(3,.arr I)] })]
def uf (x : Q20) : Option (Q20⊕(Q1⊕Empty)) :=
 let (a,b,c,d,e,_):=x; cond (ltI e a) ((aG c e).bind fun y1=>(Gl (a,b,c,d,e,y1,0,())).bind (Sum.elim (fun z3=>some (.inl (z3.1,z3.2.1,z3.2.2.1,z3.2.2.2.1,(ak .i64 z3.2.2.2.2.1 1),()))) (fun _=>none))) (some (.inr (.inl (d,()))))
def Ck : Q20→Option (Q1⊕Empty):=ab uf
def HZ : Ann:={ head:=Zm_H3,exits:=OL,fn:=Ck }
def uU : Anns:=[(3,HZ),(7,HM)]
def Zm (x : (Q11×Unit)) : Option Q1 :=
 let ((a,b,c,_),_):=x; (dJ I (aX .i64 2 (b.length : Nat)) (aX .i64 2 (b.length : Nat))).bind fun m1=>(Ck (a,b,c,m1,0,())).bind (Sum.elim (fun z3=>some (z3.1,())) (fun _=>none))
def Zm_c : Con:={ ins:=[(.rd,yQ6)],outs:=[(true,(.slice I))],fn:=Zm }
def yX : Ctx:={ tab:=tab,con:=fun _ _=>none,glob:=glob,eqs:=eqs }
theorem OK (x : Zm_H7.ty.den) : aO yX uU HM (af 7 (aa Tryd.f55)) x=tW x:=by kernel_rfl
theorem Og (x : Zm_H3.ty.den) : aO yX uU HZ (af 3 (aa Tryd.f55)) x=uf x:=by kernel_rfl
theorem PC (x : (ao [yQ6]).den) : aB yX uU (aa Tryd.f55) [(.rd,yQ6)] [(.tmp 2,true,(.slice I))] x=Zm x:=by kernel_rfl
def CY : Anns:=[]
def Zu (x : (Int×Unit)) : Option (Int×Unit) :=
 cond (eqI (gO x.1 2) 0) (some ((ak .i64 x.1 1),())) (some ((bq .i64 x.1 1),()))
def Zu_c : Con:={ ins:=[(.rd,I)],outs:=[(true,I)],fn:=Zu }
def EG : Ctx:={ tab:=tab,con:=fun _ _=>none,glob:=glob,eqs:=eqs }
theorem Ol (x : (ao [I]).den) : aB EG CY (aa Tryd.f48) [(.rd,I)] [(.tmp 2,true,I)] x=Zu x:=by kernel_rfl
def Zaa_H12 : Shape:={ env:=[(3,.av (.own 3)),(4,.av (.own 4)),(5,.av (.own 5)),(6,.av (.val I)),(7,.av (.own 7)),(8,.av (.val I))],objs:=[(3,.arr (.slice I)),(4,.arr I),(5,.arr .bool),(7,.arr I)] }
def KA : List (Ex×Shape):=[(.exit 2,{ env:=[(3,.av (.own 3)),(4,.av (.own 4)),(5,.av (.own 5)),(6,.av (.val I)),(7,.av (.own 7))],objs:=[(3,.arr (.slice I)),(4,.arr I),(5,.arr .bool),(7,.arr I)] })]
def kx (x : Q24) : Option (Q24⊕(((List (List Int))×List Int×List Bool×List Int×Int×Unit)⊕Empty)) :=
 let (a,b,c,d,e,f,_):=x; (aT c.length f).bind fun j1=>(c[j1]?).bind fun y2=>cond (!y2) ((aT c.length f).bind fun j3=>(c[j3]?).bind fun y4=>(app d [f]).bind fun a5=>(Zu (f,())).bind fun r6=>(aT b.length r6.1).bind fun j7=>(b[j7]?).bind fun y8=>some (.inl (a,b,(c.set j3 true),a5,e,y8,()))) (some (.inr (.inl (a,b,c,d,e,()))))
def vq : Q24→Option (((List (List Int))×List Int×List Bool×List Int×Int×Unit)⊕Empty):=ab kx
def xa : Ann:={ head:=Zaa_H12,exits:=KA,fn:=vq }
def Zaa_H7 : Shape:={ env:=[(3,.av (.own 3)),(4,.av (.own 4)),(5,.av (.own 5)),(6,.av (.val I))],objs:=[(3,.arr (.slice I)),(4,.arr I),(5,.arr .bool)] }
def Mw : List (Ex×Shape):=[(.exit 0,{ env:=[(3,.av (.own 3))],objs:=[(3,.arr (.slice I))] })]
def nm (x : Q17) : Option (Q17⊕(Q7⊕Empty)) :=
 let (a,b,c,d,_):=x; cond (ltI d (b.length : Nat)) ((aT c.length d).bind fun j1=>(c[j1]?).bind fun y2=>cond y2 (some (.inl (a,b,c,(ak .i64 d 1),()))) ((vq (a,b,c,[],d,d,())).bind (Sum.elim (fun z4=>(app z4.1 [z4.2.2.2.1]).bind fun a5=>some (.inl (a5,z4.2.1,z4.2.2.1,(ak .i64 z4.2.2.2.2.1 1),()))) (fun _=>none)))) (some (.inr (.inl (a,()))))
def By : Q17→Option (Q7⊕Empty):=ab nm
def zS : Ann:={ head:=Zaa_H7,exits:=Mw,fn:=By }
def oG : Anns:=[(7,zS),(12,xa)]
def Zaa (x : (Q11×Unit)) : Option Q7 :=
 let ((a,b,c,_),_):=x; (Zad ((a,b,c,()),())).bind fun r1=>cond (!r1.1) (some ([],())) ((Zm ((a,b,c,()),())).bind fun r2=>(dJ .bool (r2.1.length : Nat) (r2.1.length : Nat)).bind fun m3=>(By ([],r2.1,m3,0,())).bind (Sum.elim (fun z5=>some (z5.1,())) (fun _=>none)))
def Zaa_c : Con:={ ins:=[(.rd,yQ6)],outs:=[(true,yQ3)],fn:=Zaa }
def mp : Ctx:={ tab:=tab,con:=fun | 29,_=>some Zad_c | 48,_=>some Zu_c | 55,_=>some Zm_c | _,_=>none,glob:=glob,eqs:=eqs }
theorem Kh (x : Zaa_H12.ty.den) : aO mp oG xa (af 12 (aa Tryd.f33)) x=kx x:=by kernel_rfl
theorem MK (x : Zaa_H7.ty.den) : aO mp oG zS (af 7 (aa Tryd.f33)) x=nm x:=by kernel_rfl
theorem NO (x : (ao [yQ6]).den) : aB mp oG (aa Tryd.f33) [(.rd,yQ6)] [(.tmp 2,true,yQ3)] x=Zaa x:=by kernel_rfl
def Zal_H1 : Shape:={ env:=[(0,.av (.val (.slice I))),(1,.av (.val I))],objs:=[] }
def MR : List (Ex×Shape):=[(.exit 0,{ env:=[(1,.av (.val I))],objs:=[] })]
def n9 (x : Q4) : Option (Q4⊕((Int×Unit)⊕Empty)) :=
 let (a,b,_):=x; (aG a b).bind fun y1=>cond (neI y1 b) ((aG a b).bind fun y2=>some (.inl (a,y2,()))) (some (.inr (.inl (b,()))))
def An : Q4→Option ((Int×Unit)⊕Empty):=ab n9
def Bp : Ann:={ head:=Zal_H1,exits:=MR,fn:=An }
def sT : Anns:=[(1,Bp)]
def Zal (x : Q4) : Option (Int×Unit) :=
 (An (x.1,x.2.1,())).bind (Sum.elim (fun z2=>some (z2.1,())) (fun _=>none))
def Zal_c : Con:={ ins:=[(.rd,(.slice I)),(.rd,I)],outs:=[(true,I)],fn:=Zal }
def rc : Ctx:={ tab:=tab,con:=fun _ _=>none,glob:=glob,eqs:=eqs }
theorem LW (x : Zal_H1.ty.den) : aO rc sT Bp (af 1 (aa Tryd.f79)) x=n9 x:=by kernel_rfl
theorem NA (x : (ao [(.slice I),I]).den) : aB rc sT (aa Tryd.f79) [(.rd,(.slice I)),(.rd,I)] [(.tmp 4,true,I)] x=Zal x:=by kernel_rfl
def Zd_H8 : Shape:={ env:=[(1,.av (.ptr 1 0)),(3,.av (.own 3)),(5,.av (.val I)),(6,.av (.val I))],objs:=[(1,.box [.val I,.val (.slice yQ2),.val yQ3]),(3,.arr I)] }
def PG : List (Ex×Shape):=[(.exit 2,{ env:=[(5,.av (.val I))],objs:=[] })]
def t6 (x : Q22) : Option (Q22⊕((Int×Unit)⊕Empty)) :=
 let (a,b,c,d,e,f,_):=x; cond (ltI f (b.length : Nat)) ((aG b f).bind fun y1=>(Zal (d,y1.1,())).bind fun r2=>(aG b f).bind fun y3=>(Zal (d,y3.2.1,())).bind fun r4=>cond (neI r2.1 r4.1) ((aT d.length (jv r2.1 r4.1)).bind fun j5=>(d[j5]?).bind fun y6=>some (.inl (a,b,c,(d.set j5 (tj r2.1 r4.1)),(bq .i64 e 1),(ak .i64 f 1),()))) (some (.inl (a,b,c,d,e,(ak .i64 f 1),())))) (some (.inr (.inl (e,()))))
def IE : Q22→Option ((Int×Unit)⊕Empty):=ab t6
def Ha : Ann:={ head:=Zd_H8,exits:=PG,fn:=IE }
def Zd_H3 : Shape:={ env:=[(1,.av (.ptr 1 0)),(3,.av (.own 3)),(4,.av (.val I))],objs:=[(1,.box [.val I,.val (.slice yQ2),.val yQ3]),(3,.arr I)] }
def O8 : List (Ex×Shape):=[(.exit 0,{ env:=[(1,.av (.ptr 1 0)),(3,.av (.own 3))],objs:=[(1,.box [.val I,.val (.slice yQ2),.val yQ3]),(3,.arr I)] })]
def mL (x : Q20) : Option (Q20⊕((Int×(List Q2)×(List (List Int))×List Int×Unit)⊕Empty)) :=
 let (a,b,c,d,e,_):=x; cond (ltI e a) ((app d [e]).bind fun a1=>some (.inl (a,b,c,a1,(ak .i64 e 1),()))) (some (.inr (.inl (a,b,c,d,()))))
def um : Q20→Option ((Int×(List Q2)×(List (List Int))×List Int×Unit)⊕Empty):=ab mL
def Gg : Ann:={ head:=Zd_H3,exits:=O8,fn:=um }
def va : Anns:=[(3,Gg),(8,Ha)]
def Zd (x : (Q11×Unit)) : Option (Int×Unit) :=
 (um (x.1.1,x.1.2.1,x.1.2.2.1,[],0,())).bind (Sum.elim (fun z2=>(IE (z2.1,z2.2.1,z2.2.2.1,z2.2.2.2.1,z2.1,0,())).bind (Sum.elim (fun z4=>some (z4.1,())) (fun _=>none))) (fun _=>none))
def Zd_c : Con:={ ins:=[(.rd,yQ6)],outs:=[(true,I)],fn:=Zd }
def vT : Ctx:={ tab:=tab,con:=fun | 79,_=>some Zal_c | _,_=>none,glob:=glob,eqs:=eqs }
theorem PR (x : Zd_H8.ty.den) : aO vT va Ha (af 8 (aa Tryd.f53)) x=t6 x:=by kernel_rfl
theorem Ov (x : Zd_H3.ty.den) : aO vT va Gg (af 3 (aa Tryd.f53)) x=mL x:=by kernel_rfl
theorem OO (x : (ao [yQ6]).den) : aB vT va (aa Tryd.f53) [(.rd,yQ6)] [(.tmp 2,true,I)] x=Zd x:=by kernel_rfl
def Zac_H5 : Shape:={ env:=[(1,.av (.ptr 1 0)),(3,.av (.val I)),(4,.av (.val I))],objs:=[(1,.box [.val I,.val (.slice yQ2),.val yQ3])] }
def MG : List (Ex×Shape):=[(.exit 0,{ env:=[(1,.av (.ptr 1 0)),(3,.av (.val I))],objs:=[(1,.box [.val I,.val (.slice yQ2),.val yQ3])] })]
def jk (x : Q18) : Option (Q18⊕(Q16⊕Empty)) :=
 let (a,b,c,d,e,_):=x; cond (ltI e a) ((aG c e).bind fun y1=>cond (eqI (y1.length : Nat) 0) (some (.inl (a,b,c,(ak .i64 d 1),(ak .i64 e 1),()))) (some (.inl (a,b,c,d,(ak .i64 e 1),())))) (some (.inr (.inl (a,b,c,d,()))))
def wS : Q18→Option (Q16⊕Empty):=ab jk
def Bg : Ann:={ head:=Zac_H5,exits:=MG,fn:=wS }
def qQ : Anns:=[(5,Bg)]
def Zac (x : (Q11×Unit)) : Option (Int×Unit) :=
 let ((a,b,c,_),_):=x; (Zad ((a,b,c,()),())).bind fun r1=>cond (!r1.1) (some ((-1),())) ((Zaa ((a,b,c,()),())).bind fun r2=>(wS (a,b,c,(r2.1.length : Nat),0,())).bind (Sum.elim (fun z4=>(Zd ((z4.1,z4.2.1,z4.2.2.1,()),())).bind fun r5=>some ((bq .i64 r5.1 (eO .i64 (ak .i64 (bq .i64 z4.1 (z4.2.1.length : Nat)) z4.2.2.2.1) 2)),())) (fun _=>none)))
def Zac_c : Con:={ ins:=[(.rd,yQ6)],outs:=[(true,I)],fn:=Zac }
def pX : Ctx:={ tab:=tab,con:=fun | 29,_=>some Zad_c | 33,_=>some Zaa_c | 53,_=>some Zd_c | _,_=>none,glob:=glob,eqs:=eqs }
theorem Nb (x : Zac_H5.ty.den) : aO pX qQ Bg (af 5 (aa Tryd.f52)) x=jk x:=by kernel_rfl
theorem MT (x : (ao [yQ6]).den) : aB pX qQ (aa Tryd.f52) [(.rd,yQ6)] [(.tmp 2,true,I)] x=Zac x:=by kernel_rfl
def CZ : Anns:=[]
def Zn (x : (Q11×Unit)) : Option (Bool×Unit) :=
 let ((a,b,c,_),_):=x; (Zac ((a,b,c,()),())).bind fun r1=>cond (eqI r1.1 0) ((Zd ((a,b,c,()),())).bind fun r2=>some ((eqI r2.1 1),())) (some (false,()))
def Zn_c : Con:={ ins:=[(.rd,yQ6)],outs:=[(true,.bool)],fn:=Zn }
def BI : Ctx:={ tab:=tab,con:=fun | 52,_=>some Zac_c | 53,_=>some Zd_c | _,_=>none,glob:=glob,eqs:=eqs }
theorem P2 (x : (ao [yQ6]).den) : aB BI CZ (aa Tryd.f30) [(.rd,yQ6)] [(.tmp 2,true,.bool)] x=Zn x:=by kernel_rfl
def Zaf_H6 : Shape:={ env:=[(1,.av (.ptr 1 0)),(3,.av (.val I)),(4,.av (.val I)),(5,.av (.val I))],objs:=[(1,.box [.val I,.val (.slice yQ2),.val yQ3,.val (.slice I),.val (.slice .str),.val I])] }
def Mj : List (Ex×Shape):=[(.ret,{ env:=[(2,.av (.val .bool))],objs:=[] }),(.exit 2,{ env:=[(1,.av (.ptr 1 0)),(3,.av (.val I)),(4,.av (.val I))],objs:=[(1,.box [.val I,.val (.slice yQ2),.val yQ3,.val (.slice I),.val (.slice .str),.val I])] })]
def oO (x : Q43) : Option (Q43⊕((Bool×Unit)⊕(Q39⊕Empty))) :=
 let (a,b,c,d,e,f,g,h,i,_):=x; (aG c g).bind fun y1=>cond (ltI i (y1.length : Nat)) ((aG c g).bind fun y2=>(aG y2 i).bind fun y3=>(aG d y3).bind fun y4=>cond (ltI y4 1) (some (.inr (.inl (false,())))) (cond (gtI y4 4) (some (.inr (.inl (false,())))) (some (.inl (a,b,c,d,e,f,g,(ak .i64 h y4),(ak .i64 i 1),()))))) (some (.inr (.inr (.inl (a,b,c,d,e,f,g,h,())))))
def Bl : Q43→Option ((Bool×Unit)⊕(Q39⊕Empty)):=ab oO
def AP : Ann:={ head:=Zaf_H6,exits:=Mj,fn:=Bl }
def Zaf_H2 : Shape:={ env:=[(1,.av (.ptr 1 0)),(3,.av (.val I))],objs:=[(1,.box [.val I,.val (.slice yQ2),.val yQ3,.val (.slice I),.val (.slice .str),.val I])] }
def LN : List (Ex×Shape):=[(.ret,{ env:=[(2,.av (.val .bool))],objs:=[] }),(.exit 0,{ env:=[],objs:=[] })]
def oN (x : Q35) : Option (Q35⊕((Bool×Unit)⊕(Unit⊕Empty))) :=
 let (a,b,c,d,e,f,g,_):=x; cond (ltI g a) ((Bl (a,b,c,d,e,f,g,0,0,())).bind (Sum.elim (fun z2=>some (.inr (.inl (z2.1,())))) (Sum.elim (fun (a_3,b_3,c_3,d_3,e_3,f_3,g_3,h_3,_)=>cond (neI h_3 4) ((aG c_3 g_3).bind fun y4=>cond (gtI (y4.length : Nat) 0) (some (.inr (.inl (false,())))) (some (.inl (a_3,b_3,c_3,d_3,e_3,f_3,(ak .i64 g_3 1),())))) (some (.inl (a_3,b_3,c_3,d_3,e_3,f_3,(ak .i64 g_3 1),())))) (fun _=>none)))) (some (.inr (.inr (.inl ()))))
def zk : Q35→Option ((Bool×Unit)⊕(Unit⊕Empty)):=ab oN
def BB : Ann:={ head:=Zaf_H2,exits:=LN,fn:=zk }
def oy : Anns:=[(2,BB),(6,AP)]
def Zaf (x : (Q12×Unit)) : Option (Bool×Unit) :=
 let (((a,b,c,_),d,e,f,_),_):=x; (zk (a,b,c,d,e,f,0,())).bind (Sum.elim (fun z2=>some (z2.1,())) (Sum.elim (fun z3=>some (true,())) (fun _=>none)))
def Zaf_c : Con:={ ins:=[(.rd,yQ9)],outs:=[(true,.bool)],fn:=Zaf }
def px : Ctx:={ tab:=tab,con:=fun _ _=>none,glob:=glob,eqs:=eqs }
theorem Nd (x : Zaf_H6.ty.den) : aO px oy AP (af 6 (aa Tryd.f31)) x=oO x:=by kernel_rfl
theorem NQ (x : Zaf_H2.ty.den) : aO px oy BB (af 2 (aa Tryd.f31)) x=oN x:=by kernel_rfl
theorem LH (x : (ao [yQ9]).den) : aB px oy (aa Tryd.f31) [(.rd,yQ9)] [(.tmp 2,true,.bool)] x=Zaf x:=by kernel_rfl
def C1 : Anns:=[]
def Zg (x : (Int×Unit)) : Option (Int×Unit) :=
 cond (eqI x.1 76) (some (82,())) (cond (eqI x.1 82) (some (76,())) (some (x.1,())))
def Zg_c : Con:={ ins:=[(.rd,(.int .u8))],outs:=[(true,(.int .u8))],fn:=Zg }
def Eg : Ctx:={ tab:=tab,con:=fun _ _=>none,glob:=glob,eqs:=eqs }
theorem PS (x : (ao [(.int .u8)]).den) : aB Eg C1 (aa Tryd.f80) [(.rd,(.int .u8))] [(.tmp 2,true,(.int .u8))] x=Zg x:=by kernel_rfl
def Zj_H3 : Shape:={ env:=[(0,.av (.val .str)),(3,.av (.own 3)),(4,.av (.val I))],objs:=[(3,.arr (.int .u8))] }
def OJ : List (Ex×Shape):=[(.exit 0,{ env:=[(3,.av (.own 3))],objs:=[(3,.arr (.int .u8))] })]
def s7 (x : (List Int×ByteArray×Int×Unit)) : Option ((List Int×ByteArray×Int×Unit)⊕(Q1⊕Empty)) :=
 let (a,b,c,_):=x; cond (geI c 0) ((aG b.data.toList c).bind fun c1=>(Zg ((c1.toNat : Int),())).bind fun r2=>(app a [r2.1]).bind fun a3=>some (.inl (a3,b,(bq .i64 c 1),()))) (some (.inr (.inl (a,()))))
def CX : (List Int×ByteArray×Int×Unit)→Option (Q1⊕Empty):=ab s7
def HA : Ann:={ head:=Zj_H3,exits:=OJ,fn:=CX }
def yc : Anns:=[(3,HA)]
def Zj (x : Q3) : Option Q3 :=
 (CX ([],x.1,(bq .i64 (x.1.size : Nat) 1),())).bind (Sum.elim (fun z2=>some ((cZ z2.1),())) (fun _=>none))
def Zj_c : Con:={ ins:=[(.rd,.str)],outs:=[(true,.str)],fn:=Zj }
def yC : Ctx:={ tab:=tab,con:=fun | 80,_=>some Zg_c | _,_=>none,glob:=glob,eqs:=eqs }
theorem Oy (x : Zj_H3.ty.den) : aO yC yc HA (af 3 (aa Tryd.f54)) x=s7 x:=by kernel_rfl
theorem Oo (x : (ao [.str]).den) : aB yC yc (aa Tryd.f54) [(.rd,.str)] [(.tmp 2,true,.str)] x=Zj x:=by kernel_rfl
def Zab_H7 : Shape:={ env:=[(1,.av (.ptr 1 0)),(3,.av (.val I)),(4,.av (.val I))],objs:=[(1,.box [.val I,.val (.slice yQ2),.val yQ3,.val (.slice I),.val (.slice .str),.val I])] }
def MC : List (Ex×Shape):=[(.ret,{ env:=[(2,.av (.val .bool))],objs:=[] }),(.exit 2,{ env:=[(1,.av (.ptr 1 0)),(3,.av (.val I))],objs:=[(1,.box [.val I,.val (.slice yQ2),.val yQ3,.val (.slice I),.val (.slice .str),.val I])] })]
def o4 (x : Q39) : Option (Q39⊕((Bool×Unit)⊕(Q35⊕Empty))) :=
 let (a,b,c,d,e,f,g,h,_):=x; (aG e g).bind fun y1=>cond (ltI h (y1.size : Nat)) ((aG e g).bind fun y2=>(aG y2.data.toList h).bind fun c3=>cond (neI (c3.toNat : Int) 76) ((aG e g).bind fun y4=>(aG y4.data.toList h).bind fun c5=>cond (neI (c5.toNat : Int) 82) (some (.inr (.inl (false,())))) (some (.inl (a,b,c,d,e,f,g,(ak .i64 h 1),())))) (some (.inl (a,b,c,d,e,f,g,(ak .i64 h 1),())))) (some (.inr (.inr (.inl (a,b,c,d,e,f,g,())))))
def wV : Q39→Option ((Bool×Unit)⊕(Q35⊕Empty)):=ab o4
def Bc : Ann:={ head:=Zab_H7,exits:=MC,fn:=wV }
def Zab_H2 : Shape:={ env:=[(1,.av (.ptr 1 0)),(3,.av (.val I))],objs:=[(1,.box [.val I,.val (.slice yQ2),.val yQ3,.val (.slice I),.val (.slice .str),.val I])] }
def Lw : List (Ex×Shape):=[(.ret,{ env:=[(2,.av (.val .bool))],objs:=[] }),(.exit 0,{ env:=[],objs:=[] })]
def nH (x : Q35) : Option (Q35⊕((Bool×Unit)⊕(Unit⊕Empty))) :=
 let (a,b,c,d,e,f,g,_):=x; cond (ltI g (e.length : Nat)) ((aG e g).bind fun y1=>cond (gtI (y1.size : Nat) 64) (some (.inr (.inl (false,())))) ((aG e (ij .i64 g 1)).bind fun y2=>(aG e g).bind fun y3=>(Zj (y3,())).bind fun r4=>cond (neS y2 r4.1) (some (.inr (.inl (false,())))) ((wV (a,b,c,d,e,f,g,0,())).bind (Sum.elim (fun z6=>some (.inr (.inl (z6.1,())))) (Sum.elim (fun (a_7,b_7,c_7,d_7,e_7,f_7,g_7,_)=>some (.inl (a_7,b_7,c_7,d_7,e_7,f_7,(ak .i64 g_7 1),()))) (fun _=>none)))))) (some (.inr (.inr (.inl ()))))
def vY : Q35→Option ((Bool×Unit)⊕(Unit⊕Empty)):=ab nH
def Bz : Ann:={ head:=Zab_H2,exits:=Lw,fn:=vY }
def oB : Anns:=[(2,Bz),(7,Bc)]
def Zab (x : (Q12×Unit)) : Option (Bool×Unit) :=
 let (((a,b,c,_),d,e,f,_),_):=x; (vY (a,b,c,d,e,f,0,())).bind (Sum.elim (fun z2=>some (z2.1,())) (Sum.elim (fun z3=>some (true,())) (fun _=>none)))
def Zab_c : Con:={ ins:=[(.rd,yQ9)],outs:=[(true,.bool)],fn:=Zab }
def ng : Ctx:={ tab:=tab,con:=fun | 54,_=>some Zj_c | _,_=>none,glob:=glob,eqs:=eqs }
theorem MW (x : Zab_H7.ty.den) : aO ng oB Bc (af 7 (aa Tryd.f32)) x=o4 x:=by kernel_rfl
theorem NH (x : Zab_H2.ty.den) : aO ng oB Bz (af 2 (aa Tryd.f32)) x=nH x:=by kernel_rfl
theorem Md (x : (ao [yQ9]).den) : aB ng oB (aa Tryd.f32) [(.rd,yQ9)] [(.tmp 2,true,.bool)] x=Zab x:=by kernel_rfl
def Zaw_H2 : Shape:={ env:=[(0,.av (.val (.slice I))),(1,.av (.val I)),(5,.av (.val I))],objs:=[] }
def Nf : List (Ex×Shape):=[(.ret,{ env:=[(4,.av (.val .bool))],objs:=[] }),(.exit 0,{ env:=[],objs:=[] })]
def lx (x : Q8) : Option (Q8⊕((Bool×Unit)⊕(Unit⊕Empty))) :=
 let (a,b,c,_):=x; cond (ltI c (a.length : Nat)) ((aG a c).bind fun y1=>cond (eqI y1 b) (some (.inr (.inl (true,())))) (some (.inl (a,b,(ak .i64 c 1),())))) (some (.inr (.inr (.inl ()))))
def wX : Q8→Option ((Bool×Unit)⊕(Unit⊕Empty)):=ab lx
def BX : Ann:={ head:=Zaw_H2,exits:=Nf,fn:=wX }
def rj : Anns:=[(2,BX)]
def Zaw (x : Q4) : Option (Bool×Unit) :=
 (wX (x.1,x.2.1,0,())).bind (Sum.elim (fun z2=>some (z2.1,())) (Sum.elim (fun z3=>some (false,())) (fun _=>none)))
def Zaw_c : Con:={ ins:=[(.rd,(.slice I)),(.rd,I)],outs:=[(true,.bool)],fn:=Zaw }
def qW : Ctx:={ tab:=tab,con:=fun _ _=>none,glob:=glob,eqs:=eqs }
theorem LA (x : Zaw_H2.ty.den) : aO qW rj BX (af 2 (aa Tryd.f34)) x=lx x:=by kernel_rfl
theorem Nh (x : (ao [(.slice I),I]).den) : aB qW rj (aa Tryd.f34) [(.rd,(.slice I)),(.rd,I)] [(.tmp 4,true,.bool)] x=Zaw x:=by kernel_rfl
def Zaj_H3 : Shape:={ env:=[(0,.av (.val .str)),(3,.av (.val I)),(4,.av (.val I))],objs:=[] }
def MA : List (Ex×Shape):=[(.exit 0,{ env:=[(3,.av (.val I))],objs:=[] })]
def nY (x : (ByteArray×Int×Int×Unit)) : Option ((ByteArray×Int×Int×Unit)⊕((Int×Unit)⊕Empty)) :=
 let (a,b,c,_):=x; cond (ltI c (a.size : Nat)) ((aG a.data.toList c).bind fun c1=>cond (eqI (c1.toNat : Int) 76) ((aG a.data.toList c).bind fun c2=>cond (eqI (c2.toNat : Int) 82) (some (.inl (a,(bq .i64 (ak .i64 b 1) 1),(ak .i64 c 1),()))) (some (.inl (a,(ak .i64 b 1),(ak .i64 c 1),())))) ((aG a.data.toList c).bind fun c3=>cond (eqI (c3.toNat : Int) 82) (some (.inl (a,(bq .i64 b 1),(ak .i64 c 1),()))) (some (.inl (a,b,(ak .i64 c 1),()))))) (some (.inr (.inl (b,()))))
def wb : (ByteArray×Int×Int×Unit)→Option ((Int×Unit)⊕Empty):=ab nY
def BM : Ann:={ head:=Zaj_H3,exits:=MA,fn:=wb }
def s6 : Anns:=[(3,BM)]
def Zaj (x : Q3) : Option (Int×Unit) :=
 (wb (x.1,0,0,())).bind (Sum.elim (fun z2=>some (z2.1,())) (fun _=>none))
def Zaj_c : Con:={ ins:=[(.rd,.str)],outs:=[(true,I)],fn:=Zaj }
def rR : Ctx:={ tab:=tab,con:=fun _ _=>none,glob:=glob,eqs:=eqs }
theorem ND (x : Zaj_H3.ty.den) : aO rR s6 BM (af 3 (aa Tryd.f56)) x=nY x:=by kernel_rfl
theorem Ln (x : (ao [.str]).den) : aB rR s6 (aa Tryd.f56) [(.rd,.str)] [(.tmp 2,true,I)] x=Zaj x:=by kernel_rfl
def Zx_H3 : Shape:={ env:=[(1,.av (.val (.slice I))),(2,.av (.ptr 2 0)),(5,.av (.val I)),(6,.av (.val I))],objs:=[(2,.box [.val I,.val (.slice yQ2),.val yQ3,.val (.slice I),.val (.slice .str),.val I])] }
def PE : List (Ex×Shape):=[(.exit 0,{ env:=[(5,.av (.val I))],objs:=[] })]
def ud (x : Q45) : Option (Q45⊕((Int×Unit)⊕Empty)) :=
 let (a,b,c,d,e,f,g,h,i,_):=x; cond (ltI i (g.length : Nat)) ((aG g i).bind fun y1=>(aG e y1).bind fun y2=>(Zaj (y2,())).bind fun r3=>(aG g i).bind fun y4=>(aG d (ij .i64 y4 1)).bind fun y5=>some (.inl (a,b,c,d,e,f,g,(bq .i64 (ak .i64 (ak .i64 h r3.1) 2) y5),(ak .i64 i 1),()))) (some (.inr (.inl (h,()))))
def CV : Q45→Option ((Int×Unit)⊕Empty):=ab ud
def Hw : Ann:={ head:=Zx_H3,exits:=PE,fn:=CV }
def xk : Anns:=[(3,Hw)]
def Zx (x : (Q12×List Int×Unit)) : Option (Int×Unit) :=
 let (((a,b,c,_),d,e,f,_),g,_):=x; (CV (a,b,c,d,e,f,g,0,0,())).bind (Sum.elim (fun z2=>some (z2.1,())) (fun _=>none))
def Zx_c : Con:={ ins:=[(.rd,yQ9),(.rd,(.slice I))],outs:=[(true,I)],fn:=Zx }
def xO : Ctx:={ tab:=tab,con:=fun | 56,_=>some Zaj_c | _,_=>none,glob:=glob,eqs:=eqs }
theorem N5 (x : Zx_H3.ty.den) : aO xO xk Hw (af 3 (aa Tryd.f35)) x=ud x:=by kernel_rfl
theorem Pg (x : (ao [yQ9,(.slice I)]).den) : aB xO xk (aa Tryd.f35) [(.rd,yQ9),(.rd,(.slice I))] [(.tmp 4,true,I)] x=Zx x:=by kernel_rfl
def Zs_H8 : Shape:={ env:=[(1,.av (.ptr 1 0)),(4,.av (.own 4)),(5,.av (.val I))],objs:=[(1,.box [.val I,.val (.slice yQ2),.val yQ3,.val (.slice I),.val (.slice .str),.val I]),(4,.arr (.slice I))] }
def Pc : List (Ex×Shape):=[(.ret,{ env:=[(2,.av (.val I))],objs:=[] }),(.exit 0,{ env:=[],objs:=[] })]
def uE (x : Q46) : Option (Q46⊕((Int×Unit)⊕(Unit⊕Empty))) :=
 let (a,b,c,d,e,f,g,h,_):=x; cond (ltI h (g.length : Nat)) ((aT g.length h).bind fun j1=>(g[j1]?).bind fun y2=>(Zaw (y2,f,())).bind fun r3=>cond r3.1 ((aT g.length h).bind fun j4=>(g[j4]?).bind fun y5=>(Zx (((a,b,c,()),d,e,f,()),y5,())).bind fun r6=>cond (neI r6.1 (-4)) (some (.inr (.inl (13,())))) (some (.inl (a,b,c,d,e,f,g,(ak .i64 h 1),())))) ((aT g.length h).bind fun j7=>(g[j7]?).bind fun y8=>(Zx (((a,b,c,()),d,e,f,()),y8,())).bind fun r9=>cond (neI r9.1 4) (some (.inr (.inl (13,())))) (some (.inl (a,b,c,d,e,f,g,(ak .i64 h 1),()))))) (some (.inr (.inr (.inl ()))))
def xU : Q46→Option ((Int×Unit)⊕(Unit⊕Empty)):=ab uE
def HL : Ann:={ head:=Zs_H8,exits:=Pc,fn:=xU }
def xW : Anns:=[(8,HL)]
def Zs (x : (Q12×Unit)) : Option (Int×Unit) :=
 let (((a,b,c,_),d,e,f,_),_):=x; let t_0:=(Zaa ((a,b,c,()),())).bind fun r5=>(xU (a,b,c,d,e,f,r5.1,0,())).bind (Sum.elim (fun z7=>some (z7.1,())) (Sum.elim (fun z8=>some (0,())) (fun _=>none))); (Zad ((a,b,c,()),())).bind fun r1=>cond (!r1.1) (some (13,())) (cond (ltI a 1) (some (13,())) ((Zn ((a,b,c,()),())).bind fun r2=>cond (!r2.1) (some (13,())) (cond (neI (d.length : Nat) (aX .i64 2 (b.length : Nat))) (some (13,())) (cond (neI (e.length : Nat) (aX .i64 2 (b.length : Nat))) (some (13,())) ((Zaf (((a,b,c,()),d,e,f,()),())).bind fun r3=>cond (!r3.1) (some (13,())) ((Zab (((a,b,c,()),d,e,f,()),())).bind fun r4=>cond (!r4.1) (some (13,())) (cond (ltI f 0) (some (13,())) (cond (gtI f 0) (cond (geI f (aX .i64 2 (b.length : Nat))) (some (13,())) t_0) t_0))))))))
def Zs_c : Con:={ ins:=[(.rd,yQ9)],outs:=[(true,I)],fn:=Zs }
def xz : Ctx:={ tab:=tab,con:=fun | 29,_=>some Zad_c | 30,_=>some Zn_c | 31,_=>some Zaf_c | 32,_=>some Zab_c | 33,_=>some Zaa_c | 34,_=>some Zaw_c | 35,_=>some Zx_c | _,_=>none,glob:=glob,eqs:=eqs }
theorem Ph (x : Zs_H8.ty.den) : aO xz xW HL (af 8 (aa Tryd.f13)) x=uE x:=by kernel_rfl
theorem Ok (x : (ao [yQ9]).den) : aB xz xW (aa Tryd.f13) [(.rd,yQ9)] [(.tmp 2,true,I)] x=Zs x:=by kernel_rfl
def Zp_H8 : Shape:={ env:=[(0,.av (.val (.slice I))),(1,.av (.val (.slice I))),(5,.av (.val I)),(6,.av (.val .bool)),(7,.av (.val I))],objs:=[] }
def PQ : List (Ex×Shape):=[(.exit 2,{ env:=[(0,.av (.val (.slice I))),(1,.av (.val (.slice I))),(5,.av (.val I)),(6,.av (.val .bool))],objs:=[] })]
def xK (x : Q14) : Option (Q14⊕((List Int×List Int×Int×Bool×Unit)⊕Empty)) :=
 let (a,b,c,d,e,_):=x; cond (ltI e (a.length : Nat)) (cond d (cond (eqI (a.length : Nat) 0) none ((aG a (gO (ak .i64 c e) (a.length : Nat))).bind fun y1=>(aG b e).bind fun y2=>some (.inl (a,b,c,(eqI y1 y2),(ak .i64 e 1),())))) (some (.inr (.inl (a,b,c,d,()))))) (some (.inr (.inl (a,b,c,d,()))))
def Ce : Q14→Option ((List Int×List Int×Int×Bool×Unit)⊕Empty):=ab xK
def Io : Ann:={ head:=Zp_H8,exits:=PQ,fn:=Ce }
def Zp_H4 : Shape:={ env:=[(0,.av (.val (.slice I))),(1,.av (.val (.slice I))),(5,.av (.val I))],objs:=[] }
def PV : List (Ex×Shape):=[(.ret,{ env:=[(4,.av (.val .bool))],objs:=[] }),(.exit 0,{ env:=[(0,.av (.val (.slice I)))],objs:=[] })]
def xq (x : (List Int×List Int×Int×Unit)) : Option ((List Int×List Int×Int×Unit)⊕((Bool×Unit)⊕(Q1⊕Empty))) :=
 let (a,b,c,_):=x; cond (ltI c (a.length : Nat)) ((Ce (a,b,c,true,0,())).bind (Sum.elim (fun z2=>cond z2.2.2.2.1 (some (.inr (.inl (true,())))) (some (.inl (z2.1,z2.2.1,(ak .i64 z2.2.2.1 1),())))) (fun _=>none))) (some (.inr (.inr (.inl (a,())))))
def CE : (List Int×List Int×Int×Unit)→Option ((Bool×Unit)⊕(Q1⊕Empty)):=ab xq
def Ho : Ann:={ head:=Zp_H4,exits:=PV,fn:=CE }
def t5 : Anns:=[(4,Ho),(8,Io)]
def Zp (x : (List Int×List Int×Unit)) : Option (Bool×Unit) :=
 cond (neI (x.1.length : Nat) (x.2.1.length : Nat)) (some (false,())) ((CE (x.1,x.2.1,0,())).bind (Sum.elim (fun z2=>some (z2.1,())) (Sum.elim (fun z3=>some ((eqI (z3.1.length : Nat) 0),())) (fun _=>none))))
def Zp_c : Con:={ ins:=[(.rd,(.slice I)),(.rd,(.slice I))],outs:=[(true,.bool)],fn:=Zp }
def zd : Ctx:={ tab:=tab,con:=fun _ _=>none,glob:=glob,eqs:=eqs }
theorem OB (x : Zp_H8.ty.den) : aO zd t5 Io (af 8 (aa Tryd.f78)) x=xK x:=by kernel_rfl
theorem Oc (x : Zp_H4.ty.den) : aO zd t5 Ho (af 4 (aa Tryd.f78)) x=xq x:=by kernel_rfl
theorem OD (x : (ao [(.slice I),(.slice I)]).den) : aB zd t5 (aa Tryd.f78) [(.rd,(.slice I)),(.rd,(.slice I))] [(.tmp 4,true,.bool)] x=Zp x:=by kernel_rfl
def Zak_H9 : Shape:={ env:=[(2,.av (.ptr 2 0)),(3,.av (.ptr 3 0)),(6,.av (.val I))],objs:=[(2,.box [.val I,.val (.slice yQ2),.val yQ3]),(3,.box [.val I,.val (.slice yQ2),.val yQ3])] }
def MO : List (Ex×Shape):=[(.ret,{ env:=[(4,.av (.val .bool))],objs:=[] }),(.exit 2,{ env:=[],objs:=[] })]
def nq (x : Q38) : Option (Q38⊕((Bool×Unit)⊕(Unit⊕Empty))) :=
 let (a,b,c,d,e,f,g,_):=x; cond (ltI g (c.length : Nat)) ((aG c g).bind fun y1=>(aG f g).bind fun y2=>(Zp (y1,y2,())).bind fun r3=>cond (!r3.1) (some (.inr (.inl (false,())))) (some (.inl (a,b,c,d,e,f,(ak .i64 g 1),())))) (some (.inr (.inr (.inl ()))))
def Bs : Q38→Option ((Bool×Unit)⊕(Unit⊕Empty)):=ab nq
def BK : Ann:={ head:=Zak_H9,exits:=MO,fn:=Bs }
def Zak_H4 : Shape:={ env:=[(2,.av (.ptr 2 0)),(3,.av (.ptr 3 0)),(5,.av (.val I))],objs:=[(2,.box [.val I,.val (.slice yQ2),.val yQ3]),(3,.box [.val I,.val (.slice yQ2),.val yQ3])] }
def K7 : List (Ex×Shape):=[(.ret,{ env:=[(4,.av (.val .bool))],objs:=[] }),(.exit 0,{ env:=[(2,.av (.ptr 2 0)),(3,.av (.ptr 3 0))],objs:=[(2,.box [.val I,.val (.slice yQ2),.val yQ3]),(3,.box [.val I,.val (.slice yQ2),.val yQ3])] })]
def ow (x : Q38) : Option (Q38⊕((Bool×Unit)⊕(Q33⊕Empty))) :=
 let (a,b,c,d,e,f,g,_):=x; cond (ltI g (b.length : Nat)) ((aG b g).bind fun y1=>(aG e g).bind fun y2=>cond (!((eqI y1.1 y2.1) && ((eqI y1.2.1 y2.2.1) && true))) (some (.inr (.inl (false,())))) (some (.inl (a,b,c,d,e,f,(ak .i64 g 1),())))) (some (.inr (.inr (.inl (a,b,c,d,e,f,())))))
def AA : Q38→Option ((Bool×Unit)⊕(Q33⊕Empty)):=ab ow
def zo : Ann:={ head:=Zak_H4,exits:=K7,fn:=AA }
def nJ : Anns:=[(4,zo),(9,BK)]
def Zak (x : (Q11×Q11×Unit)) : Option (Bool×Unit) :=
 let ((a,b,c,_),(d,e,f,_),_):=x; cond (neI a d) (some (false,())) (cond (neI (b.length : Nat) (e.length : Nat)) (some (false,())) (cond (neI (c.length : Nat) (f.length : Nat)) (some (false,())) ((AA (a,b,c,d,e,f,0,())).bind (Sum.elim (fun z2=>some (z2.1,())) (Sum.elim (fun (a_3,b_3,c_3,d_3,e_3,f_3,_)=>(Bs (a_3,b_3,c_3,d_3,e_3,f_3,0,())).bind (Sum.elim (fun z5=>some (z5.1,())) (Sum.elim (fun z6=>some (true,())) (fun _=>none)))) (fun _=>none))))))
def Zak_c : Con:={ ins:=[(.rd,yQ6),(.rd,yQ6)],outs:=[(true,.bool)],fn:=Zak }
def mw : Ctx:={ tab:=tab,con:=fun | 78,_=>some Zp_c | _,_=>none,glob:=glob,eqs:=eqs }
theorem MX (x : Zak_H9.ty.den) : aO mw nJ BK (af 9 (aa Tryd.f51)) x=nq x:=by kernel_rfl
theorem M0 (x : Zak_H4.ty.den) : aO mw nJ zo (af 4 (aa Tryd.f51)) x=ow x:=by kernel_rfl
theorem Mz (x : (ao [yQ6,yQ6]).den) : aB mw nJ (aa Tryd.f51) [(.rd,yQ6),(.rd,yQ6)] [(.tmp 4,true,.bool)] x=Zak x:=by kernel_rfl
def Zw_H7 : Shape:={ env:=[(2,.av (.ptr 2 0)),(3,.av (.ptr 3 0)),(5,.av (.val I)),(6,.av (.val I))],objs:=[(2,.box [.val I,.val (.slice yQ2),.val yQ3]),(3,.box [.val I,.val (.slice yQ2),.val yQ3])] }
def O9 : List (Ex×Shape):=[(.ret,{ env:=[(4,.av (.val .bool))],objs:=[] }),(.exit 2,{ env:=[(2,.av (.ptr 2 0)),(3,.av (.ptr 3 0)),(5,.av (.val I))],objs:=[(2,.box [.val I,.val (.slice yQ2),.val yQ3]),(3,.box [.val I,.val (.slice yQ2),.val yQ3])] })]
def tN (x : Q41) : Option (Q41⊕((Bool×Unit)⊕(Q38⊕Empty))) :=
 let (a,b,c,d,e,f,g,h,_):=x; (aG c g).bind fun y1=>cond (ltI h (y1.length : Nat)) ((aG c g).bind fun y2=>(aG y2 h).bind fun y3=>(aG f g).bind fun y4=>(aG y4 h).bind fun y5=>cond (neI y3 y5) (some (.inr (.inl (false,())))) (some (.inl (a,b,c,d,e,f,g,(ak .i64 h 1),())))) (some (.inr (.inr (.inl (a,b,c,d,e,f,g,())))))
def Cf : Q41→Option ((Bool×Unit)⊕(Q38⊕Empty)):=ab tN
def GT : Ann:={ head:=Zw_H7,exits:=O9,fn:=Cf }
def Zw_H4 : Shape:={ env:=[(2,.av (.ptr 2 0)),(3,.av (.ptr 3 0)),(5,.av (.val I))],objs:=[(2,.box [.val I,.val (.slice yQ2),.val yQ3]),(3,.box [.val I,.val (.slice yQ2),.val yQ3])] }
def Ow : List (Ex×Shape):=[(.ret,{ env:=[(4,.av (.val .bool))],objs:=[] }),(.exit 0,{ env:=[],objs:=[] })]
def uw (x : Q38) : Option (Q38⊕((Bool×Unit)⊕(Unit⊕Empty))) :=
 let (a,b,c,d,e,f,g,_):=x; cond (ltI g (c.length : Nat)) ((Cf (a,b,c,d,e,f,g,0,())).bind (Sum.elim (fun z2=>some (.inr (.inl (z2.1,())))) (Sum.elim (fun (a_3,b_3,c_3,d_3,e_3,f_3,g_3,_)=>some (.inl (a_3,b_3,c_3,d_3,e_3,f_3,(ak .i64 g_3 1),()))) (fun _=>none)))) (some (.inr (.inr (.inl ()))))
def Gm : Q38→Option ((Bool×Unit)⊕(Unit⊕Empty)):=ab uw
def IU : Ann:={ head:=Zw_H4,exits:=Ow,fn:=Gm }
def ue : Anns:=[(4,IU),(7,GT)]
def Zw (x : (Q11×Q11×Unit)) : Option (Bool×Unit) :=
 let ((a,b,c,_),(d,e,f,_),_):=x; (Zak ((a,b,c,()),(d,e,f,()),())).bind fun r1=>cond (!r1.1) (some (false,())) ((Gm (a,b,c,d,e,f,0,())).bind (Sum.elim (fun z3=>some (z3.1,())) (Sum.elim (fun z4=>some (true,())) (fun _=>none))))
def Zw_c : Con:={ ins:=[(.rd,yQ6),(.rd,yQ6)],outs:=[(true,.bool)],fn:=Zw }
def vv : Ctx:={ tab:=tab,con:=fun | 51,_=>some Zak_c | _,_=>none,glob:=glob,eqs:=eqs }
theorem N3 (x : Zw_H7.ty.den) : aO vv ue GT (af 7 (aa Tryd.f28)) x=tN x:=by kernel_rfl
theorem OV (x : Zw_H4.ty.den) : aO vv ue IU (af 4 (aa Tryd.f28)) x=uw x:=by kernel_rfl
theorem ON (x : (ao [yQ6,yQ6]).den) : aB vv ue (aa Tryd.f28) [(.rd,yQ6),(.rd,yQ6)] [(.tmp 4,true,.bool)] x=Zw x:=by kernel_rfl
def Zah_H9 : Shape:={ env:=[(2,.av (.ptr 2 0)),(3,.av (.ptr 3 0)),(6,.av (.val I))],objs:=[(2,.box [.val I,.val (.slice yQ2),.val yQ3,.val (.slice I),.val (.slice .str),.val I]),(3,.box [.val I,.val (.slice yQ2),.val yQ3,.val (.slice I),.val (.slice .str),.val I])] }
def Mg : List (Ex×Shape):=[(.ret,{ env:=[(4,.av (.val .bool))],objs:=[] }),(.exit 2,{ env:=[],objs:=[] })]
def oI (x : Q66) : Option (Q66⊕((Bool×Unit)⊕(Unit⊕Empty))) :=
 let (a,b,c,d,e,f,g,h,i,k,l,m,n,_):=x; cond (ltI n (e.length : Nat)) ((aG e n).bind fun y1=>(aG l n).bind fun y2=>cond (neS y1 y2) (some (.inr (.inl (false,())))) (some (.inl (a,b,c,d,e,f,g,h,i,k,l,m,(ak .i64 n 1),())))) (some (.inr (.inr (.inl ()))))
def Bn : Q66→Option ((Bool×Unit)⊕(Unit⊕Empty)):=ab oI
def zL : Ann:={ head:=Zah_H9,exits:=Mg,fn:=Bn }
def Zah_H4 : Shape:={ env:=[(2,.av (.ptr 2 0)),(3,.av (.ptr 3 0)),(5,.av (.val I))],objs:=[(2,.box [.val I,.val (.slice yQ2),.val yQ3,.val (.slice I),.val (.slice .str),.val I]),(3,.box [.val I,.val (.slice yQ2),.val yQ3,.val (.slice I),.val (.slice .str),.val I])] }
def NT : List (Ex×Shape):=[(.ret,{ env:=[(4,.av (.val .bool))],objs:=[] }),(.exit 0,{ env:=[(2,.av (.ptr 2 0)),(3,.av (.ptr 3 0))],objs:=[(2,.box [.val I,.val (.slice yQ2),.val yQ3,.val (.slice I),.val (.slice .str),.val I]),(3,.box [.val I,.val (.slice yQ2),.val yQ3,.val (.slice I),.val (.slice .str),.val I])] })]
def ny (x : Q66) : Option (Q66⊕((Bool×Unit)⊕(Q64⊕Empty))) :=
 let (a,b,c,d,e,f,g,h,i,k,l,m,n,_):=x; cond (ltI n (d.length : Nat)) ((aG d n).bind fun y1=>(aG k n).bind fun y2=>cond (neI y1 y2) (some (.inr (.inl (false,())))) (some (.inl (a,b,c,d,e,f,g,h,i,k,l,m,(ak .i64 n 1),())))) (some (.inr (.inr (.inl (a,b,c,d,e,f,g,h,i,k,l,m,())))))
def Aw : Q66→Option ((Bool×Unit)⊕(Q64⊕Empty)):=ab ny
def AG : Ann:={ head:=Zah_H4,exits:=NT,fn:=Aw }
def nR : Anns:=[(4,AG),(9,zL)]
def Zah (x : (Q12×Q12×Unit)) : Option (Bool×Unit) :=
 let (((a,b,c,_),d,e,f,_),((g,h,i,_),k,l,m,_),_):=x; (Zw ((a,b,c,()),(g,h,i,()),())).bind fun r1=>cond (!r1.1) (some (false,())) (cond (neI (d.length : Nat) (k.length : Nat)) (some (false,())) (cond (neI (e.length : Nat) (l.length : Nat)) (some (false,())) (cond (neI f m) (some (false,())) ((Aw (a,b,c,d,e,f,g,h,i,k,l,m,0,())).bind (Sum.elim (fun z3=>some (z3.1,())) (Sum.elim (fun (a_4,b_4,c_4,d_4,e_4,f_4,g_4,h_4,i_4,k_4,l_4,m_4,_)=>(Bn (a_4,b_4,c_4,d_4,e_4,f_4,g_4,h_4,i_4,k_4,l_4,m_4,0,())).bind (Sum.elim (fun z6=>some (z6.1,())) (Sum.elim (fun z7=>some (true,())) (fun _=>none)))) (fun _=>none)))))))
def Zah_c : Con:={ ins:=[(.rd,yQ9),(.rd,yQ9)],outs:=[(true,.bool)],fn:=Zah }
def mZ : Ctx:={ tab:=tab,con:=fun | 28,_=>some Zw_c | _,_=>none,glob:=glob,eqs:=eqs }
theorem NK (x : Zah_H9.ty.den) : aO mZ nR zL (af 9 (aa Tryd.f12)) x=oI x:=by kernel_rfl
theorem NC (x : Zah_H4.ty.den) : aO mZ nR AG (af 4 (aa Tryd.f12)) x=ny x:=by kernel_rfl
theorem Ni (x : (ao [yQ9,yQ9]).den) : aB mZ nR (aa Tryd.f12) [(.rd,yQ9),(.rd,yQ9)] [(.tmp 4,true,.bool)] x=Zah x:=by kernel_rfl
def Zt_H2 : Shape:={ env:=[(1,.av (.ptr 1 0)),(3,.av (.val I))],objs:=[(1,.box [.val I,.val (.slice yQ2),.val yQ3,.val (.slice I),.val (.slice .str),.val I])] }
def Pt : List (Ex×Shape):=[(.ret,{ env:=[(2,.av (.val .bool))],objs:=[] }),(.exit 0,{ env:=[],objs:=[] })]
def vg (x : Q35) : Option (Q35⊕((Bool×Unit)⊕(Unit⊕Empty))) :=
 let (a,b,c,d,e,f,g,_):=x; cond (ltI g (e.length : Nat)) ((aG e g).bind fun y1=>cond (neS y1 (ByteArray.mk #[])) (some (.inr (.inl (false,())))) (some (.inl (a,b,c,d,e,f,(ak .i64 g 1),())))) (some (.inr (.inr (.inl ()))))
def Cr : Q35→Option ((Bool×Unit)⊕(Unit⊕Empty)):=ab vg
def HH : Ann:={ head:=Zt_H2,exits:=Pt,fn:=Cr }
def yH : Anns:=[(2,HH)]
def Zt (x : (Q12×Unit)) : Option (Bool×Unit) :=
 let (((a,b,c,_),d,e,f,_),_):=x; (Cr (a,b,c,d,e,f,0,())).bind (Sum.elim (fun z2=>some (z2.1,())) (Sum.elim (fun z3=>some (true,())) (fun _=>none)))
def Zt_c : Con:={ ins:=[(.rd,yQ9)],outs:=[(true,.bool)],fn:=Zt }
def zN : Ctx:={ tab:=tab,con:=fun _ _=>none,glob:=glob,eqs:=eqs }
theorem Oa (x : Zt_H2.ty.den) : aO zN yH HH (af 2 (aa Tryd.f14)) x=vg x:=by kernel_rfl
theorem Px (x : (ao [yQ9]).den) : aB zN yH (aa Tryd.f14) [(.rd,yQ9)] [(.tmp 2,true,.bool)] x=Zt x:=by kernel_rfl
def Zy_H6 : Shape:={ env:=[(1,.av (.ptr 1 0)),(4,.av (.own 4)),(5,.av (.val I)),(6,.av (.val I))],objs:=[(1,.box [.val I,.val (.slice yQ2),.val yQ3,.val (.slice I),.val (.slice .str),.val I]),(4,.arr (.slice I))] }
def Oz : List (Ex×Shape):=[(.ret,{ env:=[(2,.av (.own 2)),(3,.av (.val I))],objs:=[(2,.arr (.slice I))] }),(.exit 2,{ env:=[(1,.av (.ptr 1 0)),(4,.av (.own 4)),(5,.av (.val I))],objs:=[(1,.box [.val I,.val (.slice yQ2),.val yQ3,.val (.slice I),.val (.slice .str),.val I]),(4,.arr (.slice I))] })]
def vd (x : Q51) : Option (Q51⊕(Q9⊕(Q46⊕Empty))) :=
 let (a,b,c,d,e,f,g,h,i,_):=x; (aT g.length h).bind fun j1=>(g[j1]?).bind fun y2=>cond (ltI i (y2.length : Nat)) ((aT g.length h).bind fun j3=>(g[j3]?).bind fun y4=>(aG y4 i).bind fun y5=>cond (eqI y5 f) (some (.inr (.inl (g,h,())))) (some (.inl (a,b,c,d,e,f,g,h,(ak .i64 i 1),())))) (some (.inr (.inr (.inl (a,b,c,d,e,f,g,h,())))))
def yT : Q51→Option (Q9⊕(Q46⊕Empty)):=ab vd
def Il : Ann:={ head:=Zy_H6,exits:=Oz,fn:=yT }
def Zy_H3 : Shape:={ env:=[(1,.av (.ptr 1 0)),(4,.av (.own 4)),(5,.av (.val I))],objs:=[(1,.box [.val I,.val (.slice yQ2),.val yQ3,.val (.slice I),.val (.slice .str),.val I]),(4,.arr (.slice I))] }
def PB : List (Ex×Shape):=[(.ret,{ env:=[(2,.av (.own 2)),(3,.av (.val I))],objs:=[(2,.arr (.slice I))] }),(.exit 0,{ env:=[(4,.av (.own 4))],objs:=[(4,.arr (.slice I))] })]
def yg (x : Q46) : Option (Q46⊕(Q9⊕(Q7⊕Empty))) :=
 let (a,b,c,d,e,f,g,h,_):=x; cond (ltI h (g.length : Nat)) ((yT (a,b,c,d,e,f,g,h,0,())).bind (Sum.elim (fun z2=>some (.inr (.inl (z2.1,z2.2.1,())))) (Sum.elim (fun (a_3,b_3,c_3,d_3,e_3,f_3,g_3,h_3,_)=>some (.inl (a_3,b_3,c_3,d_3,e_3,f_3,g_3,(ak .i64 h_3 1),()))) (fun _=>none)))) (some (.inr (.inr (.inl (g,())))))
def Cj : Q46→Option (Q9⊕(Q7⊕Empty)):=ab yg
def Ge : Ann:={ head:=Zy_H3,exits:=PB,fn:=Cj }
def uT : Anns:=[(3,Ge),(6,Il)]
def Zy (x : (Q12×Unit)) : Option Q9 :=
 let (((a,b,c,_),d,e,f,_),_):=x; (Zaa ((a,b,c,()),())).bind fun r1=>(Cj (a,b,c,d,e,f,r1.1,0,())).bind (Sum.elim (fun z3=>some (z3.1,z3.2.1,())) (Sum.elim (fun z4=>some (z4.1,(-1),())) (fun _=>none)))
def Zy_c : Con:={ ins:=[(.rd,yQ9)],outs:=[(true,yQ3),(true,I)],fn:=Zy }
def wW : Ctx:={ tab:=tab,con:=fun | 33,_=>some Zaa_c | _,_=>none,glob:=glob,eqs:=eqs }
theorem Ob (x : Zy_H6.ty.den) : aO wW uT Il (af 6 (aa Tryd.f43)) x=vd x:=by kernel_rfl
theorem OZ (x : Zy_H3.ty.den) : aO wW uT Ge (af 3 (aa Tryd.f43)) x=yg x:=by kernel_rfl
theorem OT (x : (ao [yQ9]).den) : aB wW uT (aa Tryd.f43) [(.rd,yQ9)] [(.tmp 2,true,yQ3),(.tmp 3,true,I)] x=Zy x:=by kernel_rfl
def Zau_H3 : Shape:={ env:=[(1,.av (.val (.slice I))),(2,.av (.val I)),(3,.av (.ptr 3 0)),(7,.av (.val I)),(8,.av (.val I))],objs:=[(3,.box [.val I,.val (.slice yQ2),.val yQ3,.val (.slice I),.val (.slice .str),.val I])] }
def LF : List (Ex×Shape):=[(.ret,{ env:=[(6,.av (.val .bool))],objs:=[] }),(.exit 0,{ env:=[(7,.av (.val I))],objs:=[] })]
def nW (x : Q48) : Option (Q48⊕((Bool×Unit)⊕((Int×Unit)⊕Empty))) :=
 let (a,b,c,d,e,f,g,h,i,k,_):=x; cond (ltI k (g.length : Nat)) ((aG g k).bind fun y1=>(Zu (y1,())).bind fun r2=>(aG d r2.1).bind fun y3=>cond (eqI y3 h) (some (.inl (a,b,c,d,e,f,g,h,(ak .i64 i 1),(ak .i64 k 1),()))) (cond (neI y3 2) (some (.inr (.inl (false,())))) (some (.inl (a,b,c,d,e,f,g,h,i,(ak .i64 k 1),()))))) (some (.inr (.inr (.inl (i,())))))
def wc : Q48→Option ((Bool×Unit)⊕((Int×Unit)⊕Empty)):=ab nW
def Ba : Ann:={ head:=Zau_H3,exits:=LF,fn:=wc }
def sA : Anns:=[(3,Ba)]
def Zau (x : (Q12×List Int×Int×Unit)) : Option (Bool×Unit) :=
 let (((a,b,c,_),d,e,f,_),g,h,_):=x; (wc (a,b,c,d,e,f,g,h,0,0,())).bind (Sum.elim (fun z2=>some (z2.1,())) (Sum.elim (fun z3=>some ((eqI z3.1 4),())) (fun _=>none)))
def Zau_c : Con:={ ins:=[(.rd,yQ9),(.rd,(.slice I)),(.rd,I)],outs:=[(true,.bool)],fn:=Zau }
def pk : Ctx:={ tab:=tab,con:=fun | 48,_=>some Zu_c | _,_=>none,glob:=glob,eqs:=eqs }
theorem NN (x : Zau_H3.ty.den) : aO pk sA Ba (af 3 (aa Tryd.f44)) x=nW x:=by kernel_rfl
theorem Me (x : (ao [yQ9,(.slice I),I]).den) : aB pk sA (aa Tryd.f44) [(.rd,yQ9),(.rd,(.slice I)),(.rd,I)] [(.tmp 6,true,.bool)] x=Zau x:=by kernel_rfl
def Zc_H5 : Shape:={ env:=[(1,.av (.ptr 1 0)),(3,.av (.own 3)),(4,.av (.val I)),(5,.av (.val I))],objs:=[(1,.box [.val I,.val (.slice yQ2),.val yQ3,.val (.slice I),.val (.slice .str),.val I]),(3,.arr (.slice I))] }
def OF : List (Ex×Shape):=[(.ret,{ env:=[(2,.av (.val .bool))],objs:=[] }),(.exit 0,{ env:=[],objs:=[] })]
def uH (x : Q51) : Option (Q51⊕((Bool×Unit)⊕(Unit⊕Empty))) :=
 let (a,b,c,d,e,f,g,h,i,_):=x; cond (ltI i (g.length : Nat)) (cond (eqI i h) ((aT g.length i).bind fun j1=>(g[j1]?).bind fun y2=>(Zau (((a,b,c,()),d,e,f,()),y2,3,())).bind fun r3=>cond (!r3.1) (some (.inr (.inl (false,())))) (some (.inl (a,b,c,d,e,f,g,h,(ak .i64 i 1),())))) ((aT g.length i).bind fun j4=>(g[j4]?).bind fun y5=>(Zau (((a,b,c,()),d,e,f,()),y5,1,())).bind fun r6=>cond (!r6.1) (some (.inr (.inl (false,())))) (some (.inl (a,b,c,d,e,f,g,h,(ak .i64 i 1),()))))) (some (.inr (.inr (.inl ()))))
def Cq : Q51→Option ((Bool×Unit)⊕(Unit⊕Empty)):=ab uH
def IF : Ann:={ head:=Zc_H5,exits:=OF,fn:=Cq }
def yr : Anns:=[(5,IF)]
def Zc (x : (Q12×Unit)) : Option (Bool×Unit) :=
 let (((a,b,c,_),d,e,f,_),_):=x; (Zs (((a,b,c,()),d,e,f,()),())).bind fun r1=>cond (neI r1.1 0) (some (false,())) ((Zt (((a,b,c,()),d,e,f,()),())).bind fun r2=>cond (!r2.1) (some (false,())) (cond (eqI (b.length : Nat) 0) (some (false,())) ((Zy (((a,b,c,()),d,e,f,()),())).bind fun r3=>(Cq (a,b,c,d,e,f,r3.1,r3.2.1,0,())).bind (Sum.elim (fun z5=>some (z5.1,())) (Sum.elim (fun z6=>some (true,())) (fun _=>none))))))
def Zc_c : Con:={ ins:=[(.rd,yQ9)],outs:=[(true,.bool)],fn:=Zc }
def yE : Ctx:={ tab:=tab,con:=fun | 13,_=>some Zs_c | 14,_=>some Zt_c | 43,_=>some Zy_c | 44,_=>some Zau_c | _,_=>none,glob:=glob,eqs:=eqs }
theorem O5 (x : Zc_H5.ty.den) : aO yE yr IF (af 5 (aa Tryd.f17)) x=uH x:=by kernel_rfl
theorem Oi (x : (ao [yQ9]).den) : aB yE yr (aa Tryd.f17) [(.rd,yQ9)] [(.tmp 2,true,.bool)] x=Zc x:=by kernel_rfl
def Cm : Anns:=[]
def Zb (x : (Q12×Unit)) : Option (Bool×Unit) :=
 let (((a,b,c,_),d,e,f,_),_):=x; let t_1:=(Zi (((a,b,c,()),d,e,f,()),())).bind fun r7=>(Zc (((a,b,c,()),d,e,f,()),())).bind fun r8=>cond (eqB r7.1 r8.1) ((Zv ()).bind fun r9=>some (r9.1,())) (some (false,())); let t_0:=(Zay (((a,b,c,()),d,e,f,()),())).bind fun r5=>cond (neI r5.2.1 13) (some (false,())) (cond (neI r5.2.1 0) ((Zah (((r5.1.1.1,r5.1.1.2.1,r5.1.1.2.2.1,()),r5.1.2.1,r5.1.2.2.1,r5.1.2.2.2.1,()),((0,[],[],()),[],[],0,()),())).bind fun r6=>cond (!r6.1) (some (false,())) t_1) t_1); (Zat (((a,b,c,()),d,e,f,()),())).bind fun r1=>cond (!r1.1) ((Zv ()).bind fun r2=>some (r2.1,())) (cond (gtI (b.length : Nat) 60) ((Zv ()).bind fun r3=>some (r3.1,())) ((Zs (((a,b,c,()),d,e,f,()),())).bind fun r4=>cond (neI r4.1 0) t_0 ((Zt (((a,b,c,()),d,e,f,()),())).bind fun r13=>cond (!r13.1) t_0 ((Zay (((a,b,c,()),d,e,f,()),())).bind fun r22=>cond (neI r22.2.1 0) (some (false,())) (cond (neI r22.2.1 0) ((Zah (((r22.1.1.1,r22.1.1.2.1,r22.1.1.2.2.1,()),r22.1.2.1,r22.1.2.2.1,r22.1.2.2.2.1,()),((0,[],[],()),[],[],0,()),())).bind fun r23=>cond (!r23.1) (some (false,())) t_1) t_1)))))
def Zb_c : Con:={ ins:=[(.rd,yQ9)],outs:=[(true,.bool)],fn:=Zb }
def Ag : Ctx:={ tab:=tab,con:=fun | 8,_=>some Zat_c | 9,_=>some Zv_c | 12,_=>some Zah_c | 13,_=>some Zs_c | 14,_=>some Zt_c | 15,_=>some Zay_c | 16,_=>some Zi_c | 17,_=>some Zc_c | _,_=>none,glob:=glob,eqs:=eqs }
theorem Pd (x : (ao [yQ9]).den) : aB Ag Cm (aa Tryd.f4) [(.rd,yQ9)] [(.tmp 2,true,.bool)] x=Zb x:=by kernel_rfl
def Zz_H5 : Shape:={ env:=[(1,.av (.ptr 1 0)),(3,.av (.val I)),(4,.av (.val I))],objs:=[(1,.box [.val I,.val (.slice yQ2),.val yQ3,.val (.slice I),.val (.slice .str),.val I])] }
def Oq : List (Ex×Shape):=[(.exit 0,{ env:=[(3,.av (.val I))],objs:=[] })]
def sj (x : Q39) : Option (Q39⊕((Int×Unit)⊕Empty)) :=
 let (a,b,c,d,e,f,g,h,_):=x; cond (ltI h (e.length : Nat)) ((aG e h).bind fun y1=>some (.inl (a,b,c,d,e,f,(ak .i64 g (y1.size : Nat)),(ak .i64 h 2),()))) (some (.inr (.inl (g,()))))
def yB : Q39→Option ((Int×Unit)⊕Empty):=ab sj
def Iw : Ann:={ head:=Zz_H5,exits:=Oq,fn:=yB }
def KT : Anns:=[(5,Iw)]
def Zz (x : (Q12×Unit)) : Option (Int×Unit) :=
 let (((a,b,c,_),d,e,f,_),_):=x; (Zs (((a,b,c,()),d,e,f,()),())).bind fun r1=>cond (neI r1.1 0) (some (0,())) ((yB (a,b,c,d,e,f,0,0,())).bind (Sum.elim (fun z3=>some (z3.1,())) (fun _=>none)))
def QH : Con:={ ins:=[(.rd,yQ9)],outs:=[(true,I)],fn:=Zz }
def Pp : Ctx:={ tab:=tab,con:=fun | 13,_=>some Zs_c | _,_=>none,glob:=glob,eqs:=eqs }
theorem PM (x : Zz_H5.ty.den) : aO Pp KT Iw (af 5 (aa Tryd.f19)) x=sj x:=by kernel_rfl
end
end Go.Vm

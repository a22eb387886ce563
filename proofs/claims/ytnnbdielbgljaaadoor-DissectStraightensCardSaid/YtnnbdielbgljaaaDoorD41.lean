/-
 The functions that the law reaches, as functions on values, and the proofs that the machine computes them.
-/
import Derived.Test.YtnnbdielbgljaaaDoorVmA
import Derived.Test.YtnnbdielbgljaaaDoorVmExt4
import Derived.Test.YtnnbdielbgljaaaDoorProg
import Derived.KernelRfl
set_option linter.unusedVariables false
set_option linter.unusedSimpArgs false
namespace Go.Vm
open Go.Proofs
abbrev I : Ty:=.int .i64
abbrev yQ1 : Ty:=.prod I .unit
abbrev yQ2 : Ty:=.prod I yQ1
abbrev yQ3 : Ty:=.slice (.slice I)
abbrev yQ4 : Ty:=.prod yQ3 .unit
abbrev yQ5 : Ty:=.prod (.slice yQ2) yQ4
abbrev yQ6 : Ty:=.prod I yQ5
abbrev yQ7 : Ty:=.prod (.slice .str) yQ1
abbrev yQ8 : Ty:=.prod (.slice I) yQ7
abbrev yQ9 : Ty:=.prod yQ6 yQ8
abbrev Q1:=List Int×Unit
abbrev Q2:=Int×Int×Unit
abbrev Q3:=ByteArray×Unit
abbrev Q4:=List Int×Int×Unit
abbrev Q5:=Unit×ByteArray×Int
abbrev Q6:=Int×Int×Int×Unit
abbrev Q7:=(List (List Int))×Unit
abbrev Q8:=List Int×Int×Int×Unit
abbrev Q9:=List Int×Int×Int×Int×Unit
abbrev Q10:=Int×(List Q2)×(List (List Int))×Unit
abbrev Q11:=Q10×List Int×List ByteArray×Int×Unit
abbrev Q12:=List Int×(Q11×Unit)×Int×Int×Unit
abbrev Q13:=List Int×List Int×Int×Bool×Int×Unit
abbrev Q14:=List Int×(List (List Int))×Int×Int×Unit
abbrev Q15:=Int×(List Q2)×(List (List Int))×Int×Unit
abbrev Q16:=(List (List Int))×(List (List Int))×Int×Unit
abbrev Q17:=(List (List Int))×List Int×List Bool×Int×Unit
abbrev Q18:=Int×(List Q2)×(List (List Int))×Int×Int×Unit
abbrev Q19:=(List (List Int))×(List (List Int))×Int×Int×Unit
abbrev Q20:=List Int×List Bool×(List (List Int))×Int×Int×Unit
abbrev Q21:=Int×(List Q2)×(List (List Int))×List Int×Int×Unit
abbrev Q22:=Int×(List Q2)×(List (List Int))×Int×Int×Int×Unit
abbrev Q23:=Int×(List Q2)×(List (List Int))×List Int×Int×Int×Unit
abbrev Q24:=Int×(List Q2)×(List (List Int))×(List Q2)×Int×Int×Unit
abbrev Q25:=(List (List Int))×List Int×List Bool×List Int×Int×Int×Unit
abbrev Q26:=Int×(List Q2)×(List (List Int))×List Bool×List Int×Int×Unit
abbrev Q27:=Int×(List Q2)×(List (List Int))×List Bool×Int×Int×Int×Unit
abbrev Q28:=List Int×List Bool×(List (List Int))×List Int×Int×Int×Int×Unit
abbrev Q29:=List Int×(List (List Int))×Int×Int×Int×List Int×Int×Int×Unit
abbrev Q30:=Int×(List Q2)×(List (List Int))×List Int×Int×List Int×Int×Unit
abbrev Q31:=Int×(List Q2)×(List (List Int))×List Int×List Bool×Int×Int×Unit
abbrev Q32:=Int×(List Q2)×(List (List Int))×Int×(List (List Int))×Int×Int×Unit
abbrev Q33:=Int×Int×(List Q2)×(List (List Int))×(List (List Int))×Int×Int×Unit
abbrev Q34:=Int×(List Q2)×(List (List Int))×Int×(List Q2)×(List (List Int))×Unit
abbrev Q35:=List Int×List Int×(List (List Int))×Int×Int×List Int×Int×Int×Unit
abbrev Q36:=Int×(List Q2)×(List (List Int))×List Int×List ByteArray×Int×Int×Unit
abbrev Q37:=Int×(List Q2)×(List (List Int))×List Bool×List Int×Int×Int×Int×Unit
abbrev Q38:=Int×(List Q2)×(List (List Int))×List Int×List Bool×Int×Int×Int×Unit
abbrev Q39:=Int×(List Q2)×(List (List Int))×Int×(List Q2)×(List (List Int))×Int×Unit
abbrev Q40:=Int×(List Q2)×(List (List Int))×List Int×List ByteArray×Int×Int×Int×Unit
abbrev Q41:=Int×(List Q2)×(List (List Int))×List Bool×Int×(List (List Int))×Int×Int×Unit
abbrev Q42:=Int×(List Q2)×(List (List Int))×Int×(List Q2)×(List (List Int))×Int×Int×Unit
abbrev Q43:=Int×(List Q2)×(List (List Int))×List Bool×List Int×Int×List Int×Int×Int×Unit
abbrev Q44:=Int×(List Q2)×(List (List Int))×List Int×List ByteArray×Int×Int×Int×Int×Unit
abbrev Q45:=Int×(List Q2)×(List (List Int))×List Int×List ByteArray×Int×Int×Int×Bool×Unit
abbrev Q46:=Int×(List Q2)×(List (List Int))×List Int×List ByteArray×Int×List Int×Int×Int×Unit
abbrev Q47:=Int×(List Q2)×(List (List Int))×List Int×List ByteArray×Int×(List (List Int))×Int×Unit
abbrev Q48:=Int×(List Q2)×(List (List Int))×List Int×List ByteArray×Int×Int×List Int×Int×Int×Unit
abbrev Q49:=Int×(List Q2)×(List (List Int))×List Bool×List Int×Int×Int×Int×List Int×Int×Int×Unit
abbrev Q50:=Int×(List Q2)×(List (List Int))×List Int×List ByteArray×Int×Int×Int×Int×Int×Int×Unit
abbrev Q51:=Int×(List Q2)×(List (List Int))×List Int×List ByteArray×Int×(List (List Int))×Int×Int×Unit
abbrev Q52:=Int×(List Q2)×(List (List Int))×List Int×List ByteArray×Int×Int×(List Q2)×(List (List Int))×Unit
abbrev Q53:=Int×(List Q2)×(List (List Int))×List Int×List ByteArray×Int×(List (List Int))×Int×Int×Int×Unit
abbrev Q54:=Int×(List Q2)×(List (List Int))×List Int×List ByteArray×Int×Int×Int×List Int×Int×Int×Int×Unit
abbrev Q55:=Int×(List Q2)×(List (List Int))×List Int×List ByteArray×Int×List Int×(List (List Int))×Int×Int×Unit
abbrev Q56:=Int×(List Q2)×(List (List Int))×List Bool×Int×Int×(List (List Int))×Int×Int×List Int×Int×Int×Unit
abbrev Q57:=Int×(List Q2)×(List (List Int))×List Int×List ByteArray×Int×Int×Int×List Int×Int×Int×Int×Int×Unit
abbrev Q58:=Int×(List Q2)×(List (List Int))×List Int×List ByteArray×Int×List Int×Int×(List (List Int))×Int×Int×Unit
abbrev Q59:=Int×(List Q2)×(List (List Int))×List Int×List ByteArray×Int×Int×(List Q2)×(List (List Int))×Int×Int×Unit
abbrev Q60:=Int×(List Q2)×(List (List Int))×List Int×List ByteArray×Int×Int×Int×(List (List Int))×Bool×Int×Int×Unit
abbrev Q61:=Int×(List Q2)×(List (List Int))×List Int×List ByteArray×Int×List Int×(List Q5)×List Int×(List (List Int))×Int×Int×Unit
abbrev Q62:=Int×(List Q2)×(List (List Int))×List Int×List ByteArray×Int×(List (List Int))×Int×Int×Int×Int×List Int×Int×Int×Unit
abbrev Q63:=Int×(List Q2)×(List (List Int))×List Int×List ByteArray×Int×List Int×Int×(List (List Int))×Int×Int×List Int×Int×Int×Unit
abbrev Q64:=Int×(List Q2)×(List (List Int))×List Int×List ByteArray×Int×Int×(List Q2)×(List (List Int))×List Int×List ByteArray×Int×Unit
abbrev Q65:=Int×(List Q2)×(List (List Int))×List Int×List ByteArray×Int×Int×Int×Int×Int×(List (List Int))×(List Q2)×(List (List Int))×Unit
abbrev Q66:=Int×(List Q2)×(List (List Int))×List Int×List ByteArray×Int×Int×(List Q2)×(List (List Int))×List Int×List ByteArray×Int×Int×Unit
abbrev Q67:=Int×(List Q2)×(List (List Int))×List Int×List ByteArray×Int×Int×Int×Int×Int×(List (List Int))×List Int×(List (List Int))×(List Q2)×List Int×Unit
abbrev Q68:=Int×(List Q2)×(List (List Int))×List Int×List ByteArray×Int×Int×Int×Int×Int×(List (List Int))×(List Q2)×(List (List Int))×(List Q2)×Int×Int×Unit
abbrev Q69:=Int×(List Q2)×(List (List Int))×List Int×List ByteArray×Int×Int×Int×Int×Int×(List (List Int))×List Int×(List (List Int))×(List Q2)×List Int×Int×Unit
abbrev Q70:=Int×(List Q2)×(List (List Int))×List Int×List ByteArray×Int×Int×Int×Int×Int×(List (List Int))×(List Q2)×(List (List Int))×List Int×(List (List Int))×Unit
abbrev Q71:=Int×(List Q2)×(List (List Int))×List Int×List ByteArray×Int×Int×Int×Int×Int×(List (List Int))×List Int×(List (List Int))×(List Q2)×(List (List Int))×List Int×Unit
abbrev Q72:=Int×(List Q2)×(List (List Int))×List Int×List ByteArray×Int×Int×Int×Int×Int×(List (List Int))×List Int×(List (List Int))×(List Q2)×(List (List Int))×List Int×Int×Unit
abbrev Q73:=Int×(List Q2)×(List (List Int))×List Int×List ByteArray×Int×Int×Int×Int×Int×(List (List Int))×Int×Int×List Int×(List Q2)×(List (List Int))×Int×(List Q2)×Int×Int×Unit
abbrev Q74:=Int×(List Q2)×(List (List Int))×List Int×List ByteArray×Int×Int×Int×Int×Int×(List (List Int))×List Int×(List (List Int))×List Int×(List Q2)×List Int×Int×ByteArray×Int×Unit
abbrev Q75:=Int×(List Q2)×(List (List Int))×List Int×List ByteArray×Int×Int×Int×Int×Int×(List (List Int))×List Int×(List (List Int))×List Int×(List Q2)×(List (List Int))×List Int×Int×Unit
abbrev Q76:=Int×(List Q2)×(List (List Int))×List Int×List ByteArray×Int×Int×Int×Int×Int×(List (List Int))×(List Q2)×(List (List Int))×List Int×(List (List Int))×(List (List Int))×Int×Int×Unit
abbrev Q77:=Int×(List Q2)×(List (List Int))×List Int×List ByteArray×Int×Int×Int×Int×Int×(List (List Int))×List Int×(List (List Int))×List Int×(List Q2)×List Int×Int×ByteArray×Int×Int×Unit
abbrev Q78:=Int×(List Q2)×(List (List Int))×List Int×List ByteArray×Int×Int×Int×Int×Int×(List (List Int))×Int×Int×List Int×(List Q5)×(List Q2)×(List (List Int))×Int×(List Q2)×Int×Int×Unit
abbrev Q79:=Int×(List Q2)×(List (List Int))×List Int×List ByteArray×Int×Int×Int×Int×Int×(List (List Int))×List Int×(List (List Int))×List Int×(List Q2)×(List (List Int))×List Int×Int×Int×Unit
abbrev Q80:=Int×(List Q2)×(List (List Int))×List Int×List ByteArray×Int×Int×Int×Int×Int×(List (List Int))×List Int×(List Q2)×(List (List Int))×List Int×(List (List Int))×(List (List Int))×Int×Int×Unit
abbrev Q81:=Int×(List Q2)×(List (List Int))×List Int×List ByteArray×Int×Int×Int×Int×Int×(List (List Int))×List Int×(List Q2)×(List (List Int))×List Int×(List (List Int))×(List (List Int))×Int×Int×List Int×Int×Int×Unit
noncomputable section
def tab : Tab:=[(2,I),(3,I),(4,.bool),(5,(.int .u8)),(6,(.int .u8)),(7,(.prod I (.prod I (.prod .bool (.prod (.int .u8) .unit))))),(8,(.prod I (.prod I (.prod .bool (.prod (.int .u8) .unit))))),(9,.str),(10,.str),(11,.str),(12,(.int .u64)),(13,(.prod .str (.prod (.int .u64) .unit))),(14,(.prod .str (.prod (.int .u64) .unit))),(21,(.int .i32)),(22,(.slice yQ2)),(23,yQ3),(24,yQ6),(25,yQ6),(26,(.slice I)),(27,(.slice .str)),(28,yQ9),(29,yQ9),(32,I),(41,yQ2),(42,yQ2),(60,(.slice .bool)),(77,(.slice (.int .u8))),(81,(.arr 2 I)),(95,(.int .u32)),(96,(.int .u8)),(97,(.int .u8)),(100,(.int .i32)),(101,(.int .i32))]
def eqs : List Nat:=[42]
def glob : List (Nat×(Σ t : Ty,t.den)):=[(0,⟨(.arr 2 I),[16384,32768]⟩)]
set_option maxRecDepth 100000
def Zaq_H4 : Shape:={ env:=[(1,.av (.ptr 1 0)),(3,.av (.val I))],objs:=[(1,.box [.val I,.val (.slice yQ2),.val yQ3])] }
def Zaq_E4 : List (Ex×Shape):=[(.ret,{ env:=[(2,.av (.val .bool))],objs:=[] }),(.exit 0,{ env:=[],objs:=[] })]
def Zaq_B4 (x : Q15) : Option (Q15⊕((Bool×Unit)⊕(Unit⊕Empty))) :=
 let (a,b,c,d,_):=x; cond (ltI d (c.length : Nat)) ((getI c d).bind fun y1=>cond (gtI (y1.length : Nat) 100) (some (.inr (.inl (false,())))) (some (.inl (a,b,c,(addI .i64 d 1),())))) (some (.inr (.inr (.inl ()))))
def Zaq_L4 : Q15→Option ((Bool×Unit)⊕(Unit⊕Empty)):=loopFix Zaq_B4
def Zaq_A4 : Ann:={ head:=Zaq_H4,exits:=Zaq_E4,fn:=Zaq_L4 }
def Zaq_As : Anns:=[(4,Zaq_A4)]
def Zaq (x : (Q10×Unit)) : Option (Bool×Unit) :=
 let ((a,b,c,_),_):=x; cond (gtI (b.length : Nat) 100) (some (false,())) (cond (gtI (c.length : Nat) 100) (some (false,())) ((Zaq_L4 (a,b,c,0,())).bind (Sum.elim (fun z2=>some (z2.1,())) (Sum.elim (fun z3=>some (true,())) (fun _=>none)))))
def Zaq_c : Con:={ ins:=[(.rd,yQ6)],outs:=[(true,.bool)],fn:=Zaq }
def Zaq_C : Ctx:={ tab:=tab,con:=fun _ _=>none,glob:=glob,eqs:=eqs }
theorem Zaq_R4 (x : Zaq_H4.ty.den) : round Zaq_C Zaq_As Zaq_A4 (loopBody 4 (bodyOf Tryd.f23)) x=Zaq_B4 x:=by kernel_rfl
theorem Zaq_eq (x : (tupTy [yQ6]).den) : callFn Zaq_C Zaq_As (bodyOf Tryd.f23) [(.rd,yQ6)] [(.tmp 2,true,.bool)] x=Zaq x:=by kernel_rfl
def Zao_H5 : Shape:={ env:=[(1,.av (.ptr 1 0)),(3,.av (.val I)),(4,.av (.val I))],objs:=[(1,.box [.val I,.val (.slice yQ2),.val yQ3,.val (.slice I),.val (.slice .str),.val I])] }
def Zao_E5 : List (Ex×Shape):=[(.exit 0,{ env:=[(3,.av (.val I))],objs:=[] })]
def Zao_B5 (x : Q40) : Option (Q40⊕((Int×Unit)⊕Empty)) :=
 let (a,b,c,d,e,f,g,h,_):=x; cond (ltI h (e.length : Nat)) ((getI e h).bind fun y1=>some (.inl (a,b,c,d,e,f,(addI .i64 g (y1.size : Nat)),(addI .i64 h 1),()))) (some (.inr (.inl (g,()))))
def Zao_L5 : Q40→Option ((Int×Unit)⊕Empty):=loopFix Zao_B5
def Zao_A5 : Ann:={ head:=Zao_H5,exits:=Zao_E5,fn:=Zao_L5 }
def Zao_As : Anns:=[(5,Zao_A5)]
def Zao (x : (Q11×Unit)) : Option (Bool×Unit) :=
 let (((a,b,c,_),d,e,f,_),_):=x; (Zaq ((a,b,c,()),())).bind fun r1=>cond (!r1.1) (some (false,())) (cond (gtI (d.length : Nat) 200) (some (false,())) (cond (gtI (e.length : Nat) 200) (some (false,())) ((Zao_L5 (a,b,c,d,e,f,0,0,())).bind (Sum.elim (fun z3=>some ((leI z3.1 400),())) (fun _=>none)))))
def Zao_c : Con:={ ins:=[(.rd,yQ9)],outs:=[(true,.bool)],fn:=Zao }
def Zao_C : Ctx:={ tab:=tab,con:=fun | 23,_=>some Zaq_c | _,_=>none,glob:=glob,eqs:=eqs }
theorem Zao_R5 (x : Zao_H5.ty.den) : round Zao_C Zao_As Zao_A5 (loopBody 5 (bodyOf Tryd.f8)) x=Zao_B5 x:=by kernel_rfl
theorem Zao_eq (x : (tupTy [yQ9]).den) : callFn Zao_C Zao_As (bodyOf Tryd.f8) [(.rd,yQ9)] [(.tmp 2,true,.bool)] x=Zao x:=by kernel_rfl
def Zbh_As : Anns:=[]
def Zbh (x : (Q2×Int×Unit)) : Option (Int×Unit) :=
 cond (eqI x.2.1 0) (some (x.1.1,())) (some (x.1.2.1,()))
def Zbh_c : Con:={ ins:=[(.rd,yQ2),(.rd,I)],outs:=[(true,I)],fn:=Zbh }
def Zbh_C : Ctx:={ tab:=tab,con:=fun _ _=>none,glob:=glob,eqs:=eqs }
theorem Zbh_eq (x : (tupTy [yQ2,I]).den) : callFn Zbh_C Zbh_As (bodyOf Tryd.f81) [(.rd,yQ2),(.rd,I)] [(.tmp 4,true,I)] x=Zbh x:=by kernel_rfl
def Zau_H15 : Shape:={ env:=[(1,.av (.ptr 1 0)),(5,.av (.own 5)),(6,.av (.val I)),(7,.av (.val I)),(80,.av (.val yQ3)),(81,.av (.val I)),(82,.av (.val I)),(87,.av (.val (.slice I))),(88,.av (.val I)),(89,.av (.val I))],objs:=[(1,.box [.val I,.val (.slice yQ2),.val yQ3]),(5,.arr .bool)] }
def Zau_E15 : List (Ex×Shape):=[(.ret,{ env:=[(2,.av (.val .bool))],objs:=[] }),(.exit 4,{ env:=[(1,.av (.ptr 1 0)),(5,.av (.own 5)),(6,.av (.val I)),(80,.av (.val yQ3)),(81,.av (.val I)),(82,.av (.val I))],objs:=[(1,.box [.val I,.val (.slice yQ2),.val yQ3]),(5,.arr .bool)] })]
def Zau_B15 (x : Q56) : Option (Q56⊕((Bool×Unit)⊕(Q41⊕Empty))) :=
 let (a,b,c,d,e,f,g,h,i,k,l,m,_):=x; cond (ltI m l) ((getI k m).bind fun y1=>cond (ltI y1 0) (some (.inr (.inl (false,())))) (cond (geI y1 (d.length : Nat)) (some (.inr (.inl (false,())))) ((idxI d.length y1).bind fun j2=>(d[j2]?).bind fun y3=>cond y3 (some (.inr (.inl (false,())))) ((getI b (quoI .i64 y1 2)).bind fun y4=>(Zbh (y4,(remI y1 2),())).bind fun r5=>cond (neI r5.1 f) (some (.inr (.inl (false,())))) ((idxI d.length y1).bind fun j6=>(d[j6]?).bind fun y7=>some (.inl (a,b,c,(d.set j6 true),(addI .i64 e 1),f,g,h,i,k,l,(addI .i64 m 1),()))))))) (some (.inr (.inr (.inl (a,b,c,d,e,g,h,i,())))))
def Zau_L15 : Q56→Option ((Bool×Unit)⊕(Q41⊕Empty)):=loopFix Zau_B15
def Zau_A15 : Ann:={ head:=Zau_H15,exits:=Zau_E15,fn:=Zau_L15 }
def Zau_H12 : Shape:={ env:=[(1,.av (.ptr 1 0)),(5,.av (.own 5)),(6,.av (.val I)),(80,.av (.val yQ3)),(81,.av (.val I)),(82,.av (.val I))],objs:=[(1,.box [.val I,.val (.slice yQ2),.val yQ3]),(5,.arr .bool)] }
def Zau_E12 : List (Ex×Shape):=[(.ret,{ env:=[(2,.av (.val .bool))],objs:=[] }),(.exit 2,{ env:=[(5,.av (.own 5)),(6,.av (.val I))],objs:=[(5,.arr .bool)] })]
def Zau_B12 (x : Q41) : Option (Q41⊕((Bool×Unit)⊕((List Bool×Int×Unit)⊕Empty))) :=
 let (a,b,c,d,e,f,g,h,_):=x; cond (ltI h g) ((getI f h).bind fun y1=>(Zau_L15 (a,b,c,d,e,h,f,g,h,y1,(y1.length : Nat),0,())).bind (Sum.elim (fun z3=>some (.inr (.inl (z3.1,())))) (Sum.elim (fun (a_4,b_4,c_4,d_4,e_4,f_4,g_4,h_4,_)=>some (.inl (a_4,b_4,c_4,d_4,e_4,f_4,g_4,(addI .i64 h_4 1),()))) (fun _=>none)))) (some (.inr (.inr (.inl (d,e,())))))
def Zau_L12 : Q41→Option ((Bool×Unit)⊕((List Bool×Int×Unit)⊕Empty)):=loopFix Zau_B12
def Zau_A12 : Ann:={ head:=Zau_H12,exits:=Zau_E12,fn:=Zau_L12 }
def Zau_H4 : Shape:={ env:=[(1,.av (.ptr 1 0)),(38,.av (.val (.slice yQ2))),(39,.av (.val I)),(40,.av (.val I))],objs:=[(1,.box [.val I,.val (.slice yQ2),.val yQ3])] }
def Zau_E4 : List (Ex×Shape):=[(.ret,{ env:=[(2,.av (.val .bool))],objs:=[] }),(.exit 0,{ env:=[(1,.av (.ptr 1 0))],objs:=[(1,.box [.val I,.val (.slice yQ2),.val yQ3])] })]
def Zau_B4 (x : Q24) : Option (Q24⊕((Bool×Unit)⊕(Q10⊕Empty))) :=
 let (a,b,c,d,e,f,_):=x; cond (ltI f e) ((getI d f).bind fun y1=>cond (ltI y1.1 0) (some (.inr (.inl (false,())))) (cond (geI y1.1 a) (some (.inr (.inl (false,())))) (cond (ltI y1.2.1 0) (some (.inr (.inl (false,())))) (cond (geI y1.2.1 a) (some (.inr (.inl (false,())))) (cond (eqI y1.1 y1.2.1) (some (.inr (.inl (false,())))) (some (.inl (a,b,c,d,e,(addI .i64 f 1),())))))))) (some (.inr (.inr (.inl (a,b,c,())))))
def Zau_L4 : Q24→Option ((Bool×Unit)⊕(Q10⊕Empty)):=loopFix Zau_B4
def Zau_A4 : Ann:={ head:=Zau_H4,exits:=Zau_E4,fn:=Zau_L4 }
def Zau_As : Anns:=[(4,Zau_A4),(12,Zau_A12),(15,Zau_A15)]
def Zau (x : (Q10×Unit)) : Option (Bool×Unit) :=
 let ((a,b,c,_),_):=x; cond (ltI a 0) (some (false,())) ((getI [16384,32768] 0).bind fun y1=>cond (gtI a y1) (some (false,())) ((getI [16384,32768] 1).bind fun y2=>cond (gtI (b.length : Nat) y2) (some (false,())) (cond (neI (c.length : Nat) a) (some (false,())) ((Zau_L4 (a,b,c,b,(b.length : Nat),0,())).bind (Sum.elim (fun z4=>some (z4.1,())) (Sum.elim (fun (a_5,b_5,c_5,_)=>(makeL .bool (mulI .i64 2 (b_5.length : Nat)) (mulI .i64 2 (b_5.length : Nat))).bind fun m6=>(Zau_L12 (a_5,b_5,c_5,m6,0,c_5,(c_5.length : Nat),0,())).bind (Sum.elim (fun z8=>some (z8.1,())) (Sum.elim (fun z9=>some ((eqI z9.2.1 (z9.1.length : Nat)),())) (fun _=>none)))) (fun _=>none)))))))
def Zau_c : Con:={ ins:=[(.rd,yQ6)],outs:=[(true,.bool)],fn:=Zau }
def Zau_C : Ctx:={ tab:=tab,con:=fun | 81,_=>some Zbh_c | _,_=>none,glob:=glob,eqs:=eqs }
theorem Zau_R15 (x : Zau_H15.ty.den) : round Zau_C Zau_As Zau_A15 (loopBody 15 (bodyOf Tryd.f64)) x=Zau_B15 x:=by kernel_rfl
theorem Zau_R12 (x : Zau_H12.ty.den) : round Zau_C Zau_As Zau_A12 (loopBody 12 (bodyOf Tryd.f64)) x=Zau_B12 x:=by kernel_rfl
theorem Zau_R4 (x : Zau_H4.ty.den) : round Zau_C Zau_As Zau_A4 (loopBody 4 (bodyOf Tryd.f64)) x=Zau_B4 x:=by kernel_rfl
theorem Zau_eq (x : (tupTy [yQ6]).den) : callFn Zau_C Zau_As (bodyOf Tryd.f64) [(.rd,yQ6)] [(.tmp 2,true,.bool)] x=Zau x:=by kernel_rfl
def Zbe_As : Anns:=[]
def Zbe (x : (Q10×Int×Unit)) : Option (Int×Unit) :=
 let ((a,b,c,_),d,_):=x; (Zau ((a,b,c,()),())).bind fun r1=>cond (!r1.1) (some ((-1),())) (cond (ltI d 0) (some ((-1),())) (cond (geI d (mulI .i64 2 (b.length : Nat))) (some ((-1),())) ((getI b (quoI .i64 d 2)).bind fun y2=>(Zbh (y2,(remI d 2),())).bind fun r3=>some (r3.1,()))))
def Zbe_c : Con:={ ins:=[(.rd,yQ6),(.rd,I)],outs:=[(true,I)],fn:=Zbe }
def Zbe_C : Ctx:={ tab:=tab,con:=fun | 64,_=>some Zau_c | 81,_=>some Zbh_c | _,_=>none,glob:=glob,eqs:=eqs }
theorem Zbe_eq (x : (tupTy [yQ6,I]).den) : callFn Zbe_C Zbe_As (bodyOf Tryd.f59) [(.rd,yQ6),(.rd,I)] [(.tmp 4,true,I)] x=Zbe x:=by kernel_rfl
def Zan_H11 : Shape:={ env:=[(1,.av (.ptr 1 0)),(3,.av (.own 3)),(4,.av (.own 4)),(5,.av (.val I)),(39,.av (.val (.slice I))),(40,.av (.val I)),(41,.av (.val I))],objs:=[(1,.box [.val I,.val (.slice yQ2),.val yQ3]),(3,.arr .bool),(4,.arr I)] }
def Zan_E11 : List (Ex×Shape):=[(.exit 2,{ env:=[(1,.av (.ptr 1 0)),(3,.av (.own 3)),(4,.av (.own 4)),(5,.av (.val I))],objs:=[(1,.box [.val I,.val (.slice yQ2),.val yQ3]),(3,.arr .bool),(4,.arr I)] })]
def Zan_B11 (x : Q43) : Option (Q43⊕(Q26⊕Empty)) :=
 let (a,b,c,d,e,f,g,h,i,_):=x; cond (ltI i h) ((getI g i).bind fun y1=>(Zbe ((a,b,c,()),(xorI .i64 y1 1),())).bind fun r2=>(idxI d.length r2.1).bind fun j3=>(d[j3]?).bind fun y4=>cond (!y4) ((idxI d.length r2.1).bind fun j5=>(d[j5]?).bind fun y6=>(app e [r2.1]).bind fun a7=>some (.inl (a,b,c,(d.set j5 true),a7,f,g,h,(addI .i64 i 1),()))) (some (.inl (a,b,c,d,e,f,g,h,(addI .i64 i 1),())))) (some (.inr (.inl (a,b,c,d,e,f,()))))
def Zan_L11 : Q43→Option (Q26⊕Empty):=loopFix Zan_B11
def Zan_A11 : Ann:={ head:=Zan_H11,exits:=Zan_E11,fn:=Zan_L11 }
def Zan_H6 : Shape:={ env:=[(1,.av (.ptr 1 0)),(3,.av (.own 3)),(4,.av (.own 4)),(5,.av (.val I))],objs:=[(1,.box [.val I,.val (.slice yQ2),.val yQ3]),(3,.arr .bool),(4,.arr I)] }
def Zan_E6 : List (Ex×Shape):=[(.exit 0,{ env:=[(1,.av (.ptr 1 0)),(5,.av (.val I))],objs:=[(1,.box [.val I,.val (.slice yQ2),.val yQ3])] })]
def Zan_B6 (x : Q26) : Option (Q26⊕(Q15⊕Empty)) :=
 let (a,b,c,d,e,f,_):=x; cond (gtI (e.length : Nat) 0) ((idxI e.length (subI .i64 (e.length : Nat) 1)).bind fun j1=>(e[j1]?).bind fun y2=>(viewB e.length 0 (subI .i64 (e.length : Nat) 1)).bind fun v3=>(getI c y2).bind fun y4=>(Zan_L11 (a,b,c,d,((e.drop v3.1).take v3.2),(addI .i64 f 1),y4,(y4.length : Nat),0,())).bind (Sum.elim (fun (a_6,b_6,c_6,d_6,e_6,f_6,_)=>some (.inl (a_6,b_6,c_6,d_6,e_6,f_6,()))) (fun _=>none))) (some (.inr (.inl (a,b,c,f,()))))
def Zan_L6 : Q26→Option (Q15⊕Empty):=loopFix Zan_B6
def Zan_A6 : Ann:={ head:=Zan_H6,exits:=Zan_E6,fn:=Zan_L6 }
def Zan_As : Anns:=[(6,Zan_A6),(11,Zan_A11)]
def Zan (x : (Q10×Unit)) : Option (Bool×Unit) :=
 let ((a,b,c,_),_):=x; cond (eqI a 0) (some (false,())) ((makeL .bool a a).bind fun m1=>(idxI m1.length 0).bind fun j2=>(m1[j2]?).bind fun y3=>(Zan_L6 (a,b,c,(m1.set j2 true),[0],0,())).bind (Sum.elim (fun z5=>some ((eqI z5.2.2.2.1 z5.1),())) (fun _=>none)))
def Zan_c : Con:={ ins:=[(.rd,yQ6)],outs:=[(true,.bool)],fn:=Zan }
def Zan_C : Ctx:={ tab:=tab,con:=fun | 59,_=>some Zbe_c | _,_=>none,glob:=glob,eqs:=eqs }
theorem Zan_R11 (x : Zan_H11.ty.den) : round Zan_C Zan_As Zan_A11 (loopBody 11 (bodyOf Tryd.f72)) x=Zan_B11 x:=by kernel_rfl
theorem Zan_R6 (x : Zan_H6.ty.den) : round Zan_C Zan_As Zan_A6 (loopBody 6 (bodyOf Tryd.f72)) x=Zan_B6 x:=by kernel_rfl
theorem Zan_eq (x : (tupTy [yQ6]).den) : callFn Zan_C Zan_As (bodyOf Tryd.f72) [(.rd,yQ6)] [(.tmp 2,true,.bool)] x=Zan x:=by kernel_rfl
def Zap_H6 : Shape:={ env:=[(3,.av (.own 3)),(5,.av (.val (.slice I))),(14,.av (.val yQ3)),(15,.av (.val I)),(16,.av (.val I)),(20,.av (.val (.slice I))),(21,.av (.val I)),(22,.av (.val I))],objs:=[(3,.arr I)] }
def Zap_E6 : List (Ex×Shape):=[(.exit 2,{ env:=[(3,.av (.own 3)),(14,.av (.val yQ3)),(15,.av (.val I)),(16,.av (.val I))],objs:=[(3,.arr I)] })]
def Zap_B6 (x : Q35) : Option (Q35⊕(Q14⊕Empty)) :=
 let (a,b,c,d,e,f,g,h,_):=x; cond (ltI h g) ((getI f h).bind fun y1=>cond (eqI (b.length : Nat) 0) none ((getI b (remI (addI .i64 h 1) (b.length : Nat))).bind fun y2=>(idxI a.length (xorI .i64 y1 1)).bind fun j3=>(a[j3]?).bind fun y4=>some (.inl ((a.set j3 y2),b,c,d,e,f,g,(addI .i64 h 1),())))) (some (.inr (.inl (a,c,d,e,()))))
def Zap_L6 : Q35→Option (Q14⊕Empty):=loopFix Zap_B6
def Zap_A6 : Ann:={ head:=Zap_H6,exits:=Zap_E6,fn:=Zap_L6 }
def Zap_H3 : Shape:={ env:=[(3,.av (.own 3)),(14,.av (.val yQ3)),(15,.av (.val I)),(16,.av (.val I))],objs:=[(3,.arr I)] }
def Zap_E3 : List (Ex×Shape):=[(.exit 0,{ env:=[(3,.av (.own 3))],objs:=[(3,.arr I)] })]
def Zap_B3 (x : Q14) : Option (Q14⊕(Q1⊕Empty)) :=
 let (a,b,c,d,_):=x; cond (ltI d c) ((getI b d).bind fun y1=>(Zap_L6 (a,y1,b,c,d,y1,(y1.length : Nat),0,())).bind (Sum.elim (fun z3=>some (.inl (z3.1,z3.2.1,z3.2.2.1,(addI .i64 z3.2.2.2.1 1),()))) (fun _=>none))) (some (.inr (.inl (a,()))))
def Zap_L3 : Q14→Option (Q1⊕Empty):=loopFix Zap_B3
def Zap_A3 : Ann:={ head:=Zap_H3,exits:=Zap_E3,fn:=Zap_L3 }
def Zap_As : Anns:=[(3,Zap_A3),(6,Zap_A6)]
def Zap (x : (Q10×Unit)) : Option Q1 :=
 let ((_,a,b,_),_):=x; (makeL I (mulI .i64 2 (a.length : Nat)) (mulI .i64 2 (a.length : Nat))).bind fun m1=>(Zap_L3 (m1,b,(b.length : Nat),0,())).bind (Sum.elim (fun z3=>some (z3.1,())) (fun _=>none))
def Zap_c : Con:={ ins:=[(.rd,yQ6)],outs:=[(true,(.slice I))],fn:=Zap }
def Zap_C : Ctx:={ tab:=tab,con:=fun _ _=>none,glob:=glob,eqs:=eqs }
theorem Zap_R6 (x : Zap_H6.ty.den) : round Zap_C Zap_As Zap_A6 (loopBody 6 (bodyOf Tryd.f65)) x=Zap_B6 x:=by kernel_rfl
theorem Zap_R3 (x : Zap_H3.ty.den) : round Zap_C Zap_As Zap_A3 (loopBody 3 (bodyOf Tryd.f65)) x=Zap_B3 x:=by kernel_rfl
theorem Zap_eq (x : (tupTy [yQ6]).den) : callFn Zap_C Zap_As (bodyOf Tryd.f65) [(.rd,yQ6)] [(.tmp 2,true,(.slice I))] x=Zap x:=by kernel_rfl
def Zaw_H11 : Shape:={ env:=[(3,.av (.own 3)),(4,.av (.own 4)),(5,.av (.own 5)),(7,.av (.own 7)),(8,.av (.val I)),(18,.av (.val I)),(19,.av (.val I))],objs:=[(3,.arr I),(4,.arr .bool),(5,.arr (.slice I)),(7,.arr I)] }
def Zaw_E11 : List (Ex×Shape):=[(.exit 2,{ env:=[(3,.av (.own 3)),(4,.av (.own 4)),(5,.av (.own 5)),(7,.av (.own 7)),(18,.av (.val I)),(19,.av (.val I))],objs:=[(3,.arr I),(4,.arr .bool),(5,.arr (.slice I)),(7,.arr I)] })]
def Zaw_B11 (x : Q28) : Option (Q28⊕((List Int×List Bool×(List (List Int))×List Int×Int×Int×Unit)⊕Empty)) :=
 let (a,b,c,d,e,f,g,_):=x; (idxI b.length e).bind fun j1=>(b[j1]?).bind fun y2=>cond (!y2) ((idxI b.length e).bind fun j3=>(b[j3]?).bind fun y4=>(app d [e]).bind fun a5=>(idxI a.length e).bind fun j6=>(a[j6]?).bind fun y7=>some (.inl (a,(b.set j3 true),c,a5,y7,f,g,()))) (some (.inr (.inl (a,b,c,d,f,g,()))))
def Zaw_L11 : Q28→Option ((List Int×List Bool×(List (List Int))×List Int×Int×Int×Unit)⊕Empty):=loopFix Zaw_B11
def Zaw_A11 : Ann:={ head:=Zaw_H11,exits:=Zaw_E11,fn:=Zaw_L11 }
def Zaw_H7 : Shape:={ env:=[(3,.av (.own 3)),(4,.av (.own 4)),(5,.av (.own 5)),(18,.av (.val I)),(19,.av (.val I))],objs:=[(3,.arr I),(4,.arr .bool),(5,.arr (.slice I))] }
def Zaw_E7 : List (Ex×Shape):=[(.exit 0,{ env:=[(5,.av (.own 5))],objs:=[(5,.arr (.slice I))] })]
def Zaw_B7 (x : Q20) : Option (Q20⊕(Q7⊕Empty)) :=
 let (a,b,c,d,e,_):=x; cond (ltI e d) ((Zaw_L11 (a,b,c,[],e,d,e,())).bind (Sum.elim (fun (a_2,b_2,c_2,d_2,e_2,f_2,_)=>cond (gtI (d_2.length : Nat) 0) ((app c_2 [d_2]).bind fun a3=>some (.inl (a_2,b_2,a3,e_2,(addI .i64 f_2 1),()))) (some (.inl (a_2,b_2,c_2,e_2,(addI .i64 f_2 1),())))) (fun _=>none))) (some (.inr (.inl (c,()))))
def Zaw_L7 : Q20→Option (Q7⊕Empty):=loopFix Zaw_B7
def Zaw_A7 : Ann:={ head:=Zaw_H7,exits:=Zaw_E7,fn:=Zaw_L7 }
def Zaw_As : Anns:=[(7,Zaw_A7),(11,Zaw_A11)]
def Zaw (x : (Q10×Unit)) : Option Q7 :=
 let ((a,b,c,_),_):=x; (Zau ((a,b,c,()),())).bind fun r1=>cond (!r1.1) (some ([],())) ((Zap ((a,b,c,()),())).bind fun r2=>(makeL .bool (r2.1.length : Nat) (r2.1.length : Nat)).bind fun m3=>(Zaw_L7 (r2.1,m3,[],(r2.1.length : Nat),0,())).bind (Sum.elim (fun z5=>some (z5.1,())) (fun _=>none)))
def Zaw_c : Con:={ ins:=[(.rd,yQ6)],outs:=[(true,yQ3)],fn:=Zaw }
def Zaw_C : Ctx:={ tab:=tab,con:=fun | 64,_=>some Zau_c | 65,_=>some Zap_c | _,_=>none,glob:=glob,eqs:=eqs }
theorem Zaw_R11 (x : Zaw_H11.ty.den) : round Zaw_C Zaw_As Zaw_A11 (loopBody 11 (bodyOf Tryd.f39)) x=Zaw_B11 x:=by kernel_rfl
theorem Zaw_R7 (x : Zaw_H7.ty.den) : round Zaw_C Zaw_As Zaw_A7 (loopBody 7 (bodyOf Tryd.f39)) x=Zaw_B7 x:=by kernel_rfl
theorem Zaw_eq (x : (tupTy [yQ6]).den) : callFn Zaw_C Zaw_As (bodyOf Tryd.f39) [(.rd,yQ6)] [(.tmp 2,true,yQ3)] x=Zaw x:=by kernel_rfl
def Zj_H13 : Shape:={ env:=[(1,.av (.ptr 1 0)),(3,.av (.own 3)),(4,.av (.val I)),(6,.av (.own 6)),(14,.av (.val I)),(15,.av (.val I)),(40,.av (.val (.slice I))),(41,.av (.val I)),(42,.av (.val I))],objs:=[(1,.box [.val I,.val (.slice yQ2),.val yQ3]),(3,.arr .bool),(6,.arr I)] }
def Zj_E13 : List (Ex×Shape):=[(.exit 4,{ env:=[(1,.av (.ptr 1 0)),(3,.av (.own 3)),(4,.av (.val I)),(6,.av (.own 6)),(14,.av (.val I)),(15,.av (.val I))],objs:=[(1,.box [.val I,.val (.slice yQ2),.val yQ3]),(3,.arr .bool),(6,.arr I)] })]
def Zj_B13 (x : Q49) : Option (Q49⊕(Q37⊕Empty)) :=
 let (a,b,c,d,e,f,g,h,i,k,l,_):=x; cond (ltI l k) ((getI i l).bind fun y1=>(getI b (quoI .i64 y1 2)).bind fun y2=>(Zbh (y2,(xorI .i64 (remI y1 2) 1),())).bind fun r3=>(idxI d.length r3.1).bind fun j4=>(d[j4]?).bind fun y5=>cond (!y5) ((idxI d.length r3.1).bind fun j6=>(d[j6]?).bind fun y7=>(app e [r3.1]).bind fun a8=>some (.inl (a,b,c,(d.set j6 true),a8,f,g,h,i,k,(addI .i64 l 1),()))) (some (.inl (a,b,c,d,e,f,g,h,i,k,(addI .i64 l 1),())))) (some (.inr (.inl (a,b,c,d,e,f,g,h,()))))
def Zj_L13 : Q49→Option (Q37⊕Empty):=loopFix Zj_B13
def Zj_A13 : Ann:={ head:=Zj_H13,exits:=Zj_E13,fn:=Zj_L13 }
def Zj_H10 : Shape:={ env:=[(1,.av (.ptr 1 0)),(3,.av (.own 3)),(4,.av (.val I)),(6,.av (.own 6)),(14,.av (.val I)),(15,.av (.val I))],objs:=[(1,.box [.val I,.val (.slice yQ2),.val yQ3]),(3,.arr .bool),(6,.arr I)] }
def Zj_E10 : List (Ex×Shape):=[(.exit 2,{ env:=[(1,.av (.ptr 1 0)),(3,.av (.own 3)),(4,.av (.val I)),(14,.av (.val I)),(15,.av (.val I))],objs:=[(1,.box [.val I,.val (.slice yQ2),.val yQ3]),(3,.arr .bool)] })]
def Zj_B10 (x : Q37) : Option (Q37⊕(Q27⊕Empty)) :=
 let (a,b,c,d,e,f,g,h,_):=x; cond (gtI (e.length : Nat) 0) ((idxI e.length 0).bind fun j1=>(e[j1]?).bind fun y2=>(getI c y2).bind fun y3=>(Zj_L13 (a,b,c,d,e,f,g,h,y3,(y3.length : Nat),0,())).bind (Sum.elim (fun (a_5,b_5,c_5,d_5,e_5,f_5,g_5,h_5,_)=>(viewB e_5.length 1 (e_5.length : Nat)).bind fun v6=>some (.inl (a_5,b_5,c_5,d_5,((e_5.drop v6.1).take v6.2),f_5,g_5,h_5,()))) (fun _=>none))) (some (.inr (.inl (a,b,c,d,f,g,h,()))))
def Zj_L10 : Q37→Option (Q27⊕Empty):=loopFix Zj_B10
def Zj_A10 : Ann:={ head:=Zj_H10,exits:=Zj_E10,fn:=Zj_L10 }
def Zj_H4 : Shape:={ env:=[(1,.av (.ptr 1 0)),(3,.av (.own 3)),(4,.av (.val I)),(14,.av (.val I)),(15,.av (.val I))],objs:=[(1,.box [.val I,.val (.slice yQ2),.val yQ3]),(3,.arr .bool)] }
def Zj_E4 : List (Ex×Shape):=[(.exit 0,{ env:=[(4,.av (.val I))],objs:=[] })]
def Zj_B4 (x : Q27) : Option (Q27⊕((Int×Unit)⊕Empty)) :=
 let (a,b,c,d,e,f,g,_):=x; cond (ltI g f) ((idxI d.length g).bind fun j1=>(d[j1]?).bind fun y2=>cond y2 (some (.inl (a,b,c,d,e,f,(addI .i64 g 1),()))) ((idxI d.length g).bind fun j3=>(d[j3]?).bind fun y4=>(Zj_L10 (a,b,c,(d.set j3 true),[g],(addI .i64 e 1),f,g,())).bind (Sum.elim (fun (a_6,b_6,c_6,d_6,e_6,f_6,g_6,_)=>some (.inl (a_6,b_6,c_6,d_6,e_6,f_6,(addI .i64 g_6 1),()))) (fun _=>none)))) (some (.inr (.inl (e,()))))
def Zj_L4 : Q27→Option ((Int×Unit)⊕Empty):=loopFix Zj_B4
def Zj_A4 : Ann:={ head:=Zj_H4,exits:=Zj_E4,fn:=Zj_L4 }
def Zj_As : Anns:=[(4,Zj_A4),(10,Zj_A10),(13,Zj_A13)]
def Zj (x : (Q10×Unit)) : Option (Int×Unit) :=
 let ((a,b,c,_),_):=x; (makeL .bool a a).bind fun m1=>(Zj_L4 (a,b,c,m1,0,a,0,())).bind (Sum.elim (fun z3=>some (z3.1,())) (fun _=>none))
def Zj_c : Con:={ ins:=[(.rd,yQ6)],outs:=[(true,I)],fn:=Zj }
def Zj_C : Ctx:={ tab:=tab,con:=fun | 81,_=>some Zbh_c | _,_=>none,glob:=glob,eqs:=eqs }
theorem Zj_R13 (x : Zj_H13.ty.den) : round Zj_C Zj_As Zj_A13 (loopBody 13 (bodyOf Tryd.f86)) x=Zj_B13 x:=by kernel_rfl
theorem Zj_R10 (x : Zj_H10.ty.den) : round Zj_C Zj_As Zj_A10 (loopBody 10 (bodyOf Tryd.f86)) x=Zj_B10 x:=by kernel_rfl
theorem Zj_R4 (x : Zj_H4.ty.den) : round Zj_C Zj_As Zj_A4 (loopBody 4 (bodyOf Tryd.f86)) x=Zj_B4 x:=by kernel_rfl
theorem Zj_eq (x : (tupTy [yQ6]).den) : callFn Zj_C Zj_As (bodyOf Tryd.f86) [(.rd,yQ6)] [(.tmp 2,true,I)] x=Zj x:=by kernel_rfl
def Zat_H5 : Shape:={ env:=[(1,.av (.ptr 1 0)),(3,.av (.val I)),(13,.av (.val yQ3)),(14,.av (.val I)),(15,.av (.val I))],objs:=[(1,.box [.val I,.val (.slice yQ2),.val yQ3])] }
def Zat_E5 : List (Ex×Shape):=[(.exit 0,{ env:=[(1,.av (.ptr 1 0)),(3,.av (.val I))],objs:=[(1,.box [.val I,.val (.slice yQ2),.val yQ3])] })]
def Zat_B5 (x : Q32) : Option (Q32⊕(Q15⊕Empty)) :=
 let (a,b,c,d,e,f,g,_):=x; cond (ltI g f) ((getI e g).bind fun y1=>cond (eqI (y1.length : Nat) 0) (some (.inl (a,b,c,(addI .i64 d 1),e,f,(addI .i64 g 1),()))) (some (.inl (a,b,c,d,e,f,(addI .i64 g 1),())))) (some (.inr (.inl (a,b,c,d,()))))
def Zat_L5 : Q32→Option (Q15⊕Empty):=loopFix Zat_B5
def Zat_A5 : Ann:={ head:=Zat_H5,exits:=Zat_E5,fn:=Zat_L5 }
def Zat_As : Anns:=[(5,Zat_A5)]
def Zat (x : (Q10×Unit)) : Option (Int×Unit) :=
 let ((a,b,c,_),_):=x; (Zau ((a,b,c,()),())).bind fun r1=>cond (!r1.1) (some ((-1),())) ((Zaw ((a,b,c,()),())).bind fun r2=>(Zat_L5 (a,b,c,(r2.1.length : Nat),c,(c.length : Nat),0,())).bind (Sum.elim (fun z4=>(Zj ((z4.1,z4.2.1,z4.2.2.1,()),())).bind fun r5=>some ((subI .i64 r5.1 (quoI .i64 (addI .i64 (subI .i64 z4.1 (z4.2.1.length : Nat)) z4.2.2.2.1) 2)),())) (fun _=>none)))
def Zat_c : Con:={ ins:=[(.rd,yQ6)],outs:=[(true,I)],fn:=Zat }
def Zat_C : Ctx:={ tab:=tab,con:=fun | 39,_=>some Zaw_c | 64,_=>some Zau_c | 86,_=>some Zj_c | _,_=>none,glob:=glob,eqs:=eqs }
theorem Zat_R5 (x : Zat_H5.ty.den) : round Zat_C Zat_As Zat_A5 (loopBody 5 (bodyOf Tryd.f73)) x=Zat_B5 x:=by kernel_rfl
theorem Zat_eq (x : (tupTy [yQ6]).den) : callFn Zat_C Zat_As (bodyOf Tryd.f73) [(.rd,yQ6)] [(.tmp 2,true,I)] x=Zat x:=by kernel_rfl
def Zbi_H6 : Shape:={ env:=[(1,.av (.ptr 1 0)),(4,.av (.val (.slice I))),(5,.av (.val I)),(10,.av (.val yQ3)),(11,.av (.val I)),(12,.av (.val I)),(16,.av (.val (.slice I))),(17,.av (.val I)),(18,.av (.val I))],objs:=[(1,.box [.val I,.val (.slice yQ2),.val yQ3,.val (.slice I),.val (.slice .str),.val I])] }
def Zbi_E6 : List (Ex×Shape):=[(.ret,{ env:=[(2,.av (.val .bool))],objs:=[] }),(.exit 2,{ env:=[(1,.av (.ptr 1 0)),(4,.av (.val (.slice I))),(5,.av (.val I)),(10,.av (.val yQ3)),(11,.av (.val I)),(12,.av (.val I))],objs:=[(1,.box [.val I,.val (.slice yQ2),.val yQ3,.val (.slice I),.val (.slice .str),.val I])] })]
def Zbi_B6 (x : Q63) : Option (Q63⊕((Bool×Unit)⊕(Q58⊕Empty))) :=
 let (a,b,c,d,e,f,g,h,i,k,l,m,n,o,_):=x; cond (ltI o n) ((getI m o).bind fun y1=>(getI d y1).bind fun y2=>cond (ltI y2 1) (some (.inr (.inl (false,())))) ((getI d y1).bind fun y3=>cond (gtI y3 4) (some (.inr (.inl (false,())))) ((getI d y1).bind fun y4=>some (.inl (a,b,c,d,e,f,g,(addI .i64 h y4),i,k,l,m,n,(addI .i64 o 1),()))))) (some (.inr (.inr (.inl (a,b,c,d,e,f,g,h,i,k,l,())))))
def Zbi_L6 : Q63→Option ((Bool×Unit)⊕(Q58⊕Empty)):=loopFix Zbi_B6
def Zbi_A6 : Ann:={ head:=Zbi_H6,exits:=Zbi_E6,fn:=Zbi_L6 }
def Zbi_H2 : Shape:={ env:=[(1,.av (.ptr 1 0)),(10,.av (.val yQ3)),(11,.av (.val I)),(12,.av (.val I))],objs:=[(1,.box [.val I,.val (.slice yQ2),.val yQ3,.val (.slice I),.val (.slice .str),.val I])] }
def Zbi_E2 : List (Ex×Shape):=[(.ret,{ env:=[(2,.av (.val .bool))],objs:=[] }),(.exit 0,{ env:=[],objs:=[] })]
def Zbi_B2 (x : Q51) : Option (Q51⊕((Bool×Unit)⊕(Unit⊕Empty))) :=
 let (a,b,c,d,e,f,g,h,i,_):=x; cond (ltI i h) ((getI g i).bind fun y1=>(Zbi_L6 (a,b,c,d,e,f,y1,0,g,h,i,y1,(y1.length : Nat),0,())).bind (Sum.elim (fun z3=>some (.inr (.inl (z3.1,())))) (Sum.elim (fun (a_4,b_4,c_4,d_4,e_4,f_4,g_4,h_4,i_4,k_4,l_4,_)=>cond (gtI (g_4.length : Nat) 0) (cond (neI h_4 4) (some (.inr (.inl (false,())))) (some (.inl (a_4,b_4,c_4,d_4,e_4,f_4,i_4,k_4,(addI .i64 l_4 1),())))) (some (.inl (a_4,b_4,c_4,d_4,e_4,f_4,i_4,k_4,(addI .i64 l_4 1),())))) (fun _=>none)))) (some (.inr (.inr (.inl ()))))
def Zbi_L2 : Q51→Option ((Bool×Unit)⊕(Unit⊕Empty)):=loopFix Zbi_B2
def Zbi_A2 : Ann:={ head:=Zbi_H2,exits:=Zbi_E2,fn:=Zbi_L2 }
def Zbi_As : Anns:=[(2,Zbi_A2),(6,Zbi_A6)]
def Zbi (x : (Q11×Unit)) : Option (Bool×Unit) :=
 let (((a,b,c,_),d,e,f,_),_):=x; (Zbi_L2 (a,b,c,d,e,f,c,(c.length : Nat),0,())).bind (Sum.elim (fun z2=>some (z2.1,())) (Sum.elim (fun z3=>some (true,())) (fun _=>none)))
def Zbi_c : Con:={ ins:=[(.rd,yQ9)],outs:=[(true,.bool)],fn:=Zbi }
def Zbi_C : Ctx:={ tab:=tab,con:=fun _ _=>none,glob:=glob,eqs:=eqs }
theorem Zbi_R6 (x : Zbi_H6.ty.den) : round Zbi_C Zbi_As Zbi_A6 (loopBody 6 (bodyOf Tryd.f74)) x=Zbi_B6 x:=by kernel_rfl
theorem Zbi_R2 (x : Zbi_H2.ty.den) : round Zbi_C Zbi_As Zbi_A2 (loopBody 2 (bodyOf Tryd.f74)) x=Zbi_B2 x:=by kernel_rfl
theorem Zbi_eq (x : (tupTy [yQ9]).den) : callFn Zbi_C Zbi_As (bodyOf Tryd.f74) [(.rd,yQ9)] [(.tmp 2,true,.bool)] x=Zbi x:=by kernel_rfl
def Zbg_As : Anns:=[]
def Zbg (x : (Int×Unit)) : Option (Int×Bool×Unit) :=
 cond (eqI x.1 76) (some (82,true,())) (cond (eqI x.1 82) (some (76,true,())) (some (x.1,false,())))
def Zbg_c : Con:={ ins:=[(.rd,(.int .u8))],outs:=[(true,(.int .u8)),(true,.bool)],fn:=Zbg }
def Zbg_C : Ctx:={ tab:=tab,con:=fun _ _=>none,glob:=glob,eqs:=eqs }
theorem Zbg_eq (x : (tupTy [(.int .u8)]).den) : callFn Zbg_C Zbg_As (bodyOf Tryd.f87) [(.rd,(.int .u8))] [(.tmp 2,true,(.int .u8)),(.tmp 3,true,.bool)] x=Zbg x:=by kernel_rfl
def Zbr_H4 : Shape:={ env:=[(11,.av (.own 11)),(12,.av (.val I)),(13,.av (.val I))],objs:=[(11,.arr (.int .u8))] }
def Zbr_E4 : List (Ex×Shape):=[(.ret,{ env:=[(2,.av (.val .bool))],objs:=[] }),(.exit 0,{ env:=[],objs:=[] })]
def Zbr_B4 (x : Q8) : Option (Q8⊕((Bool×Unit)⊕(Unit⊕Empty))) :=
 let (a,b,c,_):=x; cond (ltI c b) ((idxI a.length c).bind fun j1=>(a[j1]?).bind fun y2=>(Zbg (y2,())).bind fun r3=>cond (!r3.2.1) (some (.inr (.inl (false,())))) (some (.inl (a,b,(addI .i64 c 1),())))) (some (.inr (.inr (.inl ()))))
def Zbr_L4 : Q8→Option ((Bool×Unit)⊕(Unit⊕Empty)):=loopFix Zbr_B4
def Zbr_A4 : Ann:={ head:=Zbr_H4,exits:=Zbr_E4,fn:=Zbr_L4 }
def Zbr_As : Anns:=[(4,Zbr_A4)]
def Zbr (x : Q3) : Option (Bool×Unit) :=
 cond (gtI (x.1.size : Nat) 64) (some (false,())) ((Zbr_L4 ((bytesOf x.1),((bytesOf x.1).length : Nat),0,())).bind (Sum.elim (fun z2=>some (z2.1,())) (Sum.elim (fun z3=>some (true,())) (fun _=>none))))
def Zbr_c : Con:={ ins:=[(.rd,.str)],outs:=[(true,.bool)],fn:=Zbr }
def Zbr_C : Ctx:={ tab:=tab,con:=fun | 87,_=>some Zbg_c | _,_=>none,glob:=glob,eqs:=eqs }
theorem Zbr_R4 (x : Zbr_H4.ty.den) : round Zbr_C Zbr_As Zbr_A4 (loopBody 4 (bodyOf Tryd.f75)) x=Zbr_B4 x:=by kernel_rfl
theorem Zbr_eq (x : (tupTy [.str]).den) : callFn Zbr_C Zbr_As (bodyOf Tryd.f75) [(.rd,.str)] [(.tmp 2,true,.bool)] x=Zbr x:=by kernel_rfl
def Zi_H1 : Shape:={ env:=[(0,.av (.own 0)),(2,.av (.val I)),(3,.av (.val I))],objs:=[(0,.arr (.int .u8))],pins:=[0] }
def Zi_E1 : List (Ex×Shape):=[(.exit 0,{ env:=[(0,.av (.own 0))],objs:=[(0,.arr (.int .u8))],pins:=[0] })]
def Zi_B1 (x : Q8) : Option (Q8⊕(Q1⊕Empty)) :=
 let (a,b,c,_):=x; cond (ltI b c) ((idxI a.length c).bind fun j1=>(a[j1]?).bind fun y2=>(idxI a.length b).bind fun j3=>(a[j3]?).bind fun y4=>(idxI a.length b).bind fun j5=>(a[j5]?).bind fun y6=>(idxI (a.set j5 y2).length c).bind fun j7=>((a.set j5 y2)[j7]?).bind fun y8=>some (.inl (((a.set j5 y2).set j7 y4),(addI .i64 b 1),(subI .i64 c 1),()))) (some (.inr (.inl (a,()))))
def Zi_L1 : Q8→Option (Q1⊕Empty):=loopFix Zi_B1
def Zi_A1 : Ann:={ head:=Zi_H1,exits:=Zi_E1,fn:=Zi_L1 }
def Zi_As : Anns:=[(1,Zi_A1)]
def Zi (x : Q1) : Option Q1 :=
 (Zi_L1 (x.1,0,(subI .i64 (x.1.length : Nat) 1),())).bind (Sum.elim (fun z2=>some (z2.1,())) (fun _=>none))
def Zi_c : Con:={ ins:=[(.upd,(.slice (.int .u8)))],outs:=[],fn:=Zi }
def Zi_C : Ctx:={ tab:=tab,con:=fun _ _=>none,glob:=glob,eqs:=eqs }
theorem Zi_R1 (x : Zi_H1.ty.den) : round Zi_C Zi_As Zi_A1 (loopBody 1 (bodyOf Tryd.f88)) x=Zi_B1 x:=by kernel_rfl
theorem Zi_eq (x : (tupTy [(.slice (.int .u8))]).den) : callFn Zi_C Zi_As (bodyOf Tryd.f88) [(.upd,(.slice (.int .u8)))] [] x=Zi x:=by kernel_rfl
def Zbd_H4 : Shape:={ env:=[(3,.av (.own 3)),(10,.av (.own 3)),(11,.av (.val I)),(12,.av (.val I))],objs:=[(3,.arr (.int .u8))] }
def Zbd_E4 : List (Ex×Shape):=[(.exit 0,{ env:=[(3,.av (.own 3))],objs:=[(3,.arr (.int .u8))] })]
def Zbd_B4 (x : Q8) : Option (Q8⊕(Q1⊕Empty)) :=
 let (a,b,c,_):=x; cond (ltI c b) ((idxI a.length c).bind fun j1=>(a[j1]?).bind fun y2=>(Zbg (y2,())).bind fun r3=>(idxI a.length c).bind fun j4=>(a[j4]?).bind fun y5=>some (.inl ((a.set j4 r3.1),b,(addI .i64 c 1),()))) (some (.inr (.inl (a,()))))
def Zbd_L4 : Q8→Option (Q1⊕Empty):=loopFix Zbd_B4
def Zbd_A4 : Ann:={ head:=Zbd_H4,exits:=Zbd_E4,fn:=Zbd_L4 }
def Zbd_As : Anns:=[(4,Zbd_A4)]
def Zbd (x : Q3) : Option Q3 :=
 (Zi ((bytesOf x.1),())).bind fun r1=>(Zbd_L4 (r1.1,(r1.1.length : Nat),0,())).bind (Sum.elim (fun z3=>some ((ofBytes z3.1),())) (fun _=>none))
def Zbd_c : Con:={ ins:=[(.rd,.str)],outs:=[(true,.str)],fn:=Zbd }
def Zbd_C : Ctx:={ tab:=tab,con:=fun | 87,_=>some Zbg_c | 88,_=>some Zi_c | _,_=>none,glob:=glob,eqs:=eqs }
theorem Zbd_R4 (x : Zbd_H4.ty.den) : round Zbd_C Zbd_As Zbd_A4 (loopBody 4 (bodyOf Tryd.f76)) x=Zbd_B4 x:=by kernel_rfl
theorem Zbd_eq (x : (tupTy [.str]).den) : callFn Zbd_C Zbd_As (bodyOf Tryd.f76) [(.rd,.str)] [(.tmp 2,true,.str)] x=Zbd x:=by kernel_rfl
def Zad_H2 : Shape:={ env:=[(0,.av (.val (.slice I))),(1,.av (.val I)),(7,.av (.val I)),(8,.av (.val I))],objs:=[] }
def Zad_E2 : List (Ex×Shape):=[(.ret,{ env:=[(4,.av (.val I))],objs:=[] }),(.exit 0,{ env:=[],objs:=[] })]
def Zad_B2 (x : Q9) : Option (Q9⊕((Int×Unit)⊕(Unit⊕Empty))) :=
 let (a,b,c,d,_):=x; cond (ltI d c) ((getI a d).bind fun y1=>cond (eqI b y1) (some (.inr (.inl (d,())))) (some (.inl (a,b,c,(addI .i64 d 1),())))) (some (.inr (.inr (.inl ()))))
def Zad_L2 : Q9→Option ((Int×Unit)⊕(Unit⊕Empty)):=loopFix Zad_B2
def Zad_A2 : Ann:={ head:=Zad_H2,exits:=Zad_E2,fn:=Zad_L2 }
def Zad_As : Anns:=[(2,Zad_A2)]
def Zad (x : Q4) : Option (Int×Unit) :=
 (Zad_L2 (x.1,x.2.1,(x.1.length : Nat),0,())).bind (Sum.elim (fun z2=>some (z2.1,())) (Sum.elim (fun z3=>some ((-1),())) (fun _=>none)))
def Zad_c : Con:={ ins:=[(.rd,(.slice I)),(.rd,I)],outs:=[(true,I)],fn:=Zad }
def Zad_C : Ctx:={ tab:=tab,con:=fun _ _=>none,glob:=glob,eqs:=eqs }
theorem Zad_R2 (x : Zad_H2.ty.den) : round Zad_C Zad_As Zad_A2 (loopBody 2 (bodyOf Tryd.f66)) x=Zad_B2 x:=by kernel_rfl
theorem Zad_eq (x : (tupTy [(.slice I),I]).den) : callFn Zad_C Zad_As (bodyOf Tryd.f66) [(.rd,(.slice I)),(.rd,I)] [(.tmp 4,true,I)] x=Zad x:=by kernel_rfl
def Zk_As : Anns:=[]
def Zk (x : Q4) : Option (Bool×Unit) :=
 (Zad (x.1,x.2.1,())).bind fun r1=>some ((geI r1.1 0),())
def Zk_c : Con:={ ins:=[(.rd,(.slice I)),(.rd,I)],outs:=[(true,.bool)],fn:=Zk }
def Zk_C : Ctx:={ tab:=tab,con:=fun | 66,_=>some Zad_c | _,_=>none,glob:=glob,eqs:=eqs }
theorem Zk_eq (x : (tupTy [(.slice I),I]).den) : callFn Zk_C Zk_As (bodyOf Tryd.f40) [(.rd,(.slice I)),(.rd,I)] [(.tmp 4,true,.bool)] x=Zk x:=by kernel_rfl
def Zbs_H3 : Shape:={ env:=[(5,.av (.val I)),(20,.av (.own 20)),(21,.av (.val I)),(22,.av (.val I))],objs:=[(20,.arr (.int .u8))] }
def Zbs_E3 : List (Ex×Shape):=[(.exit 0,{ env:=[(5,.av (.val I))],objs:=[] })]
def Zbs_B3 (x : Q9) : Option (Q9⊕((Int×Unit)⊕Empty)) :=
 let (a,b,c,d,_):=x; cond (ltI d c) ((idxI a.length d).bind fun j1=>(a[j1]?).bind fun y2=>cond (eqI y2 76) (some (.inl (a,(addI .i64 b 1),c,(addI .i64 d 1),()))) (some (.inl (a,(subI .i64 b 1),c,(addI .i64 d 1),())))) (some (.inr (.inl (b,()))))
def Zbs_L3 : Q9→Option ((Int×Unit)⊕Empty):=loopFix Zbs_B3
def Zbs_A3 : Ann:={ head:=Zbs_H3,exits:=Zbs_E3,fn:=Zbs_L3 }
def Zbs_As : Anns:=[(3,Zbs_A3)]
def Zbs (x : (Q11×Int×Unit)) : Option (Int×Unit) :=
 (getI x.1.2.1 (xorI .i64 x.2.1 1)).bind fun y1=>(getI x.1.2.2.1 x.2.1).bind fun y2=>(Zbs_L3 ((bytesOf y2),(subI .i64 2 y1),((bytesOf y2).length : Nat),0,())).bind (Sum.elim (fun z4=>some (z4.1,())) (fun _=>none))
def Zbs_c : Con:={ ins:=[(.rd,yQ9),(.rd,I)],outs:=[(true,I)],fn:=Zbs }
def Zbs_C : Ctx:={ tab:=tab,con:=fun _ _=>none,glob:=glob,eqs:=eqs }
theorem Zbs_R3 (x : Zbs_H3.ty.den) : round Zbs_C Zbs_As Zbs_A3 (loopBody 3 (bodyOf Tryd.f89)) x=Zbs_B3 x:=by kernel_rfl
theorem Zbs_eq (x : (tupTy [yQ9,I]).den) : callFn Zbs_C Zbs_As (bodyOf Tryd.f89) [(.rd,yQ9),(.rd,I)] [(.tmp 4,true,I)] x=Zbs x:=by kernel_rfl
def Zbl_H3 : Shape:={ env:=[(2,.av (.ptr 2 0)),(5,.av (.val I)),(8,.av (.val (.slice I))),(9,.av (.val I)),(10,.av (.val I))],objs:=[(2,.box [.val I,.val (.slice yQ2),.val yQ3,.val (.slice I),.val (.slice .str),.val I])] }
def Zbl_E3 : List (Ex×Shape):=[(.exit 0,{ env:=[(5,.av (.val I))],objs:=[] })]
def Zbl_B3 (x : Q48) : Option (Q48⊕((Int×Unit)⊕Empty)) :=
 let (a,b,c,d,e,f,g,h,i,k,_):=x; cond (ltI k i) ((getI h k).bind fun y1=>(Zbs (((a,b,c,()),d,e,f,()),y1,())).bind fun r2=>some (.inl (a,b,c,d,e,f,(addI .i64 g r2.1),h,i,(addI .i64 k 1),()))) (some (.inr (.inl (g,()))))
def Zbl_L3 : Q48→Option ((Int×Unit)⊕Empty):=loopFix Zbl_B3
def Zbl_A3 : Ann:={ head:=Zbl_H3,exits:=Zbl_E3,fn:=Zbl_L3 }
def Zbl_As : Anns:=[(3,Zbl_A3)]
def Zbl (x : (Q11×List Int×Unit)) : Option (Int×Unit) :=
 let (((a,b,c,_),d,e,f,_),g,_):=x; (Zbl_L3 (a,b,c,d,e,f,0,g,(g.length : Nat),0,())).bind (Sum.elim (fun z2=>some (z2.1,())) (fun _=>none))
def Zbl_c : Con:={ ins:=[(.rd,yQ9),(.rd,(.slice I))],outs:=[(true,I)],fn:=Zbl }
def Zbl_C : Ctx:={ tab:=tab,con:=fun | 89,_=>some Zbs_c | _,_=>none,glob:=glob,eqs:=eqs }
theorem Zbl_R3 (x : Zbl_H3.ty.den) : round Zbl_C Zbl_As Zbl_A3 (loopBody 3 (bodyOf Tryd.f77)) x=Zbl_B3 x:=by kernel_rfl
theorem Zbl_eq (x : (tupTy [yQ9,(.slice I)]).den) : callFn Zbl_C Zbl_As (bodyOf Tryd.f77) [(.rd,yQ9),(.rd,(.slice I))] [(.tmp 4,true,I)] x=Zbl x:=by kernel_rfl
def Zbq_H13 : Shape:={ env:=[(1,.av (.ptr 1 0)),(85,.av (.own 85)),(86,.av (.val I)),(87,.av (.val I))],objs:=[(1,.box [.val I,.val (.slice yQ2),.val yQ3,.val (.slice I),.val (.slice .str),.val I]),(85,.arr (.slice I))] }
def Zbq_E13 : List (Ex×Shape):=[(.ret,{ env:=[(2,.av (.val .bool))],objs:=[] }),(.exit 2,{ env:=[],objs:=[] })]
def Zbq_B13 (x : Q51) : Option (Q51⊕((Bool×Unit)⊕(Unit⊕Empty))) :=
 let (a,b,c,d,e,f,g,h,i,_):=x; cond (ltI i h) ((idxI g.length i).bind fun j1=>(g[j1]?).bind fun y2=>(Zk (y2,f,())).bind fun r3=>cond r3.1 ((Zbl (((a,b,c,()),d,e,f,()),y2,())).bind fun r4=>cond (neI r4.1 (-4)) (some (.inr (.inl (false,())))) (some (.inl (a,b,c,d,e,f,g,h,(addI .i64 i 1),())))) ((Zbl (((a,b,c,()),d,e,f,()),y2,())).bind fun r5=>cond (neI r5.1 4) (some (.inr (.inl (false,())))) (some (.inl (a,b,c,d,e,f,g,h,(addI .i64 i 1),()))))) (some (.inr (.inr (.inl ()))))
def Zbq_L13 : Q51→Option ((Bool×Unit)⊕(Unit⊕Empty)):=loopFix Zbq_B13
def Zbq_A13 : Ann:={ head:=Zbq_H13,exits:=Zbq_E13,fn:=Zbq_L13 }
def Zbq_H8 : Shape:={ env:=[(1,.av (.ptr 1 0)),(3,.av (.ptr 3 0)),(4,.av (.val I)),(5,.av (.val I))],objs:=[(1,.box [.val I,.val (.slice yQ2),.val yQ3,.val (.slice I),.val (.slice .str),.val I]),(3,.box [.val I,.val (.slice yQ2),.val yQ3])] }
def Zbq_E8 : List (Ex×Shape):=[(.ret,{ env:=[(2,.av (.val .bool))],objs:=[] }),(.exit 0,{ env:=[(1,.av (.ptr 1 0)),(3,.av (.ptr 3 0))],objs:=[(1,.box [.val I,.val (.slice yQ2),.val yQ3,.val (.slice I),.val (.slice .str),.val I]),(3,.box [.val I,.val (.slice yQ2),.val yQ3])] })]
def Zbq_B8 (x : Q59) : Option (Q59⊕((Bool×Unit)⊕(Q52⊕Empty))) :=
 let (a,b,c,d,e,f,g,h,i,k,l,_):=x; cond (ltI l k) ((getI e l).bind fun y1=>(Zbr (y1,())).bind fun r2=>cond (!r2.1) (some (.inr (.inl (false,())))) ((getI e (addI .i64 l 1)).bind fun y3=>(getI e l).bind fun y4=>(Zbd (y4,())).bind fun r5=>cond (neS y3 r5.1) (some (.inr (.inl (false,())))) (some (.inl (a,b,c,d,e,f,g,h,i,k,(addI .i64 l 2),()))))) (some (.inr (.inr (.inl (a,b,c,d,e,f,g,h,i,())))))
def Zbq_L8 : Q59→Option ((Bool×Unit)⊕(Q52⊕Empty)):=loopFix Zbq_B8
def Zbq_A8 : Ann:={ head:=Zbq_H8,exits:=Zbq_E8,fn:=Zbq_L8 }
def Zbq_As : Anns:=[(8,Zbq_A8),(13,Zbq_A13)]
def Zbq (x : (Q11×Unit)) : Option (Bool×Unit) :=
 let (((a,b,c,_),d,e,f,_),_):=x; (Zau ((a,b,c,()),())).bind fun r1=>cond (!r1.1) (some (false,())) ((Zan ((a,b,c,()),())).bind fun r2=>cond (!r2.1) (some (false,())) ((Zat ((a,b,c,()),())).bind fun r3=>cond (neI r3.1 0) (some (false,())) (cond (neI (d.length : Nat) (mulI .i64 2 (b.length : Nat))) (some (false,())) (cond (neI (e.length : Nat) (mulI .i64 2 (b.length : Nat))) (some (false,())) (cond (ltI f 0) (some (false,())) (cond (geI f (maxI (mulI .i64 2 (b.length : Nat)) 1)) (some (false,())) ((Zbi (((a,b,c,()),d,e,f,()),())).bind fun r4=>cond (!r4.1) (some (false,())) ((Zbq_L8 (a,b,c,d,e,f,a,b,c,(mulI .i64 2 (b.length : Nat)),0,())).bind (Sum.elim (fun z6=>some (z6.1,())) (Sum.elim (fun (a_7,b_7,c_7,d_7,e_7,f_7,g_7,h_7,i_7,_)=>(Zaw ((g_7,h_7,i_7,()),())).bind fun r8=>(Zbq_L13 (a_7,b_7,c_7,d_7,e_7,f_7,r8.1,(r8.1.length : Nat),0,())).bind (Sum.elim (fun z10=>some (z10.1,())) (Sum.elim (fun z11=>some (true,())) (fun _=>none)))) (fun _=>none)))))))))))
def Zbq_c : Con:={ ins:=[(.rd,yQ9)],outs:=[(true,.bool)],fn:=Zbq }
def Zbq_C : Ctx:={ tab:=tab,con:=fun | 39,_=>some Zaw_c | 40,_=>some Zk_c | 64,_=>some Zau_c | 72,_=>some Zan_c | 73,_=>some Zat_c | 74,_=>some Zbi_c | 75,_=>some Zbr_c | 76,_=>some Zbd_c | 77,_=>some Zbl_c | _,_=>none,glob:=glob,eqs:=eqs }
theorem Zbq_R13 (x : Zbq_H13.ty.den) : round Zbq_C Zbq_As Zbq_A13 (loopBody 13 (bodyOf Tryd.f50)) x=Zbq_B13 x:=by kernel_rfl
theorem Zbq_R8 (x : Zbq_H8.ty.den) : round Zbq_C Zbq_As Zbq_A8 (loopBody 8 (bodyOf Tryd.f50)) x=Zbq_B8 x:=by kernel_rfl
theorem Zbq_eq (x : (tupTy [yQ9]).den) : callFn Zbq_C Zbq_As (bodyOf Tryd.f50) [(.rd,yQ9)] [(.tmp 2,true,.bool)] x=Zbq x:=by kernel_rfl
def Zbo_As : Anns:=[]
def Zbo (x : (Q11×Unit)) : Option (Int×Unit) :=
 let (((a,b,c,_),d,e,f,_),_):=x; (Zbq (((a,b,c,()),d,e,f,()),())).bind fun r1=>cond (!r1.1) (some (13,())) (some (0,()))
def Zbo_c : Con:={ ins:=[(.rd,yQ9)],outs:=[(true,I)],fn:=Zbo }
def Zbo_C : Ctx:={ tab:=tab,con:=fun | 50,_=>some Zbq_c | _,_=>none,glob:=glob,eqs:=eqs }
theorem Zbo_eq (x : (tupTy [yQ9]).den) : callFn Zbo_C Zbo_As (bodyOf Tryd.f25) [(.rd,yQ9)] [(.tmp 2,true,I)] x=Zbo x:=by kernel_rfl
def Zaz_H8 : Shape:={ env:=[(3,.av (.ptr 3 0)),(7,.av (.own 7)),(9,.av (.val (.slice I))),(15,.av (.val yQ3)),(16,.av (.val I)),(17,.av (.val I)),(55,.av (.ownm 55))],objs:=[(3,.box [.val I,.val (.slice yQ2),.val yQ3,.val (.slice I),.val (.slice .str),.val I]),(7,.arr I),(55,.map .unit (.prod .str I))] }
def Zaz_E8 : List (Ex×Shape):=[(.exit 2,{ env:=[(3,.av (.ptr 3 0)),(7,.av (.own 7)),(15,.av (.val yQ3)),(16,.av (.val I)),(17,.av (.val I))],objs:=[(3,.box [.val I,.val (.slice yQ2),.val yQ3,.val (.slice I),.val (.slice .str),.val I]),(7,.arr I)] })]
def Zaz_B8 (x : Q61) : Option (Q61⊕(Q55⊕Empty)) :=
 let (a,b,c,d,e,f,g,h,i,k,l,m,_):=x; (itOf .unit (.prod .str I) h).bind fun q1=>cond (itMore q1) ((getI i q1.2).bind fun y2=>(getI i (addI .i64 q1.2 1)).bind fun y3=>(idxI g.length (addI .i64 y2 1)).bind fun j4=>(g[j4]?).bind fun y5=>(idxI (g.set j4 1).length y3).bind fun j6=>((g.set j4 1)[j6]?).bind fun y7=>cond (eqI (itRune q1) 82) ((getI i q1.2).bind fun y8=>(getI i (addI .i64 q1.2 1)).bind fun y9=>(idxI ((g.set j4 1).set j6 3).length (addI .i64 y8 1)).bind fun j10=>(((g.set j4 1).set j6 3)[j10]?).bind fun y11=>(idxI (((g.set j4 1).set j6 3).set j10 3).length y9).bind fun j12=>((((g.set j4 1).set j6 3).set j10 3)[j12]?).bind fun y13=>some (.inl (a,b,c,d,e,f,((((g.set j4 1).set j6 3).set j10 3).set j12 1),[((),itNext q1)],i,k,l,m,()))) (some (.inl (a,b,c,d,e,f,((g.set j4 1).set j6 3),[((),itNext q1)],i,k,l,m,())))) (some (.inr (.inl (a,b,c,d,e,f,g,k,l,m,()))))
def Zaz_L8 : Q61→Option (Q55⊕Empty):=loopFix Zaz_B8
def Zaz_A8 : Ann:={ head:=Zaz_H8,exits:=Zaz_E8,fn:=Zaz_L8 }
def Zaz_H3 : Shape:={ env:=[(3,.av (.ptr 3 0)),(7,.av (.own 7)),(15,.av (.val yQ3)),(16,.av (.val I)),(17,.av (.val I))],objs:=[(3,.box [.val I,.val (.slice yQ2),.val yQ3,.val (.slice I),.val (.slice .str),.val I]),(7,.arr I)] }
def Zaz_E3 : List (Ex×Shape):=[(.exit 0,{ env:=[(7,.av (.own 7))],objs:=[(7,.arr I)] })]
def Zaz_B3 (x : Q55) : Option (Q55⊕(Q1⊕Empty)) :=
 let (a,b,c,d,e,f,g,h,i,k,_):=x; cond (ltI k i) ((getI h k).bind fun y1=>(getI y1 0).bind fun y2=>(getI d (mulI .i64 2 k)).bind fun y3=>(idxI g.length y2).bind fun j4=>(g[j4]?).bind fun y5=>(getI y1 (subI .i64 (y1.length : Nat) 1)).bind fun y6=>(getI d (addI .i64 (mulI .i64 2 k) 1)).bind fun y7=>(idxI (g.set j4 y3).length (addI .i64 y6 1)).bind fun j8=>((g.set j4 y3)[j8]?).bind fun y9=>(getI e (mulI .i64 2 k)).bind fun y10=>(Zaz_L8 (a,b,c,d,e,f,((g.set j4 y3).set j8 y7),[((),y10,0)],y1,h,i,k,())).bind (Sum.elim (fun (a_12,b_12,c_12,d_12,e_12,f_12,g_12,h_12,i_12,k_12,_)=>some (.inl (a_12,b_12,c_12,d_12,e_12,f_12,g_12,h_12,i_12,(addI .i64 k_12 1),()))) (fun _=>none))) (some (.inr (.inl (g,()))))
def Zaz_L3 : Q55→Option (Q1⊕Empty):=loopFix Zaz_B3
def Zaz_A3 : Ann:={ head:=Zaz_H3,exits:=Zaz_E3,fn:=Zaz_L3 }
def Zaz_As : Anns:=[(3,Zaz_A3),(8,Zaz_A8)]
def Zaz (x : (Q11×(List (List Int))×Int×Unit)) : Option Q1 :=
 let (((a,b,c,_),d,e,f,_),g,h,_):=x; (makeL I (mulI .i64 2 h) (mulI .i64 2 h)).bind fun m1=>(Zaz_L3 (a,b,c,d,e,f,m1,g,(g.length : Nat),0,())).bind (Sum.elim (fun z3=>some (z3.1,())) (fun _=>none))
def Zaz_c : Con:={ ins:=[(.rd,yQ9),(.rd,yQ3),(.rd,I)],outs:=[(true,(.slice I))],fn:=Zaz }
def Zaz_C : Ctx:={ tab:=tab,con:=fun _ _=>none,glob:=glob,eqs:=eqs }
theorem Zaz_R8 (x : Zaz_H8.ty.den) : round Zaz_C Zaz_As Zaz_A8 (loopBody 8 (bodyOf Tryd.f26)) x=Zaz_B8 x:=by kernel_rfl
theorem Zaz_R3 (x : Zaz_H3.ty.den) : round Zaz_C Zaz_As Zaz_A3 (loopBody 3 (bodyOf Tryd.f26)) x=Zaz_B3 x:=by kernel_rfl
theorem Zaz_eq (x : (tupTy [yQ9,yQ3,I]).den) : callFn Zaz_C Zaz_As (bodyOf Tryd.f26) [(.rd,yQ9),(.rd,yQ3),(.rd,I)] [(.tmp 6,true,(.slice I))] x=Zaz x:=by kernel_rfl
def Zf_As : Anns:=[]
def Zf (x : (Int×(List (List Int))×Unit)) : Option (Int×Unit) :=
 let (a,b,_):=x; cond (eqI (remI a 2) 0) ((getI b (quoI .i64 a 2)).bind fun y1=>(getI y1 0).bind fun y2=>some (y2,())) ((getI b (quoI .i64 a 2)).bind fun y3=>(getI b (quoI .i64 a 2)).bind fun y4=>(getI y3 (subI .i64 (y4.length : Nat) 1)).bind fun y5=>some ((addI .i64 y5 1),()))
def Zf_c : Con:={ ins:=[(.rd,I),(.rd,(.ptr yQ3))],outs:=[(true,I)],fn:=Zf }
def Zf_C : Ctx:={ tab:=tab,con:=fun _ _=>none,glob:=glob,eqs:=eqs }
theorem Zf_eq (x : (tupTy [I,(.ptr yQ3)]).den) : callFn Zf_C Zf_As (bodyOf Tryd.f27) [(.rd,I),(.rd,(.ptr yQ3))] [(.tmp 3,true,I)] x=Zf x:=by kernel_rfl
def Zo_H31 : Shape:={ env:=[(1,.av (.ptr 1 0)),(2,.av (.ptr 2 0)),(5,.av (.ptr 5 0)),(6,.av (.ptr 6 0)),(7,.av (.own 7)),(14,.av (.clo 27 [6])),(17,.av (.own 17)),(123,.av (.val yQ3)),(124,.av (.val I)),(125,.av (.val I)),(129,.av (.val (.slice I))),(130,.av (.val I)),(131,.av (.val I))],objs:=[(1,.box [.val I,.val (.slice yQ2),.val yQ3,.val (.slice I),.val (.slice .str),.val I]),(2,.box [.val I,.nils,.nils,.nils,.nils,.val I]),(5,.box [.val I,.own 600001,.own 600002,.own 600003,.nils,.val I]),(6,.box [.own 700000]),(7,.arr (.slice I)),(17,.arr I),(600001,.arr yQ2),(600002,.arr (.slice I)),(600003,.arr I),(700000,.arr (.slice I))] }
def Zo_E31 : List (Ex×Shape):=[(.exit 6,{ env:=[(1,.av (.ptr 1 0)),(2,.av (.ptr 2 0)),(5,.av (.ptr 5 0)),(6,.av (.ptr 6 0)),(7,.av (.own 7)),(14,.av (.clo 27 [6])),(17,.av (.own 17)),(123,.av (.val yQ3)),(124,.av (.val I)),(125,.av (.val I))],objs:=[(1,.box [.val I,.val (.slice yQ2),.val yQ3,.val (.slice I),.val (.slice .str),.val I]),(2,.box [.val I,.nils,.nils,.nils,.nils,.val I]),(5,.box [.val I,.own 600001,.own 600002,.own 600003,.nils,.val I]),(6,.box [.own 700000]),(7,.arr (.slice I)),(17,.arr I),(600001,.arr yQ2),(600002,.arr (.slice I)),(600003,.arr I),(700000,.arr (.slice I))] })]
def Zo_B31 (x : Q81) : Option (Q81⊕(Q80⊕Empty)) :=
 cond (ltI x.2.2.2.2.2.2.2.2.2.2.2.2.2.2.2.2.2.2.2.2.2.1 x.2.2.2.2.2.2.2.2.2.2.2.2.2.2.2.2.2.2.2.2.1) ((getI x.2.2.2.2.2.2.2.2.2.2.2.2.2.2.2.2.2.2.2.1 x.2.2.2.2.2.2.2.2.2.2.2.2.2.2.2.2.2.2.2.2.2.1).bind fun y1=>(Zf (y1,x.2.2.2.2.2.2.2.2.2.2.2.2.2.2.2.1,())).bind fun r2=>(app x.2.2.2.2.2.2.2.2.2.2.2.1 [r2.1]).bind fun a3=>some (.inl (x.1,x.2.1,x.2.2.1,x.2.2.2.1,x.2.2.2.2.1,x.2.2.2.2.2.1,x.2.2.2.2.2.2.1,x.2.2.2.2.2.2.2.1,x.2.2.2.2.2.2.2.2.1,x.2.2.2.2.2.2.2.2.2.1,x.2.2.2.2.2.2.2.2.2.2.1,a3,x.2.2.2.2.2.2.2.2.2.2.2.2.1,x.2.2.2.2.2.2.2.2.2.2.2.2.2.1,x.2.2.2.2.2.2.2.2.2.2.2.2.2.2.1,x.2.2.2.2.2.2.2.2.2.2.2.2.2.2.2.1,x.2.2.2.2.2.2.2.2.2.2.2.2.2.2.2.2.1,x.2.2.2.2.2.2.2.2.2.2.2.2.2.2.2.2.2.1,x.2.2.2.2.2.2.2.2.2.2.2.2.2.2.2.2.2.2.1,x.2.2.2.2.2.2.2.2.2.2.2.2.2.2.2.2.2.2.2.1,x.2.2.2.2.2.2.2.2.2.2.2.2.2.2.2.2.2.2.2.2.1,(addI .i64 x.2.2.2.2.2.2.2.2.2.2.2.2.2.2.2.2.2.2.2.2.2.1 1),()))) (some (.inr (.inl (x.1,x.2.1,x.2.2.1,x.2.2.2.1,x.2.2.2.2.1,x.2.2.2.2.2.1,x.2.2.2.2.2.2.1,x.2.2.2.2.2.2.2.1,x.2.2.2.2.2.2.2.2.1,x.2.2.2.2.2.2.2.2.2.1,x.2.2.2.2.2.2.2.2.2.2.1,x.2.2.2.2.2.2.2.2.2.2.2.1,x.2.2.2.2.2.2.2.2.2.2.2.2.1,x.2.2.2.2.2.2.2.2.2.2.2.2.2.1,x.2.2.2.2.2.2.2.2.2.2.2.2.2.2.1,x.2.2.2.2.2.2.2.2.2.2.2.2.2.2.2.1,x.2.2.2.2.2.2.2.2.2.2.2.2.2.2.2.2.1,x.2.2.2.2.2.2.2.2.2.2.2.2.2.2.2.2.2.1,x.2.2.2.2.2.2.2.2.2.2.2.2.2.2.2.2.2.2.1,()))))
def Zo_L31 : Q81→Option (Q80⊕Empty):=loopFix Zo_B31
def Zo_A31 : Ann:={ head:=Zo_H31,exits:=Zo_E31,fn:=Zo_L31 }
def Zo_H27 : Shape:={ env:=[(1,.av (.ptr 1 0)),(2,.av (.ptr 2 0)),(5,.av (.ptr 5 0)),(6,.av (.ptr 6 0)),(7,.av (.own 7)),(14,.av (.clo 27 [6])),(123,.av (.val yQ3)),(124,.av (.val I)),(125,.av (.val I))],objs:=[(1,.box [.val I,.val (.slice yQ2),.val yQ3,.val (.slice I),.val (.slice .str),.val I]),(2,.box [.val I,.nils,.nils,.nils,.nils,.val I]),(5,.box [.val I,.own 600001,.own 600002,.own 600003,.nils,.val I]),(6,.box [.own 700000]),(7,.arr (.slice I)),(600001,.arr yQ2),(600002,.arr (.slice I)),(600003,.arr I),(700000,.arr (.slice I))] }
def Zo_E27 : List (Ex×Shape):=[(.exit 4,{ env:=[(1,.av (.ptr 1 0)),(2,.av (.ptr 2 0)),(5,.av (.ptr 5 0)),(6,.av (.ptr 6 0)),(7,.av (.own 7)),(14,.av (.clo 27 [6]))],objs:=[(1,.box [.val I,.val (.slice yQ2),.val yQ3,.val (.slice I),.val (.slice .str),.val I]),(2,.box [.val I,.nils,.nils,.nils,.nils,.val I]),(5,.box [.val I,.own 600001,.own 600002,.own 600003,.nils,.val I]),(6,.box [.own 700000]),(7,.arr (.slice I)),(600001,.arr yQ2),(600002,.arr (.slice I)),(600003,.arr I),(700000,.arr (.slice I))] })]
def Zo_B27 (x : Q76) : Option (Q76⊕(Q70⊕Empty)) :=
 let (a,b,c,d,e,f,g,h,i,k,l,m,n,o,p,q,s,t,_):=x; cond (ltI t s) ((getI q t).bind fun y1=>(Zo_L31 (a,b,c,d,e,f,g,h,i,k,l,[],m,n,o,p,q,s,t,y1,(y1.length : Nat),0,())).bind (Sum.elim (fun (a_3,b_3,c_3,d_3,e_3,f_3,g_3,h_3,i_3,k_3,l_3,m_3,n_3,o_3,p_3,q_3,s_3,t_3,u_3,_)=>(app o_3 [m_3]).bind fun a4=>some (.inl (a_3,b_3,c_3,d_3,e_3,f_3,g_3,h_3,i_3,k_3,l_3,n_3,a4,p_3,q_3,s_3,t_3,(addI .i64 u_3 1),()))) (fun _=>none))) (some (.inr (.inl (a,b,c,d,e,f,g,h,i,k,l,m,n,o,p,()))))
def Zo_L27 : Q76→Option (Q70⊕Empty):=loopFix Zo_B27
def Zo_A27 : Ann:={ head:=Zo_H27,exits:=Zo_E27,fn:=Zo_L27 }
def Zo_H12 : Shape:={ env:=[(1,.av (.ptr 1 0)),(2,.av (.ptr 2 0)),(5,.av (.ptr 5 0)),(6,.av (.ptr 6 0)),(7,.av (.own 7)),(9,.av (.ptr 9 0)),(10,.av (.val I)),(11,.av (.own 11)),(31,.av (.val (.slice yQ2))),(32,.av (.val I)),(33,.av (.val I)),(46,.av (.ownm 46))],objs:=[(1,.box [.val I,.val (.slice yQ2),.val yQ3,.val (.slice I),.val (.slice .str),.val I]),(2,.box [.val I,.nils,.nils,.nils,.nils,.val I]),(5,.box [.val I,.own 600001,.nils,.nils,.nils,.val I]),(6,.box [.own 700000]),(7,.arr (.slice I)),(9,.box [.val I,.val I]),(11,.arr I),(46,.map .unit (.prod .str I)),(600001,.arr yQ2),(700000,.arr (.slice I))] }
def Zo_E12 : List (Ex×Shape):=[(.exit 2,{ env:=[(1,.av (.ptr 1 0)),(2,.av (.ptr 2 0)),(5,.av (.ptr 5 0)),(6,.av (.ptr 6 0)),(7,.av (.own 7)),(9,.av (.ptr 9 0)),(10,.av (.val I)),(11,.av (.own 11)),(31,.av (.val (.slice yQ2))),(32,.av (.val I)),(33,.av (.val I))],objs:=[(1,.box [.val I,.val (.slice yQ2),.val yQ3,.val (.slice I),.val (.slice .str),.val I]),(2,.box [.val I,.nils,.nils,.nils,.nils,.val I]),(5,.box [.val I,.own 600001,.nils,.nils,.nils,.val I]),(6,.box [.own 700000]),(7,.arr (.slice I)),(9,.box [.val I,.val I]),(11,.arr I),(600001,.arr yQ2),(700000,.arr (.slice I))] })]
def Zo_B12 (x : Q78) : Option (Q78⊕(Q73⊕Empty)) :=
 (itOf .unit (.prod .str I) x.2.2.2.2.2.2.2.2.2.2.2.2.2.2.1).bind fun q1=>cond (itMore q1) ((app x.2.2.2.2.2.2.2.2.2.2.2.2.2.1 [(mulI .i64 2 (x.2.2.2.2.2.2.2.2.2.2.2.2.2.2.2.1.length : Nat))]).bind fun a2=>(app x.2.2.2.2.2.2.2.2.2.2.2.2.2.2.2.1 [(x.2.2.2.2.2.2.2.2.2.2.2.2.2.2.2.2.2.1,x.2.2.2.2.2.2.2.2.1,())]).bind fun a3=>(app x.2.2.2.2.2.2.2.2.2.2.1 [[(addI .i64 (mulI .i64 2 (x.2.2.2.2.2.2.2.2.2.2.2.2.2.2.2.1.length : Nat)) 1),(addI .i64 (mulI .i64 2 (x.2.2.2.2.2.2.2.2.2.2.2.2.2.2.2.1.length : Nat)) 2)]]).bind fun a4=>some (.inl (x.1,x.2.1,x.2.2.1,x.2.2.2.1,x.2.2.2.2.1,x.2.2.2.2.2.1,x.2.2.2.2.2.2.1,x.2.2.2.2.2.2.2.1,(addI .i64 x.2.2.2.2.2.2.2.2.1 1),x.2.2.2.2.2.2.2.2.2.1,a4,x.2.2.2.2.2.2.2.2.2.2.2.1,x.2.2.2.2.2.2.2.2.2.2.2.2.1,a2,[((),itNext q1)],a3,x.2.2.2.2.2.2.2.2.2.2.2.2.2.2.2.2.1,x.2.2.2.2.2.2.2.2.1,x.2.2.2.2.2.2.2.2.2.2.2.2.2.2.2.2.2.2.1,x.2.2.2.2.2.2.2.2.2.2.2.2.2.2.2.2.2.2.2.1,x.2.2.2.2.2.2.2.2.2.2.2.2.2.2.2.2.2.2.2.2.1,()))) (some (.inr (.inl (x.1,x.2.1,x.2.2.1,x.2.2.2.1,x.2.2.2.2.1,x.2.2.2.2.2.1,x.2.2.2.2.2.2.1,x.2.2.2.2.2.2.2.1,x.2.2.2.2.2.2.2.2.1,x.2.2.2.2.2.2.2.2.2.1,x.2.2.2.2.2.2.2.2.2.2.1,x.2.2.2.2.2.2.2.2.2.2.2.1,x.2.2.2.2.2.2.2.2.2.2.2.2.1,x.2.2.2.2.2.2.2.2.2.2.2.2.2.1,x.2.2.2.2.2.2.2.2.2.2.2.2.2.2.2.1,x.2.2.2.2.2.2.2.2.2.2.2.2.2.2.2.2.1,x.2.2.2.2.2.2.2.2.2.2.2.2.2.2.2.2.2.1,x.2.2.2.2.2.2.2.2.2.2.2.2.2.2.2.2.2.2.1,x.2.2.2.2.2.2.2.2.2.2.2.2.2.2.2.2.2.2.2.1,x.2.2.2.2.2.2.2.2.2.2.2.2.2.2.2.2.2.2.2.2.1,()))))
def Zo_L12 : Q78→Option (Q73⊕Empty):=loopFix Zo_B12
def Zo_A12 : Ann:={ head:=Zo_H12,exits:=Zo_E12,fn:=Zo_L12 }
def Zo_H7 : Shape:={ env:=[(1,.av (.ptr 1 0)),(2,.av (.ptr 2 0)),(5,.av (.ptr 5 0)),(6,.av (.ptr 6 0)),(7,.av (.own 7)),(31,.av (.val (.slice yQ2))),(32,.av (.val I)),(33,.av (.val I))],objs:=[(1,.box [.val I,.val (.slice yQ2),.val yQ3,.val (.slice I),.val (.slice .str),.val I]),(2,.box [.val I,.nils,.nils,.nils,.nils,.val I]),(5,.box [.val I,.own 600001,.nils,.nils,.nils,.val I]),(6,.box [.own 700000]),(7,.arr (.slice I)),(600001,.arr yQ2),(700000,.arr (.slice I))] }
def Zo_E7 : List (Ex×Shape):=[(.exit 0,{ env:=[(1,.av (.ptr 1 0)),(2,.av (.ptr 2 0)),(5,.av (.ptr 5 0)),(6,.av (.ptr 6 0)),(7,.av (.own 7))],objs:=[(1,.box [.val I,.val (.slice yQ2),.val yQ3,.val (.slice I),.val (.slice .str),.val I]),(2,.box [.val I,.nils,.nils,.nils,.nils,.val I]),(5,.box [.val I,.own 600001,.nils,.nils,.nils,.val I]),(6,.box [.own 700000]),(7,.arr (.slice I)),(600001,.arr yQ2),(700000,.arr (.slice I))] })]
def Zo_B7 (x : Q68) : Option (Q68⊕(Q65⊕Empty)) :=
 let (a,b,c,d,e,f,g,h,i,k,l,m,n,o,p,q,_):=x; cond (ltI q p) ((getI o q).bind fun y1=>(getI e (mulI .i64 2 q)).bind fun y2=>(Zo_L12 (a,b,c,d,e,f,g,h,i,k,l,y1.1,y1.2.1,[],[((),y2,0)],m,n,y1.1,o,p,q,())).bind (Sum.elim (fun (a_4,b_4,c_4,d_4,e_4,f_4,g_4,h_4,i_4,k_4,l_4,_,m_4,n_4,o_4,p_4,q_4,s_4,t_4,u_4,_)=>(app n_4 [(mulI .i64 2 (o_4.length : Nat))]).bind fun a5=>(app o_4 [(q_4,m_4,())]).bind fun a6=>(app p_4 [a5]).bind fun a7=>some (.inl (a_4,b_4,c_4,d_4,e_4,f_4,g_4,h_4,i_4,k_4,l_4,a6,a7,s_4,t_4,(addI .i64 u_4 1),()))) (fun _=>none))) (some (.inr (.inl (a,b,c,d,e,f,g,h,i,k,l,m,n,()))))
def Zo_L7 : Q68→Option (Q65⊕Empty):=loopFix Zo_B7
def Zo_A7 : Ann:={ head:=Zo_H7,exits:=Zo_E7,fn:=Zo_L7 }
def Zo_As : Anns:=[(7,Zo_A7),(12,Zo_A12),(27,Zo_A27),(31,Zo_A31)]
def Zo (x : (Q11×Unit)) : Option (Q11×(List (List Int))×Int×Unit) :=
 let (((a,b,c,_),d,e,f,_),_):=x; (Zbo (((a,b,c,()),d,e,f,()),())).bind fun r1=>cond (neI r1.1 0) (some (((0,[],[],()),[],[],0,()),[],13,())) ((Zo_L7 (a,b,c,d,e,f,0,0,a,0,[],[],[],b,(b.length : Nat),0,())).bind (Sum.elim (fun (a_3,b_3,c_3,d_3,e_3,f_3,g_3,h_3,i_3,k_3,l_3,m_3,n_3,_)=>(Zaz (((a_3,b_3,c_3,()),d_3,e_3,f_3,()),n_3,(m_3.length : Nat),())).bind fun r4=>(Zo_L27 (a_3,b_3,c_3,d_3,e_3,f_3,g_3,h_3,i_3,k_3,l_3,m_3,[],r4.1,n_3,c_3,(c_3.length : Nat),0,())).bind (Sum.elim (fun (_,a_6,_,_,_,b_6,_,_,c_6,d_6,e_6,f_6,g_6,h_6,i_6,_)=>(app g_6 e_6).bind fun a7=>(makeL .str (mulI .i64 2 (f_6.length : Nat)) (mulI .i64 2 (f_6.length : Nat))).bind fun m8=>cond (gtI (a_6.length : Nat) 0) ((Zf (b_6,i_6,())).bind fun r9=>some (((c_6,f_6,a7,()),h_6,m8,r9.1,()),i_6,0,())) (some (((c_6,f_6,a7,()),h_6,m8,d_6,()),i_6,0,()))) (fun _=>none))) (fun _=>none)))
def Zo_c : Con:={ ins:=[(.rd,yQ9)],outs:=[(true,yQ9),(true,yQ3),(true,I)],fn:=Zo }
def Zo_C : Ctx:={ tab:=tab,con:=fun | 25,_=>some Zbo_c | 26,_=>some Zaz_c | 27,_=>some Zf_c | _,_=>none,glob:=glob,eqs:=eqs,light:=[41],vars:=[2] }
theorem Zo_R31 (x : Zo_H31.ty.den) : round Zo_C Zo_As Zo_A31 (loopBody 31 (bodyOf Tryd.f10)) x=Zo_B31 x:=by kernel_rfl
theorem Zo_R27 (x : Zo_H27.ty.den) : round Zo_C Zo_As Zo_A27 (loopBody 27 (bodyOf Tryd.f10)) x=Zo_B27 x:=by kernel_rfl
theorem Zo_R12 (x : Zo_H12.ty.den) : round Zo_C Zo_As Zo_A12 (loopBody 12 (bodyOf Tryd.f10)) x=Zo_B12 x:=by kernel_rfl
theorem Zo_R7 (x : Zo_H7.ty.den) : round Zo_C Zo_As Zo_A7 (loopBody 7 (bodyOf Tryd.f10)) x=Zo_B7 x:=by kernel_rfl
theorem Zo_eq (x : (tupTy [yQ9]).den) : callFn Zo_C Zo_As (bodyOf Tryd.f10) [(.rd,yQ9)] [(.cell 2 29,true,yQ9),(.tmp 3,true,yQ3),(.tmp 4,true,I)] x=Zo x:=by kernel_rfl
def Zbn_H5 : Shape:={ env:=[(1,.av (.ptr 1 0)),(3,.av (.val I)),(4,.av (.val I))],objs:=[(1,.box [.val I,.val (.slice yQ2),.val yQ3,.val (.slice I),.val (.slice .str),.val I])] }
def Zbn_E5 : List (Ex×Shape):=[(.exit 0,{ env:=[(3,.av (.val I))],objs:=[] })]
def Zbn_B5 (x : Q40) : Option (Q40⊕((Int×Unit)⊕Empty)) :=
 let (a,b,c,d,e,f,g,h,_):=x; cond (ltI h (e.length : Nat)) ((getI e h).bind fun y1=>some (.inl (a,b,c,d,e,f,(addI .i64 g (y1.size : Nat)),(addI .i64 h 2),()))) (some (.inr (.inl (g,()))))
def Zbn_L5 : Q40→Option ((Int×Unit)⊕Empty):=loopFix Zbn_B5
def Zbn_A5 : Ann:={ head:=Zbn_H5,exits:=Zbn_E5,fn:=Zbn_L5 }
def Zbn_As : Anns:=[(5,Zbn_A5)]
def Zbn (x : (Q11×Unit)) : Option (Int×Unit) :=
 let (((a,b,c,_),d,e,f,_),_):=x; (Zbq (((a,b,c,()),d,e,f,()),())).bind fun r1=>cond (!r1.1) (some (0,())) ((Zbn_L5 (a,b,c,d,e,f,0,0,())).bind (Sum.elim (fun z3=>some (z3.1,())) (fun _=>none)))
def Zbn_c : Con:={ ins:=[(.rd,yQ9)],outs:=[(true,I)],fn:=Zbn }
def Zbn_C : Ctx:={ tab:=tab,con:=fun | 50,_=>some Zbq_c | _,_=>none,glob:=glob,eqs:=eqs }
theorem Zbn_R5 (x : Zbn_H5.ty.den) : round Zbn_C Zbn_As Zbn_A5 (loopBody 5 (bodyOf Tryd.f36)) x=Zbn_B5 x:=by kernel_rfl
theorem Zbn_eq (x : (tupTy [yQ9]).den) : callFn Zbn_C Zbn_As (bodyOf Tryd.f36) [(.rd,yQ9)] [(.tmp 2,true,I)] x=Zbn x:=by kernel_rfl
def Zav_As : Anns:=[]
def Zav (x : Unit) : Option (Q11×Unit) :=
 (makeL .str 8 8).bind fun m1=>some (((4,[(0,1,()),(1,2,()),(2,3,()),(3,0,())],[[0,7],[2,1],[4,3],[6,5]],()),[3,1,3,1,3,1,3,1],m1,1,()),())
def Zav_c : Con:={ ins:=[],outs:=[(true,yQ9)],fn:=Zav }
def Zav_C : Ctx:={ tab:=tab,con:=fun _ _=>none,glob:=glob,eqs:=eqs }
theorem Zav_eq (x : (tupTy []).den) : callFn Zav_C Zav_As (bodyOf Tryd.f37) [] [(.cell 0 29,true,yQ9)] x=Zav x:=by kernel_rfl
def Zbf_As : Anns:=[]
def Zbf (x : (Q10×Int×Unit)) : Option (Int×Unit) :=
 let ((a,b,c,_),d,_):=x; (Zau ((a,b,c,()),())).bind fun r1=>cond (!r1.1) (some ((-1),())) (cond (ltI d 0) (some ((-1),())) (cond (geI d (mulI .i64 2 (b.length : Nat))) (some ((-1),())) ((getI b (quoI .i64 d 2)).bind fun y2=>(Zbh (y2,(xorI .i64 (remI d 2) 1),())).bind fun r3=>(getI c r3.1).bind fun y4=>(Zad (y4,(xorI .i64 d 1),())).bind fun r5=>cond (eqI (y4.length : Nat) 0) none ((getI y4 (remI (addI .i64 r5.1 1) (y4.length : Nat))).bind fun y6=>some (y6,())))))
def Zbf_c : Con:={ ins:=[(.rd,yQ6),(.rd,I)],outs:=[(true,I)],fn:=Zbf }
def Zbf_C : Ctx:={ tab:=tab,con:=fun | 64,_=>some Zau_c | 66,_=>some Zad_c | 81,_=>some Zbh_c | _,_=>none,glob:=glob,eqs:=eqs }
theorem Zbf_eq (x : (tupTy [yQ6,I]).den) : callFn Zbf_C Zbf_As (bodyOf Tryd.f58) [(.rd,yQ6),(.rd,I)] [(.tmp 4,true,I)] x=Zbf x:=by kernel_rfl
def Zag_H2 : Shape:={ env:=[(1,.av (.val I)),(2,.av (.val I)),(3,.av (.ptr 3 0)),(7,.av (.val I))],objs:=[(3,.box [.val I,.val (.slice yQ2),.val yQ3])] }
def Zag_E2 : List (Ex×Shape):=[(.ret,{ env:=[(6,.av (.val .bool))],objs:=[] })]
def Zag_B2 (x : Q22) : Option (Q22⊕((Bool×Unit)⊕Empty)) :=
 let (a,b,c,d,e,f,_):=x; cond (eqI f e) (some (.inr (.inl (true,())))) ((Zbf ((a,b,c,()),f,())).bind fun r1=>cond (eqI r1.1 d) (some (.inr (.inl (false,())))) (some (.inl (a,b,c,d,e,r1.1,()))))
def Zag_L2 : Q22→Option ((Bool×Unit)⊕Empty):=loopFix Zag_B2
def Zag_A2 : Ann:={ head:=Zag_H2,exits:=Zag_E2,fn:=Zag_L2 }
def Zag_As : Anns:=[(2,Zag_A2)]
def Zag (x : (Q10×Int×Int×Unit)) : Option (Bool×Unit) :=
 let ((a,b,c,_),d,e,_):=x; (Zag_L2 (a,b,c,d,e,d,())).bind (Sum.elim (fun z2=>some (z2.1,())) (fun _=>none))
def Zag_c : Con:={ ins:=[(.rd,yQ6),(.rd,I),(.rd,I)],outs:=[(true,.bool)],fn:=Zag }
def Zag_C : Ctx:={ tab:=tab,con:=fun | 58,_=>some Zbf_c | _,_=>none,glob:=glob,eqs:=eqs }
theorem Zag_R2 (x : Zag_H2.ty.den) : round Zag_C Zag_As Zag_A2 (loopBody 2 (bodyOf Tryd.f57)) x=Zag_B2 x:=by kernel_rfl
theorem Zag_eq (x : (tupTy [yQ6,I,I]).den) : callFn Zag_C Zag_As (bodyOf Tryd.f57) [(.rd,yQ6),(.rd,I),(.rd,I)] [(.tmp 6,true,.bool)] x=Zag x:=by kernel_rfl
def Zal_As : Anns:=[]
def Zal (x : ((List Q2)×Unit)) : Option ((List Q2)×Unit) :=
 cond x.1.isEmpty (both (some ([],())) ((app [] x.1).bind fun a1=>some (a1,()))) ((app [] x.1).bind fun a1=>some (a1,()))
def Zal_c : Con:={ ins:=[(.rd,(.slice yQ2))],outs:=[(true,(.slice yQ2))],fn:=Zal }
def Zal_C : Ctx:={ tab:=tab,con:=fun _ _=>none,glob:=glob,eqs:=eqs }
theorem Zal_eq (x : (tupTy [(.slice yQ2)]).den) : callFn Zal_C Zal_As (bodyOf Tryd.f60) [(.rd,(.slice yQ2))] [(.tmp 2,true,(.slice yQ2))] x=Zal x:=by kernel_rfl
def Ze_As : Anns:=[]
def Ze (x : Q7) : Option Q7 :=
 cond x.1.isEmpty (both (some ([],())) ((app [] x.1).bind fun a1=>some (a1,()))) ((app [] x.1).bind fun a1=>some (a1,()))
def Ze_c : Con:={ ins:=[(.rd,yQ3)],outs:=[(true,yQ3)],fn:=Ze }
def Ze_C : Ctx:={ tab:=tab,con:=fun _ _=>none,glob:=glob,eqs:=eqs }
theorem Ze_eq (x : (tupTy [yQ3]).den) : callFn Ze_C Ze_As (bodyOf Tryd.f61) [(.rd,yQ3)] [(.tmp 2,true,yQ3)] x=Ze x:=by kernel_rfl
def Zai_As : Anns:=[]
def Zai (x : Q1) : Option Q1 :=
 cond x.1.isEmpty (both (some ([],())) ((app [] x.1).bind fun a1=>some (a1,()))) ((app [] x.1).bind fun a1=>some (a1,()))
def Zai_c : Con:={ ins:=[(.rd,(.slice I))],outs:=[(true,(.slice I))],fn:=Zai }
def Zai_C : Ctx:={ tab:=tab,con:=fun _ _=>none,glob:=glob,eqs:=eqs }
theorem Zai_eq (x : (tupTy [(.slice I)]).den) : callFn Zai_C Zai_As (bodyOf Tryd.f62) [(.rd,(.slice I))] [(.tmp 2,true,(.slice I))] x=Zai x:=by kernel_rfl
def Zv (x : (List Int×Int×List Int×Unit)) : Option Q1:=insertC.fn x
def Zv_c : Con:=insertC
def Zbm_As : Anns:=[]
def Zbm (x : Q8) : Option Q1 :=
 (Zai (x.1,())).bind fun r1=>(Zad (x.1,x.2.2.1,())).bind fun r2=>(Zv (r1.1,r2.1,[x.2.1],())).bind fun r3=>some (r3.1,())
def Zbm_c : Con:={ ins:=[(.rd,(.slice I)),(.rd,I),(.rd,I)],outs:=[(true,(.slice I))],fn:=Zbm }
def Zbm_C : Ctx:={ tab:=tab,con:=fun | 62,_=>some Zai_c | 66,_=>some Zad_c | 82,_=>some Zv_c | _,_=>none,glob:=glob,eqs:=eqs }
theorem Zbm_eq (x : (tupTy [(.slice I),I,I]).den) : callFn Zbm_C Zbm_As (bodyOf Tryd.f63) [(.rd,(.slice I)),(.rd,I),(.rd,I)] [(.tmp 6,true,(.slice I))] x=Zbm x:=by kernel_rfl
def Zar_H3 : Shape:={ env:=[(1,.av (.ptr 1 0)),(2,.av (.ptr 2 0)),(3,.av (.val I)),(13,.av (.val I)),(14,.av (.val I))],objs:=[(1,.box [.val I,.val (.slice yQ2),.val yQ3,.val (.slice I),.val (.slice .str),.val I]),(2,.box [.val I,.nils,.nils,.nils,.nils,.val I])] }
def Zar_E3 : List (Ex×Shape):=[(.exit 0,{ env:=[(1,.av (.ptr 1 0)),(2,.av (.ptr 2 0)),(3,.av (.val I))],objs:=[(1,.box [.val I,.val (.slice yQ2),.val yQ3,.val (.slice I),.val (.slice .str),.val I]),(2,.box [.val I,.nils,.nils,.nils,.nils,.val I])] })]
def Zar_B3 (x : Q50) : Option (Q50⊕(Q44⊕Empty)) :=
 let (a,b,c,d,e,f,g,h,i,k,l,_):=x; cond (ltI l k) ((getI d (xorI .i64 l 1)).bind fun y1=>cond (gtI y1 2) ((Zag ((a,b,c,()),l,f,())).bind fun r2=>cond r2.1 (some (.inr (.inl (a,b,c,d,e,f,g,h,l,())))) (some (.inl (a,b,c,d,e,f,g,h,i,k,(addI .i64 l 1),())))) (some (.inl (a,b,c,d,e,f,g,h,i,k,(addI .i64 l 1),())))) (some (.inr (.inl (a,b,c,d,e,f,g,h,i,()))))
def Zar_L3 : Q50→Option (Q44⊕Empty):=loopFix Zar_B3
def Zar_A3 : Ann:={ head:=Zar_H3,exits:=Zar_E3,fn:=Zar_L3 }
def Zar_As : Anns:=[(3,Zar_A3)]
def Zar (x : (Q11×Unit)) : Option (Q11×Unit) :=
 let (((a,b,c,_),d,e,f,_),_):=x; (Zar_L3 (a,b,c,d,e,f,0,0,(-1),(d.length : Nat),0,())).bind (Sum.elim (fun (a_2,b_2,c_2,d_2,_,_,_,_,e_2,_)=>(Zbf ((a_2,b_2,c_2,()),e_2,())).bind fun r3=>(Zbe ((a_2,b_2,c_2,()),r3.1,())).bind fun r4=>(Zal (b_2,())).bind fun r5=>(Ze (c_2,())).bind fun r6=>(Zai (d_2,())).bind fun r7=>(app r5.1 [(r4.1,a_2,()),(a_2,(addI .i64 a_2 1),()),((addI .i64 a_2 1),(addI .i64 a_2 2),()),((addI .i64 a_2 2),(addI .i64 a_2 3),()),((addI .i64 a_2 3),(addI .i64 a_2 4),()),((addI .i64 a_2 4),a_2,())]).bind fun a8=>(getI c_2 r4.1).bind fun y9=>(Zbm (y9,(mulI .i64 2 (b_2.length : Nat)),r3.1,())).bind fun r10=>(idxI r6.1.length r4.1).bind fun j11=>(r6.1[j11]?).bind fun y12=>(getI d_2 (xorI .i64 e_2 1)).bind fun y13=>(idxI r7.1.length (xorI .i64 e_2 1)).bind fun j14=>(r7.1[j14]?).bind fun y15=>(app (r6.1.set j11 r10.1) [[(addI .i64 (mulI .i64 2 (b_2.length : Nat)) 2),(addI .i64 (mulI .i64 2 (b_2.length : Nat)) 11),(addI .i64 (mulI .i64 2 (b_2.length : Nat)) 1)],[(addI .i64 (mulI .i64 2 (b_2.length : Nat)) 3),(addI .i64 (mulI .i64 2 (b_2.length : Nat)) 4)],[(addI .i64 (mulI .i64 2 (b_2.length : Nat)) 5),(addI .i64 (mulI .i64 2 (b_2.length : Nat)) 6)],[(addI .i64 (mulI .i64 2 (b_2.length : Nat)) 7),(addI .i64 (mulI .i64 2 (b_2.length : Nat)) 8)],[(addI .i64 (mulI .i64 2 (b_2.length : Nat)) 9),(addI .i64 (mulI .i64 2 (b_2.length : Nat)) 10)]]).bind fun a16=>(app (r7.1.set j14 2) [(subI .i64 y13 2),1,2,1,3,1,3,1,3,1,3,1]).bind fun a17=>(makeL .str (a17.length : Nat) (a17.length : Nat)).bind fun m18=>some ((((addI .i64 a_2 5),a8,a16,()),a17,m18,(addI .i64 (mulI .i64 2 (b_2.length : Nat)) 3),()),())) (fun _=>none))
def Zar_c : Con:={ ins:=[(.rd,yQ9)],outs:=[(true,yQ9)],fn:=Zar }
def Zar_C : Ctx:={ tab:=tab,con:=fun | 57,_=>some Zag_c | 58,_=>some Zbf_c | 59,_=>some Zbe_c | 60,_=>some Zal_c | 61,_=>some Ze_c | 62,_=>some Zai_c | 63,_=>some Zbm_c | _,_=>none,glob:=glob,eqs:=eqs }
theorem Zar_R3 (x : Zar_H3.ty.den) : round Zar_C Zar_As Zar_A3 (loopBody 3 (bodyOf Tryd.f38)) x=Zar_B3 x:=by kernel_rfl
theorem Zar_eq (x : (tupTy [yQ9]).den) : callFn Zar_C Zar_As (bodyOf Tryd.f38) [(.rd,yQ9)] [(.cell 2 29,true,yQ9)] x=Zar x:=by kernel_rfl
def Zaf_As : Anns:=[]
def Zaf (x : (Int×Q11×Unit)) : Option (Bool×Unit) :=
 (getI x.2.1.2.1 (xorI .i64 x.1 1)).bind fun y1=>some ((gtI y1 2),())
def Zaf_c : Con:={ ins:=[(.rd,I),(.rd,(.ptr yQ9))],outs:=[(true,.bool)],fn:=Zaf }
def Zaf_C : Ctx:={ tab:=tab,con:=fun _ _=>none,glob:=glob,eqs:=eqs }
theorem Zaf_eq (x : (tupTy [I,(.ptr yQ9)]).den) : callFn Zaf_C Zaf_As (bodyOf Tryd.f68) [(.rd,I),(.rd,(.ptr yQ9))] [(.tmp 3,true,.bool)] x=Zaf x:=by kernel_rfl
def Za_H2 : Shape:={ env:=[(0,.av (.val (.slice I))),(1,.av (.val (.clo 68 (.prod (.ptr yQ9) .unit)))),(7,.av (.val I)),(8,.av (.val I))],objs:=[] }
def Za_E2 : List (Ex×Shape):=[(.ret,{ env:=[(4,.av (.val I))],objs:=[] }),(.exit 0,{ env:=[],objs:=[] })]
def Za_B2 (x : Q12) : Option (Q12⊕((Int×Unit)⊕(Unit⊕Empty))) :=
 let (a,b,c,d,_):=x; cond (ltI d c) ((getI a d).bind fun y1=>(Zaf (y1,b.1,())).bind fun r2=>cond r2.1 (some (.inr (.inl (d,())))) (some (.inl (a,b,c,(addI .i64 d 1),())))) (some (.inr (.inr (.inl ()))))
def Za_L2 : Q12→Option ((Int×Unit)⊕(Unit⊕Empty)):=loopFix Za_B2
def Za_A2 : Ann:={ head:=Za_H2,exits:=Za_E2,fn:=Za_L2 }
def Za_As : Anns:=[(2,Za_A2)]
def Za (x : (List Int×(Q11×Unit)×Unit)) : Option (Int×Unit) :=
 (Za_L2 (x.1,x.2.1,(x.1.length : Nat),0,())).bind (Sum.elim (fun z2=>some (z2.1,())) (Sum.elim (fun z3=>some ((-1),())) (fun _=>none)))
def Za_c : Con:={ ins:=[(.rd,(.slice I)),(.rd,(.clo 68 (.prod (.ptr yQ9) .unit)))],outs:=[(true,I)],fn:=Za }
def Za_C : Ctx:={ tab:=tab,con:=fun | 68,_=>some Zaf_c | _,_=>none,glob:=glob,eqs:=eqs }
theorem Za_R2 (x : Za_H2.ty.den) : round Za_C Za_As Za_A2 (loopBody 2 (bodyOf Tryd.f67)) x=Za_B2 x:=by kernel_rfl
theorem Za_eq (x : (tupTy [(.slice I),(.clo 68 (.prod (.ptr yQ9) .unit))]).den) : callFn Za_C Za_As (bodyOf Tryd.f67) [(.rd,(.slice I)),(.rd,(.clo 68 (.prod (.ptr yQ9) .unit)))] [(.tmp 4,true,I)] x=Za x:=by kernel_rfl
def Zay_As : Anns:=[]
def Zay (x : (Q11×List Int×Unit)) : Option (Int×Unit) :=
 let (((a,b,c,_),d,e,f,_),g,_):=x; (Za (g,(((a,b,c,()),d,e,f,()),()),())).bind fun r1=>some (r1.1,())
def Zay_c : Con:={ ins:=[(.rd,yQ9),(.rd,(.slice I))],outs:=[(true,I)],fn:=Zay }
def Zay_C : Ctx:={ tab:=tab,con:=fun | 67,_=>some Za_c | _,_=>none,glob:=glob,eqs:=eqs }
theorem Zay_eq (x : (tupTy [yQ9,(.slice I)]).den) : callFn Zay_C Zay_As (bodyOf Tryd.f41) [(.rd,yQ9),(.rd,(.slice I))] [(.tmp 4,true,I)] x=Zay x:=by kernel_rfl
def Zbb_H3 : Shape:={ env:=[(2,.av (.ptr 2 0)),(3,.av (.ptr 3 0)),(13,.av (.val yQ3)),(14,.av (.val I)),(15,.av (.val I))],objs:=[(2,.box [.val I,.nils,.nils]),(3,.box [.val I,.own 400001,.ownd 400002]),(400001,.arr yQ2),(400002,.deep I)] }
def Zbb_E3 : List (Ex×Shape):=[(.exit 0,{ env:=[(2,.av (.ptr 2 0)),(3,.av (.ptr 3 0))],objs:=[(2,.box [.val I,.nils,.nils]),(3,.box [.val I,.own 400001,.ownd 400002]),(400001,.arr yQ2),(400002,.deep I)] })]
def Zbb_B3 (x : Q33) : Option (Q33⊕((Int×Int×(List Q2)×(List (List Int))×Unit)⊕Empty)) :=
 let (a,b,c,d,e,f,g,_):=x; cond (ltI g f) ((getI e g).bind fun y1=>(Zai (y1,())).bind fun r2=>(app d [r2.1]).bind fun a3=>some (.inl (a,b,c,a3,e,f,(addI .i64 g 1),()))) (some (.inr (.inl (a,b,c,d,()))))
def Zbb_L3 : Q33→Option ((Int×Int×(List Q2)×(List (List Int))×Unit)⊕Empty):=loopFix Zbb_B3
def Zbb_A3 : Ann:={ head:=Zbb_H3,exits:=Zbb_E3,fn:=Zbb_L3 }
def Zbb_As : Anns:=[(3,Zbb_A3)]
def Zbb (x : (Q10×Unit)) : Option (Q10×Unit) :=
 let ((a,b,c,_),_):=x; (Zal (b,())).bind fun r1=>(Zbb_L3 (0,a,r1.1,[],c,(c.length : Nat),0,())).bind (Sum.elim (fun z3=>some ((z3.2.1,z3.2.2.1,z3.2.2.2.1,()),())) (fun _=>none))
def Zbb_c : Con:={ ins:=[(.rd,yQ6)],outs:=[(true,yQ6)],fn:=Zbb,deep:=true }
def Zbb_C : Ctx:={ tab:=tab,con:=fun | 60,_=>some Zal_c | 62,_=>some Zai_c | _,_=>none,glob:=glob,eqs:=eqs,deep:=[23] }
theorem Zbb_R3 (x : Zbb_H3.ty.den) : round Zbb_C Zbb_As Zbb_A3 (loopBody 3 (bodyOf Tryd.f83)) x=Zbb_B3 x:=by kernel_rfl
theorem Zbb_eq (x : (tupTy [yQ6]).den) : callFn Zbb_C Zbb_As (bodyOf Tryd.f83) [(.rd,yQ6)] [(.cell 2 25,true,yQ6)] x true=Zbb x:=by kernel_rfl
def Zbk_As : Anns:=[]
def Zbk (x : (Q10×Int×Unit)) : Option (Q10×Int×Unit) :=
 let ((a,b,c,_),d,_):=x; (Zau ((a,b,c,()),())).bind fun r1=>cond (!r1.1) (some ((0,[],[],()),13,())) (cond (ltI d 0) (some ((0,[],[],()),3,())) (cond (geI d (b.length : Nat)) (some ((0,[],[],()),3,())) (cond (geI a 16384) (some ((0,[],[],()),2,())) (cond (geI (b.length : Nat) 32768) (some ((0,[],[],()),2,())) ((Zbb ((a,b,c,()),())).bind fun r2=>(getI b d).bind fun y3=>(idxI r2.1.2.1.length d).bind fun j4=>(r2.1.2.1[j4]?).bind fun y5=>(app (r2.1.2.1.set j4 (y5.1,a,y5.2.2)) [(a,y3.2.1,())]).bind fun a6=>(idxI r2.1.2.2.1.length y3.2.1).bind fun j7=>(Zad ((subL r2.1.2.2.1 j7),(addI .i64 (mulI .i64 2 d) 1),())).bind fun r8=>(idxI (subL r2.1.2.2.1 j7).length r8.1).bind fun j9=>(app (r2.1.2.2.1.set j7 ((subL r2.1.2.2.1 j7).set j9 (addI .i64 (mulI .i64 2 (b.length : Nat)) 1))) [[(addI .i64 (mulI .i64 2 d) 1),(mulI .i64 2 (b.length : Nat))]]).bind fun a10=>some (((addI .i64 r2.1.1 1),a6,a10,()),0,()))))))
def Zbk_c : Con:={ ins:=[(.rd,yQ6),(.rd,I)],outs:=[(true,yQ6),(true,I)],fn:=Zbk,deep:=true }
def Zbk_C : Ctx:={ tab:=tab,con:=fun | 64,_=>some Zau_c | 66,_=>some Zad_c | 83,_=>some Zbb_c | _,_=>none,glob:=glob,eqs:=eqs,deep:=[87] }
theorem Zbk_eq (x : (tupTy [yQ6,I]).den) : callFn Zbk_C Zbk_As (bodyOf Tryd.f69) [(.rd,yQ6),(.rd,I)] [(.cell 4 25,true,yQ6),(.tmp 5,true,I)] x true=Zbk x:=by kernel_rfl
def Zae_As : Anns:=[]
def Zae (x : Q6) : Option (Int×Unit) :=
 cond (eqI x.1 (addI .i64 (mulI .i64 2 x.2.1) 1)) (some ((addI .i64 x.2.2.1 1),())) (some (x.1,()))
def Zae_c : Con:={ ins:=[(.rd,I),(.rd,(.ptr I)),(.rd,(.ptr I))],outs:=[(true,I)],fn:=Zae }
def Zae_C : Ctx:={ tab:=tab,con:=fun _ _=>none,glob:=glob,eqs:=eqs }
theorem Zae_eq (x : (tupTy [I,(.ptr I),(.ptr I)]).den) : callFn Zae_C Zae_As (bodyOf Tryd.f70) [(.rd,I),(.rd,(.ptr I)),(.rd,(.ptr I))] [(.tmp 4,true,I)] x=Zae x:=by kernel_rfl
def Zbj_H6 : Shape:={ env:=[(3,.av (.own 3)),(4,.av (.val I)),(14,.av (.own 14)),(15,.av (.val I)),(16,.av (.val I)),(21,.av (.val (.slice I))),(22,.av (.val I)),(23,.av (.val I))],objs:=[(3,.arr I),(14,.arr (.slice I))] }
def Zbj_E6 : List (Ex×Shape):=[(.exit 2,{ env:=[(3,.av (.own 3)),(14,.av (.own 14)),(15,.av (.val I)),(16,.av (.val I))],objs:=[(3,.arr I),(14,.arr (.slice I))] })]
def Zbj_B6 (x : Q29) : Option (Q29⊕(Q14⊕Empty)) :=
 let (a,b,c,d,e,f,g,h,_):=x; cond (ltI h g) ((getI f h).bind fun y1=>(idxI a.length y1).bind fun j2=>(a[j2]?).bind fun y3=>some (.inl ((a.set j2 c),b,c,d,e,f,g,(addI .i64 h 1),()))) (some (.inr (.inl (a,b,d,e,()))))
def Zbj_L6 : Q29→Option (Q14⊕Empty):=loopFix Zbj_B6
def Zbj_A6 : Ann:={ head:=Zbj_H6,exits:=Zbj_E6,fn:=Zbj_L6 }
def Zbj_H3 : Shape:={ env:=[(3,.av (.own 3)),(14,.av (.own 14)),(15,.av (.val I)),(16,.av (.val I))],objs:=[(3,.arr I),(14,.arr (.slice I))] }
def Zbj_E3 : List (Ex×Shape):=[(.exit 0,{ env:=[(3,.av (.own 3))],objs:=[(3,.arr I)] })]
def Zbj_B3 (x : Q14) : Option (Q14⊕(Q1⊕Empty)) :=
 let (a,b,c,d,_):=x; cond (ltI d c) ((idxI b.length d).bind fun j1=>(b[j1]?).bind fun y2=>(Zbj_L6 (a,b,d,c,d,y2,(y2.length : Nat),0,())).bind (Sum.elim (fun z4=>some (.inl (z4.1,z4.2.1,z4.2.2.1,(addI .i64 z4.2.2.2.1 1),()))) (fun _=>none))) (some (.inr (.inl (a,()))))
def Zbj_L3 : Q14→Option (Q1⊕Empty):=loopFix Zbj_B3
def Zbj_A3 : Ann:={ head:=Zbj_H3,exits:=Zbj_E3,fn:=Zbj_L3 }
def Zbj_As : Anns:=[(3,Zbj_A3),(6,Zbj_A6)]
def Zbj (x : (Q10×Unit)) : Option Q1 :=
 let ((a,b,c,_),_):=x; (makeL I (mulI .i64 2 (b.length : Nat)) (mulI .i64 2 (b.length : Nat))).bind fun m1=>(Zaw ((a,b,c,()),())).bind fun r2=>(Zbj_L3 (m1,r2.1,(r2.1.length : Nat),0,())).bind (Sum.elim (fun z4=>some (z4.1,())) (fun _=>none))
def Zbj_c : Con:={ ins:=[(.rd,yQ6)],outs:=[(true,(.slice I))],fn:=Zbj }
def Zbj_C : Ctx:={ tab:=tab,con:=fun | 39,_=>some Zaw_c | _,_=>none,glob:=glob,eqs:=eqs }
theorem Zbj_R6 (x : Zbj_H6.ty.den) : round Zbj_C Zbj_As Zbj_A6 (loopBody 6 (bodyOf Tryd.f84)) x=Zbj_B6 x:=by kernel_rfl
theorem Zbj_R3 (x : Zbj_H3.ty.den) : round Zbj_C Zbj_As Zbj_A3 (loopBody 3 (bodyOf Tryd.f84)) x=Zbj_B3 x:=by kernel_rfl
theorem Zbj_eq (x : (tupTy [yQ6]).den) : callFn Zbj_C Zbj_As (bodyOf Tryd.f84) [(.rd,yQ6)] [(.tmp 2,true,(.slice I))] x=Zbj x:=by kernel_rfl
def Zbc_As : Anns:=[]
def Zbc (x : Q8) : Option Q1 :=
 (Zad (x.1,x.2.2.1,())).bind fun r1=>(Zv (x.1,r1.1,[x.2.1],())).bind fun r2=>some (r2.1,())
def Zbc_c : Con:={ ins:=[(.take,(.slice I)),(.rd,I),(.rd,I)],outs:=[(true,(.slice I))],fn:=Zbc }
def Zbc_C : Ctx:={ tab:=tab,con:=fun | 66,_=>some Zad_c | 82,_=>some Zv_c | _,_=>none,glob:=glob,eqs:=eqs }
theorem Zbc_eq (x : (tupTy [(.slice I),I,I]).den) : callFn Zbc_C Zbc_As (bodyOf Tryd.f85) [(.take,(.slice I)),(.rd,I),(.rd,I)] [(.tmp 6,true,(.slice I))] x=Zbc x:=by kernel_rfl
def Zbp_As : Anns:=[]
def Zbp (x : (Q10×Int×Int×Unit)) : Option (Q10×Int×Unit) :=
 let ((a,b,c,_),d,e,_):=x; (Zau ((a,b,c,()),())).bind fun r1=>cond (!r1.1) (some ((0,[],[],()),13,())) (cond (ltI (minI d e) 0) (some ((0,[],[],()),3,())) (cond (geI (maxI d e) (mulI .i64 2 (b.length : Nat))) (some ((0,[],[],()),3,())) ((Zbe ((a,b,c,()),d,())).bind fun r2=>(Zbe ((a,b,c,()),e,())).bind fun r3=>cond (eqI r2.1 r3.1) (some ((0,[],[],()),8,())) ((Zbj ((a,b,c,()),())).bind fun r4=>(idxI r4.1.length d).bind fun j5=>(r4.1[j5]?).bind fun y6=>(idxI r4.1.length e).bind fun j7=>(r4.1[j7]?).bind fun y8=>cond (neI y6 y8) (some ((0,[],[],()),15,())) (cond (geI (b.length : Nat) 32768) (some ((0,[],[],()),2,())) ((Zbb ((a,b,c,()),())).bind fun r9=>(app r9.1.2.1 [(r2.1,r3.1,())]).bind fun a10=>(idxI r9.1.2.2.1.length r2.1).bind fun j11=>(Zbc ((subL r9.1.2.2.1 j11),(mulI .i64 2 (b.length : Nat)),d,())).bind fun r12=>(idxI r9.1.2.2.1.length r2.1).bind fun j13=>if j11=j13 then (idxI (r9.1.2.2.1.set j13 r12.1).length r3.1).bind fun j14=>(Zbc ((subL (r9.1.2.2.1.set j13 r12.1) j14),(addI .i64 (mulI .i64 2 (b.length : Nat)) 1),e,())).bind fun r15=>(idxI (r9.1.2.2.1.set j13 r12.1).length r3.1).bind fun j16=>if j14=j16 then some ((r9.1.1,a10,((r9.1.2.2.1.set j13 r12.1).set j16 r15.1),()),0,()) else none else none))))))
def Zbp_c : Con:={ ins:=[(.rd,yQ6),(.rd,I),(.rd,I)],outs:=[(false,yQ6),(true,I)],fn:=Zbp }
def Zbp_C : Ctx:={ tab:=tab,con:=fun | 59,_=>some Zbe_c | 64,_=>some Zau_c | 83,_=>some Zbb_c | 84,_=>some Zbj_c | 85,_=>some Zbc_c | _,_=>none,glob:=glob,eqs:=eqs,light:=[16,17] }
theorem Zbp_eq (x : (tupTy [yQ6,I,I]).den) : callFn Zbp_C Zbp_As (bodyOf Tryd.f71) [(.rd,yQ6),(.rd,I),(.rd,I)] [(.cell 6 25,false,yQ6),(.tmp 7,true,I)] x=Zbp x:=by kernel_rfl
def Zax_H3 : Shape:={ env:=[(1,.av (.val (.slice I))),(2,.av (.val I)),(3,.av (.ptr 3 0)),(6,.av (.ptr 6 0)),(8,.av (.val I)),(9,.av (.val I)),(10,.av (.val I))],objs:=[(3,.box [.val I,.val (.slice yQ2),.val yQ3,.val (.slice I),.val (.slice .str),.val I]),(6,.box [.val I,.nils,.nils,.nils,.nils,.val I])] }
def Zax_E3 : List (Ex×Shape):=[(.ret,{ env:=[(6,.av (.ptr 6 0)),(7,.av (.val I))],objs:=[(6,.box [.val I,.nils,.nils,.nils,.nils,.val I])] }),(.exit 0,{ env:=[(1,.av (.val (.slice I))),(2,.av (.val I)),(3,.av (.ptr 3 0)),(6,.av (.ptr 6 0)),(8,.av (.val I)),(9,.av (.val I))],objs:=[(3,.box [.val I,.val (.slice yQ2),.val yQ3,.val (.slice I),.val (.slice .str),.val I]),(6,.box [.val I,.nils,.nils,.nils,.nils,.val I])] })]
def Zax_B3 (x : Q57) : Option (Q57⊕(Q6⊕(Q54⊕Empty))) :=
 let (a,b,c,d,e,f,g,h,i,k,l,m,n,_):=x; cond (neI n 1) (cond (eqI l 0) none ((getI i (remI m l)).bind fun y1=>(getI d (xorI .i64 y1 1)).bind fun y2=>cond (gtI (addI .i64 m 1) (addI .i64 k l)) (some (.inr (.inl (0,0,13,())))) (some (.inl (a,b,c,d,e,f,g,h,i,k,l,(addI .i64 m 1),(addI .i64 n (subI .i64 2 y2)),()))))) (some (.inr (.inr (.inl (a,b,c,d,e,f,g,h,i,k,l,m,())))))
def Zax_L3 : Q57→Option (Q6⊕(Q54⊕Empty)):=loopFix Zax_B3
def Zax_A3 : Ann:={ head:=Zax_H3,exits:=Zax_E3,fn:=Zax_L3 }
def Zax_As : Anns:=[(3,Zax_A3)]
def Zax (x : (Q11×List Int×Int×Unit)) : Option (Q11×Int×Unit) :=
 let (((a,b,c,_),d,e,f,_),g,h,_):=x; (Zax_L3 (a,b,c,d,e,f,0,0,g,h,(g.length : Nat),h,0,())).bind (Sum.elim (fun z2=>some (((z2.1,[],[],()),[],[],z2.2.1,()),z2.2.2.1,())) (Sum.elim (fun (a_3,b_3,c_3,d_3,_,e_3,_,_,f_3,g_3,h_3,i_3,_)=>(getI f_3 g_3).bind fun y4=>cond (eqI h_3 0) none ((getI f_3 (remI (addI .i64 g_3 1) h_3)).bind fun y5=>cond (eqI h_3 0) none ((getI f_3 (remI i_3 h_3)).bind fun y6=>(Zbk ((a_3,b_3,c_3,()),(quoI .i64 y6 2),())).bind fun r7=>cond (neI r7.2.1 0) (some (((0,[],[],()),[],[],0,()),r7.2.1,())) ((Zai (d_3,())).bind fun r8=>(getI d_3 (addI .i64 (mulI .i64 2 (quoI .i64 y6 2)) 1)).bind fun y9=>(app r8.1 [2,y9,0,0]).bind fun a10=>(idxI a10.length (addI .i64 (mulI .i64 2 (quoI .i64 y6 2)) 1)).bind fun j11=>(a10[j11]?).bind fun y12=>cond (eqI (remI y6 2) 1) ((Zae ((xorI .i64 y4 1),(quoI .i64 y6 2),(mulI .i64 2 (b_3.length : Nat)),())).bind fun r13=>(idxI (a10.set j11 2).length r13.1).bind fun j14=>((a10.set j11 2)[j14]?).bind fun y15=>(Zae (y5,(quoI .i64 y6 2),(mulI .i64 2 (b_3.length : Nat)),())).bind fun r16=>(Zbp ((r7.1.1,r7.1.2.1,r7.1.2.2.1,()),r16.1,(addI .i64 (mulI .i64 2 (quoI .i64 y6 2)) 1),())).bind fun r17=>cond (neI r17.2.1 0) (some (((0,[],[],()),[],[],0,()),r17.2.1,())) ((idxI (a10.set j11 2).length r13.1).bind fun j18=>((a10.set j11 2)[j18]?).bind fun y19=>(idxI ((a10.set j11 2).set j18 2).length (addI .i64 (mulI .i64 2 (b_3.length : Nat)) 2)).bind fun j20=>(((a10.set j11 2).set j18 2)[j20]?).bind fun y21=>(idxI (((a10.set j11 2).set j18 2).set j20 (subI .i64 y15 2)).length (mulI .i64 2 (b_3.length : Nat))).bind fun j22=>((((a10.set j11 2).set j18 2).set j20 (subI .i64 y15 2))[j22]?).bind fun y23=>(idxI ((((a10.set j11 2).set j18 2).set j20 (subI .i64 y15 2)).set j22 1).length (addI .i64 (mulI .i64 2 (b_3.length : Nat)) 3)).bind fun j24=>(((((a10.set j11 2).set j18 2).set j20 (subI .i64 y15 2)).set j22 1)[j24]?).bind fun y25=>(idxI (((((a10.set j11 2).set j18 2).set j20 (subI .i64 y15 2)).set j22 1).set j24 1).length (addI .i64 (mulI .i64 2 (quoI .i64 y6 2)) 1)).bind fun j26=>((((((a10.set j11 2).set j18 2).set j20 (subI .i64 y15 2)).set j22 1).set j24 1)[j26]?).bind fun y27=>(makeL .str (((((((a10.set j11 2).set j18 2).set j20 (subI .i64 y15 2)).set j22 1).set j24 1).set j26 2).length : Nat) (((((((a10.set j11 2).set j18 2).set j20 (subI .i64 y15 2)).set j22 1).set j24 1).set j26 2).length : Nat)).bind fun m28=>(Zae (e_3,(quoI .i64 y6 2),(mulI .i64 2 (b_3.length : Nat)),())).bind fun r29=>some (((r17.1.1,r17.1.2.1,r17.1.2.2.1,()),((((((a10.set j11 2).set j18 2).set j20 (subI .i64 y15 2)).set j22 1).set j24 1).set j26 2),m28,r29.1,()),0,()))) ((Zae ((xorI .i64 y4 1),(quoI .i64 y6 2),(mulI .i64 2 (b_3.length : Nat)),())).bind fun r30=>(idxI (a10.set j11 2).length r30.1).bind fun j31=>((a10.set j11 2)[j31]?).bind fun y32=>(Zae (y5,(quoI .i64 y6 2),(mulI .i64 2 (b_3.length : Nat)),())).bind fun r33=>(Zbp ((r7.1.1,r7.1.2.1,r7.1.2.2.1,()),r33.1,(mulI .i64 2 (b_3.length : Nat)),())).bind fun r34=>cond (neI r34.2.1 0) (some (((0,[],[],()),[],[],0,()),r34.2.1,())) ((idxI (a10.set j11 2).length r30.1).bind fun j35=>((a10.set j11 2)[j35]?).bind fun y36=>(idxI ((a10.set j11 2).set j35 2).length (addI .i64 (mulI .i64 2 (b_3.length : Nat)) 2)).bind fun j37=>(((a10.set j11 2).set j35 2)[j37]?).bind fun y38=>(idxI (((a10.set j11 2).set j35 2).set j37 (subI .i64 y32 2)).length (addI .i64 (mulI .i64 2 (quoI .i64 y6 2)) 1)).bind fun j39=>((((a10.set j11 2).set j35 2).set j37 (subI .i64 y32 2))[j39]?).bind fun y40=>(idxI ((((a10.set j11 2).set j35 2).set j37 (subI .i64 y32 2)).set j39 1).length (addI .i64 (mulI .i64 2 (b_3.length : Nat)) 3)).bind fun j41=>(((((a10.set j11 2).set j35 2).set j37 (subI .i64 y32 2)).set j39 1)[j41]?).bind fun y42=>(idxI (((((a10.set j11 2).set j35 2).set j37 (subI .i64 y32 2)).set j39 1).set j41 1).length (mulI .i64 2 (b_3.length : Nat))).bind fun j43=>((((((a10.set j11 2).set j35 2).set j37 (subI .i64 y32 2)).set j39 1).set j41 1)[j43]?).bind fun y44=>(makeL .str (((((((a10.set j11 2).set j35 2).set j37 (subI .i64 y32 2)).set j39 1).set j41 1).set j43 2).length : Nat) (((((((a10.set j11 2).set j35 2).set j37 (subI .i64 y32 2)).set j39 1).set j41 1).set j43 2).length : Nat)).bind fun m45=>(Zae (e_3,(quoI .i64 y6 2),(mulI .i64 2 (b_3.length : Nat)),())).bind fun r46=>some (((r34.1.1,r34.1.2.1,r34.1.2.2.1,()),((((((a10.set j11 2).set j35 2).set j37 (subI .i64 y32 2)).set j39 1).set j41 1).set j43 2),m45,r46.1,()),0,()))))))) (fun _=>none)))
def Zax_c : Con:={ ins:=[(.rd,yQ9),(.rd,(.slice I)),(.rd,I)],outs:=[(false,yQ9),(true,I)],fn:=Zax }
def Zax_C : Ctx:={ tab:=tab,con:=fun | 62,_=>some Zai_c | 69,_=>some Zbk_c | 70,_=>some Zae_c | 71,_=>some Zbp_c | _,_=>none,glob:=glob,eqs:=eqs,frz:=[21],light:=[24,25],hold:=[(21,97),(21,98)] }
theorem Zax_R3 (x : Zax_H3.ty.den) : round Zax_C Zax_As Zax_A3 (loopBody 3 (bodyOf Tryd.f42)) x=Zax_B3 x:=by kernel_rfl
theorem Zax_eq (x : (tupTy [yQ9,(.slice I),I]).den) : callFn Zax_C Zax_As (bodyOf Tryd.f42) [(.rd,yQ9),(.rd,(.slice I)),(.rd,I)] [(.cell 6 29,false,yQ9),(.tmp 7,true,I)] x=Zax x:=by kernel_rfl
def Zba_H10 : Shape:={ env:=[(1,.av (.ptr 1 0)),(2,.av (.ptr 2 0)),(4,.av (.val .bool)),(32,.av (.own 32)),(33,.av (.val I)),(34,.av (.val I))],objs:=[(1,.box [.val I,.val (.slice yQ2),.val yQ3,.val (.slice I),.val (.slice .str),.val I]),(2,.box [.val I,.nils,.nils,.nils,.nils,.val I]),(32,.arr (.slice I))] }
def Zba_E10 : List (Ex×Shape):=[(.ret,{ env:=[(2,.av (.ptr 2 0)),(3,.av (.val I))],objs:=[(2,.box [.val I,.nils,.nils,.nils,.nils,.val I])] }),(.exit 3,{ env:=[(1,.av (.ptr 1 0)),(2,.av (.ptr 2 0)),(4,.av (.val .bool))],objs:=[(1,.box [.val I,.val (.slice yQ2),.val yQ3,.val (.slice I),.val (.slice .str),.val I]),(2,.box [.val I,.nils,.nils,.nils,.nils,.val I])] })]
def Zba_B10 (x : Q60) : Option (Q60⊕(Q6⊕(Q45⊕Empty))) :=
 let (a,b,c,d,e,f,g,h,i,k,l,m,_):=x; cond (ltI m l) ((idxI i.length m).bind fun j1=>(i[j1]?).bind fun y2=>(Zk (y2,f,())).bind fun r3=>cond r3.1 (some (.inl (a,b,c,d,e,f,g,h,i,k,l,(addI .i64 m 1),()))) ((Zay (((a,b,c,()),d,e,f,()),y2,())).bind fun r4=>cond (ltI r4.1 0) (some (.inl (a,b,c,d,e,f,g,h,i,k,l,(addI .i64 m 1),()))) ((Zax (((a,b,c,()),d,e,f,()),y2,r4.1,())).bind fun r5=>cond (neI r5.2.1 0) (some (.inr (.inl (0,0,r5.2.1,())))) (some (.inr (.inr (.inl (r5.1.1.1,r5.1.1.2.1,r5.1.1.2.2.1,r5.1.2.1,r5.1.2.2.1,r5.1.2.2.2.1,g,h,true,())))))))) (some (.inr (.inr (.inl (a,b,c,d,e,f,g,h,k,())))))
def Zba_L10 : Q60→Option (Q6⊕(Q45⊕Empty)):=loopFix Zba_B10
def Zba_A10 : Ann:={ head:=Zba_H10,exits:=Zba_E10,fn:=Zba_L10 }
def Zba_H7 : Shape:={ env:=[(1,.av (.ptr 1 0)),(2,.av (.ptr 2 0)),(4,.av (.val .bool))],objs:=[(1,.box [.val I,.val (.slice yQ2),.val yQ3,.val (.slice I),.val (.slice .str),.val I]),(2,.box [.val I,.nils,.nils,.nils,.nils,.val I])] }
def Zba_E7 : List (Ex×Shape):=[(.ret,{ env:=[(2,.av (.ptr 2 0)),(3,.av (.val I))],objs:=[(2,.box [.val I,.nils,.nils,.nils,.nils,.val I])] }),(.exit 1,{ env:=[(1,.av (.ptr 1 0)),(2,.av (.ptr 2 0))],objs:=[(1,.box [.val I,.val (.slice yQ2),.val yQ3,.val (.slice I),.val (.slice .str),.val I]),(2,.box [.val I,.nils,.nils,.nils,.nils,.val I])] })]
def Zba_B7 (x : Q45) : Option (Q45⊕(Q6⊕(Q40⊕Empty))) :=
 let (a,b,c,d,e,f,g,h,i,_):=x; cond i ((Zaw ((a,b,c,()),())).bind fun r1=>(Zba_L10 (a,b,c,d,e,f,g,h,r1.1,false,(r1.1.length : Nat),0,())).bind (Sum.elim (fun z3=>some (.inr (.inl (z3.1,z3.2.1,z3.2.2.1,())))) (Sum.elim (fun (a_4,b_4,c_4,d_4,e_4,f_4,g_4,h_4,i_4,_)=>some (.inl (a_4,b_4,c_4,d_4,e_4,f_4,g_4,h_4,i_4,()))) (fun _=>none)))) (some (.inr (.inr (.inl (a,b,c,d,e,f,g,h,())))))
def Zba_L7 : Q45→Option (Q6⊕(Q40⊕Empty)):=loopFix Zba_B7
def Zba_A7 : Ann:={ head:=Zba_H7,exits:=Zba_E7,fn:=Zba_L7 }
def Zba_As : Anns:=[(7,Zba_A7),(10,Zba_A10)]
def Zba (x : (Q11×Unit)) : Option (Q11×Int×Unit) :=
 let (((a,b,c,_),d,e,f,_),_):=x; (Zbo (((a,b,c,()),d,e,f,()),())).bind fun r1=>cond (neI r1.1 0) (some (((0,[],[],()),[],[],0,()),13,())) ((Zbn (((a,b,c,()),d,e,f,()),())).bind fun r2=>cond (neI r2.1 0) (some (((0,[],[],()),[],[],0,()),13,())) (cond (eqI (b.length : Nat) 0) ((Zav ()).bind fun r3=>some (((r3.1.1.1,r3.1.1.2.1,r3.1.1.2.2.1,()),r3.1.2.1,r3.1.2.2.1,r3.1.2.2.2.1,()),0,())) ((Zar (((a,b,c,()),d,e,f,()),())).bind fun r4=>(Zba_L7 (r4.1.1.1,r4.1.1.2.1,r4.1.1.2.2.1,r4.1.2.1,r4.1.2.2.1,r4.1.2.2.2.1,0,0,true,())).bind (Sum.elim (fun z6=>some (((z6.1,[],[],()),[],[],z6.2.1,()),z6.2.2.1,())) (Sum.elim (fun (a_7,b_7,c_7,d_7,e_7,f_7,_)=>some (((a_7,b_7,c_7,()),d_7,e_7,f_7,()),0,())) (fun _=>none))))))
def Zba_c : Con:={ ins:=[(.rd,yQ9)],outs:=[(false,yQ9),(true,I)],fn:=Zba }
def Zba_C : Ctx:={ tab:=tab,con:=fun | 25,_=>some Zbo_c | 36,_=>some Zbn_c | 37,_=>some Zav_c | 38,_=>some Zar_c | 39,_=>some Zaw_c | 40,_=>some Zk_c | 41,_=>some Zay_c | 42,_=>some Zax_c | _,_=>none,glob:=glob,eqs:=eqs }
theorem Zba_R10 (x : Zba_H10.ty.den) : round Zba_C Zba_As Zba_A10 (loopBody 10 (bodyOf Tryd.f15)) x=Zba_B10 x:=by kernel_rfl
theorem Zba_R7 (x : Zba_H7.ty.den) : round Zba_C Zba_As Zba_A7 (loopBody 7 (bodyOf Tryd.f15)) x=Zba_B7 x:=by kernel_rfl
theorem Zba_eq (x : (tupTy [yQ9]).den) : callFn Zba_C Zba_As (bodyOf Tryd.f15) [(.rd,yQ9)] [(.cell 2 29,false,yQ9),(.tmp 3,true,I)] x=Zba x:=by kernel_rfl
def Zh_H11 : Shape:={ env:=[(1,.av (.ptr 1 0)),(5,.av (.val I)),(6,.av (.val I)),(26,.av (.own 26)),(27,.av (.val I)),(28,.av (.val I)),(36,.av (.val (.slice I))),(37,.av (.val I)),(38,.av (.val I))],objs:=[(1,.box [.val I,.val (.slice yQ2),.val yQ3,.val (.slice I),.val (.slice .str),.val I]),(26,.arr (.slice I))] }
def Zh_E11 : List (Ex×Shape):=[(.ret,{ env:=[(2,.av (.val .bool))],objs:=[] }),(.exit 2,{ env:=[(1,.av (.ptr 1 0)),(6,.av (.val I)),(26,.av (.own 26)),(27,.av (.val I)),(28,.av (.val I))],objs:=[(1,.box [.val I,.val (.slice yQ2),.val yQ3,.val (.slice I),.val (.slice .str),.val I]),(26,.arr (.slice I))] })]
def Zh_B11 (x : Q62) : Option (Q62⊕((Bool×Unit)⊕(Q53⊕Empty))) :=
 let (a,b,c,d,e,f,g,h,i,k,l,m,n,o,_):=x; cond (ltI o n) ((getI m o).bind fun y1=>(getI d (xorI .i64 y1 1)).bind fun y2=>cond (eqI (subI .i64 2 y2) h) (some (.inl (a,b,c,d,e,f,g,h,(addI .i64 i 1),k,l,m,n,(addI .i64 o 1),()))) (cond (eqI (subI .i64 2 y2) 0) (some (.inl (a,b,c,d,e,f,g,h,i,k,l,m,n,(addI .i64 o 1),()))) (some (.inr (.inl (false,())))))) (some (.inr (.inr (.inl (a,b,c,d,e,f,g,i,k,l,())))))
def Zh_L11 : Q62→Option ((Bool×Unit)⊕(Q53⊕Empty)):=loopFix Zh_B11
def Zh_A11 : Ann:={ head:=Zh_H11,exits:=Zh_E11,fn:=Zh_L11 }
def Zh_H4 : Shape:={ env:=[(1,.av (.ptr 1 0)),(26,.av (.own 26)),(27,.av (.val I)),(28,.av (.val I))],objs:=[(1,.box [.val I,.val (.slice yQ2),.val yQ3,.val (.slice I),.val (.slice .str),.val I]),(26,.arr (.slice I))] }
def Zh_E4 : List (Ex×Shape):=[(.ret,{ env:=[(2,.av (.val .bool))],objs:=[] }),(.exit 0,{ env:=[],objs:=[] })]
def Zh_B4 (x : Q51) : Option (Q51⊕((Bool×Unit)⊕(Unit⊕Empty))) :=
  let t_0:=Sum.elim (fun z5=>some (.inr (.inl (z5.1,())))) (Sum.elim (fun (a_6,b_6,c_6,d_6,e_6,f_6,g_6,h_6,i_6,k_6,_)=>cond (neI h_6 4) (some (.inr (.inl (false,())))) (some (.inl (a_6,b_6,c_6,d_6,e_6,f_6,g_6,i_6,(addI .i64 k_6 1),())))) (fun _=>none));let (a,b,c,d,e,f,g,h,i,_):=x; cond (ltI i h) ((idxI g.length i).bind fun j1=>(g[j1]?).bind fun y2=>(Zk (y2,f,())).bind fun r3=>cond r3.1 ((Zh_L11 (a,b,c,d,e,f,g,(-1),0,h,i,y2,(y2.length : Nat),0,())).bind t_0) ((Zh_L11 (a,b,c,d,e,f,g,1,0,h,i,y2,(y2.length : Nat),0,())).bind t_0)) (some (.inr (.inr (.inl ()))))
def Zh_L4 : Q51→Option ((Bool×Unit)⊕(Unit⊕Empty)):=loopFix Zh_B4
def Zh_A4 : Ann:={ head:=Zh_H4,exits:=Zh_E4,fn:=Zh_L4 }
def Zh_As : Anns:=[(4,Zh_A4),(11,Zh_A11)]
def Zh (x : (Q11×Unit)) : Option (Bool×Unit) :=
 let (((a,b,c,_),d,e,f,_),_):=x; (Zbo (((a,b,c,()),d,e,f,()),())).bind fun r1=>cond (neI r1.1 0) (some (false,())) ((Zbn (((a,b,c,()),d,e,f,()),())).bind fun r2=>cond (neI r2.1 0) (some (false,())) (cond (eqI (b.length : Nat) 0) (some (false,())) ((Zaw ((a,b,c,()),())).bind fun r3=>(Zh_L4 (a,b,c,d,e,f,r3.1,(r3.1.length : Nat),0,())).bind (Sum.elim (fun z5=>some (z5.1,())) (Sum.elim (fun z6=>some (true,())) (fun _=>none))))))
def Zh_c : Con:={ ins:=[(.rd,yQ9)],outs:=[(true,.bool)],fn:=Zh }
def Zh_C : Ctx:={ tab:=tab,con:=fun | 25,_=>some Zbo_c | 36,_=>some Zbn_c | 39,_=>some Zaw_c | 40,_=>some Zk_c | _,_=>none,glob:=glob,eqs:=eqs }
theorem Zh_R11 (x : Zh_H11.ty.den) : round Zh_C Zh_As Zh_A11 (loopBody 11 (bodyOf Tryd.f16)) x=Zh_B11 x:=by kernel_rfl
theorem Zh_R4 (x : Zh_H4.ty.den) : round Zh_C Zh_As Zh_A4 (loopBody 4 (bodyOf Tryd.f16)) x=Zh_B4 x:=by kernel_rfl
theorem Zh_eq (x : (tupTy [yQ9]).den) : callFn Zh_C Zh_As (bodyOf Tryd.f16) [(.rd,yQ9)] [(.tmp 2,true,.bool)] x=Zh x:=by kernel_rfl
def Zp_As : Anns:=[]
def Zp (x : Unit) : Option (Q11×Unit) :=
 (makeL .str 8 8).bind fun m1=>some (((4,[(0,1,()),(1,2,()),(2,3,()),(3,0,())],[[7,0],[1,2],[3,4],[5,6]],()),[3,1,3,1,3,1,3,1],m1,1,()),())
def Zp_c : Con:={ ins:=[],outs:=[(true,yQ9)],fn:=Zp }
def Zp_C : Ctx:={ tab:=tab,con:=fun _ _=>none,glob:=glob,eqs:=eqs }
theorem Zp_eq (x : (tupTy []).den) : callFn Zp_C Zp_As (bodyOf Tryd.f24) [] [(.cell 0 29,true,yQ9)] x=Zp x:=by kernel_rfl
def Zs_As : Anns:=[]
def Zs (x : Unit) : Option (Bool×Unit) :=
 (Zo (((2,[(0,1,())],[[0],[1]],()),[4,4],[(ByteArray.mk #[76]),(ByteArray.mk #[82])],0,()),())).bind fun r1=>(Zba (((2,[(0,1,())],[[0],[1]],()),[4,4],[(ByteArray.mk #[76]),(ByteArray.mk #[82])],0,()),())).bind fun r2=>(Zba (((2,[(0,1,())],[[0],[1]],()),[4,4],[(ByteArray.mk #[]),(ByteArray.mk #[])],0,()),())).bind fun r3=>cond (neI r1.2.2.1 0) (some (false,())) (cond (neI (r1.2.1.length : Nat) 1) (some (false,())) ((idxI r1.2.1.length 0).bind fun j4=>(r1.2.1[j4]?).bind fun y5=>cond (neI (y5.length : Nat) 2) (some (false,())) ((idxI r1.2.1.length 0).bind fun j6=>(r1.2.1[j6]?).bind fun y7=>(getI y7 1).bind fun y8=>cond (neI y8 2) (some (false,())) (cond (neI r1.1.1.1 3) (some (false,())) (cond (neI (r1.1.2.1.length : Nat) 4) (some (false,())) (cond (neI (r1.1.1.2.2.1.length : Nat) 3) (some (false,())) ((idxI r1.1.2.1.length 1).bind fun j9=>(r1.1.2.1[j9]?).bind fun y10=>cond (eqI y10 1) ((idxI r1.1.2.1.length 2).bind fun j11=>(r1.1.2.1[j11]?).bind fun y12=>cond (eqI y12 3) (cond (eqI r2.2.1 13) (cond (eqI r3.2.1 0) ((Zh (((r3.1.1.1,r3.1.1.2.1,r3.1.1.2.2.1,()),r3.1.2.1,r3.1.2.2.1,r3.1.2.2.2.1,()),())).bind fun r13=>cond r13.1 ((Zp ()).bind fun r14=>(Zh (((r14.1.1.1,r14.1.1.2.1,r14.1.1.2.2.1,()),r14.1.2.1,r14.1.2.2.1,r14.1.2.2.2.1,()),())).bind fun r15=>cond r15.1 ((Zh (((2,[(0,1,())],[[0],[1]],()),[4,4],[(ByteArray.mk #[]),(ByteArray.mk #[])],0,()),())).bind fun r16=>some ((!r16.1),())) (some (false,()))) (some (false,()))) (some (false,()))) (some (false,()))) (some (false,()))) (some (false,())))))))))
def Zs_c : Con:={ ins:=[],outs:=[(true,.bool)],fn:=Zs }
def Zs_C : Ctx:={ tab:=tab,con:=fun | 10,_=>some Zo_c | 15,_=>some Zba_c | 16,_=>some Zh_c | 24,_=>some Zp_c | _,_=>none,glob:=glob,eqs:=eqs }
theorem Zs_eq (x : (tupTy []).den) : callFn Zs_C Zs_As (bodyOf Tryd.f9) [] [(.tmp 0,true,.bool)] x=Zs x:=by kernel_rfl
def Zw_H3 : Shape:={ env:=[(1,.av (.ptr 1 0)),(3,.av (.own 3)),(4,.av (.val I))],objs:=[(1,.box [.val I,.val (.slice yQ2),.val yQ3]),(3,.arr I)] }
def Zw_E3 : List (Ex×Shape):=[(.exit 0,{ env:=[(3,.av (.own 3))],objs:=[(3,.arr I)] })]
def Zw_B3 (x : Q21) : Option (Q21⊕(Q1⊕Empty)) :=
 let (a,b,c,d,e,_):=x; cond (ltI e (b.length : Nat)) ((getI b e).bind fun y1=>(getI b e).bind fun y2=>(app d [y1.1,y2.2.1]).bind fun a3=>some (.inl (a,b,c,a3,(addI .i64 e 1),()))) (some (.inr (.inl (d,()))))
def Zw_L3 : Q21→Option (Q1⊕Empty):=loopFix Zw_B3
def Zw_A3 : Ann:={ head:=Zw_H3,exits:=Zw_E3,fn:=Zw_L3 }
def Zw_As : Anns:=[(3,Zw_A3)]
def Zw (x : (Q10×Unit)) : Option Q1 :=
 (Zw_L3 (x.1.1,x.1.2.1,x.1.2.2.1,[],0,())).bind (Sum.elim (fun z2=>some (z2.1,())) (fun _=>none))
def Zw_c : Con:={ ins:=[(.rd,yQ6)],outs:=[(true,(.slice I))],fn:=Zw }
def Zw_C : Ctx:={ tab:=tab,con:=fun _ _=>none,glob:=glob,eqs:=eqs }
theorem Zw_R3 (x : Zw_H3.ty.den) : round Zw_C Zw_As Zw_A3 (loopBody 3 (bodyOf Tryd.f46)) x=Zw_B3 x:=by kernel_rfl
theorem Zw_eq (x : (tupTy [yQ6]).den) : callFn Zw_C Zw_As (bodyOf Tryd.f46) [(.rd,yQ6)] [(.tmp 2,true,(.slice I))] x=Zw x:=by kernel_rfl
def Zaa_H16 : Shape:={ env:=[(1,.av (.ptr 1 0)),(5,.av (.own 5)),(6,.av (.own 6)),(7,.av (.val I)),(8,.av (.val I)),(9,.av (.val I))],objs:=[(1,.box [.val I,.val (.slice yQ2),.val yQ3]),(5,.arr I),(6,.arr .bool)] }
def Zaa_E16 : List (Ex×Shape):=[(.ret,{ env:=[(2,.av (.val .bool))],objs:=[] }),(.exit 4,{ env:=[(1,.av (.ptr 1 0)),(5,.av (.own 5)),(6,.av (.own 6)),(7,.av (.val I)),(8,.av (.val I))],objs:=[(1,.box [.val I,.val (.slice yQ2),.val yQ3]),(5,.arr I),(6,.arr .bool)] })]
def Zaa_B16 (x : Q38) : Option (Q38⊕((Bool×Unit)⊕(Q31⊕Empty))) :=
 let (a,b,c,d,e,f,g,h,_):=x; (getI c g).bind fun y1=>cond (ltI h (y1.length : Nat)) ((getI c g).bind fun y2=>(getI y2 h).bind fun y3=>cond (ltI y3 0) (some (.inr (.inl (false,())))) (cond (geI y3 (d.length : Nat)) (some (.inr (.inl (false,())))) ((idxI e.length y3).bind fun j4=>(e[j4]?).bind fun y5=>cond y5 (some (.inr (.inl (false,())))) ((idxI d.length y3).bind fun j6=>(d[j6]?).bind fun y7=>cond (neI y7 g) (some (.inr (.inl (false,())))) ((idxI e.length y3).bind fun j8=>(e[j8]?).bind fun y9=>some (.inl (a,b,c,d,(e.set j8 true),(addI .i64 f 1),g,(addI .i64 h 1),()))))))) (some (.inr (.inr (.inl (a,b,c,d,e,f,g,())))))
def Zaa_L16 : Q38→Option ((Bool×Unit)⊕(Q31⊕Empty)):=loopFix Zaa_B16
def Zaa_A16 : Ann:={ head:=Zaa_H16,exits:=Zaa_E16,fn:=Zaa_L16 }
def Zaa_H13 : Shape:={ env:=[(1,.av (.ptr 1 0)),(5,.av (.own 5)),(6,.av (.own 6)),(7,.av (.val I)),(8,.av (.val I))],objs:=[(1,.box [.val I,.val (.slice yQ2),.val yQ3]),(5,.arr I),(6,.arr .bool)] }
def Zaa_E13 : List (Ex×Shape):=[(.ret,{ env:=[(2,.av (.val .bool))],objs:=[] }),(.exit 2,{ env:=[(5,.av (.own 5)),(7,.av (.val I))],objs:=[(5,.arr I)] })]
def Zaa_B13 (x : Q31) : Option (Q31⊕((Bool×Unit)⊕(Q4⊕Empty))) :=
 let (a,b,c,d,e,f,g,_):=x; cond (ltI g a) ((Zaa_L16 (a,b,c,d,e,f,g,0,())).bind (Sum.elim (fun z2=>some (.inr (.inl (z2.1,())))) (Sum.elim (fun (a_3,b_3,c_3,d_3,e_3,f_3,g_3,_)=>some (.inl (a_3,b_3,c_3,d_3,e_3,f_3,(addI .i64 g_3 1),()))) (fun _=>none)))) (some (.inr (.inr (.inl (d,f,())))))
def Zaa_L13 : Q31→Option ((Bool×Unit)⊕(Q4⊕Empty)):=loopFix Zaa_B13
def Zaa_A13 : Ann:={ head:=Zaa_H13,exits:=Zaa_E13,fn:=Zaa_L13 }
def Zaa_H4 : Shape:={ env:=[(1,.av (.ptr 1 0)),(3,.av (.val I))],objs:=[(1,.box [.val I,.val (.slice yQ2),.val yQ3])] }
def Zaa_E4 : List (Ex×Shape):=[(.ret,{ env:=[(2,.av (.val .bool))],objs:=[] }),(.exit 0,{ env:=[(1,.av (.ptr 1 0))],objs:=[(1,.box [.val I,.val (.slice yQ2),.val yQ3])] })]
def Zaa_B4 (x : Q15) : Option (Q15⊕((Bool×Unit)⊕(Q10⊕Empty))) :=
 let (a,b,c,d,_):=x; cond (ltI d (b.length : Nat)) ((getI b d).bind fun y1=>cond (ltI y1.1 0) (some (.inr (.inl (false,())))) (cond (geI y1.1 a) (some (.inr (.inl (false,())))) (cond (ltI y1.2.1 0) (some (.inr (.inl (false,())))) (cond (geI y1.2.1 a) (some (.inr (.inl (false,())))) (cond (eqI y1.1 y1.2.1) (some (.inr (.inl (false,())))) (some (.inl (a,b,c,(addI .i64 d 1),())))))))) (some (.inr (.inr (.inl (a,b,c,())))))
def Zaa_L4 : Q15→Option ((Bool×Unit)⊕(Q10⊕Empty)):=loopFix Zaa_B4
def Zaa_A4 : Ann:={ head:=Zaa_H4,exits:=Zaa_E4,fn:=Zaa_L4 }
def Zaa_As : Anns:=[(4,Zaa_A4),(13,Zaa_A13),(16,Zaa_A16)]
def Zaa (x : (Q10×Unit)) : Option (Bool×Unit) :=
 let ((a,b,c,_),_):=x; cond (ltI a 0) (some (false,())) (cond (gtI a 16384) (some (false,())) (cond (gtI (b.length : Nat) 32768) (some (false,())) (cond (neI (c.length : Nat) a) (some (false,())) ((Zaa_L4 (a,b,c,0,())).bind (Sum.elim (fun z2=>some (z2.1,())) (Sum.elim (fun (a_3,b_3,c_3,_)=>(Zw ((a_3,b_3,c_3,()),())).bind fun r4=>(makeL .bool (r4.1.length : Nat) (r4.1.length : Nat)).bind fun m5=>(Zaa_L13 (a_3,b_3,c_3,r4.1,m5,0,0,())).bind (Sum.elim (fun z7=>some (z7.1,())) (Sum.elim (fun z8=>some ((eqI z8.2.1 (z8.1.length : Nat)),())) (fun _=>none)))) (fun _=>none)))))))
def Zaa_c : Con:={ ins:=[(.rd,yQ6)],outs:=[(true,.bool)],fn:=Zaa }
def Zaa_C : Ctx:={ tab:=tab,con:=fun | 46,_=>some Zw_c | _,_=>none,glob:=glob,eqs:=eqs }
theorem Zaa_R16 (x : Zaa_H16.ty.den) : round Zaa_C Zaa_As Zaa_A16 (loopBody 16 (bodyOf Tryd.f29)) x=Zaa_B16 x:=by kernel_rfl
theorem Zaa_R13 (x : Zaa_H13.ty.den) : round Zaa_C Zaa_As Zaa_A13 (loopBody 13 (bodyOf Tryd.f29)) x=Zaa_B13 x:=by kernel_rfl
theorem Zaa_R4 (x : Zaa_H4.ty.den) : round Zaa_C Zaa_As Zaa_A4 (loopBody 4 (bodyOf Tryd.f29)) x=Zaa_B4 x:=by kernel_rfl
theorem Zaa_eq (x : (tupTy [yQ6]).den) : callFn Zaa_C Zaa_As (bodyOf Tryd.f29) [(.rd,yQ6)] [(.tmp 2,true,.bool)] x=Zaa x:=by kernel_rfl
def Zn_H7 : Shape:={ env:=[(1,.av (.ptr 1 0)),(3,.av (.own 3)),(4,.av (.val I)),(5,.av (.val (.slice I))),(6,.av (.val I))],objs:=[(1,.box [.val I,.val (.slice yQ2),.val yQ3]),(3,.arr I)] }
def Zn_E7 : List (Ex×Shape):=[(.exit 2,{ env:=[(1,.av (.ptr 1 0)),(3,.av (.own 3)),(4,.av (.val I))],objs:=[(1,.box [.val I,.val (.slice yQ2),.val yQ3]),(3,.arr I)] })]
def Zn_B7 (x : Q30) : Option (Q30⊕(Q21⊕Empty)) :=
 let (a,b,c,d,e,f,g,_):=x; cond (ltI g (f.length : Nat)) ((getI f g).bind fun y1=>cond (eqI (f.length : Nat) 0) none ((getI f (remI (addI .i64 g 1) (f.length : Nat))).bind fun y2=>(idxI d.length y1).bind fun j3=>(d[j3]?).bind fun y4=>some (.inl (a,b,c,(d.set j3 y2),e,f,(addI .i64 g 1),())))) (some (.inr (.inl (a,b,c,d,e,()))))
def Zn_L7 : Q30→Option (Q21⊕Empty):=loopFix Zn_B7
def Zn_A7 : Ann:={ head:=Zn_H7,exits:=Zn_E7,fn:=Zn_L7 }
def Zn_H3 : Shape:={ env:=[(1,.av (.ptr 1 0)),(3,.av (.own 3)),(4,.av (.val I))],objs:=[(1,.box [.val I,.val (.slice yQ2),.val yQ3]),(3,.arr I)] }
def Zn_E3 : List (Ex×Shape):=[(.exit 0,{ env:=[(3,.av (.own 3))],objs:=[(3,.arr I)] })]
def Zn_B3 (x : Q21) : Option (Q21⊕(Q1⊕Empty)) :=
 let (a,b,c,d,e,_):=x; cond (ltI e a) ((getI c e).bind fun y1=>(Zn_L7 (a,b,c,d,e,y1,0,())).bind (Sum.elim (fun z3=>some (.inl (z3.1,z3.2.1,z3.2.2.1,z3.2.2.2.1,(addI .i64 z3.2.2.2.2.1 1),()))) (fun _=>none))) (some (.inr (.inl (d,()))))
def Zn_L3 : Q21→Option (Q1⊕Empty):=loopFix Zn_B3
def Zn_A3 : Ann:={ head:=Zn_H3,exits:=Zn_E3,fn:=Zn_L3 }
def Zn_As : Anns:=[(3,Zn_A3),(7,Zn_A7)]
def Zn (x : (Q10×Unit)) : Option Q1 :=
 let ((a,b,c,_),_):=x; (makeL I (mulI .i64 2 (b.length : Nat)) (mulI .i64 2 (b.length : Nat))).bind fun m1=>(Zn_L3 (a,b,c,m1,0,())).bind (Sum.elim (fun z3=>some (z3.1,())) (fun _=>none))
def Zn_c : Con:={ ins:=[(.rd,yQ6)],outs:=[(true,(.slice I))],fn:=Zn }
def Zn_C : Ctx:={ tab:=tab,con:=fun _ _=>none,glob:=glob,eqs:=eqs }
theorem Zn_R7 (x : Zn_H7.ty.den) : round Zn_C Zn_As Zn_A7 (loopBody 7 (bodyOf Tryd.f55)) x=Zn_B7 x:=by kernel_rfl
theorem Zn_R3 (x : Zn_H3.ty.den) : round Zn_C Zn_As Zn_A3 (loopBody 3 (bodyOf Tryd.f55)) x=Zn_B3 x:=by kernel_rfl
theorem Zn_eq (x : (tupTy [yQ6]).den) : callFn Zn_C Zn_As (bodyOf Tryd.f55) [(.rd,yQ6)] [(.tmp 2,true,(.slice I))] x=Zn x:=by kernel_rfl
def Zz_As : Anns:=[]
def Zz (x : (Int×Unit)) : Option (Int×Unit) :=
 cond (eqI (remI x.1 2) 0) (some ((addI .i64 x.1 1),())) (some ((subI .i64 x.1 1),()))
def Zz_c : Con:={ ins:=[(.rd,I)],outs:=[(true,I)],fn:=Zz }
def Zz_C : Ctx:={ tab:=tab,con:=fun _ _=>none,glob:=glob,eqs:=eqs }
theorem Zz_eq (x : (tupTy [I]).den) : callFn Zz_C Zz_As (bodyOf Tryd.f48) [(.rd,I)] [(.tmp 2,true,I)] x=Zz x:=by kernel_rfl
def Zy_H12 : Shape:={ env:=[(3,.av (.own 3)),(4,.av (.own 4)),(5,.av (.own 5)),(6,.av (.val I)),(7,.av (.own 7)),(8,.av (.val I))],objs:=[(3,.arr (.slice I)),(4,.arr I),(5,.arr .bool),(7,.arr I)] }
def Zy_E12 : List (Ex×Shape):=[(.exit 2,{ env:=[(3,.av (.own 3)),(4,.av (.own 4)),(5,.av (.own 5)),(6,.av (.val I)),(7,.av (.own 7))],objs:=[(3,.arr (.slice I)),(4,.arr I),(5,.arr .bool),(7,.arr I)] })]
def Zy_B12 (x : Q25) : Option (Q25⊕(((List (List Int))×List Int×List Bool×List Int×Int×Unit)⊕Empty)) :=
 let (a,b,c,d,e,f,_):=x; (idxI c.length f).bind fun j1=>(c[j1]?).bind fun y2=>cond (!y2) ((idxI c.length f).bind fun j3=>(c[j3]?).bind fun y4=>(app d [f]).bind fun a5=>(Zz (f,())).bind fun r6=>(idxI b.length r6.1).bind fun j7=>(b[j7]?).bind fun y8=>some (.inl (a,b,(c.set j3 true),a5,e,y8,()))) (some (.inr (.inl (a,b,c,d,e,()))))
def Zy_L12 : Q25→Option (((List (List Int))×List Int×List Bool×List Int×Int×Unit)⊕Empty):=loopFix Zy_B12
def Zy_A12 : Ann:={ head:=Zy_H12,exits:=Zy_E12,fn:=Zy_L12 }
def Zy_H7 : Shape:={ env:=[(3,.av (.own 3)),(4,.av (.own 4)),(5,.av (.own 5)),(6,.av (.val I))],objs:=[(3,.arr (.slice I)),(4,.arr I),(5,.arr .bool)] }
def Zy_E7 : List (Ex×Shape):=[(.exit 0,{ env:=[(3,.av (.own 3))],objs:=[(3,.arr (.slice I))] })]
def Zy_B7 (x : Q17) : Option (Q17⊕(Q7⊕Empty)) :=
 let (a,b,c,d,_):=x; cond (ltI d (b.length : Nat)) ((idxI c.length d).bind fun j1=>(c[j1]?).bind fun y2=>cond y2 (some (.inl (a,b,c,(addI .i64 d 1),()))) ((Zy_L12 (a,b,c,[],d,d,())).bind (Sum.elim (fun z4=>(app z4.1 [z4.2.2.2.1]).bind fun a5=>some (.inl (a5,z4.2.1,z4.2.2.1,(addI .i64 z4.2.2.2.2.1 1),()))) (fun _=>none)))) (some (.inr (.inl (a,()))))
def Zy_L7 : Q17→Option (Q7⊕Empty):=loopFix Zy_B7
def Zy_A7 : Ann:={ head:=Zy_H7,exits:=Zy_E7,fn:=Zy_L7 }
def Zy_As : Anns:=[(7,Zy_A7),(12,Zy_A12)]
def Zy (x : (Q10×Unit)) : Option Q7 :=
 let ((a,b,c,_),_):=x; (Zaa ((a,b,c,()),())).bind fun r1=>cond (!r1.1) (some ([],())) ((Zn ((a,b,c,()),())).bind fun r2=>(makeL .bool (r2.1.length : Nat) (r2.1.length : Nat)).bind fun m3=>(Zy_L7 ([],r2.1,m3,0,())).bind (Sum.elim (fun z5=>some (z5.1,())) (fun _=>none)))
def Zy_c : Con:={ ins:=[(.rd,yQ6)],outs:=[(true,yQ3)],fn:=Zy }
def Zy_C : Ctx:={ tab:=tab,con:=fun | 29,_=>some Zaa_c | 48,_=>some Zz_c | 55,_=>some Zn_c | _,_=>none,glob:=glob,eqs:=eqs }
theorem Zy_R12 (x : Zy_H12.ty.den) : round Zy_C Zy_As Zy_A12 (loopBody 12 (bodyOf Tryd.f33)) x=Zy_B12 x:=by kernel_rfl
theorem Zy_R7 (x : Zy_H7.ty.den) : round Zy_C Zy_As Zy_A7 (loopBody 7 (bodyOf Tryd.f33)) x=Zy_B7 x:=by kernel_rfl
theorem Zy_eq (x : (tupTy [yQ6]).den) : callFn Zy_C Zy_As (bodyOf Tryd.f33) [(.rd,yQ6)] [(.tmp 2,true,yQ3)] x=Zy x:=by kernel_rfl
def Zac_H1 : Shape:={ env:=[(0,.av (.val (.slice I))),(1,.av (.val I))],objs:=[] }
def Zac_E1 : List (Ex×Shape):=[(.exit 0,{ env:=[(1,.av (.val I))],objs:=[] })]
def Zac_B1 (x : Q4) : Option (Q4⊕((Int×Unit)⊕Empty)) :=
 let (a,b,_):=x; (getI a b).bind fun y1=>cond (neI y1 b) ((getI a b).bind fun y2=>some (.inl (a,y2,()))) (some (.inr (.inl (b,()))))
def Zac_L1 : Q4→Option ((Int×Unit)⊕Empty):=loopFix Zac_B1
def Zac_A1 : Ann:={ head:=Zac_H1,exits:=Zac_E1,fn:=Zac_L1 }
def Zac_As : Anns:=[(1,Zac_A1)]
def Zac (x : Q4) : Option (Int×Unit) :=
 (Zac_L1 (x.1,x.2.1,())).bind (Sum.elim (fun z2=>some (z2.1,())) (fun _=>none))
def Zac_c : Con:={ ins:=[(.rd,(.slice I)),(.rd,I)],outs:=[(true,I)],fn:=Zac }
def Zac_C : Ctx:={ tab:=tab,con:=fun _ _=>none,glob:=glob,eqs:=eqs }
theorem Zac_R1 (x : Zac_H1.ty.den) : round Zac_C Zac_As Zac_A1 (loopBody 1 (bodyOf Tryd.f79)) x=Zac_B1 x:=by kernel_rfl
theorem Zac_eq (x : (tupTy [(.slice I),I]).den) : callFn Zac_C Zac_As (bodyOf Tryd.f79) [(.rd,(.slice I)),(.rd,I)] [(.tmp 4,true,I)] x=Zac x:=by kernel_rfl
def Zc_H8 : Shape:={ env:=[(1,.av (.ptr 1 0)),(3,.av (.own 3)),(5,.av (.val I)),(6,.av (.val I))],objs:=[(1,.box [.val I,.val (.slice yQ2),.val yQ3]),(3,.arr I)] }
def Zc_E8 : List (Ex×Shape):=[(.exit 2,{ env:=[(5,.av (.val I))],objs:=[] })]
def Zc_B8 (x : Q23) : Option (Q23⊕((Int×Unit)⊕Empty)) :=
 let (a,b,c,d,e,f,_):=x; cond (ltI f (b.length : Nat)) ((getI b f).bind fun y1=>(Zac (d,y1.1,())).bind fun r2=>(getI b f).bind fun y3=>(Zac (d,y3.2.1,())).bind fun r4=>cond (neI r2.1 r4.1) ((idxI d.length (maxI r2.1 r4.1)).bind fun j5=>(d[j5]?).bind fun y6=>some (.inl (a,b,c,(d.set j5 (minI r2.1 r4.1)),(subI .i64 e 1),(addI .i64 f 1),()))) (some (.inl (a,b,c,d,e,(addI .i64 f 1),())))) (some (.inr (.inl (e,()))))
def Zc_L8 : Q23→Option ((Int×Unit)⊕Empty):=loopFix Zc_B8
def Zc_A8 : Ann:={ head:=Zc_H8,exits:=Zc_E8,fn:=Zc_L8 }
def Zc_H3 : Shape:={ env:=[(1,.av (.ptr 1 0)),(3,.av (.own 3)),(4,.av (.val I))],objs:=[(1,.box [.val I,.val (.slice yQ2),.val yQ3]),(3,.arr I)] }
def Zc_E3 : List (Ex×Shape):=[(.exit 0,{ env:=[(1,.av (.ptr 1 0)),(3,.av (.own 3))],objs:=[(1,.box [.val I,.val (.slice yQ2),.val yQ3]),(3,.arr I)] })]
def Zc_B3 (x : Q21) : Option (Q21⊕((Int×(List Q2)×(List (List Int))×List Int×Unit)⊕Empty)) :=
 let (a,b,c,d,e,_):=x; cond (ltI e a) ((app d [e]).bind fun a1=>some (.inl (a,b,c,a1,(addI .i64 e 1),()))) (some (.inr (.inl (a,b,c,d,()))))
def Zc_L3 : Q21→Option ((Int×(List Q2)×(List (List Int))×List Int×Unit)⊕Empty):=loopFix Zc_B3
def Zc_A3 : Ann:={ head:=Zc_H3,exits:=Zc_E3,fn:=Zc_L3 }
def Zc_As : Anns:=[(3,Zc_A3),(8,Zc_A8)]
def Zc (x : (Q10×Unit)) : Option (Int×Unit) :=
 (Zc_L3 (x.1.1,x.1.2.1,x.1.2.2.1,[],0,())).bind (Sum.elim (fun z2=>(Zc_L8 (z2.1,z2.2.1,z2.2.2.1,z2.2.2.2.1,z2.1,0,())).bind (Sum.elim (fun z4=>some (z4.1,())) (fun _=>none))) (fun _=>none))
def Zc_c : Con:={ ins:=[(.rd,yQ6)],outs:=[(true,I)],fn:=Zc }
def Zc_C : Ctx:={ tab:=tab,con:=fun | 79,_=>some Zac_c | _,_=>none,glob:=glob,eqs:=eqs }
theorem Zc_R8 (x : Zc_H8.ty.den) : round Zc_C Zc_As Zc_A8 (loopBody 8 (bodyOf Tryd.f53)) x=Zc_B8 x:=by kernel_rfl
theorem Zc_R3 (x : Zc_H3.ty.den) : round Zc_C Zc_As Zc_A3 (loopBody 3 (bodyOf Tryd.f53)) x=Zc_B3 x:=by kernel_rfl
theorem Zc_eq (x : (tupTy [yQ6]).den) : callFn Zc_C Zc_As (bodyOf Tryd.f53) [(.rd,yQ6)] [(.tmp 2,true,I)] x=Zc x:=by kernel_rfl
def Zr_H5 : Shape:={ env:=[(1,.av (.ptr 1 0)),(3,.av (.val I)),(4,.av (.val I))],objs:=[(1,.box [.val I,.val (.slice yQ2),.val yQ3])] }
def Zr_E5 : List (Ex×Shape):=[(.exit 0,{ env:=[(1,.av (.ptr 1 0)),(3,.av (.val I))],objs:=[(1,.box [.val I,.val (.slice yQ2),.val yQ3])] })]
def Zr_B5 (x : Q18) : Option (Q18⊕(Q15⊕Empty)) :=
 let (a,b,c,d,e,_):=x; cond (ltI e a) ((getI c e).bind fun y1=>cond (eqI (y1.length : Nat) 0) (some (.inl (a,b,c,(addI .i64 d 1),(addI .i64 e 1),()))) (some (.inl (a,b,c,d,(addI .i64 e 1),())))) (some (.inr (.inl (a,b,c,d,()))))
def Zr_L5 : Q18→Option (Q15⊕Empty):=loopFix Zr_B5
def Zr_A5 : Ann:={ head:=Zr_H5,exits:=Zr_E5,fn:=Zr_L5 }
def Zr_As : Anns:=[(5,Zr_A5)]
def Zr (x : (Q10×Unit)) : Option (Int×Unit) :=
 let ((a,b,c,_),_):=x; (Zaa ((a,b,c,()),())).bind fun r1=>cond (!r1.1) (some ((-1),())) ((Zy ((a,b,c,()),())).bind fun r2=>(Zr_L5 (a,b,c,(r2.1.length : Nat),0,())).bind (Sum.elim (fun z4=>(Zc ((z4.1,z4.2.1,z4.2.2.1,()),())).bind fun r5=>some ((subI .i64 r5.1 (quoI .i64 (addI .i64 (subI .i64 z4.1 (z4.2.1.length : Nat)) z4.2.2.2.1) 2)),())) (fun _=>none)))
def Zr_c : Con:={ ins:=[(.rd,yQ6)],outs:=[(true,I)],fn:=Zr }
def Zr_C : Ctx:={ tab:=tab,con:=fun | 29,_=>some Zaa_c | 33,_=>some Zy_c | 53,_=>some Zc_c | _,_=>none,glob:=glob,eqs:=eqs }
theorem Zr_R5 (x : Zr_H5.ty.den) : round Zr_C Zr_As Zr_A5 (loopBody 5 (bodyOf Tryd.f52)) x=Zr_B5 x:=by kernel_rfl
theorem Zr_eq (x : (tupTy [yQ6]).den) : callFn Zr_C Zr_As (bodyOf Tryd.f52) [(.rd,yQ6)] [(.tmp 2,true,I)] x=Zr x:=by kernel_rfl
def Zq_As : Anns:=[]
def Zq (x : (Q10×Unit)) : Option (Bool×Unit) :=
 let ((a,b,c,_),_):=x; (Zr ((a,b,c,()),())).bind fun r1=>cond (eqI r1.1 0) ((Zc ((a,b,c,()),())).bind fun r2=>some ((eqI r2.1 1),())) (some (false,()))
def Zq_c : Con:={ ins:=[(.rd,yQ6)],outs:=[(true,.bool)],fn:=Zq }
def Zq_C : Ctx:={ tab:=tab,con:=fun | 52,_=>some Zr_c | 53,_=>some Zc_c | _,_=>none,glob:=glob,eqs:=eqs }
theorem Zq_eq (x : (tupTy [yQ6]).den) : callFn Zq_C Zq_As (bodyOf Tryd.f30) [(.rd,yQ6)] [(.tmp 2,true,.bool)] x=Zq x:=by kernel_rfl
def Zak_H6 : Shape:={ env:=[(1,.av (.ptr 1 0)),(3,.av (.val I)),(4,.av (.val I)),(5,.av (.val I))],objs:=[(1,.box [.val I,.val (.slice yQ2),.val yQ3,.val (.slice I),.val (.slice .str),.val I])] }
def Zak_E6 : List (Ex×Shape):=[(.ret,{ env:=[(2,.av (.val .bool))],objs:=[] }),(.exit 2,{ env:=[(1,.av (.ptr 1 0)),(3,.av (.val I)),(4,.av (.val I))],objs:=[(1,.box [.val I,.val (.slice yQ2),.val yQ3,.val (.slice I),.val (.slice .str),.val I])] })]
def Zak_B6 (x : Q44) : Option (Q44⊕((Bool×Unit)⊕(Q40⊕Empty))) :=
 let (a,b,c,d,e,f,g,h,i,_):=x; (getI c g).bind fun y1=>cond (ltI i (y1.length : Nat)) ((getI c g).bind fun y2=>(getI y2 i).bind fun y3=>(getI d y3).bind fun y4=>cond (ltI y4 1) (some (.inr (.inl (false,())))) (cond (gtI y4 4) (some (.inr (.inl (false,())))) (some (.inl (a,b,c,d,e,f,g,(addI .i64 h y4),(addI .i64 i 1),()))))) (some (.inr (.inr (.inl (a,b,c,d,e,f,g,h,())))))
def Zak_L6 : Q44→Option ((Bool×Unit)⊕(Q40⊕Empty)):=loopFix Zak_B6
def Zak_A6 : Ann:={ head:=Zak_H6,exits:=Zak_E6,fn:=Zak_L6 }
def Zak_H2 : Shape:={ env:=[(1,.av (.ptr 1 0)),(3,.av (.val I))],objs:=[(1,.box [.val I,.val (.slice yQ2),.val yQ3,.val (.slice I),.val (.slice .str),.val I])] }
def Zak_E2 : List (Ex×Shape):=[(.ret,{ env:=[(2,.av (.val .bool))],objs:=[] }),(.exit 0,{ env:=[],objs:=[] })]
def Zak_B2 (x : Q36) : Option (Q36⊕((Bool×Unit)⊕(Unit⊕Empty))) :=
 let (a,b,c,d,e,f,g,_):=x; cond (ltI g a) ((Zak_L6 (a,b,c,d,e,f,g,0,0,())).bind (Sum.elim (fun z2=>some (.inr (.inl (z2.1,())))) (Sum.elim (fun (a_3,b_3,c_3,d_3,e_3,f_3,g_3,h_3,_)=>cond (neI h_3 4) ((getI c_3 g_3).bind fun y4=>cond (gtI (y4.length : Nat) 0) (some (.inr (.inl (false,())))) (some (.inl (a_3,b_3,c_3,d_3,e_3,f_3,(addI .i64 g_3 1),())))) (some (.inl (a_3,b_3,c_3,d_3,e_3,f_3,(addI .i64 g_3 1),())))) (fun _=>none)))) (some (.inr (.inr (.inl ()))))
def Zak_L2 : Q36→Option ((Bool×Unit)⊕(Unit⊕Empty)):=loopFix Zak_B2
def Zak_A2 : Ann:={ head:=Zak_H2,exits:=Zak_E2,fn:=Zak_L2 }
def Zak_As : Anns:=[(2,Zak_A2),(6,Zak_A6)]
def Zak (x : (Q11×Unit)) : Option (Bool×Unit) :=
 let (((a,b,c,_),d,e,f,_),_):=x; (Zak_L2 (a,b,c,d,e,f,0,())).bind (Sum.elim (fun z2=>some (z2.1,())) (Sum.elim (fun z3=>some (true,())) (fun _=>none)))
def Zak_c : Con:={ ins:=[(.rd,yQ9)],outs:=[(true,.bool)],fn:=Zak }
def Zak_C : Ctx:={ tab:=tab,con:=fun _ _=>none,glob:=glob,eqs:=eqs }
theorem Zak_R6 (x : Zak_H6.ty.den) : round Zak_C Zak_As Zak_A6 (loopBody 6 (bodyOf Tryd.f31)) x=Zak_B6 x:=by kernel_rfl
theorem Zak_R2 (x : Zak_H2.ty.den) : round Zak_C Zak_As Zak_A2 (loopBody 2 (bodyOf Tryd.f31)) x=Zak_B2 x:=by kernel_rfl
theorem Zak_eq (x : (tupTy [yQ9]).den) : callFn Zak_C Zak_As (bodyOf Tryd.f31) [(.rd,yQ9)] [(.tmp 2,true,.bool)] x=Zak x:=by kernel_rfl
def Zg_As : Anns:=[]
def Zg (x : (Int×Unit)) : Option (Int×Unit) :=
 cond (eqI x.1 76) (some (82,())) (cond (eqI x.1 82) (some (76,())) (some (x.1,())))
def Zg_c : Con:={ ins:=[(.rd,(.int .u8))],outs:=[(true,(.int .u8))],fn:=Zg }
def Zg_C : Ctx:={ tab:=tab,con:=fun _ _=>none,glob:=glob,eqs:=eqs }
theorem Zg_eq (x : (tupTy [(.int .u8)]).den) : callFn Zg_C Zg_As (bodyOf Tryd.f80) [(.rd,(.int .u8))] [(.tmp 2,true,(.int .u8))] x=Zg x:=by kernel_rfl
def Zl_H3 : Shape:={ env:=[(0,.av (.val .str)),(3,.av (.own 3)),(4,.av (.val I))],objs:=[(3,.arr (.int .u8))] }
def Zl_E3 : List (Ex×Shape):=[(.exit 0,{ env:=[(3,.av (.own 3))],objs:=[(3,.arr (.int .u8))] })]
def Zl_B3 (x : (List Int×ByteArray×Int×Unit)) : Option ((List Int×ByteArray×Int×Unit)⊕(Q1⊕Empty)) :=
 let (a,b,c,_):=x; cond (geI c 0) ((getI b.data.toList c).bind fun c1=>(Zg ((c1.toNat : Int),())).bind fun r2=>(app a [r2.1]).bind fun a3=>some (.inl (a3,b,(subI .i64 c 1),()))) (some (.inr (.inl (a,()))))
def Zl_L3 : (List Int×ByteArray×Int×Unit)→Option (Q1⊕Empty):=loopFix Zl_B3
def Zl_A3 : Ann:={ head:=Zl_H3,exits:=Zl_E3,fn:=Zl_L3 }
def Zl_As : Anns:=[(3,Zl_A3)]
def Zl (x : Q3) : Option Q3 :=
 (Zl_L3 ([],x.1,(subI .i64 (x.1.size : Nat) 1),())).bind (Sum.elim (fun z2=>some ((ofBytes z2.1),())) (fun _=>none))
def Zl_c : Con:={ ins:=[(.rd,.str)],outs:=[(true,.str)],fn:=Zl }
def Zl_C : Ctx:={ tab:=tab,con:=fun | 80,_=>some Zg_c | _,_=>none,glob:=glob,eqs:=eqs }
theorem Zl_R3 (x : Zl_H3.ty.den) : round Zl_C Zl_As Zl_A3 (loopBody 3 (bodyOf Tryd.f54)) x=Zl_B3 x:=by kernel_rfl
theorem Zl_eq (x : (tupTy [.str]).den) : callFn Zl_C Zl_As (bodyOf Tryd.f54) [(.rd,.str)] [(.tmp 2,true,.str)] x=Zl x:=by kernel_rfl
def Zab_H7 : Shape:={ env:=[(1,.av (.ptr 1 0)),(3,.av (.val I)),(4,.av (.val I))],objs:=[(1,.box [.val I,.val (.slice yQ2),.val yQ3,.val (.slice I),.val (.slice .str),.val I])] }
def Zab_E7 : List (Ex×Shape):=[(.ret,{ env:=[(2,.av (.val .bool))],objs:=[] }),(.exit 2,{ env:=[(1,.av (.ptr 1 0)),(3,.av (.val I))],objs:=[(1,.box [.val I,.val (.slice yQ2),.val yQ3,.val (.slice I),.val (.slice .str),.val I])] })]
def Zab_B7 (x : Q40) : Option (Q40⊕((Bool×Unit)⊕(Q36⊕Empty))) :=
 let (a,b,c,d,e,f,g,h,_):=x; (getI e g).bind fun y1=>cond (ltI h (y1.size : Nat)) ((getI e g).bind fun y2=>(getI y2.data.toList h).bind fun c3=>cond (neI (c3.toNat : Int) 76) ((getI e g).bind fun y4=>(getI y4.data.toList h).bind fun c5=>cond (neI (c5.toNat : Int) 82) (some (.inr (.inl (false,())))) (some (.inl (a,b,c,d,e,f,g,(addI .i64 h 1),())))) (some (.inl (a,b,c,d,e,f,g,(addI .i64 h 1),())))) (some (.inr (.inr (.inl (a,b,c,d,e,f,g,())))))
def Zab_L7 : Q40→Option ((Bool×Unit)⊕(Q36⊕Empty)):=loopFix Zab_B7
def Zab_A7 : Ann:={ head:=Zab_H7,exits:=Zab_E7,fn:=Zab_L7 }
def Zab_H2 : Shape:={ env:=[(1,.av (.ptr 1 0)),(3,.av (.val I))],objs:=[(1,.box [.val I,.val (.slice yQ2),.val yQ3,.val (.slice I),.val (.slice .str),.val I])] }
def Zab_E2 : List (Ex×Shape):=[(.ret,{ env:=[(2,.av (.val .bool))],objs:=[] }),(.exit 0,{ env:=[],objs:=[] })]
def Zab_B2 (x : Q36) : Option (Q36⊕((Bool×Unit)⊕(Unit⊕Empty))) :=
 let (a,b,c,d,e,f,g,_):=x; cond (ltI g (e.length : Nat)) ((getI e g).bind fun y1=>cond (gtI (y1.size : Nat) 64) (some (.inr (.inl (false,())))) ((getI e (xorI .i64 g 1)).bind fun y2=>(getI e g).bind fun y3=>(Zl (y3,())).bind fun r4=>cond (neS y2 r4.1) (some (.inr (.inl (false,())))) ((Zab_L7 (a,b,c,d,e,f,g,0,())).bind (Sum.elim (fun z6=>some (.inr (.inl (z6.1,())))) (Sum.elim (fun (a_7,b_7,c_7,d_7,e_7,f_7,g_7,_)=>some (.inl (a_7,b_7,c_7,d_7,e_7,f_7,(addI .i64 g_7 1),()))) (fun _=>none)))))) (some (.inr (.inr (.inl ()))))
def Zab_L2 : Q36→Option ((Bool×Unit)⊕(Unit⊕Empty)):=loopFix Zab_B2
def Zab_A2 : Ann:={ head:=Zab_H2,exits:=Zab_E2,fn:=Zab_L2 }
def Zab_As : Anns:=[(2,Zab_A2),(7,Zab_A7)]
def Zab (x : (Q11×Unit)) : Option (Bool×Unit) :=
 let (((a,b,c,_),d,e,f,_),_):=x; (Zab_L2 (a,b,c,d,e,f,0,())).bind (Sum.elim (fun z2=>some (z2.1,())) (Sum.elim (fun z3=>some (true,())) (fun _=>none)))
def Zab_c : Con:={ ins:=[(.rd,yQ9)],outs:=[(true,.bool)],fn:=Zab }
def Zab_C : Ctx:={ tab:=tab,con:=fun | 54,_=>some Zl_c | _,_=>none,glob:=glob,eqs:=eqs }
theorem Zab_R7 (x : Zab_H7.ty.den) : round Zab_C Zab_As Zab_A7 (loopBody 7 (bodyOf Tryd.f32)) x=Zab_B7 x:=by kernel_rfl
theorem Zab_R2 (x : Zab_H2.ty.den) : round Zab_C Zab_As Zab_A2 (loopBody 2 (bodyOf Tryd.f32)) x=Zab_B2 x:=by kernel_rfl
theorem Zab_eq (x : (tupTy [yQ9]).den) : callFn Zab_C Zab_As (bodyOf Tryd.f32) [(.rd,yQ9)] [(.tmp 2,true,.bool)] x=Zab x:=by kernel_rfl
def Zas_H2 : Shape:={ env:=[(0,.av (.val (.slice I))),(1,.av (.val I)),(5,.av (.val I))],objs:=[] }
def Zas_E2 : List (Ex×Shape):=[(.ret,{ env:=[(4,.av (.val .bool))],objs:=[] }),(.exit 0,{ env:=[],objs:=[] })]
def Zas_B2 (x : Q8) : Option (Q8⊕((Bool×Unit)⊕(Unit⊕Empty))) :=
 let (a,b,c,_):=x; cond (ltI c (a.length : Nat)) ((getI a c).bind fun y1=>cond (eqI y1 b) (some (.inr (.inl (true,())))) (some (.inl (a,b,(addI .i64 c 1),())))) (some (.inr (.inr (.inl ()))))
def Zas_L2 : Q8→Option ((Bool×Unit)⊕(Unit⊕Empty)):=loopFix Zas_B2
def Zas_A2 : Ann:={ head:=Zas_H2,exits:=Zas_E2,fn:=Zas_L2 }
def Zas_As : Anns:=[(2,Zas_A2)]
def Zas (x : Q4) : Option (Bool×Unit) :=
 (Zas_L2 (x.1,x.2.1,0,())).bind (Sum.elim (fun z2=>some (z2.1,())) (Sum.elim (fun z3=>some (false,())) (fun _=>none)))
def Zas_c : Con:={ ins:=[(.rd,(.slice I)),(.rd,I)],outs:=[(true,.bool)],fn:=Zas }
def Zas_C : Ctx:={ tab:=tab,con:=fun _ _=>none,glob:=glob,eqs:=eqs }
theorem Zas_R2 (x : Zas_H2.ty.den) : round Zas_C Zas_As Zas_A2 (loopBody 2 (bodyOf Tryd.f34)) x=Zas_B2 x:=by kernel_rfl
theorem Zas_eq (x : (tupTy [(.slice I),I]).den) : callFn Zas_C Zas_As (bodyOf Tryd.f34) [(.rd,(.slice I)),(.rd,I)] [(.tmp 4,true,.bool)] x=Zas x:=by kernel_rfl
def Zaj_H3 : Shape:={ env:=[(0,.av (.val .str)),(3,.av (.val I)),(4,.av (.val I))],objs:=[] }
def Zaj_E3 : List (Ex×Shape):=[(.exit 0,{ env:=[(3,.av (.val I))],objs:=[] })]
def Zaj_B3 (x : (ByteArray×Int×Int×Unit)) : Option ((ByteArray×Int×Int×Unit)⊕((Int×Unit)⊕Empty)) :=
 let (a,b,c,_):=x; cond (ltI c (a.size : Nat)) ((getI a.data.toList c).bind fun c1=>cond (eqI (c1.toNat : Int) 76) ((getI a.data.toList c).bind fun c2=>cond (eqI (c2.toNat : Int) 82) (some (.inl (a,(subI .i64 (addI .i64 b 1) 1),(addI .i64 c 1),()))) (some (.inl (a,(addI .i64 b 1),(addI .i64 c 1),())))) ((getI a.data.toList c).bind fun c3=>cond (eqI (c3.toNat : Int) 82) (some (.inl (a,(subI .i64 b 1),(addI .i64 c 1),()))) (some (.inl (a,b,(addI .i64 c 1),()))))) (some (.inr (.inl (b,()))))
def Zaj_L3 : (ByteArray×Int×Int×Unit)→Option ((Int×Unit)⊕Empty):=loopFix Zaj_B3
def Zaj_A3 : Ann:={ head:=Zaj_H3,exits:=Zaj_E3,fn:=Zaj_L3 }
def Zaj_As : Anns:=[(3,Zaj_A3)]
def Zaj (x : Q3) : Option (Int×Unit) :=
 (Zaj_L3 (x.1,0,0,())).bind (Sum.elim (fun z2=>some (z2.1,())) (fun _=>none))
def Zaj_c : Con:={ ins:=[(.rd,.str)],outs:=[(true,I)],fn:=Zaj }
def Zaj_C : Ctx:={ tab:=tab,con:=fun _ _=>none,glob:=glob,eqs:=eqs }
theorem Zaj_R3 (x : Zaj_H3.ty.den) : round Zaj_C Zaj_As Zaj_A3 (loopBody 3 (bodyOf Tryd.f56)) x=Zaj_B3 x:=by kernel_rfl
theorem Zaj_eq (x : (tupTy [.str]).den) : callFn Zaj_C Zaj_As (bodyOf Tryd.f56) [(.rd,.str)] [(.tmp 2,true,I)] x=Zaj x:=by kernel_rfl
def Zt_H3 : Shape:={ env:=[(1,.av (.val (.slice I))),(2,.av (.ptr 2 0)),(5,.av (.val I)),(6,.av (.val I))],objs:=[(2,.box [.val I,.val (.slice yQ2),.val yQ3,.val (.slice I),.val (.slice .str),.val I])] }
def Zt_E3 : List (Ex×Shape):=[(.exit 0,{ env:=[(5,.av (.val I))],objs:=[] })]
def Zt_B3 (x : Q46) : Option (Q46⊕((Int×Unit)⊕Empty)) :=
 let (a,b,c,d,e,f,g,h,i,_):=x; cond (ltI i (g.length : Nat)) ((getI g i).bind fun y1=>(getI e y1).bind fun y2=>(Zaj (y2,())).bind fun r3=>(getI g i).bind fun y4=>(getI d (xorI .i64 y4 1)).bind fun y5=>some (.inl (a,b,c,d,e,f,g,(subI .i64 (addI .i64 (addI .i64 h r3.1) 2) y5),(addI .i64 i 1),()))) (some (.inr (.inl (h,()))))
def Zt_L3 : Q46→Option ((Int×Unit)⊕Empty):=loopFix Zt_B3
def Zt_A3 : Ann:={ head:=Zt_H3,exits:=Zt_E3,fn:=Zt_L3 }
def Zt_As : Anns:=[(3,Zt_A3)]
def Zt (x : (Q11×List Int×Unit)) : Option (Int×Unit) :=
 let (((a,b,c,_),d,e,f,_),g,_):=x; (Zt_L3 (a,b,c,d,e,f,g,0,0,())).bind (Sum.elim (fun z2=>some (z2.1,())) (fun _=>none))
def Zt_c : Con:={ ins:=[(.rd,yQ9),(.rd,(.slice I))],outs:=[(true,I)],fn:=Zt }
def Zt_C : Ctx:={ tab:=tab,con:=fun | 56,_=>some Zaj_c | _,_=>none,glob:=glob,eqs:=eqs }
theorem Zt_R3 (x : Zt_H3.ty.den) : round Zt_C Zt_As Zt_A3 (loopBody 3 (bodyOf Tryd.f35)) x=Zt_B3 x:=by kernel_rfl
theorem Zt_eq (x : (tupTy [yQ9,(.slice I)]).den) : callFn Zt_C Zt_As (bodyOf Tryd.f35) [(.rd,yQ9),(.rd,(.slice I))] [(.tmp 4,true,I)] x=Zt x:=by kernel_rfl
def Zx_H8 : Shape:={ env:=[(1,.av (.ptr 1 0)),(4,.av (.own 4)),(5,.av (.val I))],objs:=[(1,.box [.val I,.val (.slice yQ2),.val yQ3,.val (.slice I),.val (.slice .str),.val I]),(4,.arr (.slice I))] }
def Zx_E8 : List (Ex×Shape):=[(.ret,{ env:=[(2,.av (.val I))],objs:=[] }),(.exit 0,{ env:=[],objs:=[] })]
def Zx_B8 (x : Q47) : Option (Q47⊕((Int×Unit)⊕(Unit⊕Empty))) :=
 let (a,b,c,d,e,f,g,h,_):=x; cond (ltI h (g.length : Nat)) ((idxI g.length h).bind fun j1=>(g[j1]?).bind fun y2=>(Zas (y2,f,())).bind fun r3=>cond r3.1 ((idxI g.length h).bind fun j4=>(g[j4]?).bind fun y5=>(Zt (((a,b,c,()),d,e,f,()),y5,())).bind fun r6=>cond (neI r6.1 (-4)) (some (.inr (.inl (13,())))) (some (.inl (a,b,c,d,e,f,g,(addI .i64 h 1),())))) ((idxI g.length h).bind fun j7=>(g[j7]?).bind fun y8=>(Zt (((a,b,c,()),d,e,f,()),y8,())).bind fun r9=>cond (neI r9.1 4) (some (.inr (.inl (13,())))) (some (.inl (a,b,c,d,e,f,g,(addI .i64 h 1),()))))) (some (.inr (.inr (.inl ()))))
def Zx_L8 : Q47→Option ((Int×Unit)⊕(Unit⊕Empty)):=loopFix Zx_B8
def Zx_A8 : Ann:={ head:=Zx_H8,exits:=Zx_E8,fn:=Zx_L8 }
def Zx_As : Anns:=[(8,Zx_A8)]
def Zx (x : (Q11×Unit)) : Option (Int×Unit) :=
 let (((a,b,c,_),d,e,f,_),_):=x; let t_0:=(Zy ((a,b,c,()),())).bind fun r5=>(Zx_L8 (a,b,c,d,e,f,r5.1,0,())).bind (Sum.elim (fun z7=>some (z7.1,())) (Sum.elim (fun z8=>some (0,())) (fun _=>none))); (Zaa ((a,b,c,()),())).bind fun r1=>cond (!r1.1) (some (13,())) (cond (ltI a 1) (some (13,())) ((Zq ((a,b,c,()),())).bind fun r2=>cond (!r2.1) (some (13,())) (cond (neI (d.length : Nat) (mulI .i64 2 (b.length : Nat))) (some (13,())) (cond (neI (e.length : Nat) (mulI .i64 2 (b.length : Nat))) (some (13,())) ((Zak (((a,b,c,()),d,e,f,()),())).bind fun r3=>cond (!r3.1) (some (13,())) ((Zab (((a,b,c,()),d,e,f,()),())).bind fun r4=>cond (!r4.1) (some (13,())) (cond (ltI f 0) (some (13,())) (cond (gtI f 0) (cond (geI f (mulI .i64 2 (b.length : Nat))) (some (13,())) t_0) t_0))))))))
def Zx_c : Con:={ ins:=[(.rd,yQ9)],outs:=[(true,I)],fn:=Zx }
def Zx_C : Ctx:={ tab:=tab,con:=fun | 29,_=>some Zaa_c | 30,_=>some Zq_c | 31,_=>some Zak_c | 32,_=>some Zab_c | 33,_=>some Zy_c | 34,_=>some Zas_c | 35,_=>some Zt_c | _,_=>none,glob:=glob,eqs:=eqs }
theorem Zx_R8 (x : Zx_H8.ty.den) : round Zx_C Zx_As Zx_A8 (loopBody 8 (bodyOf Tryd.f13)) x=Zx_B8 x:=by kernel_rfl
theorem Zx_eq (x : (tupTy [yQ9]).den) : callFn Zx_C Zx_As (bodyOf Tryd.f13) [(.rd,yQ9)] [(.tmp 2,true,I)] x=Zx x:=by kernel_rfl
def Zd_H43 : Shape:={ env:=[(1,.av (.ptr 1 0)),(2,.av (.ptr 2 0)),(5,.av (.ptr 5 0)),(6,.av (.own 6)),(7,.av (.own 7)),(8,.av (.own 8)),(18,.av (.val I)),(19,.av (.own 19)),(20,.av (.val I))],objs:=[(1,.box [.val I,.val (.slice yQ2),.val yQ3,.val (.slice I),.val (.slice .str),.val I]),(2,.box [.val I,.nils,.nils,.nils,.nils,.val I]),(5,.box [.val I,.own 600001,.own 600002,.own 600003,.nils,.val I]),(6,.arr (.slice I)),(7,.arr I),(8,.arr (.slice I)),(19,.arr I),(600001,.arr yQ2),(600002,.arr (.slice I)),(600003,.arr I)] }
def Zd_E43 : List (Ex×Shape):=[(.exit 6,{ env:=[(1,.av (.ptr 1 0)),(2,.av (.ptr 2 0)),(5,.av (.ptr 5 0)),(6,.av (.own 6)),(7,.av (.own 7)),(8,.av (.own 8)),(18,.av (.val I)),(19,.av (.own 19))],objs:=[(1,.box [.val I,.val (.slice yQ2),.val yQ3,.val (.slice I),.val (.slice .str),.val I]),(2,.box [.val I,.nils,.nils,.nils,.nils,.val I]),(5,.box [.val I,.own 600001,.own 600002,.own 600003,.nils,.val I]),(6,.arr (.slice I)),(7,.arr I),(8,.arr (.slice I)),(19,.arr I),(600001,.arr yQ2),(600002,.arr (.slice I)),(600003,.arr I)] })]
def Zd_B43 (x : Q79) : Option (Q79⊕(Q75⊕Empty)) :=
 let (a,b,c,d,e,f,g,h,i,k,l,m,n,o,p,q,s,t,u,_):=x; (getI c t).bind fun y1=>cond (ltI u (y1.length : Nat)) ((getI c t).bind fun y2=>(getI y2 u).bind fun y3=>(idxI m.length y3).bind fun j4=>(m[j4]?).bind fun y5=>(app o [y5]).bind fun a6=>some (.inl (a,b,c,d,e,f,g,h,i,k,l,m,n,a6,p,q,s,t,(addI .i64 u 1),()))) (some (.inr (.inl (a,b,c,d,e,f,g,h,i,k,l,m,n,o,p,q,s,t,()))))
def Zd_L43 : Q79→Option (Q75⊕Empty):=loopFix Zd_B43
def Zd_A43 : Ann:={ head:=Zd_H43,exits:=Zd_E43,fn:=Zd_L43 }
def Zd_H39 : Shape:={ env:=[(1,.av (.ptr 1 0)),(2,.av (.ptr 2 0)),(5,.av (.ptr 5 0)),(6,.av (.own 6)),(7,.av (.own 7)),(8,.av (.own 8)),(18,.av (.val I))],objs:=[(1,.box [.val I,.val (.slice yQ2),.val yQ3,.val (.slice I),.val (.slice .str),.val I]),(2,.box [.val I,.nils,.nils,.nils,.nils,.val I]),(5,.box [.val I,.own 600001,.own 600002,.own 600003,.nils,.val I]),(6,.arr (.slice I)),(7,.arr I),(8,.arr (.slice I)),(600001,.arr yQ2),(600002,.arr (.slice I)),(600003,.arr I)] }
def Zd_E39 : List (Ex×Shape):=[(.exit 4,{ env:=[(1,.av (.ptr 1 0)),(2,.av (.ptr 2 0)),(5,.av (.ptr 5 0)),(6,.av (.own 6)),(7,.av (.own 7)),(8,.av (.own 8))],objs:=[(1,.box [.val I,.val (.slice yQ2),.val yQ3,.val (.slice I),.val (.slice .str),.val I]),(2,.box [.val I,.nils,.nils,.nils,.nils,.val I]),(5,.box [.val I,.own 600001,.own 600002,.own 600003,.nils,.val I]),(6,.arr (.slice I)),(7,.arr I),(8,.arr (.slice I)),(600001,.arr yQ2),(600002,.arr (.slice I)),(600003,.arr I)] })]
def Zd_B39 (x : Q72) : Option (Q72⊕(Q71⊕Empty)) :=
 let (a,b,c,d,e,f,g,h,i,k,l,m,n,o,p,q,s,_):=x; cond (ltI s a) ((Zd_L43 (a,b,c,d,e,f,g,h,i,k,l,m,n,[],o,p,q,s,0,())).bind (Sum.elim (fun (a_2,b_2,c_2,d_2,e_2,f_2,g_2,h_2,i_2,k_2,l_2,m_2,n_2,o_2,p_2,q_2,s_2,t_2,_)=>(app q_2 [o_2]).bind fun a3=>some (.inl (a_2,b_2,c_2,d_2,e_2,f_2,g_2,h_2,i_2,k_2,l_2,m_2,n_2,p_2,a3,s_2,(addI .i64 t_2 1),()))) (fun _=>none))) (some (.inr (.inl (a,b,c,d,e,f,g,h,i,k,l,m,n,o,p,q,()))))
def Zd_L39 : Q72→Option (Q71⊕Empty):=loopFix Zd_B39
def Zd_A39 : Ann:={ head:=Zd_H39,exits:=Zd_E39,fn:=Zd_L39 }
def Zd_H15 : Shape:={ env:=[(1,.av (.ptr 1 0)),(2,.av (.ptr 2 0)),(5,.av (.ptr 5 0)),(6,.av (.own 6)),(7,.av (.own 7)),(8,.av (.own 8)),(9,.av (.val I)),(10,.av (.val .str)),(11,.av (.val I)),(12,.av (.own 12)),(13,.av (.val I))],objs:=[(1,.box [.val I,.val (.slice yQ2),.val yQ3,.val (.slice I),.val (.slice .str),.val I]),(2,.box [.val I,.nils,.nils,.nils,.nils,.val I]),(5,.box [.val I,.own 600001,.nils,.own 600003,.nils,.val I]),(6,.arr (.slice I)),(7,.arr I),(8,.arr (.slice I)),(12,.arr I),(600001,.arr yQ2),(600003,.arr I)] }
def Zd_E15 : List (Ex×Shape):=[(.exit 2,{ env:=[(1,.av (.ptr 1 0)),(2,.av (.ptr 2 0)),(5,.av (.ptr 5 0)),(6,.av (.own 6)),(7,.av (.own 7)),(8,.av (.own 8)),(9,.av (.val I)),(10,.av (.val .str)),(11,.av (.val I)),(12,.av (.own 12))],objs:=[(1,.box [.val I,.val (.slice yQ2),.val yQ3,.val (.slice I),.val (.slice .str),.val I]),(2,.box [.val I,.nils,.nils,.nils,.nils,.val I]),(5,.box [.val I,.own 600001,.nils,.own 600003,.nils,.val I]),(6,.arr (.slice I)),(7,.arr I),(8,.arr (.slice I)),(12,.arr I),(600001,.arr yQ2),(600003,.arr I)] })]
def Zd_B15 (x : Q77) : Option (Q77⊕(Q74⊕Empty)) :=
 let (a,b,c,d,e,f,g,h,i,k,l,m,n,o,p,q,s,t,u,w,_):=x; cond (ltI w (t.size : Nat)) ((app p [(u,i,())]).bind fun a1=>(app o [(mulI .i64 2 (p.length : Nat))]).bind fun a2=>(app n [[(addI .i64 (mulI .i64 2 (p.length : Nat)) 1),(addI .i64 (mulI .i64 2 (p.length : Nat)) 2)]]).bind fun a3=>(getI t.data.toList w).bind fun c4=>cond (eqI (c4.toNat : Int) 82) (cond (eqI w 0) ((getI d (mulI .i64 2 s)).bind fun y5=>(app q [y5,3]).bind fun a6=>some (.inl (a,b,c,d,e,f,g,h,(addI .i64 i 1),k,l,m,a3,a2,a1,a6,s,t,i,(addI .i64 w 1),()))) ((idxI q.length (subI .i64 (q.length : Nat) 1)).bind fun j7=>(q[j7]?).bind fun y8=>(app q [(subI .i64 4 y8),3]).bind fun a9=>some (.inl (a,b,c,d,e,f,g,h,(addI .i64 i 1),k,l,m,a3,a2,a1,a9,s,t,i,(addI .i64 w 1),())))) (cond (eqI w 0) ((getI d (mulI .i64 2 s)).bind fun y10=>(app q [y10,1]).bind fun a11=>some (.inl (a,b,c,d,e,f,g,h,(addI .i64 i 1),k,l,m,a3,a2,a1,a11,s,t,i,(addI .i64 w 1),()))) ((idxI q.length (subI .i64 (q.length : Nat) 1)).bind fun j12=>(q[j12]?).bind fun y13=>(app q [(subI .i64 4 y13),1]).bind fun a14=>some (.inl (a,b,c,d,e,f,g,h,(addI .i64 i 1),k,l,m,a3,a2,a1,a14,s,t,i,(addI .i64 w 1),()))))) (some (.inr (.inl (a,b,c,d,e,f,g,h,i,k,l,m,n,o,p,q,s,t,u,()))))
def Zd_L15 : Q77→Option (Q74⊕Empty):=loopFix Zd_B15
def Zd_A15 : Ann:={ head:=Zd_H15,exits:=Zd_E15,fn:=Zd_L15 }
def Zd_H8 : Shape:={ env:=[(1,.av (.ptr 1 0)),(2,.av (.ptr 2 0)),(5,.av (.ptr 5 0)),(6,.av (.own 6)),(7,.av (.own 7)),(8,.av (.own 8)),(9,.av (.val I))],objs:=[(1,.box [.val I,.val (.slice yQ2),.val yQ3,.val (.slice I),.val (.slice .str),.val I]),(2,.box [.val I,.nils,.nils,.nils,.nils,.val I]),(5,.box [.val I,.own 600001,.nils,.own 600003,.nils,.val I]),(6,.arr (.slice I)),(7,.arr I),(8,.arr (.slice I)),(600001,.arr yQ2),(600003,.arr I)] }
def Zd_E8 : List (Ex×Shape):=[(.exit 0,{ env:=[(1,.av (.ptr 1 0)),(2,.av (.ptr 2 0)),(5,.av (.ptr 5 0)),(6,.av (.own 6)),(7,.av (.own 7)),(8,.av (.own 8))],objs:=[(1,.box [.val I,.val (.slice yQ2),.val yQ3,.val (.slice I),.val (.slice .str),.val I]),(2,.box [.val I,.nils,.nils,.nils,.nils,.val I]),(5,.box [.val I,.own 600001,.nils,.own 600003,.nils,.val I]),(6,.arr (.slice I)),(7,.arr I),(8,.arr (.slice I)),(600001,.arr yQ2),(600003,.arr I)] })]
def Zd_B8 (x : Q69) : Option (Q69⊕(Q67⊕Empty)) :=
 let (a,b,c,d,e,f,g,h,i,k,l,m,n,o,p,q,_):=x; cond (ltI q (b.length : Nat)) ((getI e (mulI .i64 2 q)).bind fun y1=>(getI b q).bind fun y2=>(app m [(mulI .i64 2 (o.length : Nat))]).bind fun a3=>(Zd_L15 (a,b,c,d,e,f,g,h,i,k,l,a3,n,[],o,p,q,y1,y2.1,0,())).bind (Sum.elim (fun (a_5,b_5,c_5,d_5,e_5,f_5,g_5,h_5,i_5,k_5,l_5,m_5,n_5,o_5,p_5,q_5,s_5,t_5,u_5,_)=>(getI b_5 s_5).bind fun y6=>(app p_5 [(u_5,y6.2.1,())]).bind fun a7=>(app o_5 [(mulI .i64 2 (p_5.length : Nat))]).bind fun a8=>(app m_5 [(addI .i64 (mulI .i64 2 (p_5.length : Nat)) 1)]).bind fun a9=>cond (eqI (t_5.size : Nat) 0) ((getI d_5 (mulI .i64 2 s_5)).bind fun y10=>(getI d_5 (addI .i64 (mulI .i64 2 s_5) 1)).bind fun y11=>(app q_5 [y10,y11]).bind fun a12=>(app l_5 [a8]).bind fun a13=>some (.inl (a_5,b_5,c_5,d_5,e_5,f_5,g_5,h_5,i_5,k_5,a13,a9,n_5,a7,a12,(addI .i64 s_5 1),()))) ((idxI q_5.length (subI .i64 (q_5.length : Nat) 1)).bind fun j14=>(q_5[j14]?).bind fun y15=>(getI d_5 (addI .i64 (mulI .i64 2 s_5) 1)).bind fun y16=>(app q_5 [(subI .i64 4 y15),y16]).bind fun a17=>(app l_5 [a8]).bind fun a18=>some (.inl (a_5,b_5,c_5,d_5,e_5,f_5,g_5,h_5,i_5,k_5,a18,a9,n_5,a7,a17,(addI .i64 s_5 1),())))) (fun _=>none))) (some (.inr (.inl (a,b,c,d,e,f,g,h,i,k,l,m,n,o,p,()))))
def Zd_L8 : Q69→Option (Q67⊕Empty):=loopFix Zd_B8
def Zd_A8 : Ann:={ head:=Zd_H8,exits:=Zd_E8,fn:=Zd_L8 }
def Zd_As : Anns:=[(8,Zd_A8),(15,Zd_A15),(39,Zd_A39),(43,Zd_A43)]
def Zd (x : (Q11×Unit)) : Option (Q11×(List (List Int))×Int×Unit) :=
 let (((a,b,c,_),d,e,f,_),_):=x; (Zx (((a,b,c,()),d,e,f,()),())).bind fun r1=>cond (neI r1.1 0) (some (((0,[],[],()),[],[],0,()),[],13,())) ((Zd_L8 (a,b,c,d,e,f,0,0,a,0,[],[],[],[],[],0,())).bind (Sum.elim (fun (a_3,b_3,c_3,d_3,e_3,f_3,g_3,h_3,i_3,k_3,l_3,m_3,n_3,o_3,p_3,_)=>(Zd_L39 (a_3,b_3,c_3,d_3,e_3,f_3,g_3,h_3,i_3,k_3,l_3,m_3,n_3,o_3,[],p_3,0,())).bind (Sum.elim (fun (_,_,_,_,_,a_5,_,_,b_5,c_5,d_5,e_5,f_5,g_5,h_5,i_5,_)=>(app h_5 f_5).bind fun a6=>(makeL .str (i_5.length : Nat) (i_5.length : Nat)).bind fun m7=>cond (gtI (e_5.length : Nat) 0) ((idxI e_5.length a_5).bind fun j8=>(e_5[j8]?).bind fun y9=>some (((b_5,g_5,a6,()),i_5,m7,y9,()),d_5,0,())) (some (((b_5,g_5,a6,()),i_5,m7,c_5,()),d_5,0,()))) (fun _=>none))) (fun _=>none)))
def Zd_c : Con:={ ins:=[(.rd,yQ9)],outs:=[(true,yQ9),(true,yQ3),(true,I)],fn:=Zd }
def Zd_C : Ctx:={ tab:=tab,con:=fun | 13,_=>some Zx_c | _,_=>none,glob:=glob,eqs:=eqs }
theorem Zd_R43 (x : Zd_H43.ty.den) : round Zd_C Zd_As Zd_A43 (loopBody 43 (bodyOf Tryd.f11)) x=Zd_B43 x:=by kernel_rfl
theorem Zd_R39 (x : Zd_H39.ty.den) : round Zd_C Zd_As Zd_A39 (loopBody 39 (bodyOf Tryd.f11)) x=Zd_B39 x:=by kernel_rfl
theorem Zd_R15 (x : Zd_H15.ty.den) : round Zd_C Zd_As Zd_A15 (loopBody 15 (bodyOf Tryd.f11)) x=Zd_B15 x:=by kernel_rfl
theorem Zd_R8 (x : Zd_H8.ty.den) : round Zd_C Zd_As Zd_A8 (loopBody 8 (bodyOf Tryd.f11)) x=Zd_B8 x:=by kernel_rfl
theorem Zd_eq (x : (tupTy [yQ9]).den) : callFn Zd_C Zd_As (bodyOf Tryd.f11) [(.rd,yQ9)] [(.cell 2 29,true,yQ9),(.tmp 3,true,yQ3),(.tmp 4,true,I)] x=Zd x:=by kernel_rfl
def Zm_H8 : Shape:={ env:=[(0,.av (.val (.slice I))),(1,.av (.val (.slice I))),(5,.av (.val I)),(6,.av (.val .bool)),(7,.av (.val I))],objs:=[] }
def Zm_E8 : List (Ex×Shape):=[(.exit 2,{ env:=[(0,.av (.val (.slice I))),(1,.av (.val (.slice I))),(5,.av (.val I)),(6,.av (.val .bool))],objs:=[] })]
def Zm_B8 (x : Q13) : Option (Q13⊕((List Int×List Int×Int×Bool×Unit)⊕Empty)) :=
 let (a,b,c,d,e,_):=x; cond (ltI e (a.length : Nat)) (cond d (cond (eqI (a.length : Nat) 0) none ((getI a (remI (addI .i64 c e) (a.length : Nat))).bind fun y1=>(getI b e).bind fun y2=>some (.inl (a,b,c,(eqI y1 y2),(addI .i64 e 1),())))) (some (.inr (.inl (a,b,c,d,()))))) (some (.inr (.inl (a,b,c,d,()))))
def Zm_L8 : Q13→Option ((List Int×List Int×Int×Bool×Unit)⊕Empty):=loopFix Zm_B8
def Zm_A8 : Ann:={ head:=Zm_H8,exits:=Zm_E8,fn:=Zm_L8 }
def Zm_H4 : Shape:={ env:=[(0,.av (.val (.slice I))),(1,.av (.val (.slice I))),(5,.av (.val I))],objs:=[] }
def Zm_E4 : List (Ex×Shape):=[(.ret,{ env:=[(4,.av (.val .bool))],objs:=[] }),(.exit 0,{ env:=[(0,.av (.val (.slice I)))],objs:=[] })]
def Zm_B4 (x : (List Int×List Int×Int×Unit)) : Option ((List Int×List Int×Int×Unit)⊕((Bool×Unit)⊕(Q1⊕Empty))) :=
 let (a,b,c,_):=x; cond (ltI c (a.length : Nat)) ((Zm_L8 (a,b,c,true,0,())).bind (Sum.elim (fun z2=>cond z2.2.2.2.1 (some (.inr (.inl (true,())))) (some (.inl (z2.1,z2.2.1,(addI .i64 z2.2.2.1 1),())))) (fun _=>none))) (some (.inr (.inr (.inl (a,())))))
def Zm_L4 : (List Int×List Int×Int×Unit)→Option ((Bool×Unit)⊕(Q1⊕Empty)):=loopFix Zm_B4
def Zm_A4 : Ann:={ head:=Zm_H4,exits:=Zm_E4,fn:=Zm_L4 }
def Zm_As : Anns:=[(4,Zm_A4),(8,Zm_A8)]
def Zm (x : (List Int×List Int×Unit)) : Option (Bool×Unit) :=
 cond (neI (x.1.length : Nat) (x.2.1.length : Nat)) (some (false,())) ((Zm_L4 (x.1,x.2.1,0,())).bind (Sum.elim (fun z2=>some (z2.1,())) (Sum.elim (fun z3=>some ((eqI (z3.1.length : Nat) 0),())) (fun _=>none))))
def Zm_c : Con:={ ins:=[(.rd,(.slice I)),(.rd,(.slice I))],outs:=[(true,.bool)],fn:=Zm }
def Zm_C : Ctx:={ tab:=tab,con:=fun _ _=>none,glob:=glob,eqs:=eqs }
theorem Zm_R8 (x : Zm_H8.ty.den) : round Zm_C Zm_As Zm_A8 (loopBody 8 (bodyOf Tryd.f78)) x=Zm_B8 x:=by kernel_rfl
theorem Zm_R4 (x : Zm_H4.ty.den) : round Zm_C Zm_As Zm_A4 (loopBody 4 (bodyOf Tryd.f78)) x=Zm_B4 x:=by kernel_rfl
theorem Zm_eq (x : (tupTy [(.slice I),(.slice I)]).den) : callFn Zm_C Zm_As (bodyOf Tryd.f78) [(.rd,(.slice I)),(.rd,(.slice I))] [(.tmp 4,true,.bool)] x=Zm x:=by kernel_rfl
def Zah_H9 : Shape:={ env:=[(2,.av (.ptr 2 0)),(3,.av (.ptr 3 0)),(6,.av (.val I))],objs:=[(2,.box [.val I,.val (.slice yQ2),.val yQ3]),(3,.box [.val I,.val (.slice yQ2),.val yQ3])] }
def Zah_E9 : List (Ex×Shape):=[(.ret,{ env:=[(4,.av (.val .bool))],objs:=[] }),(.exit 2,{ env:=[],objs:=[] })]
def Zah_B9 (x : Q39) : Option (Q39⊕((Bool×Unit)⊕(Unit⊕Empty))) :=
 let (a,b,c,d,e,f,g,_):=x; cond (ltI g (c.length : Nat)) ((getI c g).bind fun y1=>(getI f g).bind fun y2=>(Zm (y1,y2,())).bind fun r3=>cond (!r3.1) (some (.inr (.inl (false,())))) (some (.inl (a,b,c,d,e,f,(addI .i64 g 1),())))) (some (.inr (.inr (.inl ()))))
def Zah_L9 : Q39→Option ((Bool×Unit)⊕(Unit⊕Empty)):=loopFix Zah_B9
def Zah_A9 : Ann:={ head:=Zah_H9,exits:=Zah_E9,fn:=Zah_L9 }
def Zah_H4 : Shape:={ env:=[(2,.av (.ptr 2 0)),(3,.av (.ptr 3 0)),(5,.av (.val I))],objs:=[(2,.box [.val I,.val (.slice yQ2),.val yQ3]),(3,.box [.val I,.val (.slice yQ2),.val yQ3])] }
def Zah_E4 : List (Ex×Shape):=[(.ret,{ env:=[(4,.av (.val .bool))],objs:=[] }),(.exit 0,{ env:=[(2,.av (.ptr 2 0)),(3,.av (.ptr 3 0))],objs:=[(2,.box [.val I,.val (.slice yQ2),.val yQ3]),(3,.box [.val I,.val (.slice yQ2),.val yQ3])] })]
def Zah_B4 (x : Q39) : Option (Q39⊕((Bool×Unit)⊕(Q34⊕Empty))) :=
 let (a,b,c,d,e,f,g,_):=x; cond (ltI g (b.length : Nat)) ((getI b g).bind fun y1=>(getI e g).bind fun y2=>cond (!((eqI y1.1 y2.1) && ((eqI y1.2.1 y2.2.1) && true))) (some (.inr (.inl (false,())))) (some (.inl (a,b,c,d,e,f,(addI .i64 g 1),())))) (some (.inr (.inr (.inl (a,b,c,d,e,f,())))))
def Zah_L4 : Q39→Option ((Bool×Unit)⊕(Q34⊕Empty)):=loopFix Zah_B4
def Zah_A4 : Ann:={ head:=Zah_H4,exits:=Zah_E4,fn:=Zah_L4 }
def Zah_As : Anns:=[(4,Zah_A4),(9,Zah_A9)]
def Zah (x : (Q10×Q10×Unit)) : Option (Bool×Unit) :=
 let ((a,b,c,_),(d,e,f,_),_):=x; cond (neI a d) (some (false,())) (cond (neI (b.length : Nat) (e.length : Nat)) (some (false,())) (cond (neI (c.length : Nat) (f.length : Nat)) (some (false,())) ((Zah_L4 (a,b,c,d,e,f,0,())).bind (Sum.elim (fun z2=>some (z2.1,())) (Sum.elim (fun (a_3,b_3,c_3,d_3,e_3,f_3,_)=>(Zah_L9 (a_3,b_3,c_3,d_3,e_3,f_3,0,())).bind (Sum.elim (fun z5=>some (z5.1,())) (Sum.elim (fun z6=>some (true,())) (fun _=>none)))) (fun _=>none))))))
def Zah_c : Con:={ ins:=[(.rd,yQ6),(.rd,yQ6)],outs:=[(true,.bool)],fn:=Zah }
def Zah_C : Ctx:={ tab:=tab,con:=fun | 78,_=>some Zm_c | _,_=>none,glob:=glob,eqs:=eqs }
theorem Zah_R9 (x : Zah_H9.ty.den) : round Zah_C Zah_As Zah_A9 (loopBody 9 (bodyOf Tryd.f51)) x=Zah_B9 x:=by kernel_rfl
theorem Zah_R4 (x : Zah_H4.ty.den) : round Zah_C Zah_As Zah_A4 (loopBody 4 (bodyOf Tryd.f51)) x=Zah_B4 x:=by kernel_rfl
theorem Zah_eq (x : (tupTy [yQ6,yQ6]).den) : callFn Zah_C Zah_As (bodyOf Tryd.f51) [(.rd,yQ6),(.rd,yQ6)] [(.tmp 4,true,.bool)] x=Zah x:=by kernel_rfl
def Zu_H7 : Shape:={ env:=[(2,.av (.ptr 2 0)),(3,.av (.ptr 3 0)),(5,.av (.val I)),(6,.av (.val I))],objs:=[(2,.box [.val I,.val (.slice yQ2),.val yQ3]),(3,.box [.val I,.val (.slice yQ2),.val yQ3])] }
def Zu_E7 : List (Ex×Shape):=[(.ret,{ env:=[(4,.av (.val .bool))],objs:=[] }),(.exit 2,{ env:=[(2,.av (.ptr 2 0)),(3,.av (.ptr 3 0)),(5,.av (.val I))],objs:=[(2,.box [.val I,.val (.slice yQ2),.val yQ3]),(3,.box [.val I,.val (.slice yQ2),.val yQ3])] })]
def Zu_B7 (x : Q42) : Option (Q42⊕((Bool×Unit)⊕(Q39⊕Empty))) :=
 let (a,b,c,d,e,f,g,h,_):=x; (getI c g).bind fun y1=>cond (ltI h (y1.length : Nat)) ((getI c g).bind fun y2=>(getI y2 h).bind fun y3=>(getI f g).bind fun y4=>(getI y4 h).bind fun y5=>cond (neI y3 y5) (some (.inr (.inl (false,())))) (some (.inl (a,b,c,d,e,f,g,(addI .i64 h 1),())))) (some (.inr (.inr (.inl (a,b,c,d,e,f,g,())))))
def Zu_L7 : Q42→Option ((Bool×Unit)⊕(Q39⊕Empty)):=loopFix Zu_B7
def Zu_A7 : Ann:={ head:=Zu_H7,exits:=Zu_E7,fn:=Zu_L7 }
def Zu_H4 : Shape:={ env:=[(2,.av (.ptr 2 0)),(3,.av (.ptr 3 0)),(5,.av (.val I))],objs:=[(2,.box [.val I,.val (.slice yQ2),.val yQ3]),(3,.box [.val I,.val (.slice yQ2),.val yQ3])] }
def Zu_E4 : List (Ex×Shape):=[(.ret,{ env:=[(4,.av (.val .bool))],objs:=[] }),(.exit 0,{ env:=[],objs:=[] })]
def Zu_B4 (x : Q39) : Option (Q39⊕((Bool×Unit)⊕(Unit⊕Empty))) :=
 let (a,b,c,d,e,f,g,_):=x; cond (ltI g (c.length : Nat)) ((Zu_L7 (a,b,c,d,e,f,g,0,())).bind (Sum.elim (fun z2=>some (.inr (.inl (z2.1,())))) (Sum.elim (fun (a_3,b_3,c_3,d_3,e_3,f_3,g_3,_)=>some (.inl (a_3,b_3,c_3,d_3,e_3,f_3,(addI .i64 g_3 1),()))) (fun _=>none)))) (some (.inr (.inr (.inl ()))))
def Zu_L4 : Q39→Option ((Bool×Unit)⊕(Unit⊕Empty)):=loopFix Zu_B4
def Zu_A4 : Ann:={ head:=Zu_H4,exits:=Zu_E4,fn:=Zu_L4 }
def Zu_As : Anns:=[(4,Zu_A4),(7,Zu_A7)]
def Zu (x : (Q10×Q10×Unit)) : Option (Bool×Unit) :=
 let ((a,b,c,_),(d,e,f,_),_):=x; (Zah ((a,b,c,()),(d,e,f,()),())).bind fun r1=>cond (!r1.1) (some (false,())) ((Zu_L4 (a,b,c,d,e,f,0,())).bind (Sum.elim (fun z3=>some (z3.1,())) (Sum.elim (fun z4=>some (true,())) (fun _=>none))))
def Zu_c : Con:={ ins:=[(.rd,yQ6),(.rd,yQ6)],outs:=[(true,.bool)],fn:=Zu }
def Zu_C : Ctx:={ tab:=tab,con:=fun | 51,_=>some Zah_c | _,_=>none,glob:=glob,eqs:=eqs }
theorem Zu_R7 (x : Zu_H7.ty.den) : round Zu_C Zu_As Zu_A7 (loopBody 7 (bodyOf Tryd.f28)) x=Zu_B7 x:=by kernel_rfl
theorem Zu_R4 (x : Zu_H4.ty.den) : round Zu_C Zu_As Zu_A4 (loopBody 4 (bodyOf Tryd.f28)) x=Zu_B4 x:=by kernel_rfl
theorem Zu_eq (x : (tupTy [yQ6,yQ6]).den) : callFn Zu_C Zu_As (bodyOf Tryd.f28) [(.rd,yQ6),(.rd,yQ6)] [(.tmp 4,true,.bool)] x=Zu x:=by kernel_rfl
def Zam_H9 : Shape:={ env:=[(2,.av (.ptr 2 0)),(3,.av (.ptr 3 0)),(6,.av (.val I))],objs:=[(2,.box [.val I,.val (.slice yQ2),.val yQ3,.val (.slice I),.val (.slice .str),.val I]),(3,.box [.val I,.val (.slice yQ2),.val yQ3,.val (.slice I),.val (.slice .str),.val I])] }
def Zam_E9 : List (Ex×Shape):=[(.ret,{ env:=[(4,.av (.val .bool))],objs:=[] }),(.exit 2,{ env:=[],objs:=[] })]
def Zam_B9 (x : Q66) : Option (Q66⊕((Bool×Unit)⊕(Unit⊕Empty))) :=
 let (a,b,c,d,e,f,g,h,i,k,l,m,n,_):=x; cond (ltI n (e.length : Nat)) ((getI e n).bind fun y1=>(getI l n).bind fun y2=>cond (neS y1 y2) (some (.inr (.inl (false,())))) (some (.inl (a,b,c,d,e,f,g,h,i,k,l,m,(addI .i64 n 1),())))) (some (.inr (.inr (.inl ()))))
def Zam_L9 : Q66→Option ((Bool×Unit)⊕(Unit⊕Empty)):=loopFix Zam_B9
def Zam_A9 : Ann:={ head:=Zam_H9,exits:=Zam_E9,fn:=Zam_L9 }
def Zam_H4 : Shape:={ env:=[(2,.av (.ptr 2 0)),(3,.av (.ptr 3 0)),(5,.av (.val I))],objs:=[(2,.box [.val I,.val (.slice yQ2),.val yQ3,.val (.slice I),.val (.slice .str),.val I]),(3,.box [.val I,.val (.slice yQ2),.val yQ3,.val (.slice I),.val (.slice .str),.val I])] }
def Zam_E4 : List (Ex×Shape):=[(.ret,{ env:=[(4,.av (.val .bool))],objs:=[] }),(.exit 0,{ env:=[(2,.av (.ptr 2 0)),(3,.av (.ptr 3 0))],objs:=[(2,.box [.val I,.val (.slice yQ2),.val yQ3,.val (.slice I),.val (.slice .str),.val I]),(3,.box [.val I,.val (.slice yQ2),.val yQ3,.val (.slice I),.val (.slice .str),.val I])] })]
def Zam_B4 (x : Q66) : Option (Q66⊕((Bool×Unit)⊕(Q64⊕Empty))) :=
 let (a,b,c,d,e,f,g,h,i,k,l,m,n,_):=x; cond (ltI n (d.length : Nat)) ((getI d n).bind fun y1=>(getI k n).bind fun y2=>cond (neI y1 y2) (some (.inr (.inl (false,())))) (some (.inl (a,b,c,d,e,f,g,h,i,k,l,m,(addI .i64 n 1),())))) (some (.inr (.inr (.inl (a,b,c,d,e,f,g,h,i,k,l,m,())))))
def Zam_L4 : Q66→Option ((Bool×Unit)⊕(Q64⊕Empty)):=loopFix Zam_B4
def Zam_A4 : Ann:={ head:=Zam_H4,exits:=Zam_E4,fn:=Zam_L4 }
def Zam_As : Anns:=[(4,Zam_A4),(9,Zam_A9)]
def Zam (x : (Q11×Q11×Unit)) : Option (Bool×Unit) :=
 let (((a,b,c,_),d,e,f,_),((g,h,i,_),k,l,m,_),_):=x; (Zu ((a,b,c,()),(g,h,i,()),())).bind fun r1=>cond (!r1.1) (some (false,())) (cond (neI (d.length : Nat) (k.length : Nat)) (some (false,())) (cond (neI (e.length : Nat) (l.length : Nat)) (some (false,())) (cond (neI f m) (some (false,())) ((Zam_L4 (a,b,c,d,e,f,g,h,i,k,l,m,0,())).bind (Sum.elim (fun z3=>some (z3.1,())) (Sum.elim (fun (a_4,b_4,c_4,d_4,e_4,f_4,g_4,h_4,i_4,k_4,l_4,m_4,_)=>(Zam_L9 (a_4,b_4,c_4,d_4,e_4,f_4,g_4,h_4,i_4,k_4,l_4,m_4,0,())).bind (Sum.elim (fun z6=>some (z6.1,())) (Sum.elim (fun z7=>some (true,())) (fun _=>none)))) (fun _=>none)))))))
def Zam_c : Con:={ ins:=[(.rd,yQ9),(.rd,yQ9)],outs:=[(true,.bool)],fn:=Zam }
def Zam_C : Ctx:={ tab:=tab,con:=fun | 28,_=>some Zu_c | _,_=>none,glob:=glob,eqs:=eqs }
theorem Zam_R9 (x : Zam_H9.ty.den) : round Zam_C Zam_As Zam_A9 (loopBody 9 (bodyOf Tryd.f12)) x=Zam_B9 x:=by kernel_rfl
theorem Zam_R4 (x : Zam_H4.ty.den) : round Zam_C Zam_As Zam_A4 (loopBody 4 (bodyOf Tryd.f12)) x=Zam_B4 x:=by kernel_rfl
theorem Zam_eq (x : (tupTy [yQ9,yQ9]).den) : callFn Zam_C Zam_As (bodyOf Tryd.f12) [(.rd,yQ9),(.rd,yQ9)] [(.tmp 4,true,.bool)] x=Zam x:=by kernel_rfl
def Zb_H13 : Shape:={ env:=[(4,.av (.own 4)),(7,.av (.own 7)),(9,.av (.val I)),(10,.av (.val I))],objs:=[(4,.arr (.slice I)),(7,.arr (.slice I))] }
def Zb_E13 : List (Ex×Shape):=[(.ret,{ env:=[(2,.av (.val .bool))],objs:=[] }),(.exit 2,{ env:=[(4,.av (.own 4)),(7,.av (.own 7)),(9,.av (.val I))],objs:=[(4,.arr (.slice I)),(7,.arr (.slice I))] })]
def Zb_B13 (x : Q19) : Option (Q19⊕((Bool×Unit)⊕(Q16⊕Empty))) :=
 let (a,b,c,d,_):=x; (idxI a.length c).bind fun j1=>(a[j1]?).bind fun y2=>cond (ltI d (y2.length : Nat)) ((idxI a.length c).bind fun j3=>(a[j3]?).bind fun y4=>(getI y4 d).bind fun y5=>(idxI b.length c).bind fun j6=>(b[j6]?).bind fun y7=>(getI y7 d).bind fun y8=>cond (neI y5 y8) (some (.inr (.inl (false,())))) (some (.inl (a,b,c,(addI .i64 d 1),())))) (some (.inr (.inr (.inl (a,b,c,())))))
def Zb_L13 : Q19→Option ((Bool×Unit)⊕(Q16⊕Empty)):=loopFix Zb_B13
def Zb_A13 : Ann:={ head:=Zb_H13,exits:=Zb_E13,fn:=Zb_L13 }
def Zb_H8 : Shape:={ env:=[(4,.av (.own 4)),(7,.av (.own 7)),(9,.av (.val I))],objs:=[(4,.arr (.slice I)),(7,.arr (.slice I))] }
def Zb_E8 : List (Ex×Shape):=[(.ret,{ env:=[(2,.av (.val .bool))],objs:=[] }),(.exit 0,{ env:=[],objs:=[] })]
def Zb_B8 (x : Q16) : Option (Q16⊕((Bool×Unit)⊕(Unit⊕Empty))) :=
 let (a,b,c,_):=x; cond (ltI c (a.length : Nat)) ((idxI a.length c).bind fun j1=>(a[j1]?).bind fun y2=>(idxI b.length c).bind fun j3=>(b[j3]?).bind fun y4=>cond (neI (y2.length : Nat) (y4.length : Nat)) (some (.inr (.inl (false,())))) ((Zb_L13 (a,b,c,0,())).bind (Sum.elim (fun z6=>some (.inr (.inl (z6.1,())))) (Sum.elim (fun z7=>some (.inl (z7.1,z7.2.1,(addI .i64 z7.2.2.1 1),()))) (fun _=>none))))) (some (.inr (.inr (.inl ()))))
def Zb_L8 : Q16→Option ((Bool×Unit)⊕(Unit⊕Empty)):=loopFix Zb_B8
def Zb_A8 : Ann:={ head:=Zb_H8,exits:=Zb_E8,fn:=Zb_L8 }
def Zb_As : Anns:=[(8,Zb_A8),(13,Zb_A13)]
def Zb (x : (Q11×Unit)) : Option (Bool×Unit) :=
 let (((a,b,c,_),d,e,f,_),_):=x; (Zao (((a,b,c,()),d,e,f,()),())).bind fun r1=>cond (!r1.1) ((Zs ()).bind fun r2=>some (r2.1,())) ((Zo (((a,b,c,()),d,e,f,()),())).bind fun r3=>(Zd (((a,b,c,()),d,e,f,()),())).bind fun r4=>cond (neI r3.2.2.1 r4.2.2.1) (some (false,())) ((Zam (((r3.1.1.1,r3.1.1.2.1,r3.1.1.2.2.1,()),r3.1.2.1,r3.1.2.2.1,r3.1.2.2.2.1,()),((r4.1.1.1,r4.1.1.2.1,r4.1.1.2.2.1,()),r4.1.2.1,r4.1.2.2.1,r4.1.2.2.2.1,()),())).bind fun r5=>cond (!r5.1) (some (false,())) (cond (neI (r3.2.1.length : Nat) (r4.2.1.length : Nat)) (some (false,())) ((Zb_L8 (r3.2.1,r4.2.1,0,())).bind (Sum.elim (fun z7=>some (z7.1,())) (Sum.elim (fun z8=>(Zs ()).bind fun r9=>some (r9.1,())) (fun _=>none)))))))
def Zb_c : Con:={ ins:=[(.rd,yQ9)],outs:=[(true,.bool)],fn:=Zb }
def Zb_C : Ctx:={ tab:=tab,con:=fun | 8,_=>some Zao_c | 9,_=>some Zs_c | 10,_=>some Zo_c | 11,_=>some Zd_c | 12,_=>some Zam_c | _,_=>none,glob:=glob,eqs:=eqs }
theorem Zb_R13 (x : Zb_H13.ty.den) : round Zb_C Zb_As Zb_A13 (loopBody 13 (bodyOf Tryd.f3)) x=Zb_B13 x:=by kernel_rfl
theorem Zb_R8 (x : Zb_H8.ty.den) : round Zb_C Zb_As Zb_A8 (loopBody 8 (bodyOf Tryd.f3)) x=Zb_B8 x:=by kernel_rfl
theorem Zb_eq (x : (tupTy [yQ9]).den) : callFn Zb_C Zb_As (bodyOf Tryd.f3) [(.rd,yQ9)] [(.tmp 2,true,.bool)] x=Zb x:=by kernel_rfl
end
end Go.Vm

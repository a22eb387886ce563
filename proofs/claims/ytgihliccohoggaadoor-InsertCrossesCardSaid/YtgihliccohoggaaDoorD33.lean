/-
 The functions that the law reaches, as functions on values, and the proofs that the machine computes them.
-/
import Derived.Test.YtgihliccohoggaaDoorVmA
import Derived.Test.YtgihliccohoggaaDoorVmExt2
import Derived.Test.YtgihliccohoggaaDoorVmExt3
import Derived.Test.YtgihliccohoggaaDoorVmExt4
import Derived.Test.YtgihliccohoggaaDoorProg
import Derived.KernelRfl
set_option linter.unusedVariables false
set_option linter.unusedSimpArgs false
namespace Go.Vm
open Go.Proofs
abbrev I : Ty:=.int .i64
abbrev yQ1 : Ty:=.prod I .unit
abbrev yQ2 : Ty:=.prod I yQ1
abbrev yQ3 : Ty:=.slice (.slice I)
abbrev yQ4 : Ty:=.prod yQ3 .unit
abbrev yQ5 : Ty:=.prod (.ptr I) .unit
abbrev yQ6 : Ty:=.prod (.slice yQ2) yQ4
abbrev yQ7 : Ty:=.prod I yQ6
abbrev yQ8 : Ty:=.prod (.slice yQ2) .unit
abbrev yQ9 : Ty:=.prod I yQ8
abbrev yQ10 : Ty:=.prod (.ptr (.slice I)) yQ5
abbrev yQ11 : Ty:=.prod (.ptr (.slice I)) .unit
abbrev yQ12 : Ty:=.prod (.ptr yQ7) (.prod (.ptr I) yQ11)
abbrev Q1:=List Int×Unit
abbrev Q2:=Int×Int×Unit
abbrev Q3:=List Int×Int×Unit
abbrev Q4:=List Int×Q3×Unit
abbrev Q5:=Int×Int×Int×Unit
abbrev Q6:=Int×Int×Bool×Unit
abbrev Q7:=(List (List Int))×Unit
abbrev Q8:=List Int×Int×Int×Unit
abbrev Q9:=List Int×Q3×Int×Int×Unit
abbrev Q10:=List Int×List Int×Int×Unit
abbrev Q11:=Q3×Int×List Int×Int×Int×Unit
abbrev Q12:=List Int×List Int×Int×Int×Unit
abbrev Q13:=Int×(List Q2)×List Int×Int×Unit
abbrev Q14:=List Int×(List (List Int))×Int×Unit
abbrev Q15:=Int×(List Q2)×(List (List Int))×Unit
abbrev Q16:=Q15×Int×Unit
abbrev Q17:=Q15×Int×Int×Unit
abbrev Q18:=Q15×Int×List Int×Unit
abbrev Q19:=Q18×Int×List Int×Int×Int×Unit
abbrev Q20:=List Int×List Int×Int×Int×Int×Unit
abbrev Q21:=Int×(List Q2)×List Int×Int×Int×Unit
abbrev Q22:=List Int×List Int×Int×Bool×Int×Unit
abbrev Q23:=List Int×(List (List Int))×Int×Int×Unit
abbrev Q24:=Int×(List Q2)×(List (List Int))×Int×Unit
abbrev Q25:=List Int×List Int×List Int×Int×Int×Unit
abbrev Q26:=Int×(List Q2)×List Int×List Bool×Int×Unit
abbrev Q27:=Int×(List Q2)×(List (List Int))×List Int×Unit
abbrev Q28:=(List (List Int))×List Int×List Bool×Int×Unit
abbrev Q29:=Int×(List Q2)×(List (List Int))×Int×Int×Unit
abbrev Q30:=List Int×List Int×List Int×Int×Int×Int×Unit
abbrev Q31:=List Int×List Bool×(List (List Int))×Int×Int×Unit
abbrev Q32:=Int×(List Q2)×(List (List Int))×List Int×Int×Unit
abbrev Q33:=Int×(List Q2)×(List (List Int))×Int×Int×Int×Unit
abbrev Q34:=Int×(List Q2)×List Int×List Bool×List Int×Int×Unit
abbrev Q35:=Int×(List Q2)×(List (List Int))×List Int×Int×Int×Unit
abbrev Q36:=Int×(List Q2)×(List (List Int))×(List Q2)×Int×Int×Unit
abbrev Q37:=Int×(List Q2)×(List (List Int))×Int×Int×Int×Int×Unit
abbrev Q38:=List Int×List Int×List Int×Int×Int×Int×Int×Int×Unit
abbrev Q39:=Int×(List Q2)×List Int×List Bool×List Int×Int×Int×Unit
abbrev Q40:=Int×List Int×Int×(List Q2)×(List (List Int))×List Int×Unit
abbrev Q41:=(List (List Int))×List Int×List Bool×List Int×Int×Int×Unit
abbrev Q42:=Int×(List Q2)×(List (List Int))×List Bool×List Int×Int×Unit
abbrev Q43:=Int×(List Q2)×(List (List Int))×List Bool×Int×Int×Int×Unit
abbrev Q44:=Int×(List Q2)×(List (List Int))×List Int×List Int×List Int×Unit
abbrev Q45:=List Int×List Bool×(List (List Int))×List Int×Int×Int×Int×Unit
abbrev Q46:=List Int×(List (List Int))×Int×Int×Int×List Int×Int×Int×Unit
abbrev Q47:=Int×List Int×Int×(List Q2)×(List (List Int))×List Int×Int×Unit
abbrev Q48:=Int×(List Q2)×(List (List Int))×List Int×Int×List Int×Int×Unit
abbrev Q49:=Int×List Int×List Int×Int×(List Q2)×(List (List Int))×Int×Unit
abbrev Q50:=Int×(List Q2)×(List (List Int))×List Int×List Bool×Int×Int×Unit
abbrev Q51:=Int×Int×List Int×(List Q2)×(List (List Int))×Int×Int×Int×Unit
abbrev Q52:=Int×(List Q2)×(List (List Int))×Int×(List (List Int))×Int×Int×Unit
abbrev Q53:=Int×Int×(List Q2)×(List (List Int))×(List (List Int))×Int×Int×Unit
abbrev Q54:=Int×(List Q2)×(List (List Int))×Int×(List Q2)×(List (List Int))×Unit
abbrev Q55:=List Int×List Int×(List (List Int))×Int×Int×List Int×Int×Int×Unit
abbrev Q56:=Int×List Int×List Int×Int×(List Q2)×(List (List Int))×Int×Int×Unit
abbrev Q57:=Int×(List Q2)×(List (List Int))×List Bool×List Int×Int×Int×Int×Unit
abbrev Q58:=Int×(List Q2)×(List (List Int))×List Int×List Bool×Int×Int×Int×Unit
abbrev Q59:=Int×(List Q2)×(List (List Int))×Int×List Int×Int×(List Q2)×Int×Unit
abbrev Q60:=Int×(List Q2)×List Int×List Bool×List Int×List Bool×Int×Int×Int×Unit
abbrev Q61:=Int×(List Q2)×(List (List Int))×Int×(List Q2)×(List (List Int))×Int×Unit
abbrev Q62:=Int×(List Q2)×(List (List Int))×List Int×List Int×List Int×Int×Int×Unit
abbrev Q63:=Int×List Int×Int×(List Q2)×(List (List Int))×List Int×List Int×Int×Unit
abbrev Q64:=Int×List Int×List Int×Int×(List Q2)×(List (List Int))×List Int×Int×Unit
abbrev Q65:=Int×List Int×Int×(List Q2)×(List (List Int))×List Int×Int×Int×Int×Unit
abbrev Q66:=Int×(List Q2)×(List (List Int))×List Bool×Int×(List (List Int))×Int×Int×Unit
abbrev Q67:=Int×(List Q2)×(List (List Int))×List Int×List Int×Int×List Int×List Int×Unit
abbrev Q68:=Int×(List Q2)×(List (List Int))×List Int×List Int×List Int×Int×Int×Int×Unit
abbrev Q69:=Int×(List Q2)×(List (List Int))×List Bool×List Int×Int×List Int×Int×Int×Unit
abbrev Q70:=Int×(List Q2)×(List (List Int))×List Int×List Int×List Int×List Int×Int×Int×Unit
abbrev Q71:=Int×(List Q2)×(List (List Int))×List Int×List Int×List Int×Int×Int×Int×Int×Int×Unit
abbrev Q72:=Int×(List Q2)×(List (List Int))×List Bool×List Int×Int×Int×Int×List Int×Int×Int×Unit
abbrev Q73:=Int×(List Q2)×(List (List Int))×Int×(List Q2)×(List (List Int))×Int×List Int×Int×Int×Int×Unit
abbrev Q74:=Int×(List Q2)×(List (List Int))×List Bool×Int×Int×(List (List Int))×Int×Int×List Int×Int×Int×Unit
abbrev Q75:=Int×(List Q2)×(List (List Int))×Int×Int×List Int×(List Q2)×(List (List Int))×Int×Int×Int×Int×Unit
noncomputable section
def tab : Tab:=[(2,I),(3,I),(4,.bool),(5,(.int .u8)),(6,(.int .u8)),(7,(.prod I (.prod I (.prod .bool (.prod (.int .u8) .unit))))),(8,(.prod I (.prod I (.prod .bool (.prod (.int .u8) .unit))))),(9,.str),(10,.str),(11,.str),(12,(.int .u64)),(13,(.prod .str (.prod (.int .u64) .unit))),(14,(.prod .str (.prod (.int .u64) .unit))),(21,(.int .i32)),(22,(.slice yQ2)),(23,yQ3),(24,yQ7),(25,yQ7),(28,I),(37,(.slice I)),(50,yQ2),(51,yQ2),(54,(.slice .bool)),(65,(.arr 2 I)),(82,yQ9),(83,yQ9),(94,(.int .u64)),(96,I),(105,(.int .u32)),(107,(.int .u64)),(108,(.int .u64)),(123,(.int .u8)),(124,(.int .u8)),(127,(.int .i32)),(128,(.int .i32))]
def eqs : List Nat:=[51,65]
def glob : List (Nat×(Σ t : Ty,t.den)):=[(0,⟨(.arr 2 I),[16384,32768]⟩)]
set_option maxRecDepth 100000
def Zad_As : Anns:=[]
def Zad (x : Q17) : Option (Bool×Unit) :=
 let ((a,b,c,_),d,e,_):=x; cond (leI a d) (cond (leI (b.length : Nat) e) (some ((leI (c.length : Nat) 50),())) (some (false,()))) (some (false,()))
def Zad_c : Con:={ ins:=[(.rd,yQ7),(.rd,I),(.rd,I)],outs:=[(true,.bool)],fn:=Zad }
def Zad_C : Ctx:={ tab:=tab,con:=fun _ _=>none,glob:=glob,eqs:=eqs }
theorem Zad_eq (x : (tupTy [yQ7,I,I]).den) : callFn Zad_C Zad_As (bodyOf Tryd.f12) [(.rd,yQ7),(.rd,I),(.rd,I)] [(.tmp 6,true,.bool)] x=Zad x:=by kernel_rfl
def Zs_As : Anns:=[]
def Zs (x : Unit) : Option (Q15×Unit) :=
 some ((4,[(0,1,()),(1,2,()),(2,3,()),(3,0,())],[[0,7],[2,1],[4,3],[6,5]],()),())
def Zs_c : Con:={ ins:=[],outs:=[(true,yQ7)],fn:=Zs }
def Zs_C : Ctx:={ tab:=tab,con:=fun _ _=>none,glob:=glob,eqs:=eqs }
theorem Zs_eq (x : (tupTy []).den) : callFn Zs_C Zs_As (bodyOf Tryd.f37) [] [(.cell 0 25,true,yQ7)] x=Zs x:=by kernel_rfl
def Zbj_As : Anns:=[]
def Zbj (x : (Q2×Int×Unit)) : Option (Int×Unit) :=
 cond (eqI x.2.1 0) (some (x.1.1,())) (some (x.1.2.1,()))
def Zbj_c : Con:={ ins:=[(.rd,yQ2),(.rd,I)],outs:=[(true,I)],fn:=Zbj }
def Zbj_C : Ctx:={ tab:=tab,con:=fun _ _=>none,glob:=glob,eqs:=eqs }
theorem Zbj_eq (x : (tupTy [yQ2,I]).den) : callFn Zbj_C Zbj_As (bodyOf Tryd.f62) [(.rd,yQ2),(.rd,I)] [(.tmp 4,true,I)] x=Zbj x:=by kernel_rfl
def Zaz_H15 : Shape:={ env:=[(1,.av (.ptr 1 0)),(5,.av (.own 5)),(6,.av (.val I)),(7,.av (.val I)),(80,.av (.val yQ3)),(81,.av (.val I)),(82,.av (.val I)),(87,.av (.val (.slice I))),(88,.av (.val I)),(89,.av (.val I))],objs:=[(1,.box [.val I,.val (.slice yQ2),.val yQ3]),(5,.arr .bool)] }
def Zaz_E15 : List (Ex×Shape):=[(.ret,{ env:=[(2,.av (.val .bool))],objs:=[] }),(.exit 4,{ env:=[(1,.av (.ptr 1 0)),(5,.av (.own 5)),(6,.av (.val I)),(80,.av (.val yQ3)),(81,.av (.val I)),(82,.av (.val I))],objs:=[(1,.box [.val I,.val (.slice yQ2),.val yQ3]),(5,.arr .bool)] })]
def Zaz_B15 (x : Q74) : Option (Q74⊕((Bool×Unit)⊕(Q66⊕Empty))) :=
 let (a,b,c,d,e,f,g,h,i,k,l,m,_):=x; cond (ltI m l) ((getI k m).bind fun y1=>cond (ltI y1 0) (some (.inr (.inl (false,())))) (cond (geI y1 (d.length : Nat)) (some (.inr (.inl (false,())))) ((idxI d.length y1).bind fun j2=>(d[j2]?).bind fun y3=>cond y3 (some (.inr (.inl (false,())))) ((getI b (quoI .i64 y1 2)).bind fun y4=>(Zbj (y4,(remI y1 2),())).bind fun r5=>cond (neI r5.1 f) (some (.inr (.inl (false,())))) ((idxI d.length y1).bind fun j6=>(d[j6]?).bind fun y7=>some (.inl (a,b,c,(d.set j6 true),(addI .i64 e 1),f,g,h,i,k,l,(addI .i64 m 1),()))))))) (some (.inr (.inr (.inl (a,b,c,d,e,g,h,i,())))))
def Zaz_L15 : Q74→Option ((Bool×Unit)⊕(Q66⊕Empty)):=loopFix Zaz_B15
def Zaz_A15 : Ann:={ head:=Zaz_H15,exits:=Zaz_E15,fn:=Zaz_L15 }
def Zaz_H12 : Shape:={ env:=[(1,.av (.ptr 1 0)),(5,.av (.own 5)),(6,.av (.val I)),(80,.av (.val yQ3)),(81,.av (.val I)),(82,.av (.val I))],objs:=[(1,.box [.val I,.val (.slice yQ2),.val yQ3]),(5,.arr .bool)] }
def Zaz_E12 : List (Ex×Shape):=[(.ret,{ env:=[(2,.av (.val .bool))],objs:=[] }),(.exit 2,{ env:=[(5,.av (.own 5)),(6,.av (.val I))],objs:=[(5,.arr .bool)] })]
def Zaz_B12 (x : Q66) : Option (Q66⊕((Bool×Unit)⊕((List Bool×Int×Unit)⊕Empty))) :=
 let (a,b,c,d,e,f,g,h,_):=x; cond (ltI h g) ((getI f h).bind fun y1=>(Zaz_L15 (a,b,c,d,e,h,f,g,h,y1,(y1.length : Nat),0,())).bind (Sum.elim (fun z3=>some (.inr (.inl (z3.1,())))) (Sum.elim (fun (a_4,b_4,c_4,d_4,e_4,f_4,g_4,h_4,_)=>some (.inl (a_4,b_4,c_4,d_4,e_4,f_4,g_4,(addI .i64 h_4 1),()))) (fun _=>none)))) (some (.inr (.inr (.inl (d,e,())))))
def Zaz_L12 : Q66→Option ((Bool×Unit)⊕((List Bool×Int×Unit)⊕Empty)):=loopFix Zaz_B12
def Zaz_A12 : Ann:={ head:=Zaz_H12,exits:=Zaz_E12,fn:=Zaz_L12 }
def Zaz_H4 : Shape:={ env:=[(1,.av (.ptr 1 0)),(38,.av (.val (.slice yQ2))),(39,.av (.val I)),(40,.av (.val I))],objs:=[(1,.box [.val I,.val (.slice yQ2),.val yQ3])] }
def Zaz_E4 : List (Ex×Shape):=[(.ret,{ env:=[(2,.av (.val .bool))],objs:=[] }),(.exit 0,{ env:=[(1,.av (.ptr 1 0))],objs:=[(1,.box [.val I,.val (.slice yQ2),.val yQ3])] })]
def Zaz_B4 (x : Q36) : Option (Q36⊕((Bool×Unit)⊕(Q15⊕Empty))) :=
 let (a,b,c,d,e,f,_):=x; cond (ltI f e) ((getI d f).bind fun y1=>cond (ltI y1.1 0) (some (.inr (.inl (false,())))) (cond (geI y1.1 a) (some (.inr (.inl (false,())))) (cond (ltI y1.2.1 0) (some (.inr (.inl (false,())))) (cond (geI y1.2.1 a) (some (.inr (.inl (false,())))) (cond (eqI y1.1 y1.2.1) (some (.inr (.inl (false,())))) (some (.inl (a,b,c,d,e,(addI .i64 f 1),())))))))) (some (.inr (.inr (.inl (a,b,c,())))))
def Zaz_L4 : Q36→Option ((Bool×Unit)⊕(Q15⊕Empty)):=loopFix Zaz_B4
def Zaz_A4 : Ann:={ head:=Zaz_H4,exits:=Zaz_E4,fn:=Zaz_L4 }
def Zaz_As : Anns:=[(4,Zaz_A4),(12,Zaz_A12),(15,Zaz_A15)]
def Zaz (x : (Q15×Unit)) : Option (Bool×Unit) :=
 let ((a,b,c,_),_):=x; cond (ltI a 0) (some (false,())) ((getI [16384,32768] 0).bind fun y1=>cond (gtI a y1) (some (false,())) ((getI [16384,32768] 1).bind fun y2=>cond (gtI (b.length : Nat) y2) (some (false,())) (cond (neI (c.length : Nat) a) (some (false,())) ((Zaz_L4 (a,b,c,b,(b.length : Nat),0,())).bind (Sum.elim (fun z4=>some (z4.1,())) (Sum.elim (fun (a_5,b_5,c_5,_)=>(makeL .bool (mulI .i64 2 (b_5.length : Nat)) (mulI .i64 2 (b_5.length : Nat))).bind fun m6=>(Zaz_L12 (a_5,b_5,c_5,m6,0,c_5,(c_5.length : Nat),0,())).bind (Sum.elim (fun z8=>some (z8.1,())) (Sum.elim (fun z9=>some ((eqI z9.2.1 (z9.1.length : Nat)),())) (fun _=>none)))) (fun _=>none)))))))
def Zaz_c : Con:={ ins:=[(.rd,yQ7)],outs:=[(true,.bool)],fn:=Zaz }
def Zaz_C : Ctx:={ tab:=tab,con:=fun | 62,_=>some Zbj_c | _,_=>none,glob:=glob,eqs:=eqs }
theorem Zaz_R15 (x : Zaz_H15.ty.den) : round Zaz_C Zaz_As Zaz_A15 (loopBody 15 (bodyOf Tryd.f38)) x=Zaz_B15 x:=by kernel_rfl
theorem Zaz_R12 (x : Zaz_H12.ty.den) : round Zaz_C Zaz_As Zaz_A12 (loopBody 12 (bodyOf Tryd.f38)) x=Zaz_B12 x:=by kernel_rfl
theorem Zaz_R4 (x : Zaz_H4.ty.den) : round Zaz_C Zaz_As Zaz_A4 (loopBody 4 (bodyOf Tryd.f38)) x=Zaz_B4 x:=by kernel_rfl
theorem Zaz_eq (x : (tupTy [yQ7]).den) : callFn Zaz_C Zaz_As (bodyOf Tryd.f38) [(.rd,yQ7)] [(.tmp 2,true,.bool)] x=Zaz x:=by kernel_rfl
def Zay_H6 : Shape:={ env:=[(3,.av (.own 3)),(5,.av (.val (.slice I))),(14,.av (.val yQ3)),(15,.av (.val I)),(16,.av (.val I)),(20,.av (.val (.slice I))),(21,.av (.val I)),(22,.av (.val I))],objs:=[(3,.arr I)] }
def Zay_E6 : List (Ex×Shape):=[(.exit 2,{ env:=[(3,.av (.own 3)),(14,.av (.val yQ3)),(15,.av (.val I)),(16,.av (.val I))],objs:=[(3,.arr I)] })]
def Zay_B6 (x : Q55) : Option (Q55⊕(Q23⊕Empty)) :=
 let (a,b,c,d,e,f,g,h,_):=x; cond (ltI h g) ((getI f h).bind fun y1=>cond (eqI (b.length : Nat) 0) none ((getI b (remI (addI .i64 h 1) (b.length : Nat))).bind fun y2=>(idxI a.length (xorI .i64 y1 1)).bind fun j3=>(a[j3]?).bind fun y4=>some (.inl ((a.set j3 y2),b,c,d,e,f,g,(addI .i64 h 1),())))) (some (.inr (.inl (a,c,d,e,()))))
def Zay_L6 : Q55→Option (Q23⊕Empty):=loopFix Zay_B6
def Zay_A6 : Ann:={ head:=Zay_H6,exits:=Zay_E6,fn:=Zay_L6 }
def Zay_H3 : Shape:={ env:=[(3,.av (.own 3)),(14,.av (.val yQ3)),(15,.av (.val I)),(16,.av (.val I))],objs:=[(3,.arr I)] }
def Zay_E3 : List (Ex×Shape):=[(.exit 0,{ env:=[(3,.av (.own 3))],objs:=[(3,.arr I)] })]
def Zay_B3 (x : Q23) : Option (Q23⊕(Q1⊕Empty)) :=
 let (a,b,c,d,_):=x; cond (ltI d c) ((getI b d).bind fun y1=>(Zay_L6 (a,y1,b,c,d,y1,(y1.length : Nat),0,())).bind (Sum.elim (fun z3=>some (.inl (z3.1,z3.2.1,z3.2.2.1,(addI .i64 z3.2.2.2.1 1),()))) (fun _=>none))) (some (.inr (.inl (a,()))))
def Zay_L3 : Q23→Option (Q1⊕Empty):=loopFix Zay_B3
def Zay_A3 : Ann:={ head:=Zay_H3,exits:=Zay_E3,fn:=Zay_L3 }
def Zay_As : Anns:=[(3,Zay_A3),(6,Zay_A6)]
def Zay (x : (Q15×Unit)) : Option Q1 :=
 let ((_,a,b,_),_):=x; (makeL I (mulI .i64 2 (a.length : Nat)) (mulI .i64 2 (a.length : Nat))).bind fun m1=>(Zay_L3 (m1,b,(b.length : Nat),0,())).bind (Sum.elim (fun z3=>some (z3.1,())) (fun _=>none))
def Zay_c : Con:={ ins:=[(.rd,yQ7)],outs:=[(true,(.slice I))],fn:=Zay }
def Zay_C : Ctx:={ tab:=tab,con:=fun _ _=>none,glob:=glob,eqs:=eqs }
theorem Zay_R6 (x : Zay_H6.ty.den) : round Zay_C Zay_As Zay_A6 (loopBody 6 (bodyOf Tryd.f89)) x=Zay_B6 x:=by kernel_rfl
theorem Zay_R3 (x : Zay_H3.ty.den) : round Zay_C Zay_As Zay_A3 (loopBody 3 (bodyOf Tryd.f89)) x=Zay_B3 x:=by kernel_rfl
theorem Zay_eq (x : (tupTy [yQ7]).den) : callFn Zay_C Zay_As (bodyOf Tryd.f89) [(.rd,yQ7)] [(.tmp 2,true,(.slice I))] x=Zay x:=by kernel_rfl
def Zbd_H11 : Shape:={ env:=[(3,.av (.own 3)),(4,.av (.own 4)),(5,.av (.own 5)),(7,.av (.own 7)),(8,.av (.val I)),(18,.av (.val I)),(19,.av (.val I))],objs:=[(3,.arr I),(4,.arr .bool),(5,.arr (.slice I)),(7,.arr I)] }
def Zbd_E11 : List (Ex×Shape):=[(.exit 2,{ env:=[(3,.av (.own 3)),(4,.av (.own 4)),(5,.av (.own 5)),(7,.av (.own 7)),(18,.av (.val I)),(19,.av (.val I))],objs:=[(3,.arr I),(4,.arr .bool),(5,.arr (.slice I)),(7,.arr I)] })]
def Zbd_B11 (x : Q45) : Option (Q45⊕((List Int×List Bool×(List (List Int))×List Int×Int×Int×Unit)⊕Empty)) :=
 let (a,b,c,d,e,f,g,_):=x; (idxI b.length e).bind fun j1=>(b[j1]?).bind fun y2=>cond (!y2) ((idxI b.length e).bind fun j3=>(b[j3]?).bind fun y4=>(app d [e]).bind fun a5=>(idxI a.length e).bind fun j6=>(a[j6]?).bind fun y7=>some (.inl (a,(b.set j3 true),c,a5,y7,f,g,()))) (some (.inr (.inl (a,b,c,d,f,g,()))))
def Zbd_L11 : Q45→Option ((List Int×List Bool×(List (List Int))×List Int×Int×Int×Unit)⊕Empty):=loopFix Zbd_B11
def Zbd_A11 : Ann:={ head:=Zbd_H11,exits:=Zbd_E11,fn:=Zbd_L11 }
def Zbd_H7 : Shape:={ env:=[(3,.av (.own 3)),(4,.av (.own 4)),(5,.av (.own 5)),(18,.av (.val I)),(19,.av (.val I))],objs:=[(3,.arr I),(4,.arr .bool),(5,.arr (.slice I))] }
def Zbd_E7 : List (Ex×Shape):=[(.exit 0,{ env:=[(5,.av (.own 5))],objs:=[(5,.arr (.slice I))] })]
def Zbd_B7 (x : Q31) : Option (Q31⊕(Q7⊕Empty)) :=
 let (a,b,c,d,e,_):=x; cond (ltI e d) ((Zbd_L11 (a,b,c,[],e,d,e,())).bind (Sum.elim (fun (a_2,b_2,c_2,d_2,e_2,f_2,_)=>cond (gtI (d_2.length : Nat) 0) ((app c_2 [d_2]).bind fun a3=>some (.inl (a_2,b_2,a3,e_2,(addI .i64 f_2 1),()))) (some (.inl (a_2,b_2,c_2,e_2,(addI .i64 f_2 1),())))) (fun _=>none))) (some (.inr (.inl (c,()))))
def Zbd_L7 : Q31→Option (Q7⊕Empty):=loopFix Zbd_B7
def Zbd_A7 : Ann:={ head:=Zbd_H7,exits:=Zbd_E7,fn:=Zbd_L7 }
def Zbd_As : Anns:=[(7,Zbd_A7),(11,Zbd_A11)]
def Zbd (x : (Q15×Unit)) : Option Q7 :=
 let ((a,b,c,_),_):=x; (Zaz ((a,b,c,()),())).bind fun r1=>cond (!r1.1) (some ([],())) ((Zay ((a,b,c,()),())).bind fun r2=>(makeL .bool (r2.1.length : Nat) (r2.1.length : Nat)).bind fun m3=>(Zbd_L7 (r2.1,m3,[],(r2.1.length : Nat),0,())).bind (Sum.elim (fun z5=>some (z5.1,())) (fun _=>none)))
def Zbd_c : Con:={ ins:=[(.rd,yQ7)],outs:=[(true,yQ3)],fn:=Zbd }
def Zbd_C : Ctx:={ tab:=tab,con:=fun | 38,_=>some Zaz_c | 89,_=>some Zay_c | _,_=>none,glob:=glob,eqs:=eqs }
theorem Zbd_R11 (x : Zbd_H11.ty.den) : round Zbd_C Zbd_As Zbd_A11 (loopBody 11 (bodyOf Tryd.f58)) x=Zbd_B11 x:=by kernel_rfl
theorem Zbd_R7 (x : Zbd_H7.ty.den) : round Zbd_C Zbd_As Zbd_A7 (loopBody 7 (bodyOf Tryd.f58)) x=Zbd_B7 x:=by kernel_rfl
theorem Zbd_eq (x : (tupTy [yQ7]).den) : callFn Zbd_C Zbd_As (bodyOf Tryd.f58) [(.rd,yQ7)] [(.tmp 2,true,yQ3)] x=Zbd x:=by kernel_rfl
def Zm_H13 : Shape:={ env:=[(1,.av (.ptr 1 0)),(3,.av (.own 3)),(4,.av (.val I)),(6,.av (.own 6)),(14,.av (.val I)),(15,.av (.val I)),(40,.av (.val (.slice I))),(41,.av (.val I)),(42,.av (.val I))],objs:=[(1,.box [.val I,.val (.slice yQ2),.val yQ3]),(3,.arr .bool),(6,.arr I)] }
def Zm_E13 : List (Ex×Shape):=[(.exit 4,{ env:=[(1,.av (.ptr 1 0)),(3,.av (.own 3)),(4,.av (.val I)),(6,.av (.own 6)),(14,.av (.val I)),(15,.av (.val I))],objs:=[(1,.box [.val I,.val (.slice yQ2),.val yQ3]),(3,.arr .bool),(6,.arr I)] })]
def Zm_B13 (x : Q72) : Option (Q72⊕(Q57⊕Empty)) :=
 let (a,b,c,d,e,f,g,h,i,k,l,_):=x; cond (ltI l k) ((getI i l).bind fun y1=>(getI b (quoI .i64 y1 2)).bind fun y2=>(Zbj (y2,(xorI .i64 (remI y1 2) 1),())).bind fun r3=>(idxI d.length r3.1).bind fun j4=>(d[j4]?).bind fun y5=>cond (!y5) ((idxI d.length r3.1).bind fun j6=>(d[j6]?).bind fun y7=>(app e [r3.1]).bind fun a8=>some (.inl (a,b,c,(d.set j6 true),a8,f,g,h,i,k,(addI .i64 l 1),()))) (some (.inl (a,b,c,d,e,f,g,h,i,k,(addI .i64 l 1),())))) (some (.inr (.inl (a,b,c,d,e,f,g,h,()))))
def Zm_L13 : Q72→Option (Q57⊕Empty):=loopFix Zm_B13
def Zm_A13 : Ann:={ head:=Zm_H13,exits:=Zm_E13,fn:=Zm_L13 }
def Zm_H10 : Shape:={ env:=[(1,.av (.ptr 1 0)),(3,.av (.own 3)),(4,.av (.val I)),(6,.av (.own 6)),(14,.av (.val I)),(15,.av (.val I))],objs:=[(1,.box [.val I,.val (.slice yQ2),.val yQ3]),(3,.arr .bool),(6,.arr I)] }
def Zm_E10 : List (Ex×Shape):=[(.exit 2,{ env:=[(1,.av (.ptr 1 0)),(3,.av (.own 3)),(4,.av (.val I)),(14,.av (.val I)),(15,.av (.val I))],objs:=[(1,.box [.val I,.val (.slice yQ2),.val yQ3]),(3,.arr .bool)] })]
def Zm_B10 (x : Q57) : Option (Q57⊕(Q43⊕Empty)) :=
 let (a,b,c,d,e,f,g,h,_):=x; cond (gtI (e.length : Nat) 0) ((idxI e.length 0).bind fun j1=>(e[j1]?).bind fun y2=>(getI c y2).bind fun y3=>(Zm_L13 (a,b,c,d,e,f,g,h,y3,(y3.length : Nat),0,())).bind (Sum.elim (fun (a_5,b_5,c_5,d_5,e_5,f_5,g_5,h_5,_)=>(viewB e_5.length 1 (e_5.length : Nat)).bind fun v6=>some (.inl (a_5,b_5,c_5,d_5,((e_5.drop v6.1).take v6.2),f_5,g_5,h_5,()))) (fun _=>none))) (some (.inr (.inl (a,b,c,d,f,g,h,()))))
def Zm_L10 : Q57→Option (Q43⊕Empty):=loopFix Zm_B10
def Zm_A10 : Ann:={ head:=Zm_H10,exits:=Zm_E10,fn:=Zm_L10 }
def Zm_H4 : Shape:={ env:=[(1,.av (.ptr 1 0)),(3,.av (.own 3)),(4,.av (.val I)),(14,.av (.val I)),(15,.av (.val I))],objs:=[(1,.box [.val I,.val (.slice yQ2),.val yQ3]),(3,.arr .bool)] }
def Zm_E4 : List (Ex×Shape):=[(.exit 0,{ env:=[(4,.av (.val I))],objs:=[] })]
def Zm_B4 (x : Q43) : Option (Q43⊕((Int×Unit)⊕Empty)) :=
 let (a,b,c,d,e,f,g,_):=x; cond (ltI g f) ((idxI d.length g).bind fun j1=>(d[j1]?).bind fun y2=>cond y2 (some (.inl (a,b,c,d,e,f,(addI .i64 g 1),()))) ((idxI d.length g).bind fun j3=>(d[j3]?).bind fun y4=>(Zm_L10 (a,b,c,(d.set j3 true),[g],(addI .i64 e 1),f,g,())).bind (Sum.elim (fun (a_6,b_6,c_6,d_6,e_6,f_6,g_6,_)=>some (.inl (a_6,b_6,c_6,d_6,e_6,f_6,(addI .i64 g_6 1),()))) (fun _=>none)))) (some (.inr (.inl (e,()))))
def Zm_L4 : Q43→Option ((Int×Unit)⊕Empty):=loopFix Zm_B4
def Zm_A4 : Ann:={ head:=Zm_H4,exits:=Zm_E4,fn:=Zm_L4 }
def Zm_As : Anns:=[(4,Zm_A4),(10,Zm_A10),(13,Zm_A13)]
def Zm (x : (Q15×Unit)) : Option (Int×Unit) :=
 let ((a,b,c,_),_):=x; (makeL .bool a a).bind fun m1=>(Zm_L4 (a,b,c,m1,0,a,0,())).bind (Sum.elim (fun z3=>some (z3.1,())) (fun _=>none))
def Zm_c : Con:={ ins:=[(.rd,yQ7)],outs:=[(true,I)],fn:=Zm }
def Zm_C : Ctx:={ tab:=tab,con:=fun | 62,_=>some Zbj_c | _,_=>none,glob:=glob,eqs:=eqs }
theorem Zm_R13 (x : Zm_H13.ty.den) : round Zm_C Zm_As Zm_A13 (loopBody 13 (bodyOf Tryd.f103)) x=Zm_B13 x:=by kernel_rfl
theorem Zm_R10 (x : Zm_H10.ty.den) : round Zm_C Zm_As Zm_A10 (loopBody 10 (bodyOf Tryd.f103)) x=Zm_B10 x:=by kernel_rfl
theorem Zm_R4 (x : Zm_H4.ty.den) : round Zm_C Zm_As Zm_A4 (loopBody 4 (bodyOf Tryd.f103)) x=Zm_B4 x:=by kernel_rfl
theorem Zm_eq (x : (tupTy [yQ7]).den) : callFn Zm_C Zm_As (bodyOf Tryd.f103) [(.rd,yQ7)] [(.tmp 2,true,I)] x=Zm x:=by kernel_rfl
def Zbb_H5 : Shape:={ env:=[(1,.av (.ptr 1 0)),(3,.av (.val I)),(13,.av (.val yQ3)),(14,.av (.val I)),(15,.av (.val I))],objs:=[(1,.box [.val I,.val (.slice yQ2),.val yQ3])] }
def Zbb_E5 : List (Ex×Shape):=[(.exit 0,{ env:=[(1,.av (.ptr 1 0)),(3,.av (.val I))],objs:=[(1,.box [.val I,.val (.slice yQ2),.val yQ3])] })]
def Zbb_B5 (x : Q52) : Option (Q52⊕(Q24⊕Empty)) :=
 let (a,b,c,d,e,f,g,_):=x; cond (ltI g f) ((getI e g).bind fun y1=>cond (eqI (y1.length : Nat) 0) (some (.inl (a,b,c,(addI .i64 d 1),e,f,(addI .i64 g 1),()))) (some (.inl (a,b,c,d,e,f,(addI .i64 g 1),())))) (some (.inr (.inl (a,b,c,d,()))))
def Zbb_L5 : Q52→Option (Q24⊕Empty):=loopFix Zbb_B5
def Zbb_A5 : Ann:={ head:=Zbb_H5,exits:=Zbb_E5,fn:=Zbb_L5 }
def Zbb_As : Anns:=[(5,Zbb_A5)]
def Zbb (x : (Q15×Unit)) : Option (Int×Unit) :=
 let ((a,b,c,_),_):=x; (Zaz ((a,b,c,()),())).bind fun r1=>cond (!r1.1) (some ((-1),())) ((Zbd ((a,b,c,()),())).bind fun r2=>(Zbb_L5 (a,b,c,(r2.1.length : Nat),c,(c.length : Nat),0,())).bind (Sum.elim (fun z4=>(Zm ((z4.1,z4.2.1,z4.2.2.1,()),())).bind fun r5=>some ((subI .i64 r5.1 (quoI .i64 (addI .i64 (subI .i64 z4.1 (z4.2.1.length : Nat)) z4.2.2.2.1) 2)),())) (fun _=>none)))
def Zbb_c : Con:={ ins:=[(.rd,yQ7)],outs:=[(true,I)],fn:=Zbb }
def Zbb_C : Ctx:={ tab:=tab,con:=fun | 38,_=>some Zaz_c | 58,_=>some Zbd_c | 103,_=>some Zm_c | _,_=>none,glob:=glob,eqs:=eqs }
theorem Zbb_R5 (x : Zbb_H5.ty.den) : round Zbb_C Zbb_As Zbb_A5 (loopBody 5 (bodyOf Tryd.f85)) x=Zbb_B5 x:=by kernel_rfl
theorem Zbb_eq (x : (tupTy [yQ7]).den) : callFn Zbb_C Zbb_As (bodyOf Tryd.f85) [(.rd,yQ7)] [(.tmp 2,true,I)] x=Zbb x:=by kernel_rfl
def Zba_H10 : Shape:={ env:=[(1,.av (.ptr 1 0)),(3,.av (.own 3)),(4,.av (.own 4)),(5,.av (.val I)),(32,.av (.val (.slice I))),(33,.av (.val I)),(34,.av (.val I))],objs:=[(1,.box [.val I,.val (.slice yQ2),.val yQ3]),(3,.arr .bool),(4,.arr I)] }
def Zba_E10 : List (Ex×Shape):=[(.exit 2,{ env:=[(1,.av (.ptr 1 0)),(3,.av (.own 3)),(4,.av (.own 4)),(5,.av (.val I))],objs:=[(1,.box [.val I,.val (.slice yQ2),.val yQ3]),(3,.arr .bool),(4,.arr I)] })]
def Zba_B10 (x : Q69) : Option (Q69⊕(Q42⊕Empty)) :=
 let (a,b,c,d,e,f,g,h,i,_):=x; cond (ltI i h) ((getI g i).bind fun y1=>(getI b (quoI .i64 y1 2)).bind fun y2=>(idxI e.length f).bind fun j3=>(e[j3]?).bind fun y4=>(idxI d.length (subI .i64 (addI .i64 y2.1 y2.2.1) y4)).bind fun j5=>(d[j5]?).bind fun y6=>cond (!y6) ((idxI d.length (subI .i64 (addI .i64 y2.1 y2.2.1) y4)).bind fun j7=>(d[j7]?).bind fun y8=>(app e [(subI .i64 (addI .i64 y2.1 y2.2.1) y4)]).bind fun a9=>some (.inl (a,b,c,(d.set j7 true),a9,f,g,h,(addI .i64 i 1),()))) (some (.inl (a,b,c,d,e,f,g,h,(addI .i64 i 1),())))) (some (.inr (.inl (a,b,c,d,e,f,()))))
def Zba_L10 : Q69→Option (Q42⊕Empty):=loopFix Zba_B10
def Zba_A10 : Ann:={ head:=Zba_H10,exits:=Zba_E10,fn:=Zba_L10 }
def Zba_H7 : Shape:={ env:=[(1,.av (.ptr 1 0)),(3,.av (.own 3)),(4,.av (.own 4)),(5,.av (.val I))],objs:=[(1,.box [.val I,.val (.slice yQ2),.val yQ3]),(3,.arr .bool),(4,.arr I)] }
def Zba_E7 : List (Ex×Shape):=[(.exit 0,{ env:=[(1,.av (.ptr 1 0)),(4,.av (.own 4))],objs:=[(1,.box [.val I,.val (.slice yQ2),.val yQ3]),(4,.arr I)] })]
def Zba_B7 (x : Q42) : Option (Q42⊕(Q27⊕Empty)) :=
 let (a,b,c,d,e,f,_):=x; cond (ltI f (e.length : Nat)) ((idxI e.length f).bind fun j1=>(e[j1]?).bind fun y2=>(getI c y2).bind fun y3=>(Zba_L10 (a,b,c,d,e,f,y3,(y3.length : Nat),0,())).bind (Sum.elim (fun (a_5,b_5,c_5,d_5,e_5,f_5,_)=>some (.inl (a_5,b_5,c_5,d_5,e_5,(addI .i64 f_5 1),()))) (fun _=>none))) (some (.inr (.inl (a,b,c,e,()))))
def Zba_L7 : Q42→Option (Q27⊕Empty):=loopFix Zba_B7
def Zba_A7 : Ann:={ head:=Zba_H7,exits:=Zba_E7,fn:=Zba_L7 }
def Zba_As : Anns:=[(7,Zba_A7),(10,Zba_A10)]
def Zba (x : (Q15×Unit)) : Option (Bool×Unit) :=
 let ((a,b,c,_),_):=x; cond (eqI a 0) (some (false,())) ((makeL .bool a a).bind fun m1=>(idxI m1.length 0).bind fun j2=>(m1[j2]?).bind fun y3=>(Zba_L7 (a,b,c,(m1.set j2 true),[0],0,())).bind (Sum.elim (fun z5=>some ((eqI (z5.2.2.2.1.length : Nat) z5.1),())) (fun _=>none)))
def Zba_c : Con:={ ins:=[(.rd,yQ7)],outs:=[(true,.bool)],fn:=Zba }
def Zba_C : Ctx:={ tab:=tab,con:=fun _ _=>none,glob:=glob,eqs:=eqs }
theorem Zba_R10 (x : Zba_H10.ty.den) : round Zba_C Zba_As Zba_A10 (loopBody 10 (bodyOf Tryd.f96)) x=Zba_B10 x:=by kernel_rfl
theorem Zba_R7 (x : Zba_H7.ty.den) : round Zba_C Zba_As Zba_A7 (loopBody 7 (bodyOf Tryd.f96)) x=Zba_B7 x:=by kernel_rfl
theorem Zba_eq (x : (tupTy [yQ7]).den) : callFn Zba_C Zba_As (bodyOf Tryd.f96) [(.rd,yQ7)] [(.tmp 2,true,.bool)] x=Zba x:=by kernel_rfl
def Zbt_As : Anns:=[]
def Zbt (x : (Q15×Unit)) : Option (Int×Unit) :=
 let ((a,b,c,_),_):=x; (Zaz ((a,b,c,()),())).bind fun r1=>cond (!r1.1) (some (13,())) ((Zbb ((a,b,c,()),())).bind fun r2=>cond (neI r2.1 0) (some (13,())) ((Zba ((a,b,c,()),())).bind fun r3=>cond (!r3.1) (some (12,())) (some (0,()))))
def Zbt_c : Con:={ ins:=[(.rd,yQ7)],outs:=[(true,I)],fn:=Zbt }
def Zbt_C : Ctx:={ tab:=tab,con:=fun | 38,_=>some Zaz_c | 85,_=>some Zbb_c | 96,_=>some Zba_c | _,_=>none,glob:=glob,eqs:=eqs }
theorem Zbt_eq (x : (tupTy [yQ7]).den) : callFn Zbt_C Zbt_As (bodyOf Tryd.f68) [(.rd,yQ7)] [(.tmp 2,true,I)] x=Zbt x:=by kernel_rfl
def Zbk_H7 : Shape:={ env:=[(4,.av (.own 4)),(5,.av (.own 5)),(6,.av (.val I)),(17,.av (.own 5)),(18,.av (.val I)),(19,.av (.val I)),(24,.av (.val (.slice I))),(25,.av (.val I)),(26,.av (.val I))],objs:=[(4,.arr I),(5,.arr (.slice I))] }
def Zbk_E7 : List (Ex×Shape):=[(.exit 2,{ env:=[(4,.av (.own 4)),(5,.av (.own 5)),(17,.av (.own 5)),(18,.av (.val I)),(19,.av (.val I))],objs:=[(4,.arr I),(5,.arr (.slice I))] })]
def Zbk_B7 (x : Q46) : Option (Q46⊕(Q23⊕Empty)) :=
 let (a,b,c,d,e,f,g,h,_):=x; cond (ltI h g) ((getI f h).bind fun y1=>(idxI a.length y1).bind fun j2=>(a[j2]?).bind fun y3=>some (.inl ((a.set j2 c),b,c,d,e,f,g,(addI .i64 h 1),()))) (some (.inr (.inl (a,b,d,e,()))))
def Zbk_L7 : Q46→Option (Q23⊕Empty):=loopFix Zbk_B7
def Zbk_A7 : Ann:={ head:=Zbk_H7,exits:=Zbk_E7,fn:=Zbk_L7 }
def Zbk_H4 : Shape:={ env:=[(4,.av (.own 4)),(5,.av (.own 5)),(17,.av (.own 5)),(18,.av (.val I)),(19,.av (.val I))],objs:=[(4,.arr I),(5,.arr (.slice I))] }
def Zbk_E4 : List (Ex×Shape):=[(.exit 0,{ env:=[(4,.av (.own 4)),(5,.av (.own 5))],objs:=[(4,.arr I),(5,.arr (.slice I))] })]
def Zbk_B4 (x : Q23) : Option (Q23⊕((List Int×(List (List Int))×Unit)⊕Empty)) :=
 let (a,b,c,d,_):=x; cond (ltI d c) ((idxI b.length d).bind fun j1=>(b[j1]?).bind fun y2=>(Zbk_L7 (a,b,d,c,d,y2,(y2.length : Nat),0,())).bind (Sum.elim (fun z4=>some (.inl (z4.1,z4.2.1,z4.2.2.1,(addI .i64 z4.2.2.2.1 1),()))) (fun _=>none))) (some (.inr (.inl (a,b,()))))
def Zbk_L4 : Q23→Option ((List Int×(List (List Int))×Unit)⊕Empty):=loopFix Zbk_B4
def Zbk_A4 : Ann:={ head:=Zbk_H4,exits:=Zbk_E4,fn:=Zbk_L4 }
def Zbk_As : Anns:=[(4,Zbk_A4),(7,Zbk_A7)]
def Zbk (x : (Q15×Unit)) : Option Q3 :=
 let ((a,b,c,_),_):=x; (makeL I (mulI .i64 2 (b.length : Nat)) (mulI .i64 2 (b.length : Nat))).bind fun m1=>(Zbd ((a,b,c,()),())).bind fun r2=>(Zbk_L4 (m1,r2.1,(r2.1.length : Nat),0,())).bind (Sum.elim (fun z4=>some (z4.1,(maxI 1 (z4.2.1.length : Nat)),())) (fun _=>none))
def Zbk_c : Con:={ ins:=[(.rd,yQ7)],outs:=[(true,(.slice I)),(true,I)],fn:=Zbk }
def Zbk_C : Ctx:={ tab:=tab,con:=fun | 58,_=>some Zbd_c | _,_=>none,glob:=glob,eqs:=eqs }
theorem Zbk_R7 (x : Zbk_H7.ty.den) : round Zbk_C Zbk_As Zbk_A7 (loopBody 7 (bodyOf Tryd.f69)) x=Zbk_B7 x:=by kernel_rfl
theorem Zbk_R4 (x : Zbk_H4.ty.den) : round Zbk_C Zbk_As Zbk_A4 (loopBody 4 (bodyOf Tryd.f69)) x=Zbk_B4 x:=by kernel_rfl
theorem Zbk_eq (x : (tupTy [yQ7]).den) : callFn Zbk_C Zbk_As (bodyOf Tryd.f69) [(.rd,yQ7)] [(.tmp 2,true,(.slice I)),(.tmp 3,true,I)] x=Zbk x:=by kernel_rfl
def Zaw (x : Q1) : Option Q1:=sortC.fn x
def Zaw_c : Con:=sortC
def Zu (x : Q1) : Option Q1:=compactC.fn x
def Zu_c : Con:=compactC
def Zbp_H3 : Shape:={ env:=[(1,.av (.val (.slice I))),(7,.av (.own 7)),(14,.av (.val (.slice I))),(15,.av (.val I)),(16,.av (.val I))],objs:=[(7,.arr I)] }
def Zbp_E3 : List (Ex×Shape):=[(.exit 0,{ env:=[(7,.av (.own 7))],objs:=[(7,.arr I)] })]
def Zbp_B3 (x : Q25) : Option (Q25⊕(Q1⊕Empty)) :=
 let (a,b,c,d,e,_):=x; cond (ltI e d) ((getI c e).bind fun y1=>(getI b y1).bind fun y2=>(app a [y2]).bind fun a3=>some (.inl (a3,b,c,d,(addI .i64 e 1),()))) (some (.inr (.inl (a,()))))
def Zbp_L3 : Q25→Option (Q1⊕Empty):=loopFix Zbp_B3
def Zbp_A3 : Ann:={ head:=Zbp_H3,exits:=Zbp_E3,fn:=Zbp_L3 }
def Zbp_As : Anns:=[(3,Zbp_A3)]
def Zbp (x : (Q15×List Int×Int×Unit)) : Option Q1 :=
 (getI x.1.2.2.1 x.2.2.1).bind fun y1=>(Zbp_L3 ([],x.2.1,y1,(y1.length : Nat),0,())).bind (Sum.elim (fun z3=>cond (eqI (z3.1.length : Nat) 0) ((Zaw ([0],())).bind fun r4=>(Zu (r4.1,())).bind fun r5=>some (r5.1,())) ((Zaw (z3.1,())).bind fun r6=>(Zu (r6.1,())).bind fun r7=>some (r7.1,()))) (fun _=>none))
def Zbp_c : Con:={ ins:=[(.rd,yQ7),(.rd,(.slice I)),(.rd,I)],outs:=[(true,(.slice I))],fn:=Zbp }
def Zbp_C : Ctx:={ tab:=tab,con:=fun | 97,_=>some Zaw_c | 98,_=>some Zu_c | _,_=>none,glob:=glob,eqs:=eqs }
theorem Zbp_R3 (x : Zbp_H3.ty.den) : round Zbp_C Zbp_As Zbp_A3 (loopBody 3 (bodyOf Tryd.f71)) x=Zbp_B3 x:=by kernel_rfl
theorem Zbp_eq (x : (tupTy [yQ7,(.slice I),I]).den) : callFn Zbp_C Zbp_As (bodyOf Tryd.f71) [(.rd,yQ7),(.rd,(.slice I)),(.rd,I)] [(.tmp 6,true,(.slice I))] x=Zbp x:=by kernel_rfl
def Zas_As : Anns:=[]
def Zas (x : Q1) : Option Q1 :=
 cond x.1.isEmpty (both (some ([],())) ((app [] x.1).bind fun a1=>some (a1,()))) ((app [] x.1).bind fun a1=>some (a1,()))
def Zas_c : Con:={ ins:=[(.rd,(.slice I))],outs:=[(true,(.slice I))],fn:=Zas }
def Zas_C : Ctx:={ tab:=tab,con:=fun _ _=>none,glob:=glob,eqs:=eqs }
theorem Zas_eq (x : (tupTy [(.slice I)]).den) : callFn Zas_C Zas_As (bodyOf Tryd.f64) [(.rd,(.slice I))] [(.tmp 2,true,(.slice I))] x=Zas x:=by kernel_rfl
def Zbc_H20 : Shape:={ env:=[(1,.av (.val (.slice I))),(4,.av (.ptr 4 0)),(9,.av (.own 9)),(11,.av (.own 11)),(14,.av (.val I)),(15,.av (.val I)),(16,.av (.val I)),(51,.av (.val I)),(52,.av (.val I))],objs:=[(4,.box [.val I,.val (.slice yQ2),.val yQ3]),(9,.arr I),(11,.arr I)] }
def Zbc_E20 : List (Ex×Shape):=[(.exit 8,{ env:=[(1,.av (.val (.slice I))),(4,.av (.ptr 4 0)),(9,.av (.own 9)),(11,.av (.own 11)),(14,.av (.val I)),(51,.av (.val I)),(52,.av (.val I))],objs:=[(4,.box [.val I,.val (.slice yQ2),.val yQ3]),(9,.arr I),(11,.arr I)] })]
def Zbc_B20 (x : Q71) : Option (Q71⊕(Q68⊕Empty)) :=
 let (a,b,c,d,e,f,g,h,i,k,l,_):=x; cond (leI i (addI .i64 (mulI .i64 2 h) 1)) ((getI f (xorI .i64 i 1)).bind fun y1=>(getI f i).bind fun y2=>cond (eqI y2 g) ((idxI d.length y1).bind fun j3=>(d[j3]?).bind fun y4=>cond (ltI y4 0) ((idxI d.length g).bind fun j5=>(d[j5]?).bind fun y6=>(idxI d.length y1).bind fun j7=>(d[j7]?).bind fun y8=>(app e [y1]).bind fun a9=>some (.inl (a,b,c,(d.set j7 (addI .i64 y6 1)),a9,f,g,h,(addI .i64 i 1),k,l,()))) (some (.inl (a,b,c,d,e,f,g,h,(addI .i64 i 1),k,l,())))) (some (.inl (a,b,c,d,e,f,g,h,(addI .i64 i 1),k,l,())))) (some (.inr (.inl (a,b,c,d,e,f,g,k,l,()))))
def Zbc_L20 : Q71→Option (Q68⊕Empty):=loopFix Zbc_B20
def Zbc_A20 : Ann:={ head:=Zbc_H20,exits:=Zbc_E20,fn:=Zbc_L20 }
def Zbc_H17 : Shape:={ env:=[(1,.av (.val (.slice I))),(4,.av (.ptr 4 0)),(9,.av (.own 9)),(11,.av (.own 11)),(14,.av (.val I)),(51,.av (.val I)),(52,.av (.val I))],objs:=[(4,.box [.val I,.val (.slice yQ2),.val yQ3]),(9,.arr I),(11,.arr I)] }
def Zbc_E17 : List (Ex×Shape):=[(.exit 6,{ env:=[(1,.av (.val (.slice I))),(4,.av (.ptr 4 0)),(9,.av (.own 9)),(11,.av (.own 11))],objs:=[(4,.box [.val I,.val (.slice yQ2),.val yQ3]),(9,.arr I),(11,.arr I)] })]
def Zbc_B17 (x : Q68) : Option (Q68⊕(Q44⊕Empty)) :=
 let (a,b,c,d,e,f,g,h,i,_):=x; cond (ltI i h) ((Zbc_L20 (a,b,c,d,e,f,g,i,(mulI .i64 2 i),h,i,())).bind (Sum.elim (fun (a_2,b_2,c_2,d_2,e_2,f_2,g_2,h_2,i_2,_)=>some (.inl (a_2,b_2,c_2,d_2,e_2,f_2,g_2,h_2,(addI .i64 i_2 1),()))) (fun _=>none))) (some (.inr (.inl (a,b,c,d,e,f,()))))
def Zbc_L17 : Q68→Option (Q44⊕Empty):=loopFix Zbc_B17
def Zbc_A17 : Ann:={ head:=Zbc_H17,exits:=Zbc_E17,fn:=Zbc_L17 }
def Zbc_H13 : Shape:={ env:=[(1,.av (.val (.slice I))),(4,.av (.ptr 4 0)),(9,.av (.own 9)),(11,.av (.own 11))],objs:=[(4,.box [.val I,.val (.slice yQ2),.val yQ3]),(9,.arr I),(11,.arr I)] }
def Zbc_E13 : List (Ex×Shape):=[(.exit 4,{ env:=[(9,.av (.own 9))],objs:=[(9,.arr I)] })]
def Zbc_B13 (x : Q44) : Option (Q44⊕(Q1⊕Empty)) :=
 let (a,b,c,d,e,f,_):=x; cond (gtI (e.length : Nat) 0) ((idxI e.length 0).bind fun j1=>(e[j1]?).bind fun y2=>(Zbc_L17 (a,b,c,d,e,f,y2,(b.length : Nat),0,())).bind (Sum.elim (fun (a_4,b_4,c_4,d_4,e_4,f_4,_)=>(viewB e_4.length 1 (e_4.length : Nat)).bind fun v5=>some (.inl (a_4,b_4,c_4,d_4,((e_4.drop v5.1).take v5.2),f_4,()))) (fun _=>none))) (some (.inr (.inl (d,()))))
def Zbc_L13 : Q44→Option (Q1⊕Empty):=loopFix Zbc_B13
def Zbc_A13 : Ann:={ head:=Zbc_H13,exits:=Zbc_E13,fn:=Zbc_L13 }
def Zbc_H9 : Shape:={ env:=[(1,.av (.val (.slice I))),(4,.av (.ptr 4 0)),(9,.av (.own 9)),(11,.av (.own 11)),(31,.av (.val (.slice I))),(32,.av (.val I)),(33,.av (.val I))],objs:=[(4,.box [.val I,.val (.slice yQ2),.val yQ3]),(9,.arr I),(11,.arr I)] }
def Zbc_E9 : List (Ex×Shape):=[(.exit 2,{ env:=[(1,.av (.val (.slice I))),(4,.av (.ptr 4 0)),(9,.av (.own 9)),(11,.av (.own 11))],objs:=[(4,.box [.val I,.val (.slice yQ2),.val yQ3]),(9,.arr I),(11,.arr I)] })]
def Zbc_B9 (x : Q70) : Option (Q70⊕(Q44⊕Empty)) :=
 let (a,b,c,d,e,f,g,h,i,_):=x; cond (ltI i h) ((getI g i).bind fun y1=>(idxI d.length y1).bind fun j2=>(d[j2]?).bind fun y3=>some (.inl (a,b,c,(d.set j2 0),e,f,g,h,(addI .i64 i 1),()))) (some (.inr (.inl (a,b,c,d,e,f,()))))
def Zbc_L9 : Q70→Option (Q44⊕Empty):=loopFix Zbc_B9
def Zbc_A9 : Ann:={ head:=Zbc_H9,exits:=Zbc_E9,fn:=Zbc_L9 }
def Zbc_H3 : Shape:={ env:=[(1,.av (.val (.slice I))),(3,.av (.val (.slice I))),(4,.av (.ptr 4 0)),(9,.av (.own 9)),(21,.av (.val I)),(22,.av (.val I))],objs:=[(4,.box [.val I,.val (.slice yQ2),.val yQ3]),(9,.arr I)] }
def Zbc_E3 : List (Ex×Shape):=[(.exit 0,{ env:=[(1,.av (.val (.slice I))),(3,.av (.val (.slice I))),(4,.av (.ptr 4 0)),(9,.av (.own 9))],objs:=[(4,.box [.val I,.val (.slice yQ2),.val yQ3]),(9,.arr I)] })]
def Zbc_B3 (x : Q62) : Option (Q62⊕(Q44⊕Empty)) :=
 let (a,b,c,d,e,f,g,h,_):=x; cond (ltI h g) ((idxI d.length h).bind fun j1=>(d[j1]?).bind fun y2=>some (.inl (a,b,c,(d.set j1 (-1)),e,f,g,(addI .i64 h 1),()))) (some (.inr (.inl (a,b,c,d,e,f,()))))
def Zbc_L3 : Q62→Option (Q44⊕Empty):=loopFix Zbc_B3
def Zbc_A3 : Ann:={ head:=Zbc_H3,exits:=Zbc_E3,fn:=Zbc_L3 }
def Zbc_As : Anns:=[(3,Zbc_A3),(9,Zbc_A9),(13,Zbc_A13),(17,Zbc_A17),(20,Zbc_A20)]
def Zbc (x : (Q15×List Int×Int×List Int×Unit)) : Option Q1 :=
 let ((a,b,c,_),d,e,f,_):=x; (makeL I e e).bind fun m1=>(Zbc_L3 (a,b,c,m1,d,f,(m1.length : Nat),0,())).bind (Sum.elim (fun (a_3,b_3,c_3,d_3,e_3,f_3,_)=>(Zas (f_3,())).bind fun r4=>(Zbc_L9 (a_3,b_3,c_3,d_3,r4.1,e_3,f_3,(f_3.length : Nat),0,())).bind (Sum.elim (fun (a_6,b_6,c_6,d_6,e_6,f_6,_)=>(Zbc_L13 (a_6,b_6,c_6,d_6,e_6,f_6,())).bind (Sum.elim (fun z8=>some (z8.1,())) (fun _=>none))) (fun _=>none))) (fun _=>none))
def Zbc_c : Con:={ ins:=[(.rd,yQ7),(.rd,(.slice I)),(.rd,I),(.rd,(.slice I))],outs:=[(true,(.slice I))],fn:=Zbc }
def Zbc_C : Ctx:={ tab:=tab,con:=fun | 64,_=>some Zas_c | _,_=>none,glob:=glob,eqs:=eqs }
theorem Zbc_R20 (x : Zbc_H20.ty.den) : round Zbc_C Zbc_As Zbc_A20 (loopBody 20 (bodyOf Tryd.f70)) x=Zbc_B20 x:=by kernel_rfl
theorem Zbc_R17 (x : Zbc_H17.ty.den) : round Zbc_C Zbc_As Zbc_A17 (loopBody 17 (bodyOf Tryd.f70)) x=Zbc_B17 x:=by kernel_rfl
theorem Zbc_R13 (x : Zbc_H13.ty.den) : round Zbc_C Zbc_As Zbc_A13 (loopBody 13 (bodyOf Tryd.f70)) x=Zbc_B13 x:=by kernel_rfl
theorem Zbc_R9 (x : Zbc_H9.ty.den) : round Zbc_C Zbc_As Zbc_A9 (loopBody 9 (bodyOf Tryd.f70)) x=Zbc_B9 x:=by kernel_rfl
theorem Zbc_R3 (x : Zbc_H3.ty.den) : round Zbc_C Zbc_As Zbc_A3 (loopBody 3 (bodyOf Tryd.f70)) x=Zbc_B3 x:=by kernel_rfl
theorem Zbc_eq (x : (tupTy [yQ7,(.slice I),I,(.slice I)]).den) : callFn Zbc_C Zbc_As (bodyOf Tryd.f70) [(.rd,yQ7),(.rd,(.slice I)),(.rd,I),(.rd,(.slice I))] [(.tmp 8,true,(.slice I))] x=Zbc x:=by kernel_rfl
def Zbo_As : Anns:=[]
def Zbo (x : (Int×Int×List Int×Unit)) : Option (Int×Unit) :=
 let (a,b,c,_):=x; (getI c a).bind fun y1=>(getI c b).bind fun y2=>some ((subI .i64 y1 y2),())
def Zbo_c : Con:={ ins:=[(.rd,I),(.rd,I),(.rd,(.ptr (.slice I)))],outs:=[(true,I)],fn:=Zbo }
def Zbo_C : Ctx:={ tab:=tab,con:=fun _ _=>none,glob:=glob,eqs:=eqs }
theorem Zbo_eq (x : (tupTy [I,I,(.ptr (.slice I))]).den) : callFn Zbo_C Zbo_As (bodyOf Tryd.f73) [(.rd,I),(.rd,I),(.rd,(.ptr (.slice I)))] [(.tmp 5,true,I)] x=Zbo x:=by kernel_rfl
def Ze_H5 : Shape:={ env:=[(0,.av (.val (.slice I))),(1,.av (.val (.clo 73 yQ11))),(5,.av (.val I)),(6,.av (.val I))],objs:=[] }
def Ze_E5 : List (Ex×Shape):=[(.exit 0,{ env:=[(5,.av (.val I))],objs:=[] })]
def Ze_B5 (x : (List Int×Q1×Int×Int×Unit)) : Option ((List Int×Q1×Int×Int×Unit)⊕((Int×Unit)⊕Empty)) :=
 let (a,b,c,d,_):=x; cond (ltI d (a.length : Nat)) ((getI a d).bind fun y1=>(Zbo (y1,c,b.1,())).bind fun r2=>cond (ltI r2.1 0) ((getI a d).bind fun y3=>some (.inl (a,b,y3,(addI .i64 d 1),()))) (some (.inl (a,b,c,(addI .i64 d 1),())))) (some (.inr (.inl (c,()))))
def Ze_L5 : (List Int×Q1×Int×Int×Unit)→Option ((Int×Unit)⊕Empty):=loopFix Ze_B5
def Ze_A5 : Ann:={ head:=Ze_H5,exits:=Ze_E5,fn:=Ze_L5 }
def Ze_As : Anns:=[(5,Ze_A5)]
def Ze (x : (List Int×Q1×Unit)) : Option (Int×Unit) :=
 cond (ltI (x.1.length : Nat) 1) (none) ((getI x.1 0).bind fun y1=>(Ze_L5 (x.1,x.2.1,y1,1,())).bind (Sum.elim (fun z3=>some (z3.1,())) (fun _=>none)))
def Ze_c : Con:={ ins:=[(.rd,(.slice I)),(.rd,(.clo 73 yQ11))],outs:=[(true,I)],fn:=Ze }
def Ze_C : Ctx:={ tab:=tab,con:=fun | 73,_=>some Zbo_c | _,_=>none,glob:=glob,eqs:=eqs }
theorem Ze_R5 (x : Ze_H5.ty.den) : round Ze_C Ze_As Ze_A5 (loopBody 5 (bodyOf Tryd.f72)) x=Ze_B5 x:=by kernel_rfl
theorem Ze_eq (x : (tupTy [(.slice I),(.clo 73 yQ11)]).den) : callFn Ze_C Ze_As (bodyOf Tryd.f72) [(.rd,(.slice I)),(.rd,(.clo 73 yQ11))] [(.tmp 4,true,I)] x=Ze x:=by kernel_rfl
def Zbm_As : Anns:=[]
def Zbm (x : (Int×List Int×Int×Unit)) : Option (Bool×Unit) :=
 (getI x.2.1 x.1).bind fun y1=>some ((neI y1 x.2.2.1),())
def Zbm_c : Con:={ ins:=[(.rd,I),(.rd,(.ptr (.slice I))),(.rd,(.ptr I))],outs:=[(true,.bool)],fn:=Zbm }
def Zbm_C : Ctx:={ tab:=tab,con:=fun _ _=>none,glob:=glob,eqs:=eqs }
theorem Zbm_eq (x : (tupTy [I,(.ptr (.slice I)),(.ptr I)]).den) : callFn Zbm_C Zbm_As (bodyOf Tryd.f75) [(.rd,I),(.rd,(.ptr (.slice I))),(.rd,(.ptr I))] [(.tmp 4,true,.bool)] x=Zbm x:=by kernel_rfl
def Zd_H2 : Shape:={ env:=[(0,.av (.val (.slice I))),(1,.av (.val (.clo 75 yQ10))),(7,.av (.val I)),(8,.av (.val I))],objs:=[] }
def Zd_E2 : List (Ex×Shape):=[(.ret,{ env:=[(4,.av (.val I))],objs:=[] }),(.exit 0,{ env:=[],objs:=[] })]
def Zd_B2 (x : Q9) : Option (Q9⊕((Int×Unit)⊕(Unit⊕Empty))) :=
 let (a,b,c,d,_):=x; cond (ltI d c) ((getI a d).bind fun y1=>(Zbm (y1,b.1,b.2.1,())).bind fun r2=>cond r2.1 (some (.inr (.inl (d,())))) (some (.inl (a,b,c,(addI .i64 d 1),())))) (some (.inr (.inr (.inl ()))))
def Zd_L2 : Q9→Option ((Int×Unit)⊕(Unit⊕Empty)):=loopFix Zd_B2
def Zd_A2 : Ann:={ head:=Zd_H2,exits:=Zd_E2,fn:=Zd_L2 }
def Zd_As : Anns:=[(2,Zd_A2)]
def Zd (x : Q4) : Option (Int×Unit) :=
 (Zd_L2 (x.1,x.2.1,(x.1.length : Nat),0,())).bind (Sum.elim (fun z2=>some (z2.1,())) (Sum.elim (fun z3=>some ((-1),())) (fun _=>none)))
def Zd_c : Con:={ ins:=[(.rd,(.slice I)),(.rd,(.clo 75 yQ10))],outs:=[(true,I)],fn:=Zd }
def Zd_C : Ctx:={ tab:=tab,con:=fun | 75,_=>some Zbm_c | _,_=>none,glob:=glob,eqs:=eqs }
theorem Zd_R2 (x : Zd_H2.ty.den) : round Zd_C Zd_As Zd_A2 (loopBody 2 (bodyOf Tryd.f99)) x=Zd_B2 x:=by kernel_rfl
theorem Zd_eq (x : (tupTy [(.slice I),(.clo 75 yQ10)]).den) : callFn Zd_C Zd_As (bodyOf Tryd.f99) [(.rd,(.slice I)),(.rd,(.clo 75 yQ10))] [(.tmp 4,true,I)] x=Zd x:=by kernel_rfl
def Zc_H5 : Shape:={ env:=[(0,.av (.own 0)),(1,.av (.val (.clo 75 yQ10))),(5,.av (.val I)),(6,.av (.val I))],objs:=[(0,.arr I)] }
def Zc_E5 : List (Ex×Shape):=[(.exit 0,{ env:=[(0,.av (.own 0)),(5,.av (.val I))],objs:=[(0,.arr I)] })]
def Zc_B5 (x : Q9) : Option (Q9⊕(Q3⊕Empty)) :=
 let (a,b,c,d,_):=x; cond (ltI d (a.length : Nat)) ((idxI a.length d).bind fun j1=>(a[j1]?).bind fun y2=>(Zbm (y2,b.1,b.2.1,())).bind fun r3=>cond (!r3.1) ((idxI a.length c).bind fun j4=>(a[j4]?).bind fun y5=>some (.inl ((a.set j4 y2),b,(addI .i64 c 1),(addI .i64 d 1),()))) (some (.inl (a,b,c,(addI .i64 d 1),())))) (some (.inr (.inl (a,c,()))))
def Zc_L5 : Q9→Option (Q3⊕Empty):=loopFix Zc_B5
def Zc_A5 : Ann:={ head:=Zc_H5,exits:=Zc_E5,fn:=Zc_L5 }
def Zc_As : Anns:=[(5,Zc_A5)]
def Zc (x : Q4) : Option Q1 :=
 (Zd (x.1,x.2.1,())).bind fun r1=>cond (eqI r1.1 (-1)) (some (x.1,())) ((Zc_L5 (x.1,x.2.1,r1.1,(addI .i64 r1.1 1),())).bind (Sum.elim (fun z3=>(viewB z3.1.length z3.2.1 (z3.1.length : Nat)).bind fun v4=>cond (Nat.ble (v4.1+v4.2) z3.1.length && Nat.ble 1 v4.2) ((viewB (clearL I z3.1 v4.1 v4.2).length 0 z3.2.1).bind fun v5=>some ((((clearL I z3.1 v4.1 v4.2).drop v5.1).take v5.2),())) none) (fun _=>none)))
def Zc_c : Con:={ ins:=[(.take,(.slice I)),(.rd,(.clo 75 yQ10))],outs:=[(true,(.slice I))],fn:=Zc }
def Zc_C : Ctx:={ tab:=tab,con:=fun | 75,_=>some Zbm_c | 99,_=>some Zd_c | _,_=>none,glob:=glob,eqs:=eqs }
theorem Zc_R5 (x : Zc_H5.ty.den) : round Zc_C Zc_As Zc_A5 (loopBody 5 (bodyOf Tryd.f74)) x=Zc_B5 x:=by kernel_rfl
theorem Zc_eq (x : (tupTy [(.slice I),(.clo 75 yQ10)]).den) : callFn Zc_C Zc_As (bodyOf Tryd.f74) [(.take,(.slice I)),(.rd,(.clo 75 yQ10))] [(.tmp 4,true,(.slice I))] x=Zc x:=by kernel_rfl
def Zan_H2 : Shape:={ env:=[(0,.av (.val (.slice I))),(1,.av (.val I)),(7,.av (.val I)),(8,.av (.val I))],objs:=[] }
def Zan_E2 : List (Ex×Shape):=[(.ret,{ env:=[(4,.av (.val I))],objs:=[] }),(.exit 0,{ env:=[],objs:=[] })]
def Zan_B2 (x : (List Int×Int×Int×Int×Unit)) : Option ((List Int×Int×Int×Int×Unit)⊕((Int×Unit)⊕(Unit⊕Empty))) :=
 let (a,b,c,d,_):=x; cond (ltI d c) ((getI a d).bind fun y1=>cond (eqI b y1) (some (.inr (.inl (d,())))) (some (.inl (a,b,c,(addI .i64 d 1),())))) (some (.inr (.inr (.inl ()))))
def Zan_L2 : (List Int×Int×Int×Int×Unit)→Option ((Int×Unit)⊕(Unit⊕Empty)):=loopFix Zan_B2
def Zan_A2 : Ann:={ head:=Zan_H2,exits:=Zan_E2,fn:=Zan_L2 }
def Zan_As : Anns:=[(2,Zan_A2)]
def Zan (x : Q3) : Option (Int×Unit) :=
 (Zan_L2 (x.1,x.2.1,(x.1.length : Nat),0,())).bind (Sum.elim (fun z2=>some (z2.1,())) (Sum.elim (fun z3=>some ((-1),())) (fun _=>none)))
def Zan_c : Con:={ ins:=[(.rd,(.slice I)),(.rd,I)],outs:=[(true,I)],fn:=Zan }
def Zan_C : Ctx:={ tab:=tab,con:=fun _ _=>none,glob:=glob,eqs:=eqs }
theorem Zan_R2 (x : Zan_H2.ty.den) : round Zan_C Zan_As Zan_A2 (loopBody 2 (bodyOf Tryd.f46)) x=Zan_B2 x:=by kernel_rfl
theorem Zan_eq (x : (tupTy [(.slice I),I]).den) : callFn Zan_C Zan_As (bodyOf Tryd.f46) [(.rd,(.slice I)),(.rd,I)] [(.tmp 4,true,I)] x=Zan x:=by kernel_rfl
def Zn_As : Anns:=[]
def Zn (x : Q3) : Option (Bool×Unit) :=
 (Zan (x.1,x.2.1,())).bind fun r1=>some ((geI r1.1 0),())
def Zn_c : Con:={ ins:=[(.rd,(.slice I)),(.rd,I)],outs:=[(true,.bool)],fn:=Zn }
def Zn_C : Ctx:={ tab:=tab,con:=fun | 46,_=>some Zan_c | _,_=>none,glob:=glob,eqs:=eqs }
theorem Zn_eq (x : (tupTy [(.slice I),I]).den) : callFn Zn_C Zn_As (bodyOf Tryd.f100) [(.rd,(.slice I)),(.rd,I)] [(.tmp 4,true,.bool)] x=Zn x:=by kernel_rfl
def Zbv_H5 : Shape:={ env:=[(1,.av (.val (.slice I))),(2,.av (.val (.slice I))),(3,.av (.val (.slice I))),(4,.av (.val I)),(12,.av (.val I)),(13,.av (.val I)),(18,.av (.val I)),(19,.av (.val I))],objs:=[] }
def Zbv_E5 : List (Ex×Shape):=[(.ret,{ env:=[(10,.av (.val I)),(11,.av (.val I))],objs:=[] }),(.exit 2,{ env:=[(1,.av (.val (.slice I))),(2,.av (.val (.slice I))),(3,.av (.val (.slice I))),(4,.av (.val I)),(18,.av (.val I)),(19,.av (.val I))],objs:=[] })]
def Zbv_B5 (x : Q38) : Option (Q38⊕(Q2⊕(Q30⊕Empty))) :=
 let (a,b,c,d,e,f,g,h,_):=x; cond (leI f (addI .i64 (mulI .i64 2 e) 1)) ((getI a f).bind fun y1=>(getI a (xorI .i64 f 1)).bind fun y2=>(Zn (c,y1,())).bind fun r3=>cond r3.1 ((getI b y1).bind fun y4=>(getI b y2).bind fun y5=>cond ((eqI y4 d) && ((eqI y5 (subI .i64 d 1)) && true)) (some (.inr (.inl (e,y2,())))) (some (.inl (a,b,c,d,e,(addI .i64 f 1),g,h,())))) (some (.inl (a,b,c,d,e,(addI .i64 f 1),g,h,())))) (some (.inr (.inr (.inl (a,b,c,d,g,h,())))))
def Zbv_L5 : Q38→Option (Q2⊕(Q30⊕Empty)):=loopFix Zbv_B5
def Zbv_A5 : Ann:={ head:=Zbv_H5,exits:=Zbv_E5,fn:=Zbv_L5 }
def Zbv_H2 : Shape:={ env:=[(1,.av (.val (.slice I))),(2,.av (.val (.slice I))),(3,.av (.val (.slice I))),(4,.av (.val I)),(18,.av (.val I)),(19,.av (.val I))],objs:=[] }
def Zbv_E2 : List (Ex×Shape):=[(.ret,{ env:=[(10,.av (.val I)),(11,.av (.val I))],objs:=[] }),(.exit 0,{ env:=[],objs:=[] })]
def Zbv_B2 (x : Q30) : Option (Q30⊕(Q2⊕(Unit⊕Empty))) :=
 let (a,b,c,d,e,f,_):=x; cond (ltI f e) ((Zbv_L5 (a,b,c,d,f,(mulI .i64 2 f),e,f,())).bind (Sum.elim (fun z2=>some (.inr (.inl (z2.1,z2.2.1,())))) (Sum.elim (fun (a_3,b_3,c_3,d_3,e_3,f_3,_)=>some (.inl (a_3,b_3,c_3,d_3,e_3,(addI .i64 f_3 1),()))) (fun _=>none)))) (some (.inr (.inr (.inl ()))))
def Zbv_L2 : Q30→Option (Q2⊕(Unit⊕Empty)):=loopFix Zbv_B2
def Zbv_A2 : Ann:={ head:=Zbv_H2,exits:=Zbv_E2,fn:=Zbv_L2 }
def Zbv_As : Anns:=[(2,Zbv_A2),(5,Zbv_A5)]
def Zbv (x : (Q15×List Int×List Int×List Int×Int×Unit)) : Option Q2 :=
 let ((_,a,_),b,c,d,e,_):=x; (Zbv_L2 (b,c,d,e,(a.length : Nat),0,())).bind (Sum.elim (fun z2=>some (z2.1,z2.2.1,())) (Sum.elim (fun z3=>some ((-1),0,())) (fun _=>none)))
def Zbv_c : Con:={ ins:=[(.rd,yQ7),(.rd,(.slice I)),(.rd,(.slice I)),(.rd,(.slice I)),(.rd,I)],outs:=[(true,I),(true,I)],fn:=Zbv }
def Zbv_C : Ctx:={ tab:=tab,con:=fun | 100,_=>some Zn_c | _,_=>none,glob:=glob,eqs:=eqs }
theorem Zbv_R5 (x : Zbv_H5.ty.den) : round Zbv_C Zbv_As Zbv_A5 (loopBody 5 (bodyOf Tryd.f76)) x=Zbv_B5 x:=by kernel_rfl
theorem Zbv_R2 (x : Zbv_H2.ty.den) : round Zbv_C Zbv_As Zbv_A2 (loopBody 2 (bodyOf Tryd.f76)) x=Zbv_B2 x:=by kernel_rfl
theorem Zbv_eq (x : (tupTy [yQ7,(.slice I),(.slice I),(.slice I),I]).den) : callFn Zbv_C Zbv_As (bodyOf Tryd.f76) [(.rd,yQ7),(.rd,(.slice I)),(.rd,(.slice I)),(.rd,(.slice I)),(.rd,I)] [(.tmp 10,true,I),(.tmp 11,true,I)] x=Zbv x:=by kernel_rfl
def Zbu_H14 : Shape:={ env:=[(3,.av (.ptr 3 0)),(9,.av (.own 9)),(11,.av (.ptr 11 0)),(12,.av (.own 12)),(13,.av (.ptr 13 0)),(14,.av (.own 14))],objs:=[(3,.box [.val I,.val (.slice yQ2),.val yQ3]),(9,.arr I),(11,.box [.own 1200000]),(12,.arr I),(13,.box [.val I]),(14,.arr I),(1200000,.arr I)] }
def Zbu_E14 : List (Ex×Shape):=[(.exit 0,{ env:=[(14,.av (.own 14))],objs:=[(14,.arr I)] })]
def Zbu_B14 (x : Q67) : Option (Q67⊕(Q1⊕Empty)) :=
 let (a,b,c,d,e,f,g,h,_):=x; cond (gtI f 0) ((Zbv ((a,b,c,()),d,h,e,f,())).bind fun r1=>(app g [r1.1]).bind fun a2=>some (.inl (a,b,c,d,[r1.2.1],(subI .i64 f 1),a2,h,()))) (some (.inr (.inl (g,()))))
def Zbu_L14 : Q67→Option (Q1⊕Empty):=loopFix Zbu_B14
def Zbu_A14 : Ann:={ head:=Zbu_H14,exits:=Zbu_E14,fn:=Zbu_L14 }
def Zbu_As : Anns:=[(14,Zbu_A14)]
def Zbu (x : Q17) : Option Q3 :=
 let ((a,b,c,_),d,e,_):=x; (Zbt ((a,b,c,()),())).bind fun r1=>cond (neI r1.1 0) (some ([],r1.1,())) (cond (ltI d 0) (some ([],3,())) (cond (geI d a) (some ([],3,())) (cond (ltI e 0) (some ([],3,())) (cond (geI e a) (some ([],3,())) (cond (eqI d e) (some ([],0,())) ((Zbk ((a,b,c,()),())).bind fun r2=>(Zbp ((a,b,c,()),r2.1,e,())).bind fun r3=>(Zbc ((a,b,c,()),r2.1,r2.2.1,r3.1,())).bind fun r4=>(Zbp ((a,b,c,()),r2.1,d,())).bind fun r5=>(Ze (r5.1,(r4.1,()),())).bind fun r6=>(idxI r4.1.length r6.1).bind fun j7=>(r4.1[j7]?).bind fun y8=>(Zc (r5.1,(r4.1,y8,()),())).bind fun r9=>(Zbu_L14 (a,b,c,r2.1,r9.1,y8,[],r4.1,())).bind (Sum.elim (fun z11=>some (z11.1,0,())) (fun _=>none))))))))
def Zbu_c : Con:={ ins:=[(.rd,yQ7),(.rd,I),(.rd,I)],outs:=[(true,(.slice I)),(true,I)],fn:=Zbu }
def Zbu_C : Ctx:={ tab:=tab,con:=fun | 68,_=>some Zbt_c | 69,_=>some Zbk_c | 70,_=>some Zbc_c | 71,_=>some Zbp_c | 72,_=>some Ze_c | 74,_=>some Zc_c | 76,_=>some Zbv_c | _,_=>none,glob:=glob,eqs:=eqs }
theorem Zbu_R14 (x : Zbu_H14.ty.den) : round Zbu_C Zbu_As Zbu_A14 (loopBody 14 (bodyOf Tryd.f50)) x=Zbu_B14 x:=by kernel_rfl
theorem Zbu_eq (x : (tupTy [yQ7,I,I]).den) : callFn Zbu_C Zbu_As (bodyOf Tryd.f50) [(.rd,yQ7),(.rd,I),(.rd,I)] [(.tmp 6,true,(.slice I)),(.tmp 7,true,I)] x=Zbu x:=by kernel_rfl
def Zat_As : Anns:=[]
def Zat (x : ((List Q2)×Unit)) : Option ((List Q2)×Unit) :=
 cond x.1.isEmpty (both (some ([],())) ((app [] x.1).bind fun a1=>some (a1,()))) ((app [] x.1).bind fun a1=>some (a1,()))
def Zat_c : Con:={ ins:=[(.rd,(.slice yQ2))],outs:=[(true,(.slice yQ2))],fn:=Zat }
def Zat_C : Ctx:={ tab:=tab,con:=fun _ _=>none,glob:=glob,eqs:=eqs }
theorem Zat_eq (x : (tupTy [(.slice yQ2)]).den) : callFn Zat_C Zat_As (bodyOf Tryd.f63) [(.rd,(.slice yQ2))] [(.tmp 2,true,(.slice yQ2))] x=Zat x:=by kernel_rfl
def Zbh_H3 : Shape:={ env:=[(2,.av (.ptr 2 0)),(3,.av (.ptr 3 0)),(13,.av (.val yQ3)),(14,.av (.val I)),(15,.av (.val I))],objs:=[(2,.box [.val I,.nils,.nils]),(3,.box [.val I,.own 400001,.ownd 400002]),(400001,.arr yQ2),(400002,.deep I)] }
def Zbh_E3 : List (Ex×Shape):=[(.exit 0,{ env:=[(2,.av (.ptr 2 0)),(3,.av (.ptr 3 0))],objs:=[(2,.box [.val I,.nils,.nils]),(3,.box [.val I,.own 400001,.ownd 400002]),(400001,.arr yQ2),(400002,.deep I)] })]
def Zbh_B3 (x : Q53) : Option (Q53⊕((Int×Int×(List Q2)×(List (List Int))×Unit)⊕Empty)) :=
 let (a,b,c,d,e,f,g,_):=x; cond (ltI g f) ((getI e g).bind fun y1=>(Zas (y1,())).bind fun r2=>(app d [r2.1]).bind fun a3=>some (.inl (a,b,c,a3,e,f,(addI .i64 g 1),()))) (some (.inr (.inl (a,b,c,d,()))))
def Zbh_L3 : Q53→Option ((Int×Int×(List Q2)×(List (List Int))×Unit)⊕Empty):=loopFix Zbh_B3
def Zbh_A3 : Ann:={ head:=Zbh_H3,exits:=Zbh_E3,fn:=Zbh_L3 }
def Zbh_As : Anns:=[(3,Zbh_A3)]
def Zbh (x : (Q15×Unit)) : Option (Q15×Unit) :=
 let ((a,b,c,_),_):=x; (Zat (b,())).bind fun r1=>(Zbh_L3 (0,a,r1.1,[],c,(c.length : Nat),0,())).bind (Sum.elim (fun z3=>some ((z3.2.1,z3.2.2.1,z3.2.2.2.1,()),())) (fun _=>none))
def Zbh_c : Con:={ ins:=[(.rd,yQ7)],outs:=[(true,yQ7)],fn:=Zbh,deep:=true }
def Zbh_C : Ctx:={ tab:=tab,con:=fun | 63,_=>some Zat_c | 64,_=>some Zas_c | _,_=>none,glob:=glob,eqs:=eqs,deep:=[23] }
theorem Zbh_R3 (x : Zbh_H3.ty.den) : round Zbh_C Zbh_As Zbh_A3 (loopBody 3 (bodyOf Tryd.f41)) x=Zbh_B3 x:=by kernel_rfl
theorem Zbh_eq (x : (tupTy [yQ7]).den) : callFn Zbh_C Zbh_As (bodyOf Tryd.f41) [(.rd,yQ7)] [(.cell 2 25,true,yQ7)] x true=Zbh x:=by kernel_rfl
def Zbl_As : Anns:=[]
def Zbl (x : Q16) : Option Q16 :=
 let ((a,b,c,_),d,_):=x; (Zaz ((a,b,c,()),())).bind fun r1=>cond (!r1.1) (some ((0,[],[],()),13,())) (cond (ltI d 0) (some ((0,[],[],()),3,())) (cond (geI d (b.length : Nat)) (some ((0,[],[],()),3,())) (cond (geI a 16384) (some ((0,[],[],()),2,())) (cond (geI (b.length : Nat) 32768) (some ((0,[],[],()),2,())) ((Zbh ((a,b,c,()),())).bind fun r2=>(getI b d).bind fun y3=>(idxI r2.1.2.1.length d).bind fun j4=>(r2.1.2.1[j4]?).bind fun y5=>(app (r2.1.2.1.set j4 (y5.1,a,y5.2.2)) [(a,y3.2.1,())]).bind fun a6=>(idxI r2.1.2.2.1.length y3.2.1).bind fun j7=>(Zan ((subL r2.1.2.2.1 j7),(addI .i64 (mulI .i64 2 d) 1),())).bind fun r8=>(idxI (subL r2.1.2.2.1 j7).length r8.1).bind fun j9=>(app (r2.1.2.2.1.set j7 ((subL r2.1.2.2.1 j7).set j9 (addI .i64 (mulI .i64 2 (b.length : Nat)) 1))) [[(addI .i64 (mulI .i64 2 d) 1),(mulI .i64 2 (b.length : Nat))]]).bind fun a10=>some (((addI .i64 r2.1.1 1),a6,a10,()),0,()))))))
def Zbl_c : Con:={ ins:=[(.rd,yQ7),(.rd,I)],outs:=[(true,yQ7),(true,I)],fn:=Zbl,deep:=true }
def Zbl_C : Ctx:={ tab:=tab,con:=fun | 38,_=>some Zaz_c | 41,_=>some Zbh_c | 46,_=>some Zan_c | _,_=>none,glob:=glob,eqs:=eqs,deep:=[87] }
theorem Zbl_eq (x : (tupTy [yQ7,I]).den) : callFn Zbl_C Zbl_As (bodyOf Tryd.f18) [(.rd,yQ7),(.rd,I)] [(.cell 4 25,true,yQ7),(.tmp 5,true,I)] x true=Zbl x:=by kernel_rfl
def Zbn_H6 : Shape:={ env:=[(3,.av (.own 3)),(4,.av (.val I)),(14,.av (.own 14)),(15,.av (.val I)),(16,.av (.val I)),(21,.av (.val (.slice I))),(22,.av (.val I)),(23,.av (.val I))],objs:=[(3,.arr I),(14,.arr (.slice I))] }
def Zbn_E6 : List (Ex×Shape):=[(.exit 2,{ env:=[(3,.av (.own 3)),(14,.av (.own 14)),(15,.av (.val I)),(16,.av (.val I))],objs:=[(3,.arr I),(14,.arr (.slice I))] })]
def Zbn_B6 (x : Q46) : Option (Q46⊕(Q23⊕Empty)) :=
 let (a,b,c,d,e,f,g,h,_):=x; cond (ltI h g) ((getI f h).bind fun y1=>(idxI a.length y1).bind fun j2=>(a[j2]?).bind fun y3=>some (.inl ((a.set j2 c),b,c,d,e,f,g,(addI .i64 h 1),()))) (some (.inr (.inl (a,b,d,e,()))))
def Zbn_L6 : Q46→Option (Q23⊕Empty):=loopFix Zbn_B6
def Zbn_A6 : Ann:={ head:=Zbn_H6,exits:=Zbn_E6,fn:=Zbn_L6 }
def Zbn_H3 : Shape:={ env:=[(3,.av (.own 3)),(14,.av (.own 14)),(15,.av (.val I)),(16,.av (.val I))],objs:=[(3,.arr I),(14,.arr (.slice I))] }
def Zbn_E3 : List (Ex×Shape):=[(.exit 0,{ env:=[(3,.av (.own 3))],objs:=[(3,.arr I)] })]
def Zbn_B3 (x : Q23) : Option (Q23⊕(Q1⊕Empty)) :=
 let (a,b,c,d,_):=x; cond (ltI d c) ((idxI b.length d).bind fun j1=>(b[j1]?).bind fun y2=>(Zbn_L6 (a,b,d,c,d,y2,(y2.length : Nat),0,())).bind (Sum.elim (fun z4=>some (.inl (z4.1,z4.2.1,z4.2.2.1,(addI .i64 z4.2.2.2.1 1),()))) (fun _=>none))) (some (.inr (.inl (a,()))))
def Zbn_L3 : Q23→Option (Q1⊕Empty):=loopFix Zbn_B3
def Zbn_A3 : Ann:={ head:=Zbn_H3,exits:=Zbn_E3,fn:=Zbn_L3 }
def Zbn_As : Anns:=[(3,Zbn_A3),(6,Zbn_A6)]
def Zbn (x : (Q15×Unit)) : Option Q1 :=
 let ((a,b,c,_),_):=x; (makeL I (mulI .i64 2 (b.length : Nat)) (mulI .i64 2 (b.length : Nat))).bind fun m1=>(Zbd ((a,b,c,()),())).bind fun r2=>(Zbn_L3 (m1,r2.1,(r2.1.length : Nat),0,())).bind (Sum.elim (fun z4=>some (z4.1,())) (fun _=>none))
def Zbn_c : Con:={ ins:=[(.rd,yQ7)],outs:=[(true,(.slice I))],fn:=Zbn }
def Zbn_C : Ctx:={ tab:=tab,con:=fun | 58,_=>some Zbd_c | _,_=>none,glob:=glob,eqs:=eqs }
theorem Zbn_R6 (x : Zbn_H6.ty.den) : round Zbn_C Zbn_As Zbn_A6 (loopBody 6 (bodyOf Tryd.f40)) x=Zbn_B6 x:=by kernel_rfl
theorem Zbn_R3 (x : Zbn_H3.ty.den) : round Zbn_C Zbn_As Zbn_A3 (loopBody 3 (bodyOf Tryd.f40)) x=Zbn_B3 x:=by kernel_rfl
theorem Zbn_eq (x : (tupTy [yQ7]).den) : callFn Zbn_C Zbn_As (bodyOf Tryd.f40) [(.rd,yQ7)] [(.tmp 2,true,(.slice I))] x=Zbn x:=by kernel_rfl
def Zav_As : Anns:=[]
def Zav (x : (Int×List Int×Int×Unit)) : Option (Bool×Unit) :=
 (getI x.2.1 x.1).bind fun y1=>(getI x.2.1 x.2.2.1).bind fun y2=>some ((eqI y1 y2),())
def Zav_c : Con:={ ins:=[(.rd,I),(.rd,(.ptr (.slice I))),(.rd,(.ptr I))],outs:=[(true,.bool)],fn:=Zav }
def Zav_C : Ctx:={ tab:=tab,con:=fun _ _=>none,glob:=glob,eqs:=eqs }
theorem Zav_eq (x : (tupTy [I,(.ptr (.slice I)),(.ptr I)]).den) : callFn Zav_C Zav_As (bodyOf Tryd.f80) [(.rd,I),(.rd,(.ptr (.slice I))),(.rd,(.ptr I))] [(.tmp 4,true,.bool)] x=Zav x:=by kernel_rfl
def Zb_H2 : Shape:={ env:=[(0,.av (.val (.slice I))),(1,.av (.val (.clo 80 yQ10))),(7,.av (.val I)),(8,.av (.val I))],objs:=[] }
def Zb_E2 : List (Ex×Shape):=[(.ret,{ env:=[(4,.av (.val I))],objs:=[] }),(.exit 0,{ env:=[],objs:=[] })]
def Zb_B2 (x : Q9) : Option (Q9⊕((Int×Unit)⊕(Unit⊕Empty))) :=
 let (a,b,c,d,_):=x; cond (ltI d c) ((getI a d).bind fun y1=>(Zav (y1,b.1,b.2.1,())).bind fun r2=>cond r2.1 (some (.inr (.inl (d,())))) (some (.inl (a,b,c,(addI .i64 d 1),())))) (some (.inr (.inr (.inl ()))))
def Zb_L2 : Q9→Option ((Int×Unit)⊕(Unit⊕Empty)):=loopFix Zb_B2
def Zb_A2 : Ann:={ head:=Zb_H2,exits:=Zb_E2,fn:=Zb_L2 }
def Zb_As : Anns:=[(2,Zb_A2)]
def Zb (x : Q4) : Option (Int×Unit) :=
 (Zb_L2 (x.1,x.2.1,(x.1.length : Nat),0,())).bind (Sum.elim (fun z2=>some (z2.1,())) (Sum.elim (fun z3=>some ((-1),())) (fun _=>none)))
def Zb_c : Con:={ ins:=[(.rd,(.slice I)),(.rd,(.clo 80 yQ10))],outs:=[(true,I)],fn:=Zb }
def Zb_C : Ctx:={ tab:=tab,con:=fun | 80,_=>some Zav_c | _,_=>none,glob:=glob,eqs:=eqs }
theorem Zb_R2 (x : Zb_H2.ty.den) : round Zb_C Zb_As Zb_A2 (loopBody 2 (bodyOf Tryd.f99)) x=Zb_B2 x:=by kernel_rfl
theorem Zb_eq (x : (tupTy [(.slice I),(.clo 80 yQ10)]).den) : callFn Zb_C Zb_As (bodyOf Tryd.f99) [(.rd,(.slice I)),(.rd,(.clo 80 yQ10))] [(.tmp 4,true,I)] x=Zb x:=by kernel_rfl
def Za_As : Anns:=[]
def Za (x : Q4) : Option (Bool×Unit) :=
 (Zb (x.1,x.2.1,())).bind fun r1=>some ((geI r1.1 0),())
def Za_c : Con:={ ins:=[(.rd,(.slice I)),(.rd,(.clo 80 yQ10))],outs:=[(true,.bool)],fn:=Za }
def Za_C : Ctx:={ tab:=tab,con:=fun | 99,_=>some Zb_c | _,_=>none,glob:=glob,eqs:=eqs }
theorem Za_eq (x : (tupTy [(.slice I),(.clo 80 yQ10)]).den) : callFn Za_C Za_As (bodyOf Tryd.f79) [(.rd,(.slice I)),(.rd,(.clo 80 yQ10))] [(.tmp 4,true,.bool)] x=Za x:=by kernel_rfl
def Zbi_As : Anns:=[]
def Zbi (x : (Int×Q15×Int×List Int×Unit)) : Option (Bool×Unit) :=
 (getI x.2.1.2.2.1 x.2.2.1).bind fun y1=>(Za (y1,(x.2.2.2.1,x.1,()),())).bind fun r2=>some (r2.1,())
def Zbi_c : Con:={ ins:=[(.rd,I),(.rd,(.ptr yQ7)),(.rd,(.ptr I)),(.rd,(.ptr (.slice I)))],outs:=[(true,.bool)],fn:=Zbi }
def Zbi_C : Ctx:={ tab:=tab,con:=fun | 79,_=>some Za_c | _,_=>none,glob:=glob,eqs:=eqs }
theorem Zbi_eq (x : (tupTy [I,(.ptr yQ7),(.ptr I),(.ptr (.slice I))]).den) : callFn Zbi_C Zbi_As (bodyOf Tryd.f78) [(.rd,I),(.rd,(.ptr yQ7)),(.rd,(.ptr I)),(.rd,(.ptr (.slice I)))] [(.tmp 5,true,.bool)] x=Zbi x:=by kernel_rfl
def Zg_H3 : Shape:={ env:=[(1,.av (.val (.clo 78 yQ12))),(5,.av (.val I)),(8,.av (.val (.slice I))),(9,.av (.val I)),(10,.av (.val I))],objs:=[] }
def Zg_E3 : List (Ex×Shape):=[(.exit 0,{ env:=[(5,.av (.val I))],objs:=[] })]
def Zg_B3 (x : Q19) : Option (Q19⊕((Int×Unit)⊕Empty)) :=
 let (a,b,c,d,e,_):=x; cond (ltI e d) ((getI c e).bind fun y1=>(Zbi (y1,a.1,a.2.1,a.2.2.1,())).bind fun r2=>cond r2.1 (cond (ltI b 0) (some (.inl (a,y1,c,d,(addI .i64 e 1),()))) (cond (ltI y1 b) (some (.inl (a,y1,c,d,(addI .i64 e 1),()))) (some (.inl (a,b,c,d,(addI .i64 e 1),()))))) (some (.inl (a,b,c,d,(addI .i64 e 1),())))) (some (.inr (.inl (b,()))))
def Zg_L3 : Q19→Option ((Int×Unit)⊕Empty):=loopFix Zg_B3
def Zg_A3 : Ann:={ head:=Zg_H3,exits:=Zg_E3,fn:=Zg_L3 }
def Zg_As : Anns:=[(3,Zg_A3)]
def Zg (x : (List Int×Q18×Unit)) : Option (Int×Unit) :=
 (Zg_L3 (x.2.1,(-1),x.1,(x.1.length : Nat),0,())).bind (Sum.elim (fun z2=>some (z2.1,())) (fun _=>none))
def Zg_c : Con:={ ins:=[(.rd,(.slice I)),(.rd,(.clo 78 yQ12))],outs:=[(true,I)],fn:=Zg }
def Zg_C : Ctx:={ tab:=tab,con:=fun | 78,_=>some Zbi_c | _,_=>none,glob:=glob,eqs:=eqs }
theorem Zg_R3 (x : Zg_H3.ty.den) : round Zg_C Zg_As Zg_A3 (loopBody 3 (bodyOf Tryd.f77)) x=Zg_B3 x:=by kernel_rfl
theorem Zg_eq (x : (tupTy [(.slice I),(.clo 78 yQ12)]).den) : callFn Zg_C Zg_As (bodyOf Tryd.f77) [(.rd,(.slice I)),(.rd,(.clo 78 yQ12))] [(.tmp 4,true,I)] x=Zg x:=by kernel_rfl
def Zbe_As : Anns:=[]
def Zbe (x : (Int×List Int×Int×Unit)) : Option (Bool×Unit) :=
 (getI x.2.1 x.1).bind fun y1=>(getI x.2.1 x.2.2.1).bind fun y2=>some ((eqI y1 y2),())
def Zbe_c : Con:={ ins:=[(.rd,I),(.rd,(.ptr (.slice I))),(.rd,(.ptr I))],outs:=[(true,.bool)],fn:=Zbe }
def Zbe_C : Ctx:={ tab:=tab,con:=fun _ _=>none,glob:=glob,eqs:=eqs }
theorem Zbe_eq (x : (tupTy [I,(.ptr (.slice I)),(.ptr I)]).den) : callFn Zbe_C Zbe_As (bodyOf Tryd.f81) [(.rd,I),(.rd,(.ptr (.slice I))),(.rd,(.ptr I))] [(.tmp 4,true,.bool)] x=Zbe x:=by kernel_rfl
def Zf_H3 : Shape:={ env:=[(1,.av (.val (.clo 81 yQ10))),(5,.av (.val I)),(8,.av (.val (.slice I))),(9,.av (.val I)),(10,.av (.val I))],objs:=[] }
def Zf_E3 : List (Ex×Shape):=[(.exit 0,{ env:=[(5,.av (.val I))],objs:=[] })]
def Zf_B3 (x : Q11) : Option (Q11⊕((Int×Unit)⊕Empty)) :=
 let (a,b,c,d,e,_):=x; cond (ltI e d) ((getI c e).bind fun y1=>(Zbe (y1,a.1,a.2.1,())).bind fun r2=>cond r2.1 (cond (ltI b 0) (some (.inl (a,y1,c,d,(addI .i64 e 1),()))) (cond (ltI y1 b) (some (.inl (a,y1,c,d,(addI .i64 e 1),()))) (some (.inl (a,b,c,d,(addI .i64 e 1),()))))) (some (.inl (a,b,c,d,(addI .i64 e 1),())))) (some (.inr (.inl (b,()))))
def Zf_L3 : Q11→Option ((Int×Unit)⊕Empty):=loopFix Zf_B3
def Zf_A3 : Ann:={ head:=Zf_H3,exits:=Zf_E3,fn:=Zf_L3 }
def Zf_As : Anns:=[(3,Zf_A3)]
def Zf (x : Q4) : Option (Int×Unit) :=
 (Zf_L3 (x.2.1,(-1),x.1,(x.1.length : Nat),0,())).bind (Sum.elim (fun z2=>some (z2.1,())) (fun _=>none))
def Zf_c : Con:={ ins:=[(.rd,(.slice I)),(.rd,(.clo 81 yQ10))],outs:=[(true,I)],fn:=Zf }
def Zf_C : Ctx:={ tab:=tab,con:=fun | 81,_=>some Zbe_c | _,_=>none,glob:=glob,eqs:=eqs }
theorem Zf_R3 (x : Zf_H3.ty.den) : round Zf_C Zf_As Zf_A3 (loopBody 3 (bodyOf Tryd.f77)) x=Zf_B3 x:=by kernel_rfl
theorem Zf_eq (x : (tupTy [(.slice I),(.clo 81 yQ10)]).den) : callFn Zf_C Zf_As (bodyOf Tryd.f77) [(.rd,(.slice I)),(.rd,(.clo 81 yQ10))] [(.tmp 4,true,I)] x=Zf x:=by kernel_rfl
def Zbf_As : Anns:=[]
def Zbf (x : Q16) : Option (Int×Unit) :=
 let ((a,b,c,_),d,_):=x; (Zaz ((a,b,c,()),())).bind fun r1=>cond (!r1.1) (some ((-1),())) (cond (ltI d 0) (some ((-1),())) (cond (geI d (mulI .i64 2 (b.length : Nat))) (some ((-1),())) ((getI b (quoI .i64 d 2)).bind fun y2=>(Zbj (y2,(remI d 2),())).bind fun r3=>some (r3.1,()))))
def Zbf_c : Con:={ ins:=[(.rd,yQ7),(.rd,I)],outs:=[(true,I)],fn:=Zbf }
def Zbf_C : Ctx:={ tab:=tab,con:=fun | 38,_=>some Zaz_c | 62,_=>some Zbj_c | _,_=>none,glob:=glob,eqs:=eqs }
theorem Zbf_eq (x : (tupTy [yQ7,I]).den) : callFn Zbf_C Zbf_As (bodyOf Tryd.f39) [(.rd,yQ7),(.rd,I)] [(.tmp 4,true,I)] x=Zbf x:=by kernel_rfl
def Zae (x : (List Int×Int×List Int×Unit)) : Option Q1:=insertC.fn x
def Zae_c : Con:=insertC
def Zbg_As : Anns:=[]
def Zbg (x : Q8) : Option Q1 :=
 (Zan (x.1,x.2.2.1,())).bind fun r1=>(Zae (x.1,r1.1,[x.2.1],())).bind fun r2=>some (r2.1,())
def Zbg_c : Con:={ ins:=[(.take,(.slice I)),(.rd,I),(.rd,I)],outs:=[(true,(.slice I))],fn:=Zbg }
def Zbg_C : Ctx:={ tab:=tab,con:=fun | 46,_=>some Zan_c | 65,_=>some Zae_c | _,_=>none,glob:=glob,eqs:=eqs }
theorem Zbg_eq (x : (tupTy [(.slice I),I,I]).den) : callFn Zbg_C Zbg_As (bodyOf Tryd.f42) [(.take,(.slice I)),(.rd,I),(.rd,I)] [(.tmp 6,true,(.slice I))] x=Zbg x:=by kernel_rfl
def Zbq_As : Anns:=[]
def Zbq (x : Q17) : Option Q16 :=
 let ((a,b,c,_),d,e,_):=x; (Zaz ((a,b,c,()),())).bind fun r1=>cond (!r1.1) (some ((0,[],[],()),13,())) (cond (ltI (minI d e) 0) (some ((0,[],[],()),3,())) (cond (geI (maxI d e) (mulI .i64 2 (b.length : Nat))) (some ((0,[],[],()),3,())) ((Zbf ((a,b,c,()),d,())).bind fun r2=>(Zbf ((a,b,c,()),e,())).bind fun r3=>cond (eqI r2.1 r3.1) (some ((0,[],[],()),8,())) ((Zbn ((a,b,c,()),())).bind fun r4=>(idxI r4.1.length d).bind fun j5=>(r4.1[j5]?).bind fun y6=>(idxI r4.1.length e).bind fun j7=>(r4.1[j7]?).bind fun y8=>cond (neI y6 y8) (some ((0,[],[],()),15,())) (cond (geI (b.length : Nat) 32768) (some ((0,[],[],()),2,())) ((Zbh ((a,b,c,()),())).bind fun r9=>(app r9.1.2.1 [(r2.1,r3.1,())]).bind fun a10=>(idxI r9.1.2.2.1.length r2.1).bind fun j11=>(Zbg ((subL r9.1.2.2.1 j11),(mulI .i64 2 (b.length : Nat)),d,())).bind fun r12=>(idxI r9.1.2.2.1.length r2.1).bind fun j13=>if j11=j13 then (idxI (r9.1.2.2.1.set j13 r12.1).length r3.1).bind fun j14=>(Zbg ((subL (r9.1.2.2.1.set j13 r12.1) j14),(addI .i64 (mulI .i64 2 (b.length : Nat)) 1),e,())).bind fun r15=>(idxI (r9.1.2.2.1.set j13 r12.1).length r3.1).bind fun j16=>if j14=j16 then some ((r9.1.1,a10,((r9.1.2.2.1.set j13 r12.1).set j16 r15.1),()),0,()) else none else none))))))
def Zbq_c : Con:={ ins:=[(.rd,yQ7),(.rd,I),(.rd,I)],outs:=[(false,yQ7),(true,I)],fn:=Zbq }
def Zbq_C : Ctx:={ tab:=tab,con:=fun | 38,_=>some Zaz_c | 39,_=>some Zbf_c | 40,_=>some Zbn_c | 41,_=>some Zbh_c | 42,_=>some Zbg_c | _,_=>none,glob:=glob,eqs:=eqs,light:=[16,17] }
theorem Zbq_eq (x : (tupTy [yQ7,I,I]).den) : callFn Zbq_C Zbq_As (bodyOf Tryd.f14) [(.rd,yQ7),(.rd,I),(.rd,I)] [(.cell 6 25,false,yQ7),(.tmp 7,true,I)] x=Zbq x:=by kernel_rfl
def Zbs_As : Anns:=[]
def Zbs (x : Q17) : Option Q16 :=
 let ((a,b,c,_),d,e,_):=x; (Zbn ((a,b,c,()),())).bind fun r1=>(getI c d).bind fun y2=>(Zg (y2,((a,b,c,()),e,r1.1,()),())).bind fun r3=>cond (ltI r3.1 0) (some ((0,[],[],()),15,())) ((getI c e).bind fun y4=>(Zf (y4,(r1.1,r3.1,()),())).bind fun r5=>(Zbq ((a,b,c,()),r3.1,r5.1,())).bind fun r6=>some ((r6.1.1,r6.1.2.1,r6.1.2.2.1,()),r6.2.1,()))
def Zbs_c : Con:={ ins:=[(.rd,yQ7),(.rd,I),(.rd,I)],outs:=[(false,yQ7),(true,I)],fn:=Zbs }
def Zbs_C : Ctx:={ tab:=tab,con:=fun | 14,_=>some Zbq_c | 40,_=>some Zbn_c | 77,18=>some Zg_c | 77,30=>some Zf_c | _,_=>none,glob:=glob,eqs:=eqs }
theorem Zbs_eq (x : (tupTy [yQ7,I,I]).den) : callFn Zbs_C Zbs_As (bodyOf Tryd.f51) [(.rd,yQ7),(.rd,I),(.rd,I)] [(.cell 6 25,false,yQ7),(.tmp 7,true,I)] x=Zbs x:=by kernel_rfl
def Zbr_H19 : Shape:={ env:=[(6,.av (.ptr 6 0)),(10,.av (.own 10)),(12,.av (.ptr 12 0)),(13,.av (.own 13)),(16,.av (.own 16)),(17,.av (.val I))],objs:=[(6,.box [.val I,.nils,.nils]),(10,.arr I),(12,.box [.val I,.val (.slice yQ2),.val yQ3]),(13,.arr I),(16,.arr I)] }
def Zbr_E19 : List (Ex×Shape):=[(.ret,{ env:=[(6,.av (.ptr 6 0)),(7,.av (.nils)),(8,.av (.val I)),(9,.av (.val I))],objs:=[(6,.box [.val I,.nils,.nils])] }),(.exit 2,{ env:=[(6,.av (.ptr 6 0)),(10,.av (.own 10)),(12,.av (.ptr 12 0)),(16,.av (.own 16))],objs:=[(6,.box [.val I,.nils,.nils]),(10,.arr I),(12,.box [.val I,.val (.slice yQ2),.val yQ3]),(16,.arr I)] })]
def Zbr_B19 (x : Q63) : Option (Q63⊕(Q5⊕(Q40⊕Empty))) :=
 let (a,b,c,d,e,f,g,h,_):=x; cond (ltI h (f.length : Nat)) ((app g [(mulI .i64 2 (d.length : Nat))]).bind fun a1=>(idxI f.length (subI .i64 h 1)).bind fun j2=>(f[j2]?).bind fun y3=>(idxI f.length h).bind fun j4=>(f[j4]?).bind fun y5=>(Zbs ((c,d,e,()),y3,y5,())).bind fun r6=>cond (neI r6.2.1 0) (some (.inr (.inl (0,0,r6.2.1,())))) (some (.inl (a,b,r6.1.1,r6.1.2.1,r6.1.2.2.1,f,a1,(addI .i64 h 1),())))) (some (.inr (.inr (.inl (a,b,c,d,e,g,())))))
def Zbr_L19 : Q63→Option (Q5⊕(Q40⊕Empty)):=loopFix Zbr_B19
def Zbr_A19 : Ann:={ head:=Zbr_H19,exits:=Zbr_E19,fn:=Zbr_L19 }
def Zbr_H9 : Shape:={ env:=[(2,.av (.val I)),(6,.av (.ptr 6 0)),(10,.av (.own 10)),(12,.av (.ptr 12 0)),(13,.av (.own 13)),(36,.av (.own 10)),(37,.av (.val I)),(38,.av (.val I))],objs:=[(6,.box [.val I,.nils,.nils]),(10,.arr I),(12,.box [.val I,.val (.slice yQ2),.val yQ3]),(13,.arr I)] }
def Zbr_E9 : List (Ex×Shape):=[(.ret,{ env:=[(6,.av (.ptr 6 0)),(7,.av (.nils)),(8,.av (.val I)),(9,.av (.val I))],objs:=[(6,.box [.val I,.nils,.nils])] }),(.exit 0,{ env:=[(2,.av (.val I)),(6,.av (.ptr 6 0)),(10,.av (.own 10)),(12,.av (.ptr 12 0)),(13,.av (.own 13))],objs:=[(6,.box [.val I,.nils,.nils]),(10,.arr I),(12,.box [.val I,.val (.slice yQ2),.val yQ3]),(13,.arr I)] })]
def Zbr_B9 (x : Q65) : Option (Q65⊕(Q5⊕(Q47⊕Empty))) :=
 let (a,b,c,d,e,f,g,h,i,_):=x; cond (ltI i h) ((idxI b.length i).bind fun j1=>(b[j1]?).bind fun y2=>(app f [c]).bind fun a3=>(Zbl ((c,d,e,()),y2,())).bind fun r4=>cond (neI r4.2.1 0) (some (.inr (.inl (0,0,r4.2.1,())))) (some (.inl (a,b,r4.1.1,r4.1.2.1,r4.1.2.2.1,a3,g,h,(addI .i64 i 1),())))) (some (.inr (.inr (.inl (a,b,c,d,e,f,g,())))))
def Zbr_L9 : Q65→Option (Q5⊕(Q47⊕Empty)):=loopFix Zbr_B9
def Zbr_A9 : Ann:={ head:=Zbr_H9,exits:=Zbr_E9,fn:=Zbr_L9 }
def Zbr_As : Anns:=[(9,Zbr_A9),(19,Zbr_A19)]
def Zbr (x : Q17) : Option (Q15×List Int×Int×Int×Unit) :=
 let ((a,b,c,_),d,e,_):=x; (Zbu ((a,b,c,()),d,e,())).bind fun r1=>cond (neI r1.2.1 0) (some ((0,[],[],()),[],0,r1.2.1,())) (cond (eqI d e) (some ((0,[],[],()),[],0,8,())) ((Zbr_L9 (0,r1.1,a,b,c,[d],e,(r1.1.length : Nat),0,())).bind (Sum.elim (fun z3=>some ((z3.1,[],[],()),[],z3.2.1,z3.2.2.1,())) (Sum.elim (fun (a_4,b_4,c_4,d_4,e_4,f_4,g_4,_)=>(app f_4 [g_4]).bind fun a5=>(Zbr_L19 (a_4,b_4,c_4,d_4,e_4,a5,[],1,())).bind (Sum.elim (fun z7=>some ((z7.1,[],[],()),[],z7.2.1,z7.2.2.1,())) (Sum.elim (fun (_,a_8,b_8,c_8,d_8,e_8,_)=>some ((b_8,c_8,d_8,()),e_8,(a_8.length : Nat),0,())) (fun _=>none)))) (fun _=>none)))))
def Zbr_c : Con:={ ins:=[(.rd,yQ7),(.rd,I),(.rd,I)],outs:=[(false,yQ7),(false,(.slice I)),(true,I),(true,I)],fn:=Zbr }
def Zbr_C : Ctx:={ tab:=tab,con:=fun | 18,_=>some Zbl_c | 50,_=>some Zbu_c | 51,_=>some Zbs_c | _,_=>none,glob:=glob,eqs:=eqs }
theorem Zbr_R19 (x : Zbr_H19.ty.den) : round Zbr_C Zbr_As Zbr_A19 (loopBody 19 (bodyOf Tryd.f22)) x=Zbr_B19 x:=by kernel_rfl
theorem Zbr_R9 (x : Zbr_H9.ty.den) : round Zbr_C Zbr_As Zbr_A9 (loopBody 9 (bodyOf Tryd.f22)) x=Zbr_B9 x:=by kernel_rfl
theorem Zbr_eq (x : (tupTy [yQ7,I,I]).den) : callFn Zbr_C Zbr_As (bodyOf Tryd.f22) [(.rd,yQ7),(.rd,I),(.rd,I)] [(.cell 6 25,false,yQ7),(.tmp 7,false,(.slice I)),(.tmp 8,true,I),(.tmp 9,true,I)] x=Zbr x:=by kernel_rfl
def Zl_H4 : Shape:={ env:=[(0,.av (.val (.slice I))),(1,.av (.val (.slice I))),(5,.av (.val I))],objs:=[] }
def Zl_E4 : List (Ex×Shape):=[(.ret,{ env:=[(4,.av (.val .bool))],objs:=[] }),(.exit 0,{ env:=[],objs:=[] })]
def Zl_B4 (x : Q10) : Option (Q10⊕((Bool×Unit)⊕(Unit⊕Empty))) :=
 let (a,b,c,_):=x; cond (ltI c (a.length : Nat)) ((getI a c).bind fun y1=>(getI b c).bind fun y2=>cond (neI y1 y2) (some (.inr (.inl (false,())))) (some (.inl (a,b,(addI .i64 c 1),())))) (some (.inr (.inr (.inl ()))))
def Zl_L4 : Q10→Option ((Bool×Unit)⊕(Unit⊕Empty)):=loopFix Zl_B4
def Zl_A4 : Ann:={ head:=Zl_H4,exits:=Zl_E4,fn:=Zl_L4 }
def Zl_As : Anns:=[(4,Zl_A4)]
def Zl (x : (List Int×List Int×Unit)) : Option (Bool×Unit) :=
 cond (neI (x.1.length : Nat) (x.2.1.length : Nat)) (some (false,())) ((Zl_L4 (x.1,x.2.1,0,())).bind (Sum.elim (fun z2=>some (z2.1,())) (Sum.elim (fun z3=>some (true,())) (fun _=>none))))
def Zl_c : Con:={ ins:=[(.rd,(.slice I)),(.rd,(.slice I))],outs:=[(true,.bool)],fn:=Zl }
def Zl_C : Ctx:={ tab:=tab,con:=fun _ _=>none,glob:=glob,eqs:=eqs }
theorem Zl_R4 (x : Zl_H4.ty.den) : round Zl_C Zl_As Zl_A4 (loopBody 4 (bodyOf Tryd.f24)) x=Zl_B4 x:=by kernel_rfl
theorem Zl_eq (x : (tupTy [(.slice I),(.slice I)]).den) : callFn Zl_C Zl_As (bodyOf Tryd.f24) [(.rd,(.slice I)),(.rd,(.slice I))] [(.tmp 4,true,.bool)] x=Zl x:=by kernel_rfl
def Zaf_H3 : Shape:={ env:=[(1,.av (.ptr 1 0)),(3,.av (.own 3)),(4,.av (.val I))],objs:=[(1,.box [.val I,.val (.slice yQ2),.val yQ3]),(3,.arr I)] }
def Zaf_E3 : List (Ex×Shape):=[(.exit 0,{ env:=[(3,.av (.own 3))],objs:=[(3,.arr I)] })]
def Zaf_B3 (x : Q32) : Option (Q32⊕(Q1⊕Empty)) :=
 let (a,b,c,d,e,_):=x; cond (ltI e (b.length : Nat)) ((getI b e).bind fun y1=>(getI b e).bind fun y2=>(app d [y1.1,y2.2.1]).bind fun a3=>some (.inl (a,b,c,a3,(addI .i64 e 1),()))) (some (.inr (.inl (d,()))))
def Zaf_L3 : Q32→Option (Q1⊕Empty):=loopFix Zaf_B3
def Zaf_A3 : Ann:={ head:=Zaf_H3,exits:=Zaf_E3,fn:=Zaf_L3 }
def Zaf_As : Anns:=[(3,Zaf_A3)]
def Zaf (x : (Q15×Unit)) : Option Q1 :=
 (Zaf_L3 (x.1.1,x.1.2.1,x.1.2.2.1,[],0,())).bind (Sum.elim (fun z2=>some (z2.1,())) (fun _=>none))
def Zaf_c : Con:={ ins:=[(.rd,yQ7)],outs:=[(true,(.slice I))],fn:=Zaf }
def Zaf_C : Ctx:={ tab:=tab,con:=fun _ _=>none,glob:=glob,eqs:=eqs }
theorem Zaf_R3 (x : Zaf_H3.ty.den) : round Zaf_C Zaf_As Zaf_A3 (loopBody 3 (bodyOf Tryd.f54)) x=Zaf_B3 x:=by kernel_rfl
theorem Zaf_eq (x : (tupTy [yQ7]).den) : callFn Zaf_C Zaf_As (bodyOf Tryd.f54) [(.rd,yQ7)] [(.tmp 2,true,(.slice I))] x=Zaf x:=by kernel_rfl
def Zx_H16 : Shape:={ env:=[(1,.av (.ptr 1 0)),(5,.av (.own 5)),(6,.av (.own 6)),(7,.av (.val I)),(8,.av (.val I)),(9,.av (.val I))],objs:=[(1,.box [.val I,.val (.slice yQ2),.val yQ3]),(5,.arr I),(6,.arr .bool)] }
def Zx_E16 : List (Ex×Shape):=[(.ret,{ env:=[(2,.av (.val .bool))],objs:=[] }),(.exit 4,{ env:=[(1,.av (.ptr 1 0)),(5,.av (.own 5)),(6,.av (.own 6)),(7,.av (.val I)),(8,.av (.val I))],objs:=[(1,.box [.val I,.val (.slice yQ2),.val yQ3]),(5,.arr I),(6,.arr .bool)] })]
def Zx_B16 (x : Q58) : Option (Q58⊕((Bool×Unit)⊕(Q50⊕Empty))) :=
 let (a,b,c,d,e,f,g,h,_):=x; (getI c g).bind fun y1=>cond (ltI h (y1.length : Nat)) ((getI c g).bind fun y2=>(getI y2 h).bind fun y3=>cond (ltI y3 0) (some (.inr (.inl (false,())))) (cond (geI y3 (d.length : Nat)) (some (.inr (.inl (false,())))) ((idxI e.length y3).bind fun j4=>(e[j4]?).bind fun y5=>cond y5 (some (.inr (.inl (false,())))) ((idxI d.length y3).bind fun j6=>(d[j6]?).bind fun y7=>cond (neI y7 g) (some (.inr (.inl (false,())))) ((idxI e.length y3).bind fun j8=>(e[j8]?).bind fun y9=>some (.inl (a,b,c,d,(e.set j8 true),(addI .i64 f 1),g,(addI .i64 h 1),()))))))) (some (.inr (.inr (.inl (a,b,c,d,e,f,g,())))))
def Zx_L16 : Q58→Option ((Bool×Unit)⊕(Q50⊕Empty)):=loopFix Zx_B16
def Zx_A16 : Ann:={ head:=Zx_H16,exits:=Zx_E16,fn:=Zx_L16 }
def Zx_H13 : Shape:={ env:=[(1,.av (.ptr 1 0)),(5,.av (.own 5)),(6,.av (.own 6)),(7,.av (.val I)),(8,.av (.val I))],objs:=[(1,.box [.val I,.val (.slice yQ2),.val yQ3]),(5,.arr I),(6,.arr .bool)] }
def Zx_E13 : List (Ex×Shape):=[(.ret,{ env:=[(2,.av (.val .bool))],objs:=[] }),(.exit 2,{ env:=[(5,.av (.own 5)),(7,.av (.val I))],objs:=[(5,.arr I)] })]
def Zx_B13 (x : Q50) : Option (Q50⊕((Bool×Unit)⊕(Q3⊕Empty))) :=
 let (a,b,c,d,e,f,g,_):=x; cond (ltI g a) ((Zx_L16 (a,b,c,d,e,f,g,0,())).bind (Sum.elim (fun z2=>some (.inr (.inl (z2.1,())))) (Sum.elim (fun (a_3,b_3,c_3,d_3,e_3,f_3,g_3,_)=>some (.inl (a_3,b_3,c_3,d_3,e_3,f_3,(addI .i64 g_3 1),()))) (fun _=>none)))) (some (.inr (.inr (.inl (d,f,())))))
def Zx_L13 : Q50→Option ((Bool×Unit)⊕(Q3⊕Empty)):=loopFix Zx_B13
def Zx_A13 : Ann:={ head:=Zx_H13,exits:=Zx_E13,fn:=Zx_L13 }
def Zx_H4 : Shape:={ env:=[(1,.av (.ptr 1 0)),(3,.av (.val I))],objs:=[(1,.box [.val I,.val (.slice yQ2),.val yQ3])] }
def Zx_E4 : List (Ex×Shape):=[(.ret,{ env:=[(2,.av (.val .bool))],objs:=[] }),(.exit 0,{ env:=[(1,.av (.ptr 1 0))],objs:=[(1,.box [.val I,.val (.slice yQ2),.val yQ3])] })]
def Zx_B4 (x : Q24) : Option (Q24⊕((Bool×Unit)⊕(Q15⊕Empty))) :=
 let (a,b,c,d,_):=x; cond (ltI d (b.length : Nat)) ((getI b d).bind fun y1=>cond (ltI y1.1 0) (some (.inr (.inl (false,())))) (cond (geI y1.1 a) (some (.inr (.inl (false,())))) (cond (ltI y1.2.1 0) (some (.inr (.inl (false,())))) (cond (geI y1.2.1 a) (some (.inr (.inl (false,())))) (cond (eqI y1.1 y1.2.1) (some (.inr (.inl (false,())))) (some (.inl (a,b,c,(addI .i64 d 1),())))))))) (some (.inr (.inr (.inl (a,b,c,())))))
def Zx_L4 : Q24→Option ((Bool×Unit)⊕(Q15⊕Empty)):=loopFix Zx_B4
def Zx_A4 : Ann:={ head:=Zx_H4,exits:=Zx_E4,fn:=Zx_L4 }
def Zx_As : Anns:=[(4,Zx_A4),(13,Zx_A13),(16,Zx_A16)]
def Zx (x : (Q15×Unit)) : Option (Bool×Unit) :=
 let ((a,b,c,_),_):=x; cond (ltI a 0) (some (false,())) (cond (gtI a 16384) (some (false,())) (cond (gtI (b.length : Nat) 32768) (some (false,())) (cond (neI (c.length : Nat) a) (some (false,())) ((Zx_L4 (a,b,c,0,())).bind (Sum.elim (fun z2=>some (z2.1,())) (Sum.elim (fun (a_3,b_3,c_3,_)=>(Zaf ((a_3,b_3,c_3,()),())).bind fun r4=>(makeL .bool (r4.1.length : Nat) (r4.1.length : Nat)).bind fun m5=>(Zx_L13 (a_3,b_3,c_3,r4.1,m5,0,0,())).bind (Sum.elim (fun z7=>some (z7.1,())) (Sum.elim (fun z8=>some ((eqI z8.2.1 (z8.1.length : Nat)),())) (fun _=>none)))) (fun _=>none)))))))
def Zx_c : Con:={ ins:=[(.rd,yQ7)],outs:=[(true,.bool)],fn:=Zx }
def Zx_C : Ctx:={ tab:=tab,con:=fun | 54,_=>some Zaf_c | _,_=>none,glob:=glob,eqs:=eqs }
theorem Zx_R16 (x : Zx_H16.ty.den) : round Zx_C Zx_As Zx_A16 (loopBody 16 (bodyOf Tryd.f26)) x=Zx_B16 x:=by kernel_rfl
theorem Zx_R13 (x : Zx_H13.ty.den) : round Zx_C Zx_As Zx_A13 (loopBody 13 (bodyOf Tryd.f26)) x=Zx_B13 x:=by kernel_rfl
theorem Zx_R4 (x : Zx_H4.ty.den) : round Zx_C Zx_As Zx_A4 (loopBody 4 (bodyOf Tryd.f26)) x=Zx_B4 x:=by kernel_rfl
theorem Zx_eq (x : (tupTy [yQ7]).den) : callFn Zx_C Zx_As (bodyOf Tryd.f26) [(.rd,yQ7)] [(.tmp 2,true,.bool)] x=Zx x:=by kernel_rfl
def Zt_H7 : Shape:={ env:=[(1,.av (.ptr 1 0)),(3,.av (.own 3)),(4,.av (.val I)),(5,.av (.val (.slice I))),(6,.av (.val I))],objs:=[(1,.box [.val I,.val (.slice yQ2),.val yQ3]),(3,.arr I)] }
def Zt_E7 : List (Ex×Shape):=[(.exit 2,{ env:=[(1,.av (.ptr 1 0)),(3,.av (.own 3)),(4,.av (.val I))],objs:=[(1,.box [.val I,.val (.slice yQ2),.val yQ3]),(3,.arr I)] })]
def Zt_B7 (x : Q48) : Option (Q48⊕(Q32⊕Empty)) :=
 let (a,b,c,d,e,f,g,_):=x; cond (ltI g (f.length : Nat)) ((getI f g).bind fun y1=>cond (eqI (f.length : Nat) 0) none ((getI f (remI (addI .i64 g 1) (f.length : Nat))).bind fun y2=>(idxI d.length y1).bind fun j3=>(d[j3]?).bind fun y4=>some (.inl (a,b,c,(d.set j3 y2),e,f,(addI .i64 g 1),())))) (some (.inr (.inl (a,b,c,d,e,()))))
def Zt_L7 : Q48→Option (Q32⊕Empty):=loopFix Zt_B7
def Zt_A7 : Ann:={ head:=Zt_H7,exits:=Zt_E7,fn:=Zt_L7 }
def Zt_H3 : Shape:={ env:=[(1,.av (.ptr 1 0)),(3,.av (.own 3)),(4,.av (.val I))],objs:=[(1,.box [.val I,.val (.slice yQ2),.val yQ3]),(3,.arr I)] }
def Zt_E3 : List (Ex×Shape):=[(.exit 0,{ env:=[(3,.av (.own 3))],objs:=[(3,.arr I)] })]
def Zt_B3 (x : Q32) : Option (Q32⊕(Q1⊕Empty)) :=
 let (a,b,c,d,e,_):=x; cond (ltI e a) ((getI c e).bind fun y1=>(Zt_L7 (a,b,c,d,e,y1,0,())).bind (Sum.elim (fun z3=>some (.inl (z3.1,z3.2.1,z3.2.2.1,z3.2.2.2.1,(addI .i64 z3.2.2.2.2.1 1),()))) (fun _=>none))) (some (.inr (.inl (d,()))))
def Zt_L3 : Q32→Option (Q1⊕Empty):=loopFix Zt_B3
def Zt_A3 : Ann:={ head:=Zt_H3,exits:=Zt_E3,fn:=Zt_L3 }
def Zt_As : Anns:=[(3,Zt_A3),(7,Zt_A7)]
def Zt (x : (Q15×Unit)) : Option Q1 :=
 let ((a,b,c,_),_):=x; (makeL I (mulI .i64 2 (b.length : Nat)) (mulI .i64 2 (b.length : Nat))).bind fun m1=>(Zt_L3 (a,b,c,m1,0,())).bind (Sum.elim (fun z3=>some (z3.1,())) (fun _=>none))
def Zt_c : Con:={ ins:=[(.rd,yQ7)],outs:=[(true,(.slice I))],fn:=Zt }
def Zt_C : Ctx:={ tab:=tab,con:=fun _ _=>none,glob:=glob,eqs:=eqs }
theorem Zt_R7 (x : Zt_H7.ty.den) : round Zt_C Zt_As Zt_A7 (loopBody 7 (bodyOf Tryd.f47)) x=Zt_B7 x:=by kernel_rfl
theorem Zt_R3 (x : Zt_H3.ty.den) : round Zt_C Zt_As Zt_A3 (loopBody 3 (bodyOf Tryd.f47)) x=Zt_B3 x:=by kernel_rfl
theorem Zt_eq (x : (tupTy [yQ7]).den) : callFn Zt_C Zt_As (bodyOf Tryd.f47) [(.rd,yQ7)] [(.tmp 2,true,(.slice I))] x=Zt x:=by kernel_rfl
def Zab_As : Anns:=[]
def Zab (x : (Int×Unit)) : Option (Int×Unit) :=
 cond (eqI (remI x.1 2) 0) (some ((addI .i64 x.1 1),())) (some ((subI .i64 x.1 1),()))
def Zab_c : Con:={ ins:=[(.rd,I)],outs:=[(true,I)],fn:=Zab }
def Zab_C : Ctx:={ tab:=tab,con:=fun _ _=>none,glob:=glob,eqs:=eqs }
theorem Zab_eq (x : (tupTy [I]).den) : callFn Zab_C Zab_As (bodyOf Tryd.f48) [(.rd,I)] [(.tmp 2,true,I)] x=Zab x:=by kernel_rfl
def Zah_H12 : Shape:={ env:=[(3,.av (.own 3)),(4,.av (.own 4)),(5,.av (.own 5)),(6,.av (.val I)),(7,.av (.own 7)),(8,.av (.val I))],objs:=[(3,.arr (.slice I)),(4,.arr I),(5,.arr .bool),(7,.arr I)] }
def Zah_E12 : List (Ex×Shape):=[(.exit 2,{ env:=[(3,.av (.own 3)),(4,.av (.own 4)),(5,.av (.own 5)),(6,.av (.val I)),(7,.av (.own 7))],objs:=[(3,.arr (.slice I)),(4,.arr I),(5,.arr .bool),(7,.arr I)] })]
def Zah_B12 (x : Q41) : Option (Q41⊕(((List (List Int))×List Int×List Bool×List Int×Int×Unit)⊕Empty)) :=
 let (a,b,c,d,e,f,_):=x; (idxI c.length f).bind fun j1=>(c[j1]?).bind fun y2=>cond (!y2) ((idxI c.length f).bind fun j3=>(c[j3]?).bind fun y4=>(app d [f]).bind fun a5=>(Zab (f,())).bind fun r6=>(idxI b.length r6.1).bind fun j7=>(b[j7]?).bind fun y8=>some (.inl (a,b,(c.set j3 true),a5,e,y8,()))) (some (.inr (.inl (a,b,c,d,e,()))))
def Zah_L12 : Q41→Option (((List (List Int))×List Int×List Bool×List Int×Int×Unit)⊕Empty):=loopFix Zah_B12
def Zah_A12 : Ann:={ head:=Zah_H12,exits:=Zah_E12,fn:=Zah_L12 }
def Zah_H7 : Shape:={ env:=[(3,.av (.own 3)),(4,.av (.own 4)),(5,.av (.own 5)),(6,.av (.val I))],objs:=[(3,.arr (.slice I)),(4,.arr I),(5,.arr .bool)] }
def Zah_E7 : List (Ex×Shape):=[(.exit 0,{ env:=[(3,.av (.own 3))],objs:=[(3,.arr (.slice I))] })]
def Zah_B7 (x : Q28) : Option (Q28⊕(Q7⊕Empty)) :=
 let (a,b,c,d,_):=x; cond (ltI d (b.length : Nat)) ((idxI c.length d).bind fun j1=>(c[j1]?).bind fun y2=>cond y2 (some (.inl (a,b,c,(addI .i64 d 1),()))) ((Zah_L12 (a,b,c,[],d,d,())).bind (Sum.elim (fun z4=>(app z4.1 [z4.2.2.2.1]).bind fun a5=>some (.inl (a5,z4.2.1,z4.2.2.1,(addI .i64 z4.2.2.2.2.1 1),()))) (fun _=>none)))) (some (.inr (.inl (a,()))))
def Zah_L7 : Q28→Option (Q7⊕Empty):=loopFix Zah_B7
def Zah_A7 : Ann:={ head:=Zah_H7,exits:=Zah_E7,fn:=Zah_L7 }
def Zah_As : Anns:=[(7,Zah_A7),(12,Zah_A12)]
def Zah (x : (Q15×Unit)) : Option Q7 :=
 let ((a,b,c,_),_):=x; (Zx ((a,b,c,()),())).bind fun r1=>cond (!r1.1) (some ([],())) ((Zt ((a,b,c,()),())).bind fun r2=>(makeL .bool (r2.1.length : Nat) (r2.1.length : Nat)).bind fun m3=>(Zah_L7 ([],r2.1,m3,0,())).bind (Sum.elim (fun z5=>some (z5.1,())) (fun _=>none)))
def Zah_c : Con:={ ins:=[(.rd,yQ7)],outs:=[(true,yQ3)],fn:=Zah }
def Zah_C : Ctx:={ tab:=tab,con:=fun | 26,_=>some Zx_c | 47,_=>some Zt_c | 48,_=>some Zab_c | _,_=>none,glob:=glob,eqs:=eqs }
theorem Zah_R12 (x : Zah_H12.ty.den) : round Zah_C Zah_As Zah_A12 (loopBody 12 (bodyOf Tryd.f20)) x=Zah_B12 x:=by kernel_rfl
theorem Zah_R7 (x : Zah_H7.ty.den) : round Zah_C Zah_As Zah_A7 (loopBody 7 (bodyOf Tryd.f20)) x=Zah_B7 x:=by kernel_rfl
theorem Zah_eq (x : (tupTy [yQ7]).den) : callFn Zah_C Zah_As (bodyOf Tryd.f20) [(.rd,yQ7)] [(.tmp 2,true,yQ3)] x=Zah x:=by kernel_rfl
def Zaq_H1 : Shape:={ env:=[(0,.av (.val (.slice I))),(1,.av (.val I))],objs:=[] }
def Zaq_E1 : List (Ex×Shape):=[(.exit 0,{ env:=[(1,.av (.val I))],objs:=[] })]
def Zaq_B1 (x : Q3) : Option (Q3⊕((Int×Unit)⊕Empty)) :=
 let (a,b,_):=x; (getI a b).bind fun y1=>cond (neI y1 b) ((getI a b).bind fun y2=>some (.inl (a,y2,()))) (some (.inr (.inl (b,()))))
def Zaq_L1 : Q3→Option ((Int×Unit)⊕Empty):=loopFix Zaq_B1
def Zaq_A1 : Ann:={ head:=Zaq_H1,exits:=Zaq_E1,fn:=Zaq_L1 }
def Zaq_As : Anns:=[(1,Zaq_A1)]
def Zaq (x : Q3) : Option (Int×Unit) :=
 (Zaq_L1 (x.1,x.2.1,())).bind (Sum.elim (fun z2=>some (z2.1,())) (fun _=>none))
def Zaq_c : Con:={ ins:=[(.rd,(.slice I)),(.rd,I)],outs:=[(true,I)],fn:=Zaq }
def Zaq_C : Ctx:={ tab:=tab,con:=fun _ _=>none,glob:=glob,eqs:=eqs }
theorem Zaq_R1 (x : Zaq_H1.ty.den) : round Zaq_C Zaq_As Zaq_A1 (loopBody 1 (bodyOf Tryd.f67)) x=Zaq_B1 x:=by kernel_rfl
theorem Zaq_eq (x : (tupTy [(.slice I),I]).den) : callFn Zaq_C Zaq_As (bodyOf Tryd.f67) [(.rd,(.slice I)),(.rd,I)] [(.tmp 4,true,I)] x=Zaq x:=by kernel_rfl
def Zj_H8 : Shape:={ env:=[(1,.av (.ptr 1 0)),(3,.av (.own 3)),(5,.av (.val I)),(6,.av (.val I))],objs:=[(1,.box [.val I,.val (.slice yQ2),.val yQ3]),(3,.arr I)] }
def Zj_E8 : List (Ex×Shape):=[(.exit 2,{ env:=[(5,.av (.val I))],objs:=[] })]
def Zj_B8 (x : Q35) : Option (Q35⊕((Int×Unit)⊕Empty)) :=
 let (a,b,c,d,e,f,_):=x; cond (ltI f (b.length : Nat)) ((getI b f).bind fun y1=>(Zaq (d,y1.1,())).bind fun r2=>(getI b f).bind fun y3=>(Zaq (d,y3.2.1,())).bind fun r4=>cond (neI r2.1 r4.1) ((idxI d.length (maxI r2.1 r4.1)).bind fun j5=>(d[j5]?).bind fun y6=>some (.inl (a,b,c,(d.set j5 (minI r2.1 r4.1)),(subI .i64 e 1),(addI .i64 f 1),()))) (some (.inl (a,b,c,d,e,(addI .i64 f 1),())))) (some (.inr (.inl (e,()))))
def Zj_L8 : Q35→Option ((Int×Unit)⊕Empty):=loopFix Zj_B8
def Zj_A8 : Ann:={ head:=Zj_H8,exits:=Zj_E8,fn:=Zj_L8 }
def Zj_H3 : Shape:={ env:=[(1,.av (.ptr 1 0)),(3,.av (.own 3)),(4,.av (.val I))],objs:=[(1,.box [.val I,.val (.slice yQ2),.val yQ3]),(3,.arr I)] }
def Zj_E3 : List (Ex×Shape):=[(.exit 0,{ env:=[(1,.av (.ptr 1 0)),(3,.av (.own 3))],objs:=[(1,.box [.val I,.val (.slice yQ2),.val yQ3]),(3,.arr I)] })]
def Zj_B3 (x : Q32) : Option (Q32⊕(Q27⊕Empty)) :=
 let (a,b,c,d,e,_):=x; cond (ltI e a) ((app d [e]).bind fun a1=>some (.inl (a,b,c,a1,(addI .i64 e 1),()))) (some (.inr (.inl (a,b,c,d,()))))
def Zj_L3 : Q32→Option (Q27⊕Empty):=loopFix Zj_B3
def Zj_A3 : Ann:={ head:=Zj_H3,exits:=Zj_E3,fn:=Zj_L3 }
def Zj_As : Anns:=[(3,Zj_A3),(8,Zj_A8)]
def Zj (x : (Q15×Unit)) : Option (Int×Unit) :=
 (Zj_L3 (x.1.1,x.1.2.1,x.1.2.2.1,[],0,())).bind (Sum.elim (fun z2=>(Zj_L8 (z2.1,z2.2.1,z2.2.2.1,z2.2.2.2.1,z2.1,0,())).bind (Sum.elim (fun z4=>some (z4.1,())) (fun _=>none))) (fun _=>none))
def Zj_c : Con:={ ins:=[(.rd,yQ7)],outs:=[(true,I)],fn:=Zj }
def Zj_C : Ctx:={ tab:=tab,con:=fun | 67,_=>some Zaq_c | _,_=>none,glob:=glob,eqs:=eqs }
theorem Zj_R8 (x : Zj_H8.ty.den) : round Zj_C Zj_As Zj_A8 (loopBody 8 (bodyOf Tryd.f49)) x=Zj_B8 x:=by kernel_rfl
theorem Zj_R3 (x : Zj_H3.ty.den) : round Zj_C Zj_As Zj_A3 (loopBody 3 (bodyOf Tryd.f49)) x=Zj_B3 x:=by kernel_rfl
theorem Zj_eq (x : (tupTy [yQ7]).den) : callFn Zj_C Zj_As (bodyOf Tryd.f49) [(.rd,yQ7)] [(.tmp 2,true,I)] x=Zj x:=by kernel_rfl
def Zag_H5 : Shape:={ env:=[(1,.av (.ptr 1 0)),(3,.av (.val I)),(4,.av (.val I))],objs:=[(1,.box [.val I,.val (.slice yQ2),.val yQ3])] }
def Zag_E5 : List (Ex×Shape):=[(.exit 0,{ env:=[(1,.av (.ptr 1 0)),(3,.av (.val I))],objs:=[(1,.box [.val I,.val (.slice yQ2),.val yQ3])] })]
def Zag_B5 (x : Q29) : Option (Q29⊕(Q24⊕Empty)) :=
 let (a,b,c,d,e,_):=x; cond (ltI e a) ((getI c e).bind fun y1=>cond (eqI (y1.length : Nat) 0) (some (.inl (a,b,c,(addI .i64 d 1),(addI .i64 e 1),()))) (some (.inl (a,b,c,d,(addI .i64 e 1),())))) (some (.inr (.inl (a,b,c,d,()))))
def Zag_L5 : Q29→Option (Q24⊕Empty):=loopFix Zag_B5
def Zag_A5 : Ann:={ head:=Zag_H5,exits:=Zag_E5,fn:=Zag_L5 }
def Zag_As : Anns:=[(5,Zag_A5)]
def Zag (x : (Q15×Unit)) : Option (Int×Unit) :=
 let ((a,b,c,_),_):=x; (Zx ((a,b,c,()),())).bind fun r1=>cond (!r1.1) (some ((-1),())) ((Zah ((a,b,c,()),())).bind fun r2=>(Zag_L5 (a,b,c,(r2.1.length : Nat),0,())).bind (Sum.elim (fun z4=>(Zj ((z4.1,z4.2.1,z4.2.2.1,()),())).bind fun r5=>some ((subI .i64 r5.1 (quoI .i64 (addI .i64 (subI .i64 z4.1 (z4.2.1.length : Nat)) z4.2.2.2.1) 2)),())) (fun _=>none)))
def Zag_c : Con:={ ins:=[(.rd,yQ7)],outs:=[(true,I)],fn:=Zag }
def Zag_C : Ctx:={ tab:=tab,con:=fun | 20,_=>some Zah_c | 26,_=>some Zx_c | 49,_=>some Zj_c | _,_=>none,glob:=glob,eqs:=eqs }
theorem Zag_R5 (x : Zag_H5.ty.den) : round Zag_C Zag_As Zag_A5 (loopBody 5 (bodyOf Tryd.f21)) x=Zag_B5 x:=by kernel_rfl
theorem Zag_eq (x : (tupTy [yQ7]).den) : callFn Zag_C Zag_As (bodyOf Tryd.f21) [(.rd,yQ7)] [(.tmp 2,true,I)] x=Zag x:=by kernel_rfl
def Zz_As : Anns:=[]
def Zz (x : Unit) : Option (Bool×Unit) :=
 (Zs ()).bind fun r1=>(Zbr ((r1.1.1,r1.1.2.1,r1.1.2.2.1,()),0,2,())).bind fun r2=>(Zbr ((r2.1.1,r2.1.2.1,r2.1.2.2.1,()),1,3,())).bind fun r3=>(Zs ()).bind fun r4=>(Zbl ((r4.1.1,r4.1.2.1,r4.1.2.2.1,()),1,())).bind fun r5=>(Zs ()).bind fun r6=>(Zbq ((r6.1.1,r6.1.2.1,r6.1.2.2.1,()),0,0,())).bind fun r7=>cond (eqI r2.2.2.2.1 0) (cond (eqI r2.2.2.1 0) ((Zl (r2.2.1,[8],())).bind fun r8=>cond r8.1 (cond (eqI r3.2.2.2.1 0) (cond (eqI r3.2.2.1 0) ((Zl (r3.2.1,[10],())).bind fun r9=>cond r9.1 ((Zx ((r3.1.1,r3.1.2.1,r3.1.2.2.1,()),())).bind fun r10=>cond r10.1 ((Zag ((r3.1.1,r3.1.2.1,r3.1.2.2.1,()),())).bind fun r11=>cond (eqI r11.1 0) ((Zah ((r3.1.1,r3.1.2.1,r3.1.2.2.1,()),())).bind fun r12=>cond (eqI (r12.1.length : Nat) 4) (cond (eqI r5.2.1 0) (cond (eqI r5.1.1 5) (cond (eqI (r5.1.2.1.length : Nat) 5) (some ((eqI r7.2.1 8),())) (some (false,()))) (some (false,()))) (some (false,()))) (some (false,()))) (some (false,()))) (some (false,()))) (some (false,()))) (some (false,()))) (some (false,()))) (some (false,()))) (some (false,()))) (some (false,()))
def Zz_c : Con:={ ins:=[],outs:=[(true,.bool)],fn:=Zz }
def Zz_C : Ctx:={ tab:=tab,con:=fun | 14,_=>some Zbq_c | 18,_=>some Zbl_c | 20,_=>some Zah_c | 21,_=>some Zag_c | 22,_=>some Zbr_c | 24,_=>some Zl_c | 26,_=>some Zx_c | 37,_=>some Zs_c | _,_=>none,glob:=glob,eqs:=eqs }
theorem Zz_eq (x : (tupTy []).den) : callFn Zz_C Zz_As (bodyOf Tryd.f13) [] [(.tmp 0,true,.bool)] x=Zz x:=by kernel_rfl
def Zy_As : Anns:=[]
def Zy (x : (Q15×Unit)) : Option (Int×Unit) :=
 let ((a,b,c,_),_):=x; (Zag ((a,b,c,()),())).bind fun r1=>cond (neI r1.1 0) (some (13,())) ((Zj ((a,b,c,()),())).bind fun r2=>cond (neI r2.1 1) (some (12,())) (some (0,())))
def Zy_c : Con:={ ins:=[(.rd,yQ7)],outs:=[(true,I)],fn:=Zy }
def Zy_C : Ctx:={ tab:=tab,con:=fun | 21,_=>some Zag_c | 49,_=>some Zj_c | _,_=>none,glob:=glob,eqs:=eqs }
theorem Zy_eq (x : (tupTy [yQ7]).den) : callFn Zy_C Zy_As (bodyOf Tryd.f101) [(.rd,yQ7)] [(.tmp 2,true,I)] x=Zy x:=by kernel_rfl
def Zaa_H7 : Shape:={ env:=[(3,.av (.own 3)),(4,.av (.own 4)),(5,.av (.val I)),(6,.av (.val I))],objs:=[(3,.arr I),(4,.arr (.slice I))] }
def Zaa_E7 : List (Ex×Shape):=[(.exit 2,{ env:=[(3,.av (.own 3)),(4,.av (.own 4)),(5,.av (.val I))],objs:=[(3,.arr I),(4,.arr (.slice I))] })]
def Zaa_B7 (x : Q23) : Option (Q23⊕(Q14⊕Empty)) :=
 let (a,b,c,d,_):=x; (idxI b.length c).bind fun j1=>(b[j1]?).bind fun y2=>cond (ltI d (y2.length : Nat)) ((idxI b.length c).bind fun j3=>(b[j3]?).bind fun y4=>(getI y4 d).bind fun y5=>(idxI a.length y5).bind fun j6=>(a[j6]?).bind fun y7=>some (.inl ((a.set j6 c),b,c,(addI .i64 d 1),()))) (some (.inr (.inl (a,b,c,()))))
def Zaa_L7 : Q23→Option (Q14⊕Empty):=loopFix Zaa_B7
def Zaa_A7 : Ann:={ head:=Zaa_H7,exits:=Zaa_E7,fn:=Zaa_L7 }
def Zaa_H4 : Shape:={ env:=[(3,.av (.own 3)),(4,.av (.own 4)),(5,.av (.val I))],objs:=[(3,.arr I),(4,.arr (.slice I))] }
def Zaa_E4 : List (Ex×Shape):=[(.exit 0,{ env:=[(3,.av (.own 3))],objs:=[(3,.arr I)] })]
def Zaa_B4 (x : Q14) : Option (Q14⊕(Q1⊕Empty)) :=
 let (a,b,c,_):=x; cond (ltI c (b.length : Nat)) ((Zaa_L7 (a,b,c,0,())).bind (Sum.elim (fun z2=>some (.inl (z2.1,z2.2.1,(addI .i64 z2.2.2.1 1),()))) (fun _=>none))) (some (.inr (.inl (a,()))))
def Zaa_L4 : Q14→Option (Q1⊕Empty):=loopFix Zaa_B4
def Zaa_A4 : Ann:={ head:=Zaa_H4,exits:=Zaa_E4,fn:=Zaa_L4 }
def Zaa_As : Anns:=[(4,Zaa_A4),(7,Zaa_A7)]
def Zaa (x : (Q15×Unit)) : Option Q1 :=
 let ((a,b,c,_),_):=x; (makeL I (mulI .i64 2 (b.length : Nat)) (mulI .i64 2 (b.length : Nat))).bind fun m1=>(Zah ((a,b,c,()),())).bind fun r2=>(Zaa_L4 (m1,r2.1,0,())).bind (Sum.elim (fun z4=>some (z4.1,())) (fun _=>none))
def Zaa_c : Con:={ ins:=[(.rd,yQ7)],outs:=[(true,(.slice I))],fn:=Zaa }
def Zaa_C : Ctx:={ tab:=tab,con:=fun | 20,_=>some Zah_c | _,_=>none,glob:=glob,eqs:=eqs }
theorem Zaa_R7 (x : Zaa_H7.ty.den) : round Zaa_C Zaa_As Zaa_A7 (loopBody 7 (bodyOf Tryd.f102)) x=Zaa_B7 x:=by kernel_rfl
theorem Zaa_R4 (x : Zaa_H4.ty.den) : round Zaa_C Zaa_As Zaa_A4 (loopBody 4 (bodyOf Tryd.f102)) x=Zaa_B4 x:=by kernel_rfl
theorem Zaa_eq (x : (tupTy [yQ7]).den) : callFn Zaa_C Zaa_As (bodyOf Tryd.f102) [(.rd,yQ7)] [(.tmp 2,true,(.slice I))] x=Zaa x:=by kernel_rfl
def Zai_H7 : Shape:={ env:=[(1,.av (.ptr 1 0)),(2,.av (.ptr 2 0)),(5,.av (.own 5)),(6,.av (.ptr 6 0)),(7,.av (.val I))],objs:=[(1,.box [.val I,.val (.slice yQ2),.val yQ3]),(2,.box [.val I,.nils]),(5,.arr I),(6,.box [.val I,.own 700001]),(700001,.arr yQ2)] }
def Zai_E7 : List (Ex×Shape):=[(.exit 0,{ env:=[(2,.av (.ptr 2 0)),(6,.av (.ptr 6 0))],objs:=[(2,.box [.val I,.nils]),(6,.box [.val I,.own 700001]),(700001,.arr yQ2)] })]
def Zai_B7 (x : Q59) : Option (Q59⊕((Int×Int×(List Q2)×Unit)⊕Empty)) :=
 let (a,b,c,d,e,f,g,h,_):=x; cond (ltI h (b.length : Nat)) ((idxI e.length (mulI .i64 2 h)).bind fun j1=>(e[j1]?).bind fun y2=>(idxI e.length (addI .i64 (mulI .i64 2 h) 1)).bind fun j3=>(e[j3]?).bind fun y4=>(app g [(y2,y4,())]).bind fun a5=>some (.inl (a,b,c,d,e,f,a5,(addI .i64 h 1),()))) (some (.inr (.inl (d,f,g,()))))
def Zai_L7 : Q59→Option ((Int×Int×(List Q2)×Unit)⊕Empty):=loopFix Zai_B7
def Zai_A7 : Ann:={ head:=Zai_H7,exits:=Zai_E7,fn:=Zai_L7 }
def Zai_As : Anns:=[(7,Zai_A7)]
def Zai (x : (Q15×Unit)) : Option ((Int×(List Q2)×Unit)×Int×Unit) :=
 let ((a,b,c,_),_):=x; (Zy ((a,b,c,()),())).bind fun r1=>cond (neI r1.1 0) (some ((0,[],()),r1.1,())) ((Zaa ((a,b,c,()),())).bind fun r2=>(Zah ((a,b,c,()),())).bind fun r3=>(Zai_L7 (a,b,c,0,r2.1,(maxI 1 (r3.1.length : Nat)),[],0,())).bind (Sum.elim (fun z5=>some ((z5.2.1,z5.2.2.1,()),0,())) (fun _=>none)))
def Zai_c : Con:={ ins:=[(.rd,yQ7)],outs:=[(true,yQ9),(true,I)],fn:=Zai }
def Zai_C : Ctx:={ tab:=tab,con:=fun | 20,_=>some Zah_c | 101,_=>some Zy_c | 102,_=>some Zaa_c | _,_=>none,glob:=glob,eqs:=eqs }
theorem Zai_R7 (x : Zai_H7.ty.den) : round Zai_C Zai_As Zai_A7 (loopBody 7 (bodyOf Tryd.f82)) x=Zai_B7 x:=by kernel_rfl
theorem Zai_eq (x : (tupTy [yQ7]).den) : callFn Zai_C Zai_As (bodyOf Tryd.f82) [(.rd,yQ7)] [(.cell 2 83,true,yQ9),(.tmp 3,true,I)] x=Zai x:=by kernel_rfl
def Zv_H5 : Shape:={ env:=[(2,.av (.val I)),(3,.av (.ptr 3 0)),(7,.av (.own 7)),(8,.av (.own 8)),(9,.av (.val I))],objs:=[(3,.box [.val I,.val (.slice yQ2),.val yQ3]),(7,.arr I),(8,.arr .bool)] }
def Zv_E5 : List (Ex×Shape):=[(.exit 0,{ env:=[(8,.av (.own 8))],objs:=[(8,.arr .bool)] })]
def Zv_B5 (x : Q50) : Option (Q50⊕((List Bool×Unit)⊕Empty)) :=
 let (a,b,c,d,e,f,g,_):=x; (getI c f).bind fun y1=>cond (ltI g (y1.length : Nat)) ((getI c f).bind fun y2=>(getI y2 g).bind fun y3=>(idxI d.length y3).bind fun j4=>(d[j4]?).bind fun y5=>(idxI e.length y5).bind fun j6=>(e[j6]?).bind fun y7=>some (.inl (a,b,c,d,(e.set j6 true),f,(addI .i64 g 1),()))) (some (.inr (.inl (e,()))))
def Zv_L5 : Q50→Option ((List Bool×Unit)⊕Empty):=loopFix Zv_B5
def Zv_A5 : Ann:={ head:=Zv_H5,exits:=Zv_E5,fn:=Zv_L5 }
def Zv_As : Anns:=[(5,Zv_A5)]
def Zv (x : (Q15×(Int×(List Q2)×Unit)×Int×Unit)) : Option (List Bool×Unit) :=
 let ((a,b,c,_),(d,_),e,_):=x; (Zaa ((a,b,c,()),())).bind fun r1=>(makeL .bool d d).bind fun m2=>(idxI m2.length 0).bind fun j3=>(m2[j3]?).bind fun y4=>(Zv_L5 (a,b,c,r1.1,(m2.set j3 (eqI (b.length : Nat) 0)),e,0,())).bind (Sum.elim (fun z6=>some (z6.1,())) (fun _=>none))
def Zv_c : Con:={ ins:=[(.rd,yQ7),(.rd,yQ9),(.rd,I)],outs:=[(true,(.slice .bool))],fn:=Zv }
def Zv_C : Ctx:={ tab:=tab,con:=fun | 102,_=>some Zaa_c | _,_=>none,glob:=glob,eqs:=eqs }
theorem Zv_R5 (x : Zv_H5.ty.den) : round Zv_C Zv_As Zv_A5 (loopBody 5 (bodyOf Tryd.f83)) x=Zv_B5 x:=by kernel_rfl
theorem Zv_eq (x : (tupTy [yQ7,yQ9,I]).den) : callFn Zv_C Zv_As (bodyOf Tryd.f83) [(.rd,yQ7),(.rd,yQ9),(.rd,I)] [(.tmp 6,true,(.slice .bool))] x=Zv x:=by kernel_rfl
def Zau_H12 : Shape:={ env:=[(2,.av (.ptr 2 0)),(5,.av (.own 5)),(7,.av (.val I)),(8,.av (.val I))],objs:=[(2,.box [.val I,.val (.slice yQ2)]),(5,.arr I)] }
def Zau_E12 : List (Ex×Shape):=[(.exit 4,{ env:=[(2,.av (.ptr 2 0)),(5,.av (.own 5)),(7,.av (.val I))],objs:=[(2,.box [.val I,.val (.slice yQ2)]),(5,.arr I)] })]
def Zau_B12 (x : Q21) : Option (Q21⊕(Q13⊕Empty)) :=
 let (a,b,c,d,e,_):=x; cond (ltI e (b.length : Nat)) ((getI b e).bind fun y1=>(getI b e).bind fun y2=>(idxI c.length y1.1).bind fun j3=>(c[j3]?).bind fun y4=>(idxI c.length y2.2.1).bind fun j5=>(c[j5]?).bind fun y6=>(idxI c.length y1.1).bind fun j7=>(c[j7]?).bind fun y8=>(idxI (c.set j7 (minI y4 (addI .i64 y6 1))).length y2.2.1).bind fun j9=>((c.set j7 (minI y4 (addI .i64 y6 1)))[j9]?).bind fun y10=>(idxI (c.set j7 (minI y4 (addI .i64 y6 1))).length y1.1).bind fun j11=>((c.set j7 (minI y4 (addI .i64 y6 1)))[j11]?).bind fun y12=>(idxI (c.set j7 (minI y4 (addI .i64 y6 1))).length y2.2.1).bind fun j13=>((c.set j7 (minI y4 (addI .i64 y6 1)))[j13]?).bind fun y14=>some (.inl (a,b,((c.set j7 (minI y4 (addI .i64 y6 1))).set j13 (minI y10 (addI .i64 y12 1))),d,(addI .i64 e 1),()))) (some (.inr (.inl (a,b,c,d,()))))
def Zau_L12 : Q21→Option (Q13⊕Empty):=loopFix Zau_B12
def Zau_A12 : Ann:={ head:=Zau_H12,exits:=Zau_E12,fn:=Zau_L12 }
def Zau_H9 : Shape:={ env:=[(2,.av (.ptr 2 0)),(5,.av (.own 5)),(7,.av (.val I))],objs:=[(2,.box [.val I,.val (.slice yQ2)]),(5,.arr I)] }
def Zau_E9 : List (Ex×Shape):=[(.exit 2,{ env:=[(5,.av (.own 5))],objs:=[(5,.arr I)] })]
def Zau_B9 (x : Q13) : Option (Q13⊕(Q1⊕Empty)) :=
 let (a,b,c,d,_):=x; cond (ltI d a) ((Zau_L12 (a,b,c,d,0,())).bind (Sum.elim (fun z2=>some (.inl (z2.1,z2.2.1,z2.2.2.1,(addI .i64 z2.2.2.2.1 1),()))) (fun _=>none))) (some (.inr (.inl (c,()))))
def Zau_L9 : Q13→Option (Q1⊕Empty):=loopFix Zau_B9
def Zau_A9 : Ann:={ head:=Zau_H9,exits:=Zau_E9,fn:=Zau_L9 }
def Zau_H3 : Shape:={ env:=[(1,.av (.val (.slice .bool))),(2,.av (.ptr 2 0)),(5,.av (.own 5)),(6,.av (.val I))],objs:=[(2,.box [.val I,.val (.slice yQ2)]),(5,.arr I)] }
def Zau_E3 : List (Ex×Shape):=[(.exit 0,{ env:=[(2,.av (.ptr 2 0)),(5,.av (.own 5))],objs:=[(2,.box [.val I,.val (.slice yQ2)]),(5,.arr I)] })]
def Zau_B3 (x : Q26) : Option (Q26⊕((Int×(List Q2)×List Int×Unit)⊕Empty)) :=
 let (a,b,c,d,e,_):=x; cond (ltI e a) ((getI d e).bind fun y1=>cond y1 ((app c [0]).bind fun a2=>some (.inl (a,b,a2,d,(addI .i64 e 1),()))) ((app c [a]).bind fun a3=>some (.inl (a,b,a3,d,(addI .i64 e 1),())))) (some (.inr (.inl (a,b,c,()))))
def Zau_L3 : Q26→Option ((Int×(List Q2)×List Int×Unit)⊕Empty):=loopFix Zau_B3
def Zau_A3 : Ann:={ head:=Zau_H3,exits:=Zau_E3,fn:=Zau_L3 }
def Zau_As : Anns:=[(3,Zau_A3),(9,Zau_A9),(12,Zau_A12)]
def Zau (x : ((Int×(List Q2)×Unit)×List Bool×Unit)) : Option Q1 :=
 (Zau_L3 (x.1.1,x.1.2.1,[],x.2.1,0,())).bind (Sum.elim (fun z2=>(Zau_L9 (z2.1,z2.2.1,z2.2.2.1,0,())).bind (Sum.elim (fun z4=>some (z4.1,())) (fun _=>none))) (fun _=>none))
def Zau_c : Con:={ ins:=[(.rd,yQ9),(.rd,(.slice .bool))],outs:=[(true,(.slice I))],fn:=Zau }
def Zau_C : Ctx:={ tab:=tab,con:=fun _ _=>none,glob:=glob,eqs:=eqs }
theorem Zau_R12 (x : Zau_H12.ty.den) : round Zau_C Zau_As Zau_A12 (loopBody 12 (bodyOf Tryd.f84)) x=Zau_B12 x:=by kernel_rfl
theorem Zau_R9 (x : Zau_H9.ty.den) : round Zau_C Zau_As Zau_A9 (loopBody 9 (bodyOf Tryd.f84)) x=Zau_B9 x:=by kernel_rfl
theorem Zau_R3 (x : Zau_H3.ty.den) : round Zau_C Zau_As Zau_A3 (loopBody 3 (bodyOf Tryd.f84)) x=Zau_B3 x:=by kernel_rfl
theorem Zau_eq (x : (tupTy [yQ9,(.slice .bool)]).den) : callFn Zau_C Zau_As (bodyOf Tryd.f84) [(.rd,yQ9),(.rd,(.slice .bool))] [(.tmp 4,true,(.slice I))] x=Zau x:=by kernel_rfl
def Zac_H21 : Shape:={ env:=[(8,.av (.ptr 8 0)),(10,.av (.own 10)),(11,.av (.own 11)),(12,.av (.own 12)),(13,.av (.val I)),(15,.av (.own 15)),(16,.av (.val I)),(17,.av (.val I))],objs:=[(8,.box [.val I,.own 900001]),(900001,.arr yQ2),(10,.arr I),(11,.arr .bool),(12,.arr I),(15,.arr .bool)] }
def Zac_E21 : List (Ex×Shape):=[(.exit 4,{ env:=[(8,.av (.ptr 8 0)),(10,.av (.own 10)),(12,.av (.own 12)),(13,.av (.val I)),(15,.av (.own 15)),(16,.av (.val I))],objs:=[(8,.box [.val I,.own 900001]),(900001,.arr yQ2),(10,.arr I),(12,.arr I),(15,.arr .bool)] })]
def Zac_B21 (x : Q60) : Option (Q60⊕((Int×(List Q2)×List Int×List Int×List Bool×Int×Int×Unit)⊕Empty)) :=
 let (a,b,c,d,e,f,g,h,i,_):=x; cond (ltI i (b.length : Nat)) (cond (ltI h 0) ((idxI b.length i).bind fun j1=>(b[j1]?).bind fun y2=>(idxI b.length i).bind fun j3=>(b[j3]?).bind fun y4=>let t_0:=(idxI d.length y4.2.1).bind fun j21=>(d[j21]?).bind fun y22=>cond y22 ((idxI e.length y4.2.1).bind fun j23=>(e[j23]?).bind fun y24=>cond (eqI y24 g) ((idxI e.length y2.1).bind fun j25=>(e[j25]?).bind fun y26=>cond (eqI y26 (subI .i64 g 1)) ((idxI f.length y2.1).bind fun j27=>(f[j27]?).bind fun y28=>some (.inl (a,b,c,d,e,(f.set j27 true),g,i,(addI .i64 i 1),()))) (some (.inl (a,b,c,d,e,f,g,h,(addI .i64 i 1),())))) (some (.inl (a,b,c,d,e,f,g,h,(addI .i64 i 1),())))) (some (.inl (a,b,c,d,e,f,g,h,(addI .i64 i 1),()))); (idxI d.length y2.1).bind fun j5=>(d[j5]?).bind fun y6=>cond y6 ((idxI e.length y2.1).bind fun j7=>(e[j7]?).bind fun y8=>cond (eqI y8 g) ((idxI e.length y4.2.1).bind fun j9=>(e[j9]?).bind fun y10=>cond (eqI y10 (subI .i64 g 1)) ((idxI f.length y4.2.1).bind fun j11=>(f[j11]?).bind fun y12=>(idxI d.length y4.2.1).bind fun j13=>(d[j13]?).bind fun y14=>cond y14 ((idxI e.length y4.2.1).bind fun j15=>(e[j15]?).bind fun y16=>cond (eqI y16 g) ((idxI e.length y2.1).bind fun j17=>(e[j17]?).bind fun y18=>cond (eqI y18 (subI .i64 g 1)) ((idxI (f.set j11 true).length y2.1).bind fun j19=>((f.set j11 true)[j19]?).bind fun y20=>some (.inl (a,b,c,d,e,((f.set j11 true).set j19 true),g,i,(addI .i64 i 1),()))) (some (.inl (a,b,c,d,e,(f.set j11 true),g,i,(addI .i64 i 1),())))) (some (.inl (a,b,c,d,e,(f.set j11 true),g,i,(addI .i64 i 1),())))) (some (.inl (a,b,c,d,e,(f.set j11 true),g,i,(addI .i64 i 1),())))) t_0) t_0) t_0) (some (.inr (.inl (a,b,c,e,f,g,h,()))))) (some (.inr (.inl (a,b,c,e,f,g,h,()))))
def Zac_L21 : Q60→Option ((Int×(List Q2)×List Int×List Int×List Bool×Int×Int×Unit)⊕Empty):=loopFix Zac_B21
def Zac_A21 : Ann:={ head:=Zac_H21,exits:=Zac_E21,fn:=Zac_L21 }
def Zac_H17 : Shape:={ env:=[(8,.av (.ptr 8 0)),(10,.av (.own 10)),(11,.av (.own 11)),(12,.av (.own 12)),(13,.av (.val I))],objs:=[(8,.box [.val I,.own 900001]),(900001,.arr yQ2),(10,.arr I),(11,.arr .bool),(12,.arr I)] }
def Zac_E17 : List (Ex×Shape):=[(.exit 2,{ env:=[(10,.av (.own 10))],objs:=[(10,.arr I)] })]
def Zac_B17 (x : Q34) : Option (Q34⊕(Q1⊕Empty)) :=
 let (a,b,c,d,e,f,_):=x; cond (gtI f 0) ((makeL .bool a a).bind fun m1=>(Zac_L21 (a,b,c,d,e,m1,f,(-1),0,())).bind (Sum.elim (fun (a_3,b_3,c_3,d_3,e_3,f_3,g_3,_)=>(app c_3 [g_3]).bind fun a4=>some (.inl (a_3,b_3,a4,e_3,d_3,(subI .i64 f_3 1),()))) (fun _=>none))) (some (.inr (.inl (c,()))))
def Zac_L17 : Q34→Option (Q1⊕Empty):=loopFix Zac_B17
def Zac_A17 : Ann:={ head:=Zac_H17,exits:=Zac_E17,fn:=Zac_L17 }
def Zac_H13 : Shape:={ env:=[(8,.av (.ptr 8 0)),(10,.av (.own 10)),(11,.av (.own 11)),(12,.av (.own 12)),(13,.av (.val I)),(14,.av (.val I))],objs:=[(8,.box [.val I,.own 900001]),(900001,.arr yQ2),(10,.arr I),(11,.arr .bool),(12,.arr I)] }
def Zac_E13 : List (Ex×Shape):=[(.exit 0,{ env:=[(8,.av (.ptr 8 0)),(10,.av (.own 10)),(11,.av (.own 11)),(12,.av (.own 12)),(13,.av (.val I))],objs:=[(8,.box [.val I,.own 900001]),(900001,.arr yQ2),(10,.arr I),(11,.arr .bool),(12,.arr I)] })]
def Zac_B13 (x : Q39) : Option (Q39⊕(Q34⊕Empty)) :=
 let (a,b,c,d,e,f,g,_):=x; cond (ltI g a) ((idxI d.length g).bind fun j1=>(d[j1]?).bind fun y2=>cond y2 ((idxI e.length g).bind fun j3=>(e[j3]?).bind fun y4=>some (.inl (a,b,c,d,e,(minI f y4),(addI .i64 g 1),()))) (some (.inl (a,b,c,d,e,f,(addI .i64 g 1),())))) (some (.inr (.inl (a,b,c,d,e,f,()))))
def Zac_L13 : Q39→Option (Q34⊕Empty):=loopFix Zac_B13
def Zac_A13 : Ann:={ head:=Zac_H13,exits:=Zac_E13,fn:=Zac_L13 }
def Zac_As : Anns:=[(13,Zac_A13),(17,Zac_A17),(21,Zac_A21)]
def Zac (x : Q17) : Option Q3 :=
 let ((a,b,c,_),d,e,_):=x; (Zai ((a,b,c,()),())).bind fun r1=>cond (neI r1.2.1 0) (some ([],r1.2.1,())) (cond (ltI d 0) (some ([],3,())) (cond (geI d a) (some ([],3,())) (cond (ltI e 0) (some ([],3,())) (cond (geI e a) (some ([],3,())) (cond (eqI d e) (some ([],0,())) ((Zv ((a,b,c,()),(r1.1.1,r1.1.2.1,()),d,())).bind fun r2=>(Zv ((a,b,c,()),(r1.1.1,r1.1.2.1,()),e,())).bind fun r3=>(Zau ((r1.1.1,r1.1.2.1,()),r3.1,())).bind fun r4=>(Zac_L13 (r1.1.1,r1.1.2.1,[],r2.1,r4.1,r1.1.1,0,())).bind (Sum.elim (fun (a_6,b_6,c_6,d_6,e_6,f_6,_)=>(Zac_L17 (a_6,b_6,c_6,d_6,e_6,f_6,())).bind (Sum.elim (fun z8=>some (z8.1,0,())) (fun _=>none))) (fun _=>none))))))))
def Zac_c : Con:={ ins:=[(.rd,yQ7),(.rd,I),(.rd,I)],outs:=[(true,(.slice I)),(true,I)],fn:=Zac }
def Zac_C : Ctx:={ tab:=tab,con:=fun | 82,_=>some Zai_c | 83,_=>some Zv_c | 84,_=>some Zau_c | _,_=>none,glob:=glob,eqs:=eqs }
theorem Zac_R21 (x : Zac_H21.ty.den) : round Zac_C Zac_As Zac_A21 (loopBody 21 (bodyOf Tryd.f52)) x=Zac_B21 x:=by kernel_rfl
theorem Zac_R17 (x : Zac_H17.ty.den) : round Zac_C Zac_As Zac_A17 (loopBody 17 (bodyOf Tryd.f52)) x=Zac_B17 x:=by kernel_rfl
theorem Zac_R13 (x : Zac_H13.ty.den) : round Zac_C Zac_As Zac_A13 (loopBody 13 (bodyOf Tryd.f52)) x=Zac_B13 x:=by kernel_rfl
theorem Zac_eq (x : (tupTy [yQ7,I,I]).den) : callFn Zac_C Zac_As (bodyOf Tryd.f52) [(.rd,yQ7),(.rd,I),(.rd,I)] [(.tmp 6,true,(.slice I)),(.tmp 7,true,I)] x=Zac x:=by kernel_rfl
def Zw_H16 : Shape:={ env:=[(1,.av (.val I)),(2,.av (.ptr 2 0)),(4,.av (.ptr 4 0)),(6,.av (.val I)),(7,.av (.val I)),(8,.av (.ptr 8 0)),(9,.av (.own 9)),(10,.av (.val I))],objs:=[(2,.box [.val I,.val (.slice yQ2),.val yQ3]),(4,.box [.val I,.nils,.nils]),(8,.box [.val I,.own 900001,.own 900002]),(9,.arr I),(900001,.arr yQ2),(900002,.arr (.slice I))] }
def Zw_E16 : List (Ex×Shape):=[(.exit 0,{ env:=[(1,.av (.val I)),(4,.av (.ptr 4 0)),(6,.av (.val I)),(7,.av (.val I)),(8,.av (.ptr 8 0)),(9,.av (.own 9))],objs:=[(4,.box [.val I,.nils,.nils]),(8,.box [.val I,.own 900001,.own 900002]),(9,.arr I),(900001,.arr yQ2),(900002,.arr (.slice I))] })]
def Zw_B16 (x : Q75) : Option (Q75⊕(Q51⊕Empty)) :=
 let (a,b,c,d,e,f,g,h,i,k,l,m,_):=x; (getI c l).bind fun y1=>cond (ltI m (y1.length : Nat)) ((getI c l).bind fun y2=>(getI y2 m).bind fun y3=>cond (eqI y3 (addI .i64 (mulI .i64 2 i) 1)) ((app f [(addI .i64 (mulI .i64 2 k) 1)]).bind fun a4=>some (.inl (a,b,c,d,e,a4,g,h,i,k,l,(addI .i64 m 1),()))) ((getI c l).bind fun y5=>(getI y5 m).bind fun y6=>(app f [y6]).bind fun a7=>some (.inl (a,b,c,d,e,a7,g,h,i,k,l,(addI .i64 m 1),())))) (some (.inr (.inl (d,e,f,g,h,i,k,l,()))))
def Zw_L16 : Q75→Option (Q51⊕Empty):=loopFix Zw_B16
def Zw_A16 : Ann:={ head:=Zw_H16,exits:=Zw_E16,fn:=Zw_L16 }
def Zw_As : Anns:=[(16,Zw_A16)]
def Zw (x : Q16) : Option Q16 :=
 let ((a,b,c,_),d,_):=x; (Zx ((a,b,c,()),())).bind fun r1=>cond (!r1.1) (some ((0,[],[],()),13,())) (cond (ltI d 0) (some ((0,[],[],()),3,())) (cond (geI d (b.length : Nat)) (some ((0,[],[],()),3,())) (cond (geI (b.length : Nat) 32768) (some ((0,[],[],()),2,())) (cond (geI a 16384) (some ((0,[],[],()),2,())) ((getI b d).bind fun y2=>(app [] b).bind fun a3=>(idxI a3.length d).bind fun j4=>(a3[j4]?).bind fun y5=>(app (a3.set j4 (y5.1,a,y5.2.2)) [(a,y2.2.1,())]).bind fun a6=>(app [] c).bind fun a7=>(Zw_L16 (a,b,c,0,(addI .i64 a 1),[],a6,a7,d,(b.length : Nat),y2.2.1,0,())).bind (Sum.elim (fun (_,a_9,b_9,c_9,d_9,e_9,f_9,g_9,_)=>(idxI d_9.length g_9).bind fun j10=>(d_9[j10]?).bind fun y11=>(app (d_9.set j10 b_9) [[(addI .i64 (mulI .i64 2 e_9) 1),(mulI .i64 2 f_9)]]).bind fun a12=>some ((a_9,c_9,a12,()),0,())) (fun _=>none)))))))
def Zw_c : Con:={ ins:=[(.rd,yQ7),(.rd,I)],outs:=[(true,yQ7),(true,I)],fn:=Zw }
def Zw_C : Ctx:={ tab:=tab,con:=fun | 26,_=>some Zx_c | _,_=>none,glob:=glob,eqs:=eqs }
theorem Zw_R16 (x : Zw_H16.ty.den) : round Zw_C Zw_As Zw_A16 (loopBody 16 (bodyOf Tryd.f19)) x=Zw_B16 x:=by kernel_rfl
def Zam_As : Anns:=[]
def Zam (x : Q16) : Option (Int×Unit) :=
 let ((a,b,c,_),d,_):=x; (Zx ((a,b,c,()),())).bind fun r1=>cond (!r1.1) (some ((-1),())) (cond (ltI d 0) (some ((-1),())) (cond (geI d (mulI .i64 2 (b.length : Nat))) (some ((-1),())) ((Zaf ((a,b,c,()),())).bind fun r2=>(idxI r2.1.length d).bind fun j3=>(r2.1[j3]?).bind fun y4=>some (y4,()))))
def Zam_c : Con:={ ins:=[(.rd,yQ7),(.rd,I)],outs:=[(true,I)],fn:=Zam }
def Zam_C : Ctx:={ tab:=tab,con:=fun | 26,_=>some Zx_c | 54,_=>some Zaf_c | _,_=>none,glob:=glob,eqs:=eqs }
theorem Zam_eq (x : (tupTy [yQ7,I]).den) : callFn Zam_C Zam_As (bodyOf Tryd.f28) [(.rd,yQ7),(.rd,I)] [(.tmp 4,true,I)] x=Zam x:=by kernel_rfl
def Zap_As : Anns:=[]
def Zap (x : Q16) : Option (Int×Unit) :=
 let ((a,b,c,_),d,_):=x; (Zx ((a,b,c,()),())).bind fun r1=>cond (!r1.1) (some ((-1),())) (cond (ltI d 0) (some ((-1),())) (cond (geI d (mulI .i64 2 (b.length : Nat))) (some ((-1),())) ((Zt ((a,b,c,()),())).bind fun r2=>(Zab (d,())).bind fun r3=>(idxI r2.1.length r3.1).bind fun j4=>(r2.1[j4]?).bind fun y5=>some (y5,()))))
def Zap_c : Con:={ ins:=[(.rd,yQ7),(.rd,I)],outs:=[(true,I)],fn:=Zap }
def Zap_C : Ctx:={ tab:=tab,con:=fun | 26,_=>some Zx_c | 47,_=>some Zt_c | 48,_=>some Zab_c | _,_=>none,glob:=glob,eqs:=eqs }
def Zp_H2 : Shape:={ env:=[(1,.av (.val I)),(2,.av (.val I)),(3,.av (.ptr 3 0)),(7,.av (.val I))],objs:=[(3,.box [.val I,.val (.slice yQ2),.val yQ3])] }
def Zp_E2 : List (Ex×Shape):=[(.ret,{ env:=[(6,.av (.val .bool))],objs:=[] })]
def Zp_B2 (x : Q33) : Option (Q33⊕((Bool×Unit)⊕Empty)) :=
 let (a,b,c,d,e,f,_):=x; cond (eqI f e) (some (.inr (.inl (true,())))) ((Zap ((a,b,c,()),f,())).bind fun r1=>cond (eqI r1.1 d) (some (.inr (.inl (false,())))) (some (.inl (a,b,c,d,e,r1.1,()))))
def Zp_L2 : Q33→Option ((Bool×Unit)⊕Empty):=loopFix Zp_B2
def Zp_A2 : Ann:={ head:=Zp_H2,exits:=Zp_E2,fn:=Zp_L2 }
def Zp_As : Anns:=[(2,Zp_A2)]
def Zp (x : Q17) : Option (Bool×Unit) :=
 let ((a,b,c,_),d,e,_):=x; (Zp_L2 (a,b,c,d,e,d,())).bind (Sum.elim (fun z2=>some (z2.1,())) (fun _=>none))
def Zp_c : Con:={ ins:=[(.rd,yQ7),(.rd,I),(.rd,I)],outs:=[(true,.bool)],fn:=Zp }
def Zp_C : Ctx:={ tab:=tab,con:=fun | 66,_=>some Zap_c | _,_=>none,glob:=glob,eqs:=eqs }
theorem Zp_R2 (x : Zp_H2.ty.den) : round Zp_C Zp_As Zp_A2 (loopBody 2 (bodyOf Tryd.f43)) x=Zp_B2 x:=by kernel_rfl
def Zar_H6 : Shape:={ env:=[(1,.av (.val I)),(2,.av (.val I)),(3,.av (.ptr 3 0)),(9,.av (.val I)),(10,.av (.val I))],objs:=[(3,.box [.val I,.val (.slice yQ2),.val yQ3])] }
def Zar_E6 : List (Ex×Shape):=[(.ret,{ env:=[(6,.av (.val I)),(7,.av (.val I)),(8,.av (.val .bool))],objs:=[] }),(.exit 2,{ env:=[(1,.av (.val I)),(2,.av (.val I)),(3,.av (.ptr 3 0)),(9,.av (.val I))],objs:=[(3,.box [.val I,.val (.slice yQ2),.val yQ3])] })]
def Zar_B6 (x : Q37) : Option (Q37⊕(Q6⊕(Q33⊕Empty))) :=
 let (a,b,c,d,e,f,g,_):=x; cond (ltI g (mulI .i64 2 (b.length : Nat))) ((Zam ((a,b,c,()),g,())).bind fun r1=>cond (eqI r1.1 e) ((Zp ((a,b,c,()),f,g,())).bind fun r2=>cond r2.1 (some (.inr (.inl (f,g,true,())))) (some (.inl (a,b,c,d,e,f,(addI .i64 g 1),())))) (some (.inl (a,b,c,d,e,f,(addI .i64 g 1),())))) (some (.inr (.inr (.inl (a,b,c,d,e,f,())))))
def Zar_L6 : Q37→Option (Q6⊕(Q33⊕Empty)):=loopFix Zar_B6
def Zar_A6 : Ann:={ head:=Zar_H6,exits:=Zar_E6,fn:=Zar_L6 }
def Zar_H2 : Shape:={ env:=[(1,.av (.val I)),(2,.av (.val I)),(3,.av (.ptr 3 0)),(9,.av (.val I))],objs:=[(3,.box [.val I,.val (.slice yQ2),.val yQ3])] }
def Zar_E2 : List (Ex×Shape):=[(.ret,{ env:=[(6,.av (.val I)),(7,.av (.val I)),(8,.av (.val .bool))],objs:=[] }),(.exit 0,{ env:=[],objs:=[] })]
def Zar_B2 (x : Q33) : Option (Q33⊕(Q6⊕(Unit⊕Empty))) :=
 let (a,b,c,d,e,f,_):=x; cond (ltI f (mulI .i64 2 (b.length : Nat))) ((Zam ((a,b,c,()),f,())).bind fun r1=>cond (neI r1.1 d) (some (.inl (a,b,c,d,e,(addI .i64 f 1),()))) ((Zar_L6 (a,b,c,d,e,f,0,())).bind (Sum.elim (fun z3=>some (.inr (.inl (z3.1,z3.2.1,z3.2.2.1,())))) (Sum.elim (fun (a_4,b_4,c_4,d_4,e_4,f_4,_)=>some (.inl (a_4,b_4,c_4,d_4,e_4,(addI .i64 f_4 1),()))) (fun _=>none))))) (some (.inr (.inr (.inl ()))))
def Zar_L2 : Q33→Option (Q6⊕(Unit⊕Empty)):=loopFix Zar_B2
def Zar_A2 : Ann:={ head:=Zar_H2,exits:=Zar_E2,fn:=Zar_L2 }
def Zar_As : Anns:=[(2,Zar_A2),(6,Zar_A6)]
def Zar (x : Q17) : Option Q6 :=
 let ((a,b,c,_),d,e,_):=x; (Zar_L2 (a,b,c,d,e,0,())).bind (Sum.elim (fun z2=>some (z2.1,z2.2.1,z2.2.2.1,())) (Sum.elim (fun z3=>some (0,0,false,())) (fun _=>none)))
def Zar_c : Con:={ ins:=[(.rd,yQ7),(.rd,I),(.rd,I)],outs:=[(true,I),(true,I),(true,.bool)],fn:=Zar }
def Zar_C : Ctx:={ tab:=tab,con:=fun | 28,_=>some Zam_c | 43,_=>some Zp_c | _,_=>none,glob:=glob,eqs:=eqs }
theorem Zar_R6 (x : Zar_H6.ty.den) : round Zar_C Zar_As Zar_A6 (loopBody 6 (bodyOf Tryd.f53)) x=Zar_B6 x:=by kernel_rfl
theorem Zar_R2 (x : Zar_H2.ty.den) : round Zar_C Zar_As Zar_A2 (loopBody 2 (bodyOf Tryd.f53)) x=Zar_B2 x:=by kernel_rfl
def Zr_H3 : Shape:={ env:=[(0,.av (.val (.slice I))),(1,.av (.val I)),(2,.av (.val I)),(7,.av (.own 7)),(8,.av (.val I))],objs:=[(7,.arr I)] }
def Zr_E3 : List (Ex×Shape):=[(.exit 0,{ env:=[(7,.av (.own 7))],objs:=[(7,.arr I)] })]
def Zr_B3 (x : Q20) : Option (Q20⊕(Q1⊕Empty)) :=
 let (a,b,c,d,e,_):=x; cond (ltI e (b.length : Nat)) ((getI b e).bind fun y1=>cond (eqI y1 d) ((app a [c]).bind fun a2=>(getI b e).bind fun y3=>(app a2 [y3]).bind fun a4=>some (.inl (a4,b,c,d,(addI .i64 e 1),()))) ((getI b e).bind fun y5=>(app a [y5]).bind fun a6=>some (.inl (a6,b,c,d,(addI .i64 e 1),())))) (some (.inr (.inl (a,()))))
def Zr_L3 : Q20→Option (Q1⊕Empty):=loopFix Zr_B3
def Zr_A3 : Ann:={ head:=Zr_H3,exits:=Zr_E3,fn:=Zr_L3 }
def Zr_As : Anns:=[(3,Zr_A3)]
def Zr (x : Q8) : Option Q1 :=
 (Zr_L3 ([],x.1,x.2.1,x.2.2.1,0,())).bind (Sum.elim (fun z2=>some (z2.1,())) (fun _=>none))
def Zr_c : Con:={ ins:=[(.rd,(.slice I)),(.rd,I),(.rd,I)],outs:=[(true,(.slice I))],fn:=Zr }
def Zr_C : Ctx:={ tab:=tab,con:=fun _ _=>none,glob:=glob,eqs:=eqs }
theorem Zr_R3 (x : Zr_H3.ty.den) : round Zr_C Zr_As Zr_A3 (loopBody 3 (bodyOf Tryd.f44)) x=Zr_B3 x:=by kernel_rfl
def Zak_As : Anns:=[]
def Zak (x : Q17) : Option Q16 :=
 let ((a,b,c,_),d,e,_):=x; (Zx ((a,b,c,()),())).bind fun r1=>cond (!r1.1) (some ((0,[],[],()),13,())) (cond (ltI d 0) (some ((0,[],[],()),3,())) (cond (geI d (mulI .i64 2 (b.length : Nat))) (some ((0,[],[],()),3,())) (cond (ltI e 0) (some ((0,[],[],()),3,())) (cond (geI e (mulI .i64 2 (b.length : Nat))) (some ((0,[],[],()),3,())) ((Zam ((a,b,c,()),d,())).bind fun r2=>(Zam ((a,b,c,()),e,())).bind fun r3=>cond (eqI r2.1 r3.1) (some ((0,[],[],()),8,())) ((Zp ((a,b,c,()),d,e,())).bind fun r4=>cond (!r4.1) (some ((0,[],[],()),15,())) (cond (geI (b.length : Nat) 32768) (some ((0,[],[],()),2,())) ((app [] b).bind fun a5=>(app a5 [(r2.1,r3.1,())]).bind fun a6=>(app [] c).bind fun a7=>(getI c r2.1).bind fun y8=>(Zr (y8,(mulI .i64 2 (b.length : Nat)),d,())).bind fun r9=>(idxI a7.length r2.1).bind fun j10=>(a7[j10]?).bind fun y11=>(getI c r3.1).bind fun y12=>(Zr (y12,(addI .i64 (mulI .i64 2 (b.length : Nat)) 1),e,())).bind fun r13=>(idxI (a7.set j10 r9.1).length r3.1).bind fun j14=>((a7.set j10 r9.1)[j14]?).bind fun y15=>some ((a,a6,((a7.set j10 r9.1).set j14 r13.1),()),0,())))))))))
def Zak_c : Con:={ ins:=[(.rd,yQ7),(.rd,I),(.rd,I)],outs:=[(true,yQ7),(true,I)],fn:=Zak }
def Zak_C : Ctx:={ tab:=tab,con:=fun | 26,_=>some Zx_c | 28,_=>some Zam_c | 43,_=>some Zp_c | 44,_=>some Zr_c | _,_=>none,glob:=glob,eqs:=eqs }
def Zal_H19 : Shape:={ env:=[(6,.av (.ptr 6 0)),(10,.av (.own 10)),(12,.av (.own 12)),(13,.av (.ptr 13 0)),(17,.av (.own 17)),(18,.av (.val I))],objs:=[(6,.box [.val I,.nils,.nils]),(10,.arr I),(12,.arr I),(13,.box [.val I,.val (.slice yQ2),.val yQ3]),(17,.arr I)] }
def Zal_E19 : List (Ex×Shape):=[(.ret,{ env:=[(6,.av (.ptr 6 0)),(7,.av (.nils)),(8,.av (.val I)),(9,.av (.val I))],objs:=[(6,.box [.val I,.nils,.nils])] }),(.exit 2,{ env:=[(6,.av (.ptr 6 0)),(10,.av (.own 10)),(13,.av (.ptr 13 0)),(17,.av (.own 17))],objs:=[(6,.box [.val I,.nils,.nils]),(10,.arr I),(13,.box [.val I,.val (.slice yQ2),.val yQ3]),(17,.arr I)] })]
def Zal_B19 (x : Q64) : Option (Q64⊕(Q5⊕(Q40⊕Empty))) :=
 let (a,b,c,d,e,f,g,h,_):=x; cond (ltI h (c.length : Nat)) ((idxI c.length (subI .i64 h 1)).bind fun j1=>(c[j1]?).bind fun y2=>(idxI c.length h).bind fun j3=>(c[j3]?).bind fun y4=>(Zar ((d,e,f,()),y2,y4,())).bind fun r5=>(app g [(mulI .i64 2 (e.length : Nat))]).bind fun a6=>(Zak ((d,e,f,()),r5.1,r5.2.1,())).bind fun r7=>cond (neI r7.2.1 0) (some (.inr (.inl (0,0,r7.2.1,())))) (some (.inl (a,b,c,r7.1.1,r7.1.2.1,r7.1.2.2.1,a6,(addI .i64 h 1),())))) (some (.inr (.inr (.inl (a,b,d,e,f,g,())))))
def Zal_L19 : Q64→Option (Q5⊕(Q40⊕Empty)):=loopFix Zal_B19
def Zal_A19 : Ann:={ head:=Zal_H19,exits:=Zal_E19,fn:=Zal_L19 }
def Zal_H9 : Shape:={ env:=[(2,.av (.val I)),(6,.av (.ptr 6 0)),(10,.av (.own 10)),(12,.av (.own 12)),(13,.av (.ptr 13 0)),(14,.av (.val I))],objs:=[(6,.box [.val I,.nils,.nils]),(10,.arr I),(12,.arr I),(13,.box [.val I,.val (.slice yQ2),.val yQ3])] }
def Zal_E9 : List (Ex×Shape):=[(.ret,{ env:=[(6,.av (.ptr 6 0)),(7,.av (.nils)),(8,.av (.val I)),(9,.av (.val I))],objs:=[(6,.box [.val I,.nils,.nils])] }),(.exit 0,{ env:=[(2,.av (.val I)),(6,.av (.ptr 6 0)),(10,.av (.own 10)),(12,.av (.own 12)),(13,.av (.ptr 13 0))],objs:=[(6,.box [.val I,.nils,.nils]),(10,.arr I),(12,.arr I),(13,.box [.val I,.val (.slice yQ2),.val yQ3])] })]
def Zal_B9 (x : Q56) : Option (Q56⊕(Q5⊕(Q49⊕Empty))) :=
 let (a,b,c,d,e,f,g,h,_):=x; cond (ltI h (b.length : Nat)) ((app c [d]).bind fun a1=>(idxI b.length h).bind fun j2=>(b[j2]?).bind fun y3=>(Zw ((d,e,f,()),y3,())).bind fun r4=>cond (neI r4.2.1 0) (some (.inr (.inl (0,0,r4.2.1,())))) (some (.inl (a,b,a1,r4.1.1,r4.1.2.1,r4.1.2.2.1,g,(addI .i64 h 1),())))) (some (.inr (.inr (.inl (a,b,c,d,e,f,g,())))))
def Zal_L9 : Q56→Option (Q5⊕(Q49⊕Empty)):=loopFix Zal_B9
def Zal_A9 : Ann:={ head:=Zal_H9,exits:=Zal_E9,fn:=Zal_L9 }
def Zal_As : Anns:=[(9,Zal_A9),(19,Zal_A19)]
def Zal (x : Q17) : Option (Q15×List Int×Int×Int×Unit) :=
 let ((a,b,c,_),d,e,_):=x; (Zac ((a,b,c,()),d,e,())).bind fun r1=>cond (neI r1.2.1 0) (some ((0,[],[],()),[],0,r1.2.1,())) (cond (eqI d e) (some ((0,[],[],()),[],0,8,())) ((Zal_L9 (0,r1.1,[d],a,b,c,e,0,())).bind (Sum.elim (fun z3=>some ((z3.1,[],[],()),[],z3.2.1,z3.2.2.1,())) (Sum.elim (fun (a_4,b_4,c_4,d_4,e_4,f_4,g_4,_)=>(app c_4 [g_4]).bind fun a5=>(Zal_L19 (a_4,b_4,a5,d_4,e_4,f_4,[],1,())).bind (Sum.elim (fun z7=>some ((z7.1,[],[],()),[],z7.2.1,z7.2.2.1,())) (Sum.elim (fun (_,a_8,b_8,c_8,d_8,e_8,_)=>some ((b_8,c_8,d_8,()),e_8,(a_8.length : Nat),0,())) (fun _=>none)))) (fun _=>none)))))
def Zal_c : Con:={ ins:=[(.rd,yQ7),(.rd,I),(.rd,I)],outs:=[(false,yQ7),(false,(.slice I)),(true,I),(true,I)],fn:=Zal }
def Zal_C : Ctx:={ tab:=tab,con:=fun | 15,_=>some Zak_c | 19,_=>some Zw_c | 52,_=>some Zac_c | 53,_=>some Zar_c | _,_=>none,glob:=glob,eqs:=eqs }
theorem Zal_R19 (x : Zal_H19.ty.den) : round Zal_C Zal_As Zal_A19 (loopBody 19 (bodyOf Tryd.f23)) x=Zal_B19 x:=by kernel_rfl
theorem Zal_R9 (x : Zal_H9.ty.den) : round Zal_C Zal_As Zal_A9 (loopBody 9 (bodyOf Tryd.f23)) x=Zal_B9 x:=by kernel_rfl
def Zq_H8 : Shape:={ env:=[(0,.av (.val (.slice I))),(1,.av (.val (.slice I))),(5,.av (.val I)),(6,.av (.val .bool)),(7,.av (.val I))],objs:=[] }
def Zq_E8 : List (Ex×Shape):=[(.exit 2,{ env:=[(0,.av (.val (.slice I))),(1,.av (.val (.slice I))),(5,.av (.val I)),(6,.av (.val .bool))],objs:=[] })]
def Zq_B8 (x : Q22) : Option (Q22⊕((List Int×List Int×Int×Bool×Unit)⊕Empty)) :=
 let (a,b,c,d,e,_):=x; cond (ltI e (a.length : Nat)) (cond d (cond (eqI (a.length : Nat) 0) none ((getI a (remI (addI .i64 c e) (a.length : Nat))).bind fun y1=>(getI b e).bind fun y2=>some (.inl (a,b,c,(eqI y1 y2),(addI .i64 e 1),())))) (some (.inr (.inl (a,b,c,d,()))))) (some (.inr (.inl (a,b,c,d,()))))
def Zq_L8 : Q22→Option ((List Int×List Int×Int×Bool×Unit)⊕Empty):=loopFix Zq_B8
def Zq_A8 : Ann:={ head:=Zq_H8,exits:=Zq_E8,fn:=Zq_L8 }
def Zq_H4 : Shape:={ env:=[(0,.av (.val (.slice I))),(1,.av (.val (.slice I))),(5,.av (.val I))],objs:=[] }
def Zq_E4 : List (Ex×Shape):=[(.ret,{ env:=[(4,.av (.val .bool))],objs:=[] }),(.exit 0,{ env:=[(0,.av (.val (.slice I)))],objs:=[] })]
def Zq_B4 (x : Q10) : Option (Q10⊕((Bool×Unit)⊕(Q1⊕Empty))) :=
 let (a,b,c,_):=x; cond (ltI c (a.length : Nat)) ((Zq_L8 (a,b,c,true,0,())).bind (Sum.elim (fun z2=>cond z2.2.2.2.1 (some (.inr (.inl (true,())))) (some (.inl (z2.1,z2.2.1,(addI .i64 z2.2.2.1 1),())))) (fun _=>none))) (some (.inr (.inr (.inl (a,())))))
def Zq_L4 : Q10→Option ((Bool×Unit)⊕(Q1⊕Empty)):=loopFix Zq_B4
def Zq_A4 : Ann:={ head:=Zq_H4,exits:=Zq_E4,fn:=Zq_L4 }
def Zq_As : Anns:=[(4,Zq_A4),(8,Zq_A8)]
def Zq (x : (List Int×List Int×Unit)) : Option (Bool×Unit) :=
 cond (neI (x.1.length : Nat) (x.2.1.length : Nat)) (some (false,())) ((Zq_L4 (x.1,x.2.1,0,())).bind (Sum.elim (fun z2=>some (z2.1,())) (Sum.elim (fun z3=>some ((eqI (z3.1.length : Nat) 0),())) (fun _=>none))))
def Zq_c : Con:={ ins:=[(.rd,(.slice I)),(.rd,(.slice I))],outs:=[(true,.bool)],fn:=Zq }
def Zq_C : Ctx:={ tab:=tab,con:=fun _ _=>none,glob:=glob,eqs:=eqs }
theorem Zq_R8 (x : Zq_H8.ty.den) : round Zq_C Zq_As Zq_A8 (loopBody 8 (bodyOf Tryd.f45)) x=Zq_B8 x:=by kernel_rfl
theorem Zq_R4 (x : Zq_H4.ty.den) : round Zq_C Zq_As Zq_A4 (loopBody 4 (bodyOf Tryd.f45)) x=Zq_B4 x:=by kernel_rfl
def Zao_H9 : Shape:={ env:=[(2,.av (.ptr 2 0)),(3,.av (.ptr 3 0)),(6,.av (.val I))],objs:=[(2,.box [.val I,.val (.slice yQ2),.val yQ3]),(3,.box [.val I,.val (.slice yQ2),.val yQ3])] }
def Zao_E9 : List (Ex×Shape):=[(.ret,{ env:=[(4,.av (.val .bool))],objs:=[] }),(.exit 2,{ env:=[],objs:=[] })]
def Zao_B9 (x : Q61) : Option (Q61⊕((Bool×Unit)⊕(Unit⊕Empty))) :=
 let (a,b,c,d,e,f,g,_):=x; cond (ltI g (c.length : Nat)) ((getI c g).bind fun y1=>(getI f g).bind fun y2=>(Zq (y1,y2,())).bind fun r3=>cond (!r3.1) (some (.inr (.inl (false,())))) (some (.inl (a,b,c,d,e,f,(addI .i64 g 1),())))) (some (.inr (.inr (.inl ()))))
def Zao_L9 : Q61→Option ((Bool×Unit)⊕(Unit⊕Empty)):=loopFix Zao_B9
def Zao_A9 : Ann:={ head:=Zao_H9,exits:=Zao_E9,fn:=Zao_L9 }
def Zao_H4 : Shape:={ env:=[(2,.av (.ptr 2 0)),(3,.av (.ptr 3 0)),(5,.av (.val I))],objs:=[(2,.box [.val I,.val (.slice yQ2),.val yQ3]),(3,.box [.val I,.val (.slice yQ2),.val yQ3])] }
def Zao_E4 : List (Ex×Shape):=[(.ret,{ env:=[(4,.av (.val .bool))],objs:=[] }),(.exit 0,{ env:=[(2,.av (.ptr 2 0)),(3,.av (.ptr 3 0))],objs:=[(2,.box [.val I,.val (.slice yQ2),.val yQ3]),(3,.box [.val I,.val (.slice yQ2),.val yQ3])] })]
def Zao_B4 (x : Q61) : Option (Q61⊕((Bool×Unit)⊕(Q54⊕Empty))) :=
 let (a,b,c,d,e,f,g,_):=x; cond (ltI g (b.length : Nat)) ((getI b g).bind fun y1=>(getI e g).bind fun y2=>cond (!((eqI y1.1 y2.1) && ((eqI y1.2.1 y2.2.1) && true))) (some (.inr (.inl (false,())))) (some (.inl (a,b,c,d,e,f,(addI .i64 g 1),())))) (some (.inr (.inr (.inl (a,b,c,d,e,f,())))))
def Zao_L4 : Q61→Option ((Bool×Unit)⊕(Q54⊕Empty)):=loopFix Zao_B4
def Zao_A4 : Ann:={ head:=Zao_H4,exits:=Zao_E4,fn:=Zao_L4 }
def Zao_As : Anns:=[(4,Zao_A4),(9,Zao_A9)]
def Zao (x : (Q15×Q15×Unit)) : Option (Bool×Unit) :=
 let ((a,b,c,_),(d,e,f,_),_):=x; cond (neI a d) (some (false,())) (cond (neI (b.length : Nat) (e.length : Nat)) (some (false,())) (cond (neI (c.length : Nat) (f.length : Nat)) (some (false,())) ((Zao_L4 (a,b,c,d,e,f,0,())).bind (Sum.elim (fun z2=>some (z2.1,())) (Sum.elim (fun (a_3,b_3,c_3,d_3,e_3,f_3,_)=>(Zao_L9 (a_3,b_3,c_3,d_3,e_3,f_3,0,())).bind (Sum.elim (fun z5=>some (z5.1,())) (Sum.elim (fun z6=>some (true,())) (fun _=>none)))) (fun _=>none))))))
def Zao_c : Con:={ ins:=[(.rd,yQ7),(.rd,yQ7)],outs:=[(true,.bool)],fn:=Zao }
def Zao_C : Ctx:={ tab:=tab,con:=fun | 45,_=>some Zq_c | _,_=>none,glob:=glob,eqs:=eqs }
theorem Zao_R9 (x : Zao_H9.ty.den) : round Zao_C Zao_As Zao_A9 (loopBody 9 (bodyOf Tryd.f16)) x=Zao_B9 x:=by kernel_rfl
theorem Zao_R4 (x : Zao_H4.ty.den) : round Zao_C Zao_As Zao_A4 (loopBody 4 (bodyOf Tryd.f16)) x=Zao_B4 x:=by kernel_rfl
def Zaj_As : Anns:=[]
def Zaj (x : (Q15×Unit)) : Option (Bool×Unit) :=
 cond (eqI x.1.1 0) (cond (eqI (x.1.2.1.length : Nat) 0) (some ((eqI (x.1.2.2.1.length : Nat) 0),())) (some (false,()))) (some (false,()))
def Zaj_c : Con:={ ins:=[(.rd,yQ7)],outs:=[(true,.bool)],fn:=Zaj }
def Zaj_C : Ctx:={ tab:=tab,con:=fun _ _=>none,glob:=glob,eqs:=eqs }
def Zi_As : Anns:=[]
def Zi (x : Q17) : Option (Bool×Unit) :=
 let ((a,b,c,_),d,e,_):=x; (Zad ((a,b,c,()),12,20,())).bind fun r1=>cond (!r1.1) ((Zz ()).bind fun r2=>some (r2.1,())) ((Zbr ((a,b,c,()),d,e,())).bind fun r3=>let t_0:=cond (neI r3.2.2.2.1 0) ((Zaj ((r3.1.1,r3.1.2.1,r3.1.2.2.1,()),())).bind fun r8=>cond r8.1 ((Zz ()).bind fun r9=>some (r9.1,())) (some (false,()))) (some (false,())); (Zal ((a,b,c,()),d,e,())).bind fun r4=>cond (neI r3.2.2.2.1 r4.2.2.2.1) (some (false,())) (cond (neI r3.2.2.1 r4.2.2.1) (some (false,())) ((Zl (r3.2.1,r4.2.1,())).bind fun r5=>cond (!r5.1) (some (false,())) (cond (eqI r3.2.2.2.1 0) ((Zao ((r3.1.1,r3.1.2.1,r3.1.2.2.1,()),(r4.1.1,r4.1.2.1,r4.1.2.2.1,()),())).bind fun r6=>cond r6.1 ((Zz ()).bind fun r7=>some (r7.1,())) t_0) t_0))))
def Zi_c : Con:={ ins:=[(.rd,yQ7),(.rd,I),(.rd,I)],outs:=[(true,.bool)],fn:=Zi }
def Zi_C : Ctx:={ tab:=tab,con:=fun | 12,_=>some Zad_c | 13,_=>some Zz_c | 16,_=>some Zao_c | 17,_=>some Zaj_c | 22,_=>some Zbr_c | 23,_=>some Zal_c | 24,_=>some Zl_c | _,_=>none,glob:=glob,eqs:=eqs }
def Zk_As : Anns:=[]
def Zk (x : Q17) : Option Q2 :=
 let ((a,b,c,_),d,e,_):=x; (Zac ((a,b,c,()),d,e,())).bind fun r1=>some ((r1.1.length : Nat),r1.2.1,())
def Zk_c : Con:={ ins:=[(.rd,yQ7),(.rd,I),(.rd,I)],outs:=[(true,I),(true,I)],fn:=Zk }
def Zk_C : Ctx:={ tab:=tab,con:=fun | 52,_=>some Zac_c | _,_=>none,glob:=glob,eqs:=eqs }
theorem Zk_eq (x : (tupTy [yQ7,I,I]).den) : callFn Zk_C Zk_As (bodyOf Tryd.f27) [(.rd,yQ7),(.rd,I),(.rd,I)] [(.tmp 6,true,I),(.tmp 7,true,I)] x=Zk x:=by kernel_rfl
def Zax_H2 : Shape:={ env:=[(0,.av (.val (.slice I))),(1,.av (.val I)),(5,.av (.val I))],objs:=[] }
def Zax_E2 : List (Ex×Shape):=[(.ret,{ env:=[(4,.av (.val .bool))],objs:=[] }),(.exit 0,{ env:=[],objs:=[] })]
def Zax_B2 (x : Q8) : Option (Q8⊕((Bool×Unit)⊕(Unit⊕Empty))) :=
 let (a,b,c,_):=x; cond (ltI c (a.length : Nat)) ((getI a c).bind fun y1=>cond (eqI y1 b) (some (.inr (.inl (true,())))) (some (.inl (a,b,(addI .i64 c 1),())))) (some (.inr (.inr (.inl ()))))
def Zax_L2 : Q8→Option ((Bool×Unit)⊕(Unit⊕Empty)):=loopFix Zax_B2
def Zax_A2 : Ann:={ head:=Zax_H2,exits:=Zax_E2,fn:=Zax_L2 }
def Zax_As : Anns:=[(2,Zax_A2)]
def Zax (x : Q3) : Option (Bool×Unit) :=
 (Zax_L2 (x.1,x.2.1,0,())).bind (Sum.elim (fun z2=>some (z2.1,())) (Sum.elim (fun z3=>some (false,())) (fun _=>none)))
def Zax_c : Con:={ ins:=[(.rd,(.slice I)),(.rd,I)],outs:=[(true,.bool)],fn:=Zax }
def Zax_C : Ctx:={ tab:=tab,con:=fun _ _=>none,glob:=glob,eqs:=eqs }
theorem Zax_R2 (x : Zax_H2.ty.den) : round Zax_C Zax_As Zax_A2 (loopBody 2 (bodyOf Tryd.f55)) x=Zax_B2 x:=by kernel_rfl
theorem Zax_eq (x : (tupTy [(.slice I),I]).den) : callFn Zax_C Zax_As (bodyOf Tryd.f55) [(.rd,(.slice I)),(.rd,I)] [(.tmp 4,true,.bool)] x=Zax x:=by kernel_rfl
def Zo_H6 : Shape:={ env:=[(2,.av (.val (.slice I))),(7,.av (.val (.slice I))),(8,.av (.val I)),(9,.av (.val I))],objs:=[] }
def Zo_E6 : List (Ex×Shape):=[(.ret,{ env:=[(6,.av (.val .bool))],objs:=[] }),(.exit 0,{ env:=[(8,.av (.val I))],objs:=[] })]
def Zo_B6 (x : Q12) : Option (Q12⊕((Bool×Unit)⊕((Int×Unit)⊕Empty))) :=
 let (a,b,c,d,_):=x; cond (ltI d 4) ((getI b d).bind fun y1=>(Zax (a,y1,())).bind fun r2=>cond r2.1 ((getI b (remI (addI .i64 d 2) 4)).bind fun y3=>(Zax (a,y3,())).bind fun r4=>cond r4.1 (cond (neB true true) (some (.inr (.inl (false,())))) (some (.inl (a,b,(addI .i64 c 1),(addI .i64 d 1),())))) ((getI b (remI (addI .i64 d 2) 4)).bind fun y5=>(Zax (a,(xorI .i64 y5 1),())).bind fun r6=>cond (neB true r6.1) (some (.inr (.inl (false,())))) (some (.inl (a,b,(addI .i64 c 1),(addI .i64 d 1),()))))) ((getI b d).bind fun y7=>(Zax (a,(xorI .i64 y7 1),())).bind fun r8=>(getI b (remI (addI .i64 d 2) 4)).bind fun y9=>(Zax (a,y9,())).bind fun r10=>cond r10.1 (cond (neB r8.1 true) (some (.inr (.inl (false,())))) (cond r8.1 (some (.inl (a,b,(addI .i64 c 1),(addI .i64 d 1),()))) (some (.inl (a,b,c,(addI .i64 d 1),()))))) ((getI b (remI (addI .i64 d 2) 4)).bind fun y11=>(Zax (a,(xorI .i64 y11 1),())).bind fun r12=>cond (neB r8.1 r12.1) (some (.inr (.inl (false,())))) (cond r8.1 (some (.inl (a,b,(addI .i64 c 1),(addI .i64 d 1),()))) (some (.inl (a,b,c,(addI .i64 d 1),()))))))) (some (.inr (.inr (.inl (c,())))))
def Zo_L6 : Q12→Option ((Bool×Unit)⊕((Int×Unit)⊕Empty)):=loopFix Zo_B6
def Zo_A6 : Ann:={ head:=Zo_H6,exits:=Zo_E6,fn:=Zo_L6 }
def Zo_As : Anns:=[(6,Zo_A6)]
def Zo (x : Q18) : Option (Bool×Unit) :=
 (getI x.1.2.2.1 x.2.1).bind fun y1=>cond (neI (y1.length : Nat) 4) (some (false,())) ((Zo_L6 (x.2.2.1,y1,0,0,())).bind (Sum.elim (fun z3=>some (z3.1,())) (Sum.elim (fun z4=>some ((eqI z4.1 2),())) (fun _=>none))))
def Zo_c : Con:={ ins:=[(.rd,yQ7),(.rd,I),(.rd,(.slice I))],outs:=[(true,.bool)],fn:=Zo }
def Zo_C : Ctx:={ tab:=tab,con:=fun | 55,_=>some Zax_c | _,_=>none,glob:=glob,eqs:=eqs }
theorem Zo_R6 (x : Zo_H6.ty.den) : round Zo_C Zo_As Zo_A6 (loopBody 6 (bodyOf Tryd.f29)) x=Zo_B6 x:=by kernel_rfl
theorem Zo_eq (x : (tupTy [yQ7,I,(.slice I)]).den) : callFn Zo_C Zo_As (bodyOf Tryd.f29) [(.rd,yQ7),(.rd,I),(.rd,(.slice I))] [(.tmp 6,true,.bool)] x=Zo x:=by kernel_rfl
def Zh_H11 : Shape:={ env:=[(2,.av (.val I)),(3,.av (.ptr 3 0)),(7,.av (.ptr 7 0)),(8,.av (.val (.slice I))),(9,.av (.val I)),(13,.av (.val I)),(14,.av (.val I))],objs:=[(3,.box [.val I,.val (.slice yQ2),.val yQ3]),(7,.box [.val I,.val (.slice yQ2),.val yQ3])] }
def Zh_E11 : List (Ex×Shape):=[(.ret,{ env:=[(6,.av (.val .bool))],objs:=[] }),(.exit 0,{ env:=[(2,.av (.val I)),(13,.av (.val I))],objs:=[] })]
def Zh_B11 (x : Q73) : Option (Q73⊕((Bool×Unit)⊕(Q2⊕Empty))) :=
 let (a,b,c,d,e,f,g,h,i,k,l,_):=x; cond (ltI l (h.length : Nat)) ((getI h l).bind fun y1=>(Zam ((d,e,f,()),y1,())).bind fun r2=>cond (neI r2.1 k) (some (.inr (.inl (false,())))) ((getI h l).bind fun y3=>(Zam ((d,e,f,()),(xorI .i64 y3 1),())).bind fun r4=>cond (ltI l i) (cond (neI r4.1 (addI .i64 a l)) (some (.inr (.inl (false,())))) ((Zo ((d,e,f,()),r4.1,h,())).bind fun r5=>cond (!r5.1) (some (.inr (.inl (false,())))) (some (.inl (a,b,c,d,e,f,g,h,i,r4.1,(addI .i64 l 1),()))))) (some (.inl (a,b,c,d,e,f,g,h,i,r4.1,(addI .i64 l 1),()))))) (some (.inr (.inr (.inl (g,k,())))))
def Zh_L11 : Q73→Option ((Bool×Unit)⊕(Q2⊕Empty)):=loopFix Zh_B11
def Zh_A11 : Ann:={ head:=Zh_H11,exits:=Zh_E11,fn:=Zh_L11 }
def Zh_As : Anns:=[(11,Zh_A11)]
def Zh (x : Q17) : Option (Bool×Unit) :=
 let ((a,b,c,_),d,e,_):=x; (Zad ((a,b,c,()),12,20,())).bind fun r1=>cond (!r1.1) ((Zz ()).bind fun r2=>some (r2.1,())) ((Zbr ((a,b,c,()),d,e,())).bind fun r3=>cond (neI r3.2.2.2.1 0) ((Zz ()).bind fun r4=>some (r4.1,())) ((Zk ((a,b,c,()),d,e,())).bind fun r5=>cond (neI r3.2.2.1 r5.1) (some (false,())) (cond (neI (r3.2.1.length : Nat) (addI .i64 r3.2.2.1 1)) (some (false,())) (cond (neI r3.1.1 (addI .i64 a r3.2.2.1)) (some (false,())) ((Zx ((r3.1.1,r3.1.2.1,r3.1.2.2.1,()),())).bind fun r6=>cond (!r6.1) (some (false,())) ((Zag ((r3.1.1,r3.1.2.1,r3.1.2.2.1,()),())).bind fun r7=>cond (neI r7.1 0) (some (false,())) ((Zh_L11 (a,b,c,r3.1.1,r3.1.2.1,r3.1.2.2.1,e,r3.2.1,r3.2.2.1,d,0,())).bind (Sum.elim (fun z9=>some (z9.1,())) (Sum.elim (fun z10=>cond (eqI z10.2.1 z10.1) ((Zz ()).bind fun r11=>some (r11.1,())) (some (false,()))) (fun _=>none))))))))))
def Zh_c : Con:={ ins:=[(.rd,yQ7),(.rd,I),(.rd,I)],outs:=[(true,.bool)],fn:=Zh }
def Zh_C : Ctx:={ tab:=tab,con:=fun | 12,_=>some Zad_c | 13,_=>some Zz_c | 21,_=>some Zag_c | 22,_=>some Zbr_c | 26,_=>some Zx_c | 27,_=>some Zk_c | 28,_=>some Zam_c | 29,_=>some Zo_c | _,_=>none,glob:=glob,eqs:=eqs }
theorem Zh_R11 (x : Zh_H11.ty.den) : round Zh_C Zh_As Zh_A11 (loopBody 11 (bodyOf Tryd.f7)) x=Zh_B11 x:=by kernel_rfl
theorem Zh_eq (x : (tupTy [yQ7,I,I]).den) : callFn Zh_C Zh_As (bodyOf Tryd.f7) [(.rd,yQ7),(.rd,I),(.rd,I)] [(.tmp 6,true,.bool)] x=Zh x:=by kernel_rfl
end
end Go.Vm

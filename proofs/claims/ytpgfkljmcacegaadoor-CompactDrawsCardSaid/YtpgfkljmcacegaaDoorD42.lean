/-
 The functions that the law reaches, as functions on values, and the proofs that the machine computes them.
-/
import Derived.Test.YtpgfkljmcacegaaDoorVmA
import Derived.Test.YtpgfkljmcacegaaDoorProg
import Derived.KernelRfl
set_option linter.unusedVariables false
set_option linter.unusedSimpArgs false
namespace Go.Vm
open Go.Proofs
abbrev I : Ty:=.int .i64
abbrev yQ1 : Ty:=.prod I .unit
abbrev yQ2 : Ty:=.prod I yQ1
abbrev yQ3 : Ty:=.prod yQ2 .unit
abbrev yQ4 : Ty:=.prod yQ2 yQ3
abbrev yQ5 : Ty:=.slice (.slice I)
abbrev yQ6 : Ty:=.prod yQ5 .unit
abbrev yQ7 : Ty:=.prod (.slice yQ2) yQ6
abbrev yQ8 : Ty:=.prod I yQ7
abbrev yQ9 : Ty:=.prod (.slice .str) yQ1
abbrev yQ10 : Ty:=.prod (.slice I) yQ9
abbrev yQ11 : Ty:=.prod yQ8 yQ10
abbrev Q1:=List Int×Unit
abbrev Q2:=Int×Int×Unit
abbrev Q3:=Q2×Q2×Unit
abbrev Q4:=ByteArray×Unit
abbrev Q5:=List Int×Int×Unit
abbrev Q6:=(List (List Int))×Unit
abbrev Q7:=List Int×Int×Int×Unit
abbrev Q8:=List Int×Int×Int×Int×Unit
abbrev Q9:=Int×(List Q2)×(List (List Int))×Unit
abbrev Q10:=Q9×List Int×List ByteArray×Int×Unit
abbrev Q11:=(List Q2)×(List Q2)×Int×Int×Int×Unit
abbrev Q12:=List Int×(List (List Int))×Int×Int×Unit
abbrev Q13:=Int×(List Q2)×(List (List Int))×Int×Unit
abbrev Q14:=List Int×List Int×List Int×Int×Int×Unit
abbrev Q15:=(List (Q2×Bool))×(List Q2)×Int×Int×Unit
abbrev Q16:=List Int×List Int×(List Q2)×Int×Int×Unit
abbrev Q17:=(List (List Int))×List Int×List Bool×Int×Unit
abbrev Q18:=Int×(List Q2)×(List (List Int))×Int×Int×Unit
abbrev Q19:=List Int×List Bool×(List (List Int))×Int×Int×Unit
abbrev Q20:=Int×(List Q2)×(List (List Int))×List Int×Int×Unit
abbrev Q21:=Int×(List Q2)×(List (List Int))×List Int×Int×Int×Unit
abbrev Q22:=Int×(List Q2)×(List (List Int))×(List Q2)×Int×Int×Unit
abbrev Q23:=(List (List Int))×List Int×List Bool×List Int×Int×Int×Unit
abbrev Q24:=Int×(List Q2)×(List (List Int))×List Bool×List Int×Int×Unit
abbrev Q25:=Int×(List Q2)×(List (List Int))×List Bool×Int×Int×Int×Unit
abbrev Q26:=List Int×List Bool×(List (List Int))×List Int×Int×Int×Int×Unit
abbrev Q27:=Int×(List Q2)×(List (List Int))×List Int×Int×List Int×Int×Unit
abbrev Q28:=Int×(List Q2)×(List (List Int))×List Int×List Bool×Int×Int×Unit
abbrev Q29:=Int×(List Q2)×(List (List Int))×Int×(List (List Int))×Int×Int×Unit
abbrev Q30:=List Int×List Int×(List (List Int))×Int×Int×List Int×Int×Int×Unit
abbrev Q31:=Int×(List Q2)×(List (List Int))×List Int×List ByteArray×Int×Int×Unit
abbrev Q32:=Int×(List Q2)×(List (List Int))×List Bool×List Int×Int×Int×Int×Unit
abbrev Q33:=Int×(List Q2)×(List (List Int))×List Int×List Bool×Int×Int×Int×Unit
abbrev Q34:=Int×(List Q2)×(List (List Int))×List Int×List ByteArray×Int×List Int×Unit
abbrev Q35:=Int×(List Q2)×(List (List Int))×List Int×List ByteArray×Int×Int×Int×Unit
abbrev Q36:=Int×(List Q2)×(List (List Int))×List Int×List ByteArray×Int×(List Q2)×Unit
abbrev Q37:=Int×(List Q2)×(List (List Int))×List Bool×Int×(List (List Int))×Int×Int×Unit
abbrev Q38:=Int×(List Q2)×(List (List Int))×List Int×List ByteArray×Int×List Int×Int×Unit
abbrev Q39:=Int×(List Q2)×(List (List Int))×List Bool×List Int×Int×List Int×Int×Int×Unit
abbrev Q40:=Int×(List Q2)×(List (List Int))×List Int×List ByteArray×Int×Int×Int×Int×Unit
abbrev Q41:=Int×(List Q2)×(List (List Int))×List Int×List ByteArray×Int×List Int×Bool×Unit
abbrev Q42:=Int×(List Q2)×(List (List Int))×List Int×List ByteArray×Int×(List Q2)×Int×Unit
abbrev Q43:=Int×(List Q2)×(List (List Int))×List Int×List ByteArray×Int×List Int×List Int×Unit
abbrev Q44:=Int×(List Q2)×(List (List Int))×List Int×List ByteArray×Int×List Int×Int×Int×Unit
abbrev Q45:=Int×(List Q2)×(List (List Int))×List Int×List ByteArray×Int×List Int×(List Q2)×Unit
abbrev Q46:=Int×(List Q2)×(List (List Int))×List Int×List ByteArray×Int×List Int×Bool×Int×Unit
abbrev Q47:=Int×(List Q2)×(List (List Int))×List Int×List ByteArray×Int×(List Q2)×Int×Int×Unit
abbrev Q48:=Int×(List Q2)×(List (List Int))×List Int×List ByteArray×Int×(List (List Int))×Int×Unit
abbrev Q49:=Int×(List Q2)×(List (List Int))×List Int×List ByteArray×Int×List Int×List Int×Int×Unit
abbrev Q50:=Int×(List Q2)×(List (List Int))×List Int×List ByteArray×Int×Int×List Int×Int×Int×Unit
abbrev Q51:=Int×(List Q2)×(List (List Int))×List Int×List ByteArray×Int×List Int×(List Q2)×Int×Unit
abbrev Q52:=Int×(List Q2)×(List (List Int))×List Bool×List Int×Int×Int×Int×List Int×Int×Int×Unit
abbrev Q53:=Int×(List Q2)×(List (List Int))×List Int×List ByteArray×Int×(List (List Int))×Int×Int×Unit
abbrev Q54:=Int×(List Q2)×(List (List Int))×List Int×List ByteArray×Int×List Int×List Int×Int×Bool×Unit
abbrev Q55:=Int×(List Q2)×(List (List Int))×List Int×List ByteArray×Int×List Int×(List Q2)×Int×Int×Unit
abbrev Q56:=Int×(List Q2)×(List (List Int))×List Int×List ByteArray×Int×(List Q2)×(List Q2)×Int×Int×Unit
abbrev Q57:=Int×(List Q2)×(List (List Int))×List Int×List ByteArray×Int×Int×(List Q2)×(List (List Int))×Unit
abbrev Q58:=Int×(List Q2)×(List (List Int))×List Int×List ByteArray×Int×(List (List Int))×Int×Int×Int×Unit
abbrev Q59:=Int×(List Q2)×(List (List Int))×List Int×List ByteArray×Int×List Int×List Int×Int×Int×Int×Unit
abbrev Q60:=Int×(List Q2)×(List (List Int))×List Int×List ByteArray×Int×List Int×List Int×(List Q2)×Int×Unit
abbrev Q61:=Int×(List Q2)×(List (List Int))×List Int×List ByteArray×Int×List Int×Bool×Int×List Int×Int×Unit
abbrev Q62:=Int×(List Q2)×(List (List Int))×List Int×List ByteArray×Int×List Int×List Int×Int×Int×Bool×Unit
abbrev Q63:=Int×(List Q2)×(List (List Int))×List Int×List ByteArray×Int×(List (List Int))×Int×Int×Int×Int×Unit
abbrev Q64:=Int×(List Q2)×(List (List Int))×List Bool×Int×Int×(List (List Int))×Int×Int×List Int×Int×Int×Unit
abbrev Q65:=Int×(List Q2)×(List (List Int))×List Int×List ByteArray×Int×List Int×List Int×Int×Int×Bool×Int×Unit
abbrev Q66:=Int×(List Q2)×(List (List Int))×List Int×List ByteArray×Int×List Int×Int×(List (List Int))×Int×Int×Unit
abbrev Q67:=Int×(List Q2)×(List (List Int))×List Int×List ByteArray×Int×(List (List Int))×List Int×Int×Int×Int×Unit
abbrev Q68:=Int×(List Q2)×(List (List Int))×List Int×List ByteArray×Int×Int×(List Q2)×(List (List Int))×Int×Int×Unit
abbrev Q69:=Int×(List Q2)×(List (List Int))×List Int×List ByteArray×Int×List Int×List Int×List Int×Int×Int×Int×Unit
abbrev Q70:=Int×(List Q2)×(List (List Int))×List Int×List ByteArray×Int×List Int×List Int×Int×Int×Int×Int×Int×Unit
abbrev Q71:=Int×(List Q2)×(List (List Int))×List Int×List ByteArray×Int×List Int×List Int×Int×Bool×List Int×Int×Int×Unit
abbrev Q72:=Int×(List Q2)×(List (List Int))×List Int×List ByteArray×Int×(List (List Int))×Int×Int×Int×Int×List Int×Int×Int×Unit
abbrev Q73:=Int×(List Q2)×(List (List Int))×List Int×List ByteArray×Int×List Int×Int×(List (List Int))×Int×Int×List Int×Int×Int×Unit
abbrev Q74:=Int×(List Q2)×(List (List Int))×List Int×List ByteArray×Int×(List (List Int))×List Int×Int×Int×Int×List Int×Int×Int×Unit
abbrev Q75:=Int×(List Q2)×(List (List Int))×List Int×List ByteArray×Int×Int×Int×(List Q2)×(List Q2)×Int×Int×(List Q2)×Int×Int×Unit
abbrev Q76:=Int×(List Q2)×(List (List Int))×List Int×List ByteArray×Int×List Int×List Int×List Int×Int×Int×Int×List Int×Int×Int×Unit
noncomputable section
def tab : Tab:=[(2,I),(3,I),(4,.bool),(5,(.int .u8)),(6,(.int .u8)),(7,(.prod I (.prod I (.prod .bool (.prod (.int .u8) .unit))))),(8,(.prod I (.prod I (.prod .bool (.prod (.int .u8) .unit))))),(9,.str),(10,.str),(11,.str),(12,(.int .u64)),(13,(.prod .str (.prod (.int .u64) .unit))),(14,(.prod .str (.prod (.int .u64) .unit))),(21,(.int .i32)),(22,(.slice yQ2)),(23,yQ5),(24,yQ8),(25,yQ8),(26,(.slice I)),(27,(.slice .str)),(28,yQ11),(29,yQ11),(32,I),(36,(.slice yQ2)),(41,yQ2),(42,yQ2),(53,yQ2),(54,yQ2),(62,(.arr 2 I)),(63,(.arr 2 (.arr 2 I))),(66,yQ4),(67,yQ4),(71,(.slice .bool)),(77,yQ4),(78,yQ4),(84,(.slice (.int .u8))),(99,(.int .u32)),(100,(.int .u8)),(101,(.int .u8)),(104,(.int .i32)),(105,(.int .i32))]
def eqs : List Nat:=[42]
def maps : List (Nat×Ty×Ty):=[(64,yQ2,.bool)]
def glob : List (Nat×(Σ t : Ty,t.den)):=[(0,⟨(.arr 2 I),[16384,32768]⟩)]
set_option maxRecDepth 100000
def Zad_H4 : Shape:={ env:=[(1,.av (.ptr 1 0)),(3,.av (.val I))],objs:=[(1,.box [.val I,.val (.slice yQ2),.val yQ5,.val (.slice I),.val (.slice .str),.val I])] }
def Zad_E4 : List (Ex×Shape):=[(.ret,{ env:=[(2,.av (.val .bool))],objs:=[] }),(.exit 0,{ env:=[],objs:=[] })]
def Zad_B4 (x : Q31) : Option (Q31⊕((Bool×Unit)⊕(Unit⊕Empty))) :=
 let (a,b,c,d,e,f,g,_):=x; cond (ltI g (e.length : Nat)) ((getI e g).bind fun y1=>cond (gtI (y1.size : Nat) 70) (some (.inr (.inl (false,())))) (some (.inl (a,b,c,d,e,f,(addI .i64 g 1),())))) (some (.inr (.inr (.inl ()))))
def Zad_L4 : Q31→Option ((Bool×Unit)⊕(Unit⊕Empty)):=loopFix Zad_B4
def Zad_A4 : Ann:={ head:=Zad_H4,exits:=Zad_E4,fn:=Zad_L4 }
def Zad_As : Anns:=[(4,Zad_A4)]
def Zad (x : (Q10×Unit)) : Option (Bool×Unit) :=
 let (((a,b,c,_),d,e,f,_),_):=x; cond (gtI a 30) (some (false,())) (cond (gtI (b.length : Nat) 40) (some (false,())) (cond (gtI (c.length : Nat) 40) (some (false,())) (cond (gtI (d.length : Nat) 100) (some (false,())) (cond (gtI (e.length : Nat) 100) (some (false,())) ((Zad_L4 (a,b,c,d,e,f,0,())).bind (Sum.elim (fun z2=>some (z2.1,())) (Sum.elim (fun z3=>some (true,())) (fun _=>none))))))))
def Zad_c : Con:={ ins:=[(.rd,yQ11)],outs:=[(true,.bool)],fn:=Zad }
def Zad_C : Ctx:={ tab:=tab,con:=fun _ _=>none,glob:=glob,eqs:=eqs,maps:=maps }
theorem Zad_R4 (x : Zad_H4.ty.den) : round Zad_C Zad_As Zad_A4 (loopBody 4 (bodyOf Tryd.f8)) x=Zad_B4 x:=by kernel_rfl
theorem Zad_eq (x : (tupTy [yQ11]).den) : callFn Zad_C Zad_As (bodyOf Tryd.f8) [(.rd,yQ11)] [(.tmp 2,true,.bool)] x=Zad x:=by kernel_rfl
def Zr_As : Anns:=[]
def Zr (x : Unit) : Option (Q10×Unit) :=
 (makeL .str 8 8).bind fun m1=>some (((4,[(0,1,()),(1,2,()),(2,3,()),(3,0,())],[[0,7],[2,1],[4,3],[6,5]],()),[3,1,3,1,3,1,3,1],m1,1,()),())
def Zr_c : Con:={ ins:=[],outs:=[(true,yQ11)],fn:=Zr }
def Zr_C : Ctx:={ tab:=tab,con:=fun _ _=>none,glob:=glob,eqs:=eqs,maps:=maps }
theorem Zr_eq (x : (tupTy []).den) : callFn Zr_C Zr_As (bodyOf Tryd.f21) [] [(.cell 0 29,true,yQ11)] x=Zr x:=by kernel_rfl
def Zbr_As : Anns:=[]
def Zbr (x : (Q2×Int×Unit)) : Option (Int×Unit) :=
 cond (eqI x.2.1 0) (some (x.1.1,())) (some (x.1.2.1,()))
def Zbr_c : Con:={ ins:=[(.rd,yQ2),(.rd,I)],outs:=[(true,I)],fn:=Zbr }
def Zbr_C : Ctx:={ tab:=tab,con:=fun _ _=>none,glob:=glob,eqs:=eqs,maps:=maps }
theorem Zbr_eq (x : (tupTy [yQ2,I]).den) : callFn Zbr_C Zbr_As (bodyOf Tryd.f51) [(.rd,yQ2),(.rd,I)] [(.tmp 4,true,I)] x=Zbr x:=by kernel_rfl
def Zbh_H15 : Shape:={ env:=[(1,.av (.ptr 1 0)),(5,.av (.own 5)),(6,.av (.val I)),(7,.av (.val I)),(80,.av (.val yQ5)),(81,.av (.val I)),(82,.av (.val I)),(87,.av (.val (.slice I))),(88,.av (.val I)),(89,.av (.val I))],objs:=[(1,.box [.val I,.val (.slice yQ2),.val yQ5]),(5,.arr .bool)] }
def Zbh_E15 : List (Ex×Shape):=[(.ret,{ env:=[(2,.av (.val .bool))],objs:=[] }),(.exit 4,{ env:=[(1,.av (.ptr 1 0)),(5,.av (.own 5)),(6,.av (.val I)),(80,.av (.val yQ5)),(81,.av (.val I)),(82,.av (.val I))],objs:=[(1,.box [.val I,.val (.slice yQ2),.val yQ5]),(5,.arr .bool)] })]
def Zbh_B15 (x : Q64) : Option (Q64⊕((Bool×Unit)⊕(Q37⊕Empty))) :=
 let (a,b,c,d,e,f,g,h,i,k,l,m,_):=x; cond (ltI m l) ((getI k m).bind fun y1=>cond (ltI y1 0) (some (.inr (.inl (false,())))) (cond (geI y1 (d.length : Nat)) (some (.inr (.inl (false,())))) ((idxI d.length y1).bind fun j2=>(d[j2]?).bind fun y3=>cond y3 (some (.inr (.inl (false,())))) ((getI b (quoI .i64 y1 2)).bind fun y4=>(Zbr (y4,(remI y1 2),())).bind fun r5=>cond (neI r5.1 f) (some (.inr (.inl (false,())))) ((idxI d.length y1).bind fun j6=>(d[j6]?).bind fun y7=>some (.inl (a,b,c,(d.set j6 true),(addI .i64 e 1),f,g,h,i,k,l,(addI .i64 m 1),()))))))) (some (.inr (.inr (.inl (a,b,c,d,e,g,h,i,())))))
def Zbh_L15 : Q64→Option ((Bool×Unit)⊕(Q37⊕Empty)):=loopFix Zbh_B15
def Zbh_A15 : Ann:={ head:=Zbh_H15,exits:=Zbh_E15,fn:=Zbh_L15 }
def Zbh_H12 : Shape:={ env:=[(1,.av (.ptr 1 0)),(5,.av (.own 5)),(6,.av (.val I)),(80,.av (.val yQ5)),(81,.av (.val I)),(82,.av (.val I))],objs:=[(1,.box [.val I,.val (.slice yQ2),.val yQ5]),(5,.arr .bool)] }
def Zbh_E12 : List (Ex×Shape):=[(.ret,{ env:=[(2,.av (.val .bool))],objs:=[] }),(.exit 2,{ env:=[(5,.av (.own 5)),(6,.av (.val I))],objs:=[(5,.arr .bool)] })]
def Zbh_B12 (x : Q37) : Option (Q37⊕((Bool×Unit)⊕((List Bool×Int×Unit)⊕Empty))) :=
 let (a,b,c,d,e,f,g,h,_):=x; cond (ltI h g) ((getI f h).bind fun y1=>(Zbh_L15 (a,b,c,d,e,h,f,g,h,y1,(y1.length : Nat),0,())).bind (Sum.elim (fun z3=>some (.inr (.inl (z3.1,())))) (Sum.elim (fun (a_4,b_4,c_4,d_4,e_4,f_4,g_4,h_4,_)=>some (.inl (a_4,b_4,c_4,d_4,e_4,f_4,g_4,(addI .i64 h_4 1),()))) (fun _=>none)))) (some (.inr (.inr (.inl (d,e,())))))
def Zbh_L12 : Q37→Option ((Bool×Unit)⊕((List Bool×Int×Unit)⊕Empty)):=loopFix Zbh_B12
def Zbh_A12 : Ann:={ head:=Zbh_H12,exits:=Zbh_E12,fn:=Zbh_L12 }
def Zbh_H4 : Shape:={ env:=[(1,.av (.ptr 1 0)),(38,.av (.val (.slice yQ2))),(39,.av (.val I)),(40,.av (.val I))],objs:=[(1,.box [.val I,.val (.slice yQ2),.val yQ5])] }
def Zbh_E4 : List (Ex×Shape):=[(.ret,{ env:=[(2,.av (.val .bool))],objs:=[] }),(.exit 0,{ env:=[(1,.av (.ptr 1 0))],objs:=[(1,.box [.val I,.val (.slice yQ2),.val yQ5])] })]
def Zbh_B4 (x : Q22) : Option (Q22⊕((Bool×Unit)⊕(Q9⊕Empty))) :=
 let (a,b,c,d,e,f,_):=x; cond (ltI f e) ((getI d f).bind fun y1=>cond (ltI y1.1 0) (some (.inr (.inl (false,())))) (cond (geI y1.1 a) (some (.inr (.inl (false,())))) (cond (ltI y1.2.1 0) (some (.inr (.inl (false,())))) (cond (geI y1.2.1 a) (some (.inr (.inl (false,())))) (cond (eqI y1.1 y1.2.1) (some (.inr (.inl (false,())))) (some (.inl (a,b,c,d,e,(addI .i64 f 1),())))))))) (some (.inr (.inr (.inl (a,b,c,())))))
def Zbh_L4 : Q22→Option ((Bool×Unit)⊕(Q9⊕Empty)):=loopFix Zbh_B4
def Zbh_A4 : Ann:={ head:=Zbh_H4,exits:=Zbh_E4,fn:=Zbh_L4 }
def Zbh_As : Anns:=[(4,Zbh_A4),(12,Zbh_A12),(15,Zbh_A15)]
def Zbh (x : (Q9×Unit)) : Option (Bool×Unit) :=
 let ((a,b,c,_),_):=x; cond (ltI a 0) (some (false,())) ((getI [16384,32768] 0).bind fun y1=>cond (gtI a y1) (some (false,())) ((getI [16384,32768] 1).bind fun y2=>cond (gtI (b.length : Nat) y2) (some (false,())) (cond (neI (c.length : Nat) a) (some (false,())) ((Zbh_L4 (a,b,c,b,(b.length : Nat),0,())).bind (Sum.elim (fun z4=>some (z4.1,())) (Sum.elim (fun (a_5,b_5,c_5,_)=>(makeL .bool (mulI .i64 2 (b_5.length : Nat)) (mulI .i64 2 (b_5.length : Nat))).bind fun m6=>(Zbh_L12 (a_5,b_5,c_5,m6,0,c_5,(c_5.length : Nat),0,())).bind (Sum.elim (fun z8=>some (z8.1,())) (Sum.elim (fun z9=>some ((eqI z9.2.1 (z9.1.length : Nat)),())) (fun _=>none)))) (fun _=>none)))))))
def Zbh_c : Con:={ ins:=[(.rd,yQ8)],outs:=[(true,.bool)],fn:=Zbh }
def Zbh_C : Ctx:={ tab:=tab,con:=fun | 51,_=>some Zbr_c | _,_=>none,glob:=glob,eqs:=eqs,maps:=maps }
theorem Zbh_R15 (x : Zbh_H15.ty.den) : round Zbh_C Zbh_As Zbh_A15 (loopBody 15 (bodyOf Tryd.f50)) x=Zbh_B15 x:=by kernel_rfl
theorem Zbh_R12 (x : Zbh_H12.ty.den) : round Zbh_C Zbh_As Zbh_A12 (loopBody 12 (bodyOf Tryd.f50)) x=Zbh_B12 x:=by kernel_rfl
theorem Zbh_R4 (x : Zbh_H4.ty.den) : round Zbh_C Zbh_As Zbh_A4 (loopBody 4 (bodyOf Tryd.f50)) x=Zbh_B4 x:=by kernel_rfl
theorem Zbh_eq (x : (tupTy [yQ8]).den) : callFn Zbh_C Zbh_As (bodyOf Tryd.f50) [(.rd,yQ8)] [(.tmp 2,true,.bool)] x=Zbh x:=by kernel_rfl
def Zbm_As : Anns:=[]
def Zbm (x : (Q9×Int×Unit)) : Option (Int×Unit) :=
 let ((a,b,c,_),d,_):=x; (Zbh ((a,b,c,()),())).bind fun r1=>cond (!r1.1) (some ((-1),())) (cond (ltI d 0) (some ((-1),())) (cond (geI d (mulI .i64 2 (b.length : Nat))) (some ((-1),())) ((getI b (quoI .i64 d 2)).bind fun y2=>(Zbr (y2,(remI d 2),())).bind fun r3=>some (r3.1,()))))
def Zbm_c : Con:={ ins:=[(.rd,yQ8),(.rd,I)],outs:=[(true,I)],fn:=Zbm }
def Zbm_C : Ctx:={ tab:=tab,con:=fun | 50,_=>some Zbh_c | 51,_=>some Zbr_c | _,_=>none,glob:=glob,eqs:=eqs,maps:=maps }
theorem Zbm_eq (x : (tupTy [yQ8,I]).den) : callFn Zbm_C Zbm_As (bodyOf Tryd.f31) [(.rd,yQ8),(.rd,I)] [(.tmp 4,true,I)] x=Zbm x:=by kernel_rfl
def Zbf_H11 : Shape:={ env:=[(1,.av (.ptr 1 0)),(3,.av (.own 3)),(4,.av (.own 4)),(5,.av (.val I)),(39,.av (.val (.slice I))),(40,.av (.val I)),(41,.av (.val I))],objs:=[(1,.box [.val I,.val (.slice yQ2),.val yQ5]),(3,.arr .bool),(4,.arr I)] }
def Zbf_E11 : List (Ex×Shape):=[(.exit 2,{ env:=[(1,.av (.ptr 1 0)),(3,.av (.own 3)),(4,.av (.own 4)),(5,.av (.val I))],objs:=[(1,.box [.val I,.val (.slice yQ2),.val yQ5]),(3,.arr .bool),(4,.arr I)] })]
def Zbf_B11 (x : Q39) : Option (Q39⊕(Q24⊕Empty)) :=
 let (a,b,c,d,e,f,g,h,i,_):=x; cond (ltI i h) ((getI g i).bind fun y1=>(Zbm ((a,b,c,()),(xorI .i64 y1 1),())).bind fun r2=>(idxI d.length r2.1).bind fun j3=>(d[j3]?).bind fun y4=>cond (!y4) ((idxI d.length r2.1).bind fun j5=>(d[j5]?).bind fun y6=>(app e [r2.1]).bind fun a7=>some (.inl (a,b,c,(d.set j5 true),a7,f,g,h,(addI .i64 i 1),()))) (some (.inl (a,b,c,d,e,f,g,h,(addI .i64 i 1),())))) (some (.inr (.inl (a,b,c,d,e,f,()))))
def Zbf_L11 : Q39→Option (Q24⊕Empty):=loopFix Zbf_B11
def Zbf_A11 : Ann:={ head:=Zbf_H11,exits:=Zbf_E11,fn:=Zbf_L11 }
def Zbf_H6 : Shape:={ env:=[(1,.av (.ptr 1 0)),(3,.av (.own 3)),(4,.av (.own 4)),(5,.av (.val I))],objs:=[(1,.box [.val I,.val (.slice yQ2),.val yQ5]),(3,.arr .bool),(4,.arr I)] }
def Zbf_E6 : List (Ex×Shape):=[(.exit 0,{ env:=[(1,.av (.ptr 1 0)),(5,.av (.val I))],objs:=[(1,.box [.val I,.val (.slice yQ2),.val yQ5])] })]
def Zbf_B6 (x : Q24) : Option (Q24⊕(Q13⊕Empty)) :=
 let (a,b,c,d,e,f,_):=x; cond (gtI (e.length : Nat) 0) ((idxI e.length (subI .i64 (e.length : Nat) 1)).bind fun j1=>(e[j1]?).bind fun y2=>(viewB e.length 0 (subI .i64 (e.length : Nat) 1)).bind fun v3=>(getI c y2).bind fun y4=>(Zbf_L11 (a,b,c,d,((e.drop v3.1).take v3.2),(addI .i64 f 1),y4,(y4.length : Nat),0,())).bind (Sum.elim (fun (a_6,b_6,c_6,d_6,e_6,f_6,_)=>some (.inl (a_6,b_6,c_6,d_6,e_6,f_6,()))) (fun _=>none))) (some (.inr (.inl (a,b,c,f,()))))
def Zbf_L6 : Q24→Option (Q13⊕Empty):=loopFix Zbf_B6
def Zbf_A6 : Ann:={ head:=Zbf_H6,exits:=Zbf_E6,fn:=Zbf_L6 }
def Zbf_As : Anns:=[(6,Zbf_A6),(11,Zbf_A11)]
def Zbf (x : (Q9×Unit)) : Option (Bool×Unit) :=
 let ((a,b,c,_),_):=x; cond (eqI a 0) (some (false,())) ((makeL .bool a a).bind fun m1=>(idxI m1.length 0).bind fun j2=>(m1[j2]?).bind fun y3=>(Zbf_L6 (a,b,c,(m1.set j2 true),[0],0,())).bind (Sum.elim (fun z5=>some ((eqI z5.2.2.2.1 z5.1),())) (fun _=>none)))
def Zbf_c : Con:={ ins:=[(.rd,yQ8)],outs:=[(true,.bool)],fn:=Zbf }
def Zbf_C : Ctx:={ tab:=tab,con:=fun | 31,_=>some Zbm_c | _,_=>none,glob:=glob,eqs:=eqs,maps:=maps }
theorem Zbf_R11 (x : Zbf_H11.ty.den) : round Zbf_C Zbf_As Zbf_A11 (loopBody 11 (bodyOf Tryd.f74)) x=Zbf_B11 x:=by kernel_rfl
theorem Zbf_R6 (x : Zbf_H6.ty.den) : round Zbf_C Zbf_As Zbf_A6 (loopBody 6 (bodyOf Tryd.f74)) x=Zbf_B6 x:=by kernel_rfl
theorem Zbf_eq (x : (tupTy [yQ8]).den) : callFn Zbf_C Zbf_As (bodyOf Tryd.f74) [(.rd,yQ8)] [(.tmp 2,true,.bool)] x=Zbf x:=by kernel_rfl
def Zbc_H6 : Shape:={ env:=[(3,.av (.own 3)),(5,.av (.val (.slice I))),(14,.av (.val yQ5)),(15,.av (.val I)),(16,.av (.val I)),(20,.av (.val (.slice I))),(21,.av (.val I)),(22,.av (.val I))],objs:=[(3,.arr I)] }
def Zbc_E6 : List (Ex×Shape):=[(.exit 2,{ env:=[(3,.av (.own 3)),(14,.av (.val yQ5)),(15,.av (.val I)),(16,.av (.val I))],objs:=[(3,.arr I)] })]
def Zbc_B6 (x : Q30) : Option (Q30⊕(Q12⊕Empty)) :=
 let (a,b,c,d,e,f,g,h,_):=x; cond (ltI h g) ((getI f h).bind fun y1=>cond (eqI (b.length : Nat) 0) none ((getI b (remI (addI .i64 h 1) (b.length : Nat))).bind fun y2=>(idxI a.length (xorI .i64 y1 1)).bind fun j3=>(a[j3]?).bind fun y4=>some (.inl ((a.set j3 y2),b,c,d,e,f,g,(addI .i64 h 1),())))) (some (.inr (.inl (a,c,d,e,()))))
def Zbc_L6 : Q30→Option (Q12⊕Empty):=loopFix Zbc_B6
def Zbc_A6 : Ann:={ head:=Zbc_H6,exits:=Zbc_E6,fn:=Zbc_L6 }
def Zbc_H3 : Shape:={ env:=[(3,.av (.own 3)),(14,.av (.val yQ5)),(15,.av (.val I)),(16,.av (.val I))],objs:=[(3,.arr I)] }
def Zbc_E3 : List (Ex×Shape):=[(.exit 0,{ env:=[(3,.av (.own 3))],objs:=[(3,.arr I)] })]
def Zbc_B3 (x : Q12) : Option (Q12⊕(Q1⊕Empty)) :=
 let (a,b,c,d,_):=x; cond (ltI d c) ((getI b d).bind fun y1=>(Zbc_L6 (a,y1,b,c,d,y1,(y1.length : Nat),0,())).bind (Sum.elim (fun z3=>some (.inl (z3.1,z3.2.1,z3.2.2.1,(addI .i64 z3.2.2.2.1 1),()))) (fun _=>none))) (some (.inr (.inl (a,()))))
def Zbc_L3 : Q12→Option (Q1⊕Empty):=loopFix Zbc_B3
def Zbc_A3 : Ann:={ head:=Zbc_H3,exits:=Zbc_E3,fn:=Zbc_L3 }
def Zbc_As : Anns:=[(3,Zbc_A3),(6,Zbc_A6)]
def Zbc (x : (Q9×Unit)) : Option Q1 :=
 let ((_,a,b,_),_):=x; (makeL I (mulI .i64 2 (a.length : Nat)) (mulI .i64 2 (a.length : Nat))).bind fun m1=>(Zbc_L3 (m1,b,(b.length : Nat),0,())).bind (Sum.elim (fun z3=>some (z3.1,())) (fun _=>none))
def Zbc_c : Con:={ ins:=[(.rd,yQ8)],outs:=[(true,(.slice I))],fn:=Zbc }
def Zbc_C : Ctx:={ tab:=tab,con:=fun _ _=>none,glob:=glob,eqs:=eqs,maps:=maps }
theorem Zbc_R6 (x : Zbc_H6.ty.den) : round Zbc_C Zbc_As Zbc_A6 (loopBody 6 (bodyOf Tryd.f65)) x=Zbc_B6 x:=by kernel_rfl
theorem Zbc_R3 (x : Zbc_H3.ty.den) : round Zbc_C Zbc_As Zbc_A3 (loopBody 3 (bodyOf Tryd.f65)) x=Zbc_B3 x:=by kernel_rfl
theorem Zbc_eq (x : (tupTy [yQ8]).den) : callFn Zbc_C Zbc_As (bodyOf Tryd.f65) [(.rd,yQ8)] [(.tmp 2,true,(.slice I))] x=Zbc x:=by kernel_rfl
def Zbi_H11 : Shape:={ env:=[(3,.av (.own 3)),(4,.av (.own 4)),(5,.av (.own 5)),(7,.av (.own 7)),(8,.av (.val I)),(18,.av (.val I)),(19,.av (.val I))],objs:=[(3,.arr I),(4,.arr .bool),(5,.arr (.slice I)),(7,.arr I)] }
def Zbi_E11 : List (Ex×Shape):=[(.exit 2,{ env:=[(3,.av (.own 3)),(4,.av (.own 4)),(5,.av (.own 5)),(7,.av (.own 7)),(18,.av (.val I)),(19,.av (.val I))],objs:=[(3,.arr I),(4,.arr .bool),(5,.arr (.slice I)),(7,.arr I)] })]
def Zbi_B11 (x : Q26) : Option (Q26⊕((List Int×List Bool×(List (List Int))×List Int×Int×Int×Unit)⊕Empty)) :=
 let (a,b,c,d,e,f,g,_):=x; (idxI b.length e).bind fun j1=>(b[j1]?).bind fun y2=>cond (!y2) ((idxI b.length e).bind fun j3=>(b[j3]?).bind fun y4=>(app d [e]).bind fun a5=>(idxI a.length e).bind fun j6=>(a[j6]?).bind fun y7=>some (.inl (a,(b.set j3 true),c,a5,y7,f,g,()))) (some (.inr (.inl (a,b,c,d,f,g,()))))
def Zbi_L11 : Q26→Option ((List Int×List Bool×(List (List Int))×List Int×Int×Int×Unit)⊕Empty):=loopFix Zbi_B11
def Zbi_A11 : Ann:={ head:=Zbi_H11,exits:=Zbi_E11,fn:=Zbi_L11 }
def Zbi_H7 : Shape:={ env:=[(3,.av (.own 3)),(4,.av (.own 4)),(5,.av (.own 5)),(18,.av (.val I)),(19,.av (.val I))],objs:=[(3,.arr I),(4,.arr .bool),(5,.arr (.slice I))] }
def Zbi_E7 : List (Ex×Shape):=[(.exit 0,{ env:=[(5,.av (.own 5))],objs:=[(5,.arr (.slice I))] })]
def Zbi_B7 (x : Q19) : Option (Q19⊕(Q6⊕Empty)) :=
 let (a,b,c,d,e,_):=x; cond (ltI e d) ((Zbi_L11 (a,b,c,[],e,d,e,())).bind (Sum.elim (fun (a_2,b_2,c_2,d_2,e_2,f_2,_)=>cond (gtI (d_2.length : Nat) 0) ((app c_2 [d_2]).bind fun a3=>some (.inl (a_2,b_2,a3,e_2,(addI .i64 f_2 1),()))) (some (.inl (a_2,b_2,c_2,e_2,(addI .i64 f_2 1),())))) (fun _=>none))) (some (.inr (.inl (c,()))))
def Zbi_L7 : Q19→Option (Q6⊕Empty):=loopFix Zbi_B7
def Zbi_A7 : Ann:={ head:=Zbi_H7,exits:=Zbi_E7,fn:=Zbi_L7 }
def Zbi_As : Anns:=[(7,Zbi_A7),(11,Zbi_A11)]
def Zbi (x : (Q9×Unit)) : Option Q6 :=
 let ((a,b,c,_),_):=x; (Zbh ((a,b,c,()),())).bind fun r1=>cond (!r1.1) (some ([],())) ((Zbc ((a,b,c,()),())).bind fun r2=>(makeL .bool (r2.1.length : Nat) (r2.1.length : Nat)).bind fun m3=>(Zbi_L7 (r2.1,m3,[],(r2.1.length : Nat),0,())).bind (Sum.elim (fun z5=>some (z5.1,())) (fun _=>none)))
def Zbi_c : Con:={ ins:=[(.rd,yQ8)],outs:=[(true,yQ5)],fn:=Zbi }
def Zbi_C : Ctx:={ tab:=tab,con:=fun | 50,_=>some Zbh_c | 65,_=>some Zbc_c | _,_=>none,glob:=glob,eqs:=eqs,maps:=maps }
theorem Zbi_R11 (x : Zbi_H11.ty.den) : round Zbi_C Zbi_As Zbi_A11 (loopBody 11 (bodyOf Tryd.f48)) x=Zbi_B11 x:=by kernel_rfl
theorem Zbi_R7 (x : Zbi_H7.ty.den) : round Zbi_C Zbi_As Zbi_A7 (loopBody 7 (bodyOf Tryd.f48)) x=Zbi_B7 x:=by kernel_rfl
theorem Zbi_eq (x : (tupTy [yQ8]).den) : callFn Zbi_C Zbi_As (bodyOf Tryd.f48) [(.rd,yQ8)] [(.tmp 2,true,yQ5)] x=Zbi x:=by kernel_rfl
def Zn_H13 : Shape:={ env:=[(1,.av (.ptr 1 0)),(3,.av (.own 3)),(4,.av (.val I)),(6,.av (.own 6)),(14,.av (.val I)),(15,.av (.val I)),(40,.av (.val (.slice I))),(41,.av (.val I)),(42,.av (.val I))],objs:=[(1,.box [.val I,.val (.slice yQ2),.val yQ5]),(3,.arr .bool),(6,.arr I)] }
def Zn_E13 : List (Ex×Shape):=[(.exit 4,{ env:=[(1,.av (.ptr 1 0)),(3,.av (.own 3)),(4,.av (.val I)),(6,.av (.own 6)),(14,.av (.val I)),(15,.av (.val I))],objs:=[(1,.box [.val I,.val (.slice yQ2),.val yQ5]),(3,.arr .bool),(6,.arr I)] })]
def Zn_B13 (x : Q52) : Option (Q52⊕(Q32⊕Empty)) :=
 let (a,b,c,d,e,f,g,h,i,k,l,_):=x; cond (ltI l k) ((getI i l).bind fun y1=>(getI b (quoI .i64 y1 2)).bind fun y2=>(Zbr (y2,(xorI .i64 (remI y1 2) 1),())).bind fun r3=>(idxI d.length r3.1).bind fun j4=>(d[j4]?).bind fun y5=>cond (!y5) ((idxI d.length r3.1).bind fun j6=>(d[j6]?).bind fun y7=>(app e [r3.1]).bind fun a8=>some (.inl (a,b,c,(d.set j6 true),a8,f,g,h,i,k,(addI .i64 l 1),()))) (some (.inl (a,b,c,d,e,f,g,h,i,k,(addI .i64 l 1),())))) (some (.inr (.inl (a,b,c,d,e,f,g,h,()))))
def Zn_L13 : Q52→Option (Q32⊕Empty):=loopFix Zn_B13
def Zn_A13 : Ann:={ head:=Zn_H13,exits:=Zn_E13,fn:=Zn_L13 }
def Zn_H10 : Shape:={ env:=[(1,.av (.ptr 1 0)),(3,.av (.own 3)),(4,.av (.val I)),(6,.av (.own 6)),(14,.av (.val I)),(15,.av (.val I))],objs:=[(1,.box [.val I,.val (.slice yQ2),.val yQ5]),(3,.arr .bool),(6,.arr I)] }
def Zn_E10 : List (Ex×Shape):=[(.exit 2,{ env:=[(1,.av (.ptr 1 0)),(3,.av (.own 3)),(4,.av (.val I)),(14,.av (.val I)),(15,.av (.val I))],objs:=[(1,.box [.val I,.val (.slice yQ2),.val yQ5]),(3,.arr .bool)] })]
def Zn_B10 (x : Q32) : Option (Q32⊕(Q25⊕Empty)) :=
 let (a,b,c,d,e,f,g,h,_):=x; cond (gtI (e.length : Nat) 0) ((idxI e.length 0).bind fun j1=>(e[j1]?).bind fun y2=>(getI c y2).bind fun y3=>(Zn_L13 (a,b,c,d,e,f,g,h,y3,(y3.length : Nat),0,())).bind (Sum.elim (fun (a_5,b_5,c_5,d_5,e_5,f_5,g_5,h_5,_)=>(viewB e_5.length 1 (e_5.length : Nat)).bind fun v6=>some (.inl (a_5,b_5,c_5,d_5,((e_5.drop v6.1).take v6.2),f_5,g_5,h_5,()))) (fun _=>none))) (some (.inr (.inl (a,b,c,d,f,g,h,()))))
def Zn_L10 : Q32→Option (Q25⊕Empty):=loopFix Zn_B10
def Zn_A10 : Ann:={ head:=Zn_H10,exits:=Zn_E10,fn:=Zn_L10 }
def Zn_H4 : Shape:={ env:=[(1,.av (.ptr 1 0)),(3,.av (.own 3)),(4,.av (.val I)),(14,.av (.val I)),(15,.av (.val I))],objs:=[(1,.box [.val I,.val (.slice yQ2),.val yQ5]),(3,.arr .bool)] }
def Zn_E4 : List (Ex×Shape):=[(.exit 0,{ env:=[(4,.av (.val I))],objs:=[] })]
def Zn_B4 (x : Q25) : Option (Q25⊕((Int×Unit)⊕Empty)) :=
 let (a,b,c,d,e,f,g,_):=x; cond (ltI g f) ((idxI d.length g).bind fun j1=>(d[j1]?).bind fun y2=>cond y2 (some (.inl (a,b,c,d,e,f,(addI .i64 g 1),()))) ((idxI d.length g).bind fun j3=>(d[j3]?).bind fun y4=>(Zn_L10 (a,b,c,(d.set j3 true),[g],(addI .i64 e 1),f,g,())).bind (Sum.elim (fun (a_6,b_6,c_6,d_6,e_6,f_6,g_6,_)=>some (.inl (a_6,b_6,c_6,d_6,e_6,f_6,(addI .i64 g_6 1),()))) (fun _=>none)))) (some (.inr (.inl (e,()))))
def Zn_L4 : Q25→Option ((Int×Unit)⊕Empty):=loopFix Zn_B4
def Zn_A4 : Ann:={ head:=Zn_H4,exits:=Zn_E4,fn:=Zn_L4 }
def Zn_As : Anns:=[(4,Zn_A4),(10,Zn_A10),(13,Zn_A13)]
def Zn (x : (Q9×Unit)) : Option (Int×Unit) :=
 let ((a,b,c,_),_):=x; (makeL .bool a a).bind fun m1=>(Zn_L4 (a,b,c,m1,0,a,0,())).bind (Sum.elim (fun z3=>some (z3.1,())) (fun _=>none))
def Zn_c : Con:={ ins:=[(.rd,yQ8)],outs:=[(true,I)],fn:=Zn }
def Zn_C : Ctx:={ tab:=tab,con:=fun | 51,_=>some Zbr_c | _,_=>none,glob:=glob,eqs:=eqs,maps:=maps }
theorem Zn_R13 (x : Zn_H13.ty.den) : round Zn_C Zn_As Zn_A13 (loopBody 13 (bodyOf Tryd.f84)) x=Zn_B13 x:=by kernel_rfl
theorem Zn_R10 (x : Zn_H10.ty.den) : round Zn_C Zn_As Zn_A10 (loopBody 10 (bodyOf Tryd.f84)) x=Zn_B10 x:=by kernel_rfl
theorem Zn_R4 (x : Zn_H4.ty.den) : round Zn_C Zn_As Zn_A4 (loopBody 4 (bodyOf Tryd.f84)) x=Zn_B4 x:=by kernel_rfl
theorem Zn_eq (x : (tupTy [yQ8]).den) : callFn Zn_C Zn_As (bodyOf Tryd.f84) [(.rd,yQ8)] [(.tmp 2,true,I)] x=Zn x:=by kernel_rfl
def Zbg_H5 : Shape:={ env:=[(1,.av (.ptr 1 0)),(3,.av (.val I)),(13,.av (.val yQ5)),(14,.av (.val I)),(15,.av (.val I))],objs:=[(1,.box [.val I,.val (.slice yQ2),.val yQ5])] }
def Zbg_E5 : List (Ex×Shape):=[(.exit 0,{ env:=[(1,.av (.ptr 1 0)),(3,.av (.val I))],objs:=[(1,.box [.val I,.val (.slice yQ2),.val yQ5])] })]
def Zbg_B5 (x : Q29) : Option (Q29⊕(Q13⊕Empty)) :=
 let (a,b,c,d,e,f,g,_):=x; cond (ltI g f) ((getI e g).bind fun y1=>cond (eqI (y1.length : Nat) 0) (some (.inl (a,b,c,(addI .i64 d 1),e,f,(addI .i64 g 1),()))) (some (.inl (a,b,c,d,e,f,(addI .i64 g 1),())))) (some (.inr (.inl (a,b,c,d,()))))
def Zbg_L5 : Q29→Option (Q13⊕Empty):=loopFix Zbg_B5
def Zbg_A5 : Ann:={ head:=Zbg_H5,exits:=Zbg_E5,fn:=Zbg_L5 }
def Zbg_As : Anns:=[(5,Zbg_A5)]
def Zbg (x : (Q9×Unit)) : Option (Int×Unit) :=
 let ((a,b,c,_),_):=x; (Zbh ((a,b,c,()),())).bind fun r1=>cond (!r1.1) (some ((-1),())) ((Zbi ((a,b,c,()),())).bind fun r2=>(Zbg_L5 (a,b,c,(r2.1.length : Nat),c,(c.length : Nat),0,())).bind (Sum.elim (fun z4=>(Zn ((z4.1,z4.2.1,z4.2.2.1,()),())).bind fun r5=>some ((subI .i64 r5.1 (quoI .i64 (addI .i64 (subI .i64 z4.1 (z4.2.1.length : Nat)) z4.2.2.2.1) 2)),())) (fun _=>none)))
def Zbg_c : Con:={ ins:=[(.rd,yQ8)],outs:=[(true,I)],fn:=Zbg }
def Zbg_C : Ctx:={ tab:=tab,con:=fun | 48,_=>some Zbi_c | 50,_=>some Zbh_c | 84,_=>some Zn_c | _,_=>none,glob:=glob,eqs:=eqs,maps:=maps }
theorem Zbg_R5 (x : Zbg_H5.ty.den) : round Zbg_C Zbg_As Zbg_A5 (loopBody 5 (bodyOf Tryd.f75)) x=Zbg_B5 x:=by kernel_rfl
theorem Zbg_eq (x : (tupTy [yQ8]).den) : callFn Zbg_C Zbg_As (bodyOf Tryd.f75) [(.rd,yQ8)] [(.tmp 2,true,I)] x=Zbg x:=by kernel_rfl
def Zbv_H6 : Shape:={ env:=[(1,.av (.ptr 1 0)),(4,.av (.val (.slice I))),(5,.av (.val I)),(10,.av (.val yQ5)),(11,.av (.val I)),(12,.av (.val I)),(16,.av (.val (.slice I))),(17,.av (.val I)),(18,.av (.val I))],objs:=[(1,.box [.val I,.val (.slice yQ2),.val yQ5,.val (.slice I),.val (.slice .str),.val I])] }
def Zbv_E6 : List (Ex×Shape):=[(.ret,{ env:=[(2,.av (.val .bool))],objs:=[] }),(.exit 2,{ env:=[(1,.av (.ptr 1 0)),(4,.av (.val (.slice I))),(5,.av (.val I)),(10,.av (.val yQ5)),(11,.av (.val I)),(12,.av (.val I))],objs:=[(1,.box [.val I,.val (.slice yQ2),.val yQ5,.val (.slice I),.val (.slice .str),.val I])] })]
def Zbv_B6 (x : Q73) : Option (Q73⊕((Bool×Unit)⊕(Q66⊕Empty))) :=
 let (a,b,c,d,e,f,g,h,i,k,l,m,n,o,_):=x; cond (ltI o n) ((getI m o).bind fun y1=>(getI d y1).bind fun y2=>cond (ltI y2 1) (some (.inr (.inl (false,())))) ((getI d y1).bind fun y3=>cond (gtI y3 4) (some (.inr (.inl (false,())))) ((getI d y1).bind fun y4=>some (.inl (a,b,c,d,e,f,g,(addI .i64 h y4),i,k,l,m,n,(addI .i64 o 1),()))))) (some (.inr (.inr (.inl (a,b,c,d,e,f,g,h,i,k,l,())))))
def Zbv_L6 : Q73→Option ((Bool×Unit)⊕(Q66⊕Empty)):=loopFix Zbv_B6
def Zbv_A6 : Ann:={ head:=Zbv_H6,exits:=Zbv_E6,fn:=Zbv_L6 }
def Zbv_H2 : Shape:={ env:=[(1,.av (.ptr 1 0)),(10,.av (.val yQ5)),(11,.av (.val I)),(12,.av (.val I))],objs:=[(1,.box [.val I,.val (.slice yQ2),.val yQ5,.val (.slice I),.val (.slice .str),.val I])] }
def Zbv_E2 : List (Ex×Shape):=[(.ret,{ env:=[(2,.av (.val .bool))],objs:=[] }),(.exit 0,{ env:=[],objs:=[] })]
def Zbv_B2 (x : Q53) : Option (Q53⊕((Bool×Unit)⊕(Unit⊕Empty))) :=
 let (a,b,c,d,e,f,g,h,i,_):=x; cond (ltI i h) ((getI g i).bind fun y1=>(Zbv_L6 (a,b,c,d,e,f,y1,0,g,h,i,y1,(y1.length : Nat),0,())).bind (Sum.elim (fun z3=>some (.inr (.inl (z3.1,())))) (Sum.elim (fun (a_4,b_4,c_4,d_4,e_4,f_4,g_4,h_4,i_4,k_4,l_4,_)=>cond (gtI (g_4.length : Nat) 0) (cond (neI h_4 4) (some (.inr (.inl (false,())))) (some (.inl (a_4,b_4,c_4,d_4,e_4,f_4,i_4,k_4,(addI .i64 l_4 1),())))) (some (.inl (a_4,b_4,c_4,d_4,e_4,f_4,i_4,k_4,(addI .i64 l_4 1),())))) (fun _=>none)))) (some (.inr (.inr (.inl ()))))
def Zbv_L2 : Q53→Option ((Bool×Unit)⊕(Unit⊕Empty)):=loopFix Zbv_B2
def Zbv_A2 : Ann:={ head:=Zbv_H2,exits:=Zbv_E2,fn:=Zbv_L2 }
def Zbv_As : Anns:=[(2,Zbv_A2),(6,Zbv_A6)]
def Zbv (x : (Q10×Unit)) : Option (Bool×Unit) :=
 let (((a,b,c,_),d,e,f,_),_):=x; (Zbv_L2 (a,b,c,d,e,f,c,(c.length : Nat),0,())).bind (Sum.elim (fun z2=>some (z2.1,())) (Sum.elim (fun z3=>some (true,())) (fun _=>none)))
def Zbv_c : Con:={ ins:=[(.rd,yQ11)],outs:=[(true,.bool)],fn:=Zbv }
def Zbv_C : Ctx:={ tab:=tab,con:=fun _ _=>none,glob:=glob,eqs:=eqs,maps:=maps }
theorem Zbv_R6 (x : Zbv_H6.ty.den) : round Zbv_C Zbv_As Zbv_A6 (loopBody 6 (bodyOf Tryd.f76)) x=Zbv_B6 x:=by kernel_rfl
theorem Zbv_R2 (x : Zbv_H2.ty.den) : round Zbv_C Zbv_As Zbv_A2 (loopBody 2 (bodyOf Tryd.f76)) x=Zbv_B2 x:=by kernel_rfl
theorem Zbv_eq (x : (tupTy [yQ11]).den) : callFn Zbv_C Zbv_As (bodyOf Tryd.f76) [(.rd,yQ11)] [(.tmp 2,true,.bool)] x=Zbv x:=by kernel_rfl
def Zbl_As : Anns:=[]
def Zbl (x : (Int×Unit)) : Option (Int×Bool×Unit) :=
 cond (eqI x.1 76) (some (82,true,())) (cond (eqI x.1 82) (some (76,true,())) (some (x.1,false,())))
def Zbl_c : Con:={ ins:=[(.rd,(.int .u8))],outs:=[(true,(.int .u8)),(true,.bool)],fn:=Zbl }
def Zbl_C : Ctx:={ tab:=tab,con:=fun _ _=>none,glob:=glob,eqs:=eqs,maps:=maps }
theorem Zbl_eq (x : (tupTy [(.int .u8)]).den) : callFn Zbl_C Zbl_As (bodyOf Tryd.f85) [(.rd,(.int .u8))] [(.tmp 2,true,(.int .u8)),(.tmp 3,true,.bool)] x=Zbl x:=by kernel_rfl
def Zcb_H4 : Shape:={ env:=[(11,.av (.own 11)),(12,.av (.val I)),(13,.av (.val I))],objs:=[(11,.arr (.int .u8))] }
def Zcb_E4 : List (Ex×Shape):=[(.ret,{ env:=[(2,.av (.val .bool))],objs:=[] }),(.exit 0,{ env:=[],objs:=[] })]
def Zcb_B4 (x : Q7) : Option (Q7⊕((Bool×Unit)⊕(Unit⊕Empty))) :=
 let (a,b,c,_):=x; cond (ltI c b) ((idxI a.length c).bind fun j1=>(a[j1]?).bind fun y2=>(Zbl (y2,())).bind fun r3=>cond (!r3.2.1) (some (.inr (.inl (false,())))) (some (.inl (a,b,(addI .i64 c 1),())))) (some (.inr (.inr (.inl ()))))
def Zcb_L4 : Q7→Option ((Bool×Unit)⊕(Unit⊕Empty)):=loopFix Zcb_B4
def Zcb_A4 : Ann:={ head:=Zcb_H4,exits:=Zcb_E4,fn:=Zcb_L4 }
def Zcb_As : Anns:=[(4,Zcb_A4)]
def Zcb (x : Q4) : Option (Bool×Unit) :=
 cond (gtI (x.1.size : Nat) 64) (some (false,())) ((Zcb_L4 ((bytesOf x.1),((bytesOf x.1).length : Nat),0,())).bind (Sum.elim (fun z2=>some (z2.1,())) (Sum.elim (fun z3=>some (true,())) (fun _=>none))))
def Zcb_c : Con:={ ins:=[(.rd,.str)],outs:=[(true,.bool)],fn:=Zcb }
def Zcb_C : Ctx:={ tab:=tab,con:=fun | 85,_=>some Zbl_c | _,_=>none,glob:=glob,eqs:=eqs,maps:=maps }
theorem Zcb_R4 (x : Zcb_H4.ty.den) : round Zcb_C Zcb_As Zcb_A4 (loopBody 4 (bodyOf Tryd.f77)) x=Zcb_B4 x:=by kernel_rfl
theorem Zcb_eq (x : (tupTy [.str]).den) : callFn Zcb_C Zcb_As (bodyOf Tryd.f77) [(.rd,.str)] [(.tmp 2,true,.bool)] x=Zcb x:=by kernel_rfl
def Zm_H1 : Shape:={ env:=[(0,.av (.own 0)),(2,.av (.val I)),(3,.av (.val I))],objs:=[(0,.arr (.int .u8))],pins:=[0] }
def Zm_E1 : List (Ex×Shape):=[(.exit 0,{ env:=[(0,.av (.own 0))],objs:=[(0,.arr (.int .u8))],pins:=[0] })]
def Zm_B1 (x : Q7) : Option (Q7⊕(Q1⊕Empty)) :=
 let (a,b,c,_):=x; cond (ltI b c) ((idxI a.length c).bind fun j1=>(a[j1]?).bind fun y2=>(idxI a.length b).bind fun j3=>(a[j3]?).bind fun y4=>(idxI a.length b).bind fun j5=>(a[j5]?).bind fun y6=>(idxI (a.set j5 y2).length c).bind fun j7=>((a.set j5 y2)[j7]?).bind fun y8=>some (.inl (((a.set j5 y2).set j7 y4),(addI .i64 b 1),(subI .i64 c 1),()))) (some (.inr (.inl (a,()))))
def Zm_L1 : Q7→Option (Q1⊕Empty):=loopFix Zm_B1
def Zm_A1 : Ann:={ head:=Zm_H1,exits:=Zm_E1,fn:=Zm_L1 }
def Zm_As : Anns:=[(1,Zm_A1)]
def Zm (x : Q1) : Option Q1 :=
 (Zm_L1 (x.1,0,(subI .i64 (x.1.length : Nat) 1),())).bind (Sum.elim (fun z2=>some (z2.1,())) (fun _=>none))
def Zm_c : Con:={ ins:=[(.upd,(.slice (.int .u8)))],outs:=[],fn:=Zm }
def Zm_C : Ctx:={ tab:=tab,con:=fun _ _=>none,glob:=glob,eqs:=eqs,maps:=maps }
theorem Zm_R1 (x : Zm_H1.ty.den) : round Zm_C Zm_As Zm_A1 (loopBody 1 (bodyOf Tryd.f86)) x=Zm_B1 x:=by kernel_rfl
theorem Zm_eq (x : (tupTy [(.slice (.int .u8))]).den) : callFn Zm_C Zm_As (bodyOf Tryd.f86) [(.upd,(.slice (.int .u8)))] [] x=Zm x:=by kernel_rfl
def Zbk_H4 : Shape:={ env:=[(3,.av (.own 3)),(10,.av (.own 3)),(11,.av (.val I)),(12,.av (.val I))],objs:=[(3,.arr (.int .u8))] }
def Zbk_E4 : List (Ex×Shape):=[(.exit 0,{ env:=[(3,.av (.own 3))],objs:=[(3,.arr (.int .u8))] })]
def Zbk_B4 (x : Q7) : Option (Q7⊕(Q1⊕Empty)) :=
 let (a,b,c,_):=x; cond (ltI c b) ((idxI a.length c).bind fun j1=>(a[j1]?).bind fun y2=>(Zbl (y2,())).bind fun r3=>(idxI a.length c).bind fun j4=>(a[j4]?).bind fun y5=>some (.inl ((a.set j4 r3.1),b,(addI .i64 c 1),()))) (some (.inr (.inl (a,()))))
def Zbk_L4 : Q7→Option (Q1⊕Empty):=loopFix Zbk_B4
def Zbk_A4 : Ann:={ head:=Zbk_H4,exits:=Zbk_E4,fn:=Zbk_L4 }
def Zbk_As : Anns:=[(4,Zbk_A4)]
def Zbk (x : Q4) : Option Q4 :=
 (Zm ((bytesOf x.1),())).bind fun r1=>(Zbk_L4 (r1.1,(r1.1.length : Nat),0,())).bind (Sum.elim (fun z3=>some ((ofBytes z3.1),())) (fun _=>none))
def Zbk_c : Con:={ ins:=[(.rd,.str)],outs:=[(true,.str)],fn:=Zbk }
def Zbk_C : Ctx:={ tab:=tab,con:=fun | 85,_=>some Zbl_c | 86,_=>some Zm_c | _,_=>none,glob:=glob,eqs:=eqs,maps:=maps }
theorem Zbk_R4 (x : Zbk_H4.ty.den) : round Zbk_C Zbk_As Zbk_A4 (loopBody 4 (bodyOf Tryd.f78)) x=Zbk_B4 x:=by kernel_rfl
theorem Zbk_eq (x : (tupTy [.str]).den) : callFn Zbk_C Zbk_As (bodyOf Tryd.f78) [(.rd,.str)] [(.tmp 2,true,.str)] x=Zbk x:=by kernel_rfl
def Zap_H2 : Shape:={ env:=[(0,.av (.val (.slice I))),(1,.av (.val I)),(7,.av (.val I)),(8,.av (.val I))],objs:=[] }
def Zap_E2 : List (Ex×Shape):=[(.ret,{ env:=[(4,.av (.val I))],objs:=[] }),(.exit 0,{ env:=[],objs:=[] })]
def Zap_B2 (x : Q8) : Option (Q8⊕((Int×Unit)⊕(Unit⊕Empty))) :=
 let (a,b,c,d,_):=x; cond (ltI d c) ((getI a d).bind fun y1=>cond (eqI b y1) (some (.inr (.inl (d,())))) (some (.inl (a,b,c,(addI .i64 d 1),())))) (some (.inr (.inr (.inl ()))))
def Zap_L2 : Q8→Option ((Int×Unit)⊕(Unit⊕Empty)):=loopFix Zap_B2
def Zap_A2 : Ann:={ head:=Zap_H2,exits:=Zap_E2,fn:=Zap_L2 }
def Zap_As : Anns:=[(2,Zap_A2)]
def Zap (x : Q5) : Option (Int×Unit) :=
 (Zap_L2 (x.1,x.2.1,(x.1.length : Nat),0,())).bind (Sum.elim (fun z2=>some (z2.1,())) (Sum.elim (fun z3=>some ((-1),())) (fun _=>none)))
def Zap_c : Con:={ ins:=[(.rd,(.slice I)),(.rd,I)],outs:=[(true,I)],fn:=Zap }
def Zap_C : Ctx:={ tab:=tab,con:=fun _ _=>none,glob:=glob,eqs:=eqs,maps:=maps }
theorem Zap_R2 (x : Zap_H2.ty.den) : round Zap_C Zap_As Zap_A2 (loopBody 2 (bodyOf Tryd.f64)) x=Zap_B2 x:=by kernel_rfl
theorem Zap_eq (x : (tupTy [(.slice I),I]).den) : callFn Zap_C Zap_As (bodyOf Tryd.f64) [(.rd,(.slice I)),(.rd,I)] [(.tmp 4,true,I)] x=Zap x:=by kernel_rfl
def Zl_As : Anns:=[]
def Zl (x : Q5) : Option (Bool×Unit) :=
 (Zap (x.1,x.2.1,())).bind fun r1=>some ((geI r1.1 0),())
def Zl_c : Con:={ ins:=[(.rd,(.slice I)),(.rd,I)],outs:=[(true,.bool)],fn:=Zl }
def Zl_C : Ctx:={ tab:=tab,con:=fun | 64,_=>some Zap_c | _,_=>none,glob:=glob,eqs:=eqs,maps:=maps }
theorem Zl_eq (x : (tupTy [(.slice I),I]).den) : callFn Zl_C Zl_As (bodyOf Tryd.f79) [(.rd,(.slice I)),(.rd,I)] [(.tmp 4,true,.bool)] x=Zl x:=by kernel_rfl
def Zcc_H3 : Shape:={ env:=[(5,.av (.val I)),(20,.av (.own 20)),(21,.av (.val I)),(22,.av (.val I))],objs:=[(20,.arr (.int .u8))] }
def Zcc_E3 : List (Ex×Shape):=[(.exit 0,{ env:=[(5,.av (.val I))],objs:=[] })]
def Zcc_B3 (x : Q8) : Option (Q8⊕((Int×Unit)⊕Empty)) :=
 let (a,b,c,d,_):=x; cond (ltI d c) ((idxI a.length d).bind fun j1=>(a[j1]?).bind fun y2=>cond (eqI y2 76) (some (.inl (a,(addI .i64 b 1),c,(addI .i64 d 1),()))) (some (.inl (a,(subI .i64 b 1),c,(addI .i64 d 1),())))) (some (.inr (.inl (b,()))))
def Zcc_L3 : Q8→Option ((Int×Unit)⊕Empty):=loopFix Zcc_B3
def Zcc_A3 : Ann:={ head:=Zcc_H3,exits:=Zcc_E3,fn:=Zcc_L3 }
def Zcc_As : Anns:=[(3,Zcc_A3)]
def Zcc (x : (Q10×Int×Unit)) : Option (Int×Unit) :=
 (getI x.1.2.1 (xorI .i64 x.2.1 1)).bind fun y1=>(getI x.1.2.2.1 x.2.1).bind fun y2=>(Zcc_L3 ((bytesOf y2),(subI .i64 2 y1),((bytesOf y2).length : Nat),0,())).bind (Sum.elim (fun z4=>some (z4.1,())) (fun _=>none))
def Zcc_c : Con:={ ins:=[(.rd,yQ11),(.rd,I)],outs:=[(true,I)],fn:=Zcc }
def Zcc_C : Ctx:={ tab:=tab,con:=fun _ _=>none,glob:=glob,eqs:=eqs,maps:=maps }
theorem Zcc_R3 (x : Zcc_H3.ty.den) : round Zcc_C Zcc_As Zcc_A3 (loopBody 3 (bodyOf Tryd.f87)) x=Zcc_B3 x:=by kernel_rfl
theorem Zcc_eq (x : (tupTy [yQ11,I]).den) : callFn Zcc_C Zcc_As (bodyOf Tryd.f87) [(.rd,yQ11),(.rd,I)] [(.tmp 4,true,I)] x=Zcc x:=by kernel_rfl
def Zbz_H3 : Shape:={ env:=[(2,.av (.ptr 2 0)),(5,.av (.val I)),(8,.av (.val (.slice I))),(9,.av (.val I)),(10,.av (.val I))],objs:=[(2,.box [.val I,.val (.slice yQ2),.val yQ5,.val (.slice I),.val (.slice .str),.val I])] }
def Zbz_E3 : List (Ex×Shape):=[(.exit 0,{ env:=[(5,.av (.val I))],objs:=[] })]
def Zbz_B3 (x : Q50) : Option (Q50⊕((Int×Unit)⊕Empty)) :=
 let (a,b,c,d,e,f,g,h,i,k,_):=x; cond (ltI k i) ((getI h k).bind fun y1=>(Zcc (((a,b,c,()),d,e,f,()),y1,())).bind fun r2=>some (.inl (a,b,c,d,e,f,(addI .i64 g r2.1),h,i,(addI .i64 k 1),()))) (some (.inr (.inl (g,()))))
def Zbz_L3 : Q50→Option ((Int×Unit)⊕Empty):=loopFix Zbz_B3
def Zbz_A3 : Ann:={ head:=Zbz_H3,exits:=Zbz_E3,fn:=Zbz_L3 }
def Zbz_As : Anns:=[(3,Zbz_A3)]
def Zbz (x : (Q10×List Int×Unit)) : Option (Int×Unit) :=
 let (((a,b,c,_),d,e,f,_),g,_):=x; (Zbz_L3 (a,b,c,d,e,f,0,g,(g.length : Nat),0,())).bind (Sum.elim (fun z2=>some (z2.1,())) (fun _=>none))
def Zbz_c : Con:={ ins:=[(.rd,yQ11),(.rd,(.slice I))],outs:=[(true,I)],fn:=Zbz }
def Zbz_C : Ctx:={ tab:=tab,con:=fun | 87,_=>some Zcc_c | _,_=>none,glob:=glob,eqs:=eqs,maps:=maps }
theorem Zbz_R3 (x : Zbz_H3.ty.den) : round Zbz_C Zbz_As Zbz_A3 (loopBody 3 (bodyOf Tryd.f80)) x=Zbz_B3 x:=by kernel_rfl
theorem Zbz_eq (x : (tupTy [yQ11,(.slice I)]).den) : callFn Zbz_C Zbz_As (bodyOf Tryd.f80) [(.rd,yQ11),(.rd,(.slice I))] [(.tmp 4,true,I)] x=Zbz x:=by kernel_rfl
def Zbx_H13 : Shape:={ env:=[(1,.av (.ptr 1 0)),(85,.av (.own 85)),(86,.av (.val I)),(87,.av (.val I))],objs:=[(1,.box [.val I,.val (.slice yQ2),.val yQ5,.val (.slice I),.val (.slice .str),.val I]),(85,.arr (.slice I))] }
def Zbx_E13 : List (Ex×Shape):=[(.ret,{ env:=[(2,.av (.val .bool))],objs:=[] }),(.exit 2,{ env:=[],objs:=[] })]
def Zbx_B13 (x : Q53) : Option (Q53⊕((Bool×Unit)⊕(Unit⊕Empty))) :=
 let (a,b,c,d,e,f,g,h,i,_):=x; cond (ltI i h) ((idxI g.length i).bind fun j1=>(g[j1]?).bind fun y2=>(Zl (y2,f,())).bind fun r3=>cond r3.1 ((Zbz (((a,b,c,()),d,e,f,()),y2,())).bind fun r4=>cond (neI r4.1 (-4)) (some (.inr (.inl (false,())))) (some (.inl (a,b,c,d,e,f,g,h,(addI .i64 i 1),())))) ((Zbz (((a,b,c,()),d,e,f,()),y2,())).bind fun r5=>cond (neI r5.1 4) (some (.inr (.inl (false,())))) (some (.inl (a,b,c,d,e,f,g,h,(addI .i64 i 1),()))))) (some (.inr (.inr (.inl ()))))
def Zbx_L13 : Q53→Option ((Bool×Unit)⊕(Unit⊕Empty)):=loopFix Zbx_B13
def Zbx_A13 : Ann:={ head:=Zbx_H13,exits:=Zbx_E13,fn:=Zbx_L13 }
def Zbx_H8 : Shape:={ env:=[(1,.av (.ptr 1 0)),(3,.av (.ptr 3 0)),(4,.av (.val I)),(5,.av (.val I))],objs:=[(1,.box [.val I,.val (.slice yQ2),.val yQ5,.val (.slice I),.val (.slice .str),.val I]),(3,.box [.val I,.val (.slice yQ2),.val yQ5])] }
def Zbx_E8 : List (Ex×Shape):=[(.ret,{ env:=[(2,.av (.val .bool))],objs:=[] }),(.exit 0,{ env:=[(1,.av (.ptr 1 0)),(3,.av (.ptr 3 0))],objs:=[(1,.box [.val I,.val (.slice yQ2),.val yQ5,.val (.slice I),.val (.slice .str),.val I]),(3,.box [.val I,.val (.slice yQ2),.val yQ5])] })]
def Zbx_B8 (x : Q68) : Option (Q68⊕((Bool×Unit)⊕(Q57⊕Empty))) :=
 let (a,b,c,d,e,f,g,h,i,k,l,_):=x; cond (ltI l k) ((getI e l).bind fun y1=>(Zcb (y1,())).bind fun r2=>cond (!r2.1) (some (.inr (.inl (false,())))) ((getI e (addI .i64 l 1)).bind fun y3=>(getI e l).bind fun y4=>(Zbk (y4,())).bind fun r5=>cond (neS y3 r5.1) (some (.inr (.inl (false,())))) (some (.inl (a,b,c,d,e,f,g,h,i,k,(addI .i64 l 2),()))))) (some (.inr (.inr (.inl (a,b,c,d,e,f,g,h,i,())))))
def Zbx_L8 : Q68→Option ((Bool×Unit)⊕(Q57⊕Empty)):=loopFix Zbx_B8
def Zbx_A8 : Ann:={ head:=Zbx_H8,exits:=Zbx_E8,fn:=Zbx_L8 }
def Zbx_As : Anns:=[(8,Zbx_A8),(13,Zbx_A13)]
def Zbx (x : (Q10×Unit)) : Option (Bool×Unit) :=
 let (((a,b,c,_),d,e,f,_),_):=x; (Zbh ((a,b,c,()),())).bind fun r1=>cond (!r1.1) (some (false,())) ((Zbf ((a,b,c,()),())).bind fun r2=>cond (!r2.1) (some (false,())) ((Zbg ((a,b,c,()),())).bind fun r3=>cond (neI r3.1 0) (some (false,())) (cond (neI (d.length : Nat) (mulI .i64 2 (b.length : Nat))) (some (false,())) (cond (neI (e.length : Nat) (mulI .i64 2 (b.length : Nat))) (some (false,())) (cond (ltI f 0) (some (false,())) (cond (geI f (maxI (mulI .i64 2 (b.length : Nat)) 1)) (some (false,())) ((Zbv (((a,b,c,()),d,e,f,()),())).bind fun r4=>cond (!r4.1) (some (false,())) ((Zbx_L8 (a,b,c,d,e,f,a,b,c,(mulI .i64 2 (b.length : Nat)),0,())).bind (Sum.elim (fun z6=>some (z6.1,())) (Sum.elim (fun (a_7,b_7,c_7,d_7,e_7,f_7,g_7,h_7,i_7,_)=>(Zbi ((g_7,h_7,i_7,()),())).bind fun r8=>(Zbx_L13 (a_7,b_7,c_7,d_7,e_7,f_7,r8.1,(r8.1.length : Nat),0,())).bind (Sum.elim (fun z10=>some (z10.1,())) (Sum.elim (fun z11=>some (true,())) (fun _=>none)))) (fun _=>none)))))))))))
def Zbx_c : Con:={ ins:=[(.rd,yQ11)],outs:=[(true,.bool)],fn:=Zbx }
def Zbx_C : Ctx:={ tab:=tab,con:=fun | 48,_=>some Zbi_c | 50,_=>some Zbh_c | 74,_=>some Zbf_c | 75,_=>some Zbg_c | 76,_=>some Zbv_c | 77,_=>some Zcb_c | 78,_=>some Zbk_c | 79,_=>some Zl_c | 80,_=>some Zbz_c | _,_=>none,glob:=glob,eqs:=eqs,maps:=maps }
theorem Zbx_R13 (x : Zbx_H13.ty.den) : round Zbx_C Zbx_As Zbx_A13 (loopBody 13 (bodyOf Tryd.f63)) x=Zbx_B13 x:=by kernel_rfl
theorem Zbx_R8 (x : Zbx_H8.ty.den) : round Zbx_C Zbx_As Zbx_A8 (loopBody 8 (bodyOf Tryd.f63)) x=Zbx_B8 x:=by kernel_rfl
theorem Zbx_eq (x : (tupTy [yQ11]).den) : callFn Zbx_C Zbx_As (bodyOf Tryd.f63) [(.rd,yQ11)] [(.tmp 2,true,.bool)] x=Zbx x:=by kernel_rfl
def Zby_As : Anns:=[]
def Zby (x : (Q10×Unit)) : Option (Int×Unit) :=
 let (((a,b,c,_),d,e,f,_),_):=x; (Zbx (((a,b,c,()),d,e,f,()),())).bind fun r1=>cond (!r1.1) (some (13,())) (some (0,()))
def Zby_c : Con:={ ins:=[(.rd,yQ11)],outs:=[(true,I)],fn:=Zby }
def Zby_C : Ctx:={ tab:=tab,con:=fun | 63,_=>some Zbx_c | _,_=>none,glob:=glob,eqs:=eqs,maps:=maps }
theorem Zby_eq (x : (tupTy [yQ11]).den) : callFn Zby_C Zby_As (bodyOf Tryd.f45) [(.rd,yQ11)] [(.tmp 2,true,I)] x=Zby x:=by kernel_rfl
def Zbw_H5 : Shape:={ env:=[(1,.av (.ptr 1 0)),(3,.av (.val I)),(4,.av (.val I))],objs:=[(1,.box [.val I,.val (.slice yQ2),.val yQ5,.val (.slice I),.val (.slice .str),.val I])] }
def Zbw_E5 : List (Ex×Shape):=[(.exit 0,{ env:=[(3,.av (.val I))],objs:=[] })]
def Zbw_B5 (x : Q35) : Option (Q35⊕((Int×Unit)⊕Empty)) :=
 let (a,b,c,d,e,f,g,h,_):=x; cond (ltI h (e.length : Nat)) ((getI e h).bind fun y1=>some (.inl (a,b,c,d,e,f,(addI .i64 g (y1.size : Nat)),(addI .i64 h 2),()))) (some (.inr (.inl (g,()))))
def Zbw_L5 : Q35→Option ((Int×Unit)⊕Empty):=loopFix Zbw_B5
def Zbw_A5 : Ann:={ head:=Zbw_H5,exits:=Zbw_E5,fn:=Zbw_L5 }
def Zbw_As : Anns:=[(5,Zbw_A5)]
def Zbw (x : (Q10×Unit)) : Option (Int×Unit) :=
 let (((a,b,c,_),d,e,f,_),_):=x; (Zbx (((a,b,c,()),d,e,f,()),())).bind fun r1=>cond (!r1.1) (some (0,())) ((Zbw_L5 (a,b,c,d,e,f,0,0,())).bind (Sum.elim (fun z3=>some (z3.1,())) (fun _=>none)))
def Zbw_c : Con:={ ins:=[(.rd,yQ11)],outs:=[(true,I)],fn:=Zbw }
def Zbw_C : Ctx:={ tab:=tab,con:=fun | 63,_=>some Zbx_c | _,_=>none,glob:=glob,eqs:=eqs,maps:=maps }
theorem Zbw_R5 (x : Zbw_H5.ty.den) : round Zbw_C Zbw_As Zbw_A5 (loopBody 5 (bodyOf Tryd.f46)) x=Zbw_B5 x:=by kernel_rfl
theorem Zbw_eq (x : (tupTy [yQ11]).den) : callFn Zbw_C Zbw_As (bodyOf Tryd.f46) [(.rd,yQ11)] [(.tmp 2,true,I)] x=Zbw x:=by kernel_rfl
def Zax_As : Anns:=[]
def Zax (x : (Q10×Unit)) : Option (Bool×Unit) :=
 let (((a,b,c,_),d,e,f,_),_):=x; (Zby (((a,b,c,()),d,e,f,()),())).bind fun r1=>cond (eqI r1.1 0) ((Zbw (((a,b,c,()),d,e,f,()),())).bind fun r2=>some ((eqI r2.1 0),())) (some (false,()))
def Zax_c : Con:={ ins:=[(.rd,yQ11)],outs:=[(true,.bool)],fn:=Zax }
def Zax_C : Ctx:={ tab:=tab,con:=fun | 45,_=>some Zby_c | 46,_=>some Zbw_c | _,_=>none,glob:=glob,eqs:=eqs,maps:=maps }
theorem Zax_eq (x : (tupTy [yQ11]).den) : callFn Zax_C Zax_As (bodyOf Tryd.f22) [(.rd,yQ11)] [(.tmp 2,true,.bool)] x=Zax x:=by kernel_rfl
def Zbn_As : Anns:=[]
def Zbn (x : (Q9×Int×Unit)) : Option (Int×Unit) :=
 let ((a,b,c,_),d,_):=x; (Zbh ((a,b,c,()),())).bind fun r1=>cond (!r1.1) (some ((-1),())) (cond (ltI d 0) (some ((-1),())) (cond (geI d (mulI .i64 2 (b.length : Nat))) (some ((-1),())) ((getI b (quoI .i64 d 2)).bind fun y2=>(Zbr (y2,(xorI .i64 (remI d 2) 1),())).bind fun r3=>(getI c r3.1).bind fun y4=>(Zap (y4,(xorI .i64 d 1),())).bind fun r5=>cond (eqI (y4.length : Nat) 0) none ((getI y4 (remI (addI .i64 r5.1 1) (y4.length : Nat))).bind fun y6=>some (y6,())))))
def Zbn_c : Con:={ ins:=[(.rd,yQ8),(.rd,I)],outs:=[(true,I)],fn:=Zbn }
def Zbn_C : Ctx:={ tab:=tab,con:=fun | 50,_=>some Zbh_c | 51,_=>some Zbr_c | 64,_=>some Zap_c | _,_=>none,glob:=glob,eqs:=eqs,maps:=maps }
theorem Zbn_eq (x : (tupTy [yQ8,I]).den) : callFn Zbn_C Zbn_As (bodyOf Tryd.f47) [(.rd,yQ8),(.rd,I)] [(.tmp 4,true,I)] x=Zbn x:=by kernel_rfl
def Zay_H16 : Shape:={ env:=[(1,.av (.ptr 1 0)),(3,.av (.own 3)),(5,.av (.own 5)),(68,.agg [.val I,.val I,.val I,.val I]),(69,.av (.val I))],objs:=[(1,.box [.val I,.val (.slice yQ2),.val yQ5,.val (.slice I),.val (.slice .str),.val I]),(3,.arr I),(5,.arr I)] }
def Zay_E16 : List (Ex×Shape):=[(.exit 4,{ env:=[(1,.av (.ptr 1 0)),(3,.av (.own 3)),(5,.av (.own 5))],objs:=[(1,.box [.val I,.val (.slice yQ2),.val yQ5,.val (.slice I),.val (.slice .str),.val I]),(3,.arr I),(5,.arr I)] })]
def Zay_B16 (x : Q70) : Option (Q70⊕(Q43⊕Empty)) :=
 let (a,b,c,d,e,f,g,h,i,k,l,m,n,_):=x; cond (ltI n 2) (cond (eqI n 0) ((idxI g.length i).bind fun j1=>(g[j1]?).bind fun y2=>cond (ltI y2 0) ((idxI g.length i).bind fun j3=>(g[j3]?).bind fun y4=>(app h [i]).bind fun a5=>some (.inl (a,b,c,d,e,f,(g.set j3 (remI k 4)),a5,i,k,l,m,(addI .i64 n 1),()))) (some (.inl (a,b,c,d,e,f,g,h,i,k,l,m,(addI .i64 n 1),())))) (cond (eqI n 1) ((idxI g.length l).bind fun j6=>(g[j6]?).bind fun y7=>cond (ltI y7 0) ((idxI g.length l).bind fun j8=>(g[j8]?).bind fun y9=>(app h [l]).bind fun a10=>some (.inl (a,b,c,d,e,f,(g.set j8 (remI m 4)),a10,i,k,l,m,(addI .i64 n 1),()))) (some (.inl (a,b,c,d,e,f,g,h,i,k,l,m,(addI .i64 n 1),())))) (none))) (some (.inr (.inl (a,b,c,d,e,f,g,h,()))))
def Zay_L16 : Q70→Option (Q43⊕Empty):=loopFix Zay_B16
def Zay_A16 : Ann:={ head:=Zay_H16,exits:=Zay_E16,fn:=Zay_L16 }
def Zay_H11 : Shape:={ env:=[(1,.av (.ptr 1 0)),(3,.av (.own 3)),(5,.av (.own 5))],objs:=[(1,.box [.val I,.val (.slice yQ2),.val yQ5,.val (.slice I),.val (.slice .str),.val I]),(3,.arr I),(5,.arr I)] }
def Zay_E11 : List (Ex×Shape):=[(.exit 2,{ env:=[(3,.av (.own 3))],objs:=[(3,.arr I)] })]
def Zay_B11 (x : Q43) : Option (Q43⊕(Q1⊕Empty)) :=
 let (a,b,c,d,e,f,g,h,_):=x; cond (gtI (h.length : Nat) 0) ((idxI h.length (subI .i64 (h.length : Nat) 1)).bind fun j1=>(h[j1]?).bind fun y2=>(viewB h.length 0 (subI .i64 (h.length : Nat) 1)).bind fun v3=>(Zbn ((a,b,c,()),(xorI .i64 y2 1),())).bind fun r4=>(idxI g.length y2).bind fun j5=>(g[j5]?).bind fun y6=>(getI d y2).bind fun y7=>(idxI g.length y2).bind fun j8=>(g[j8]?).bind fun y9=>(Zay_L16 (a,b,c,d,e,f,g,((h.drop v3.1).take v3.2),r4.1,(addI .i64 y6 y7),(xorI .i64 y2 1),(addI .i64 y9 2),0,())).bind (Sum.elim (fun (a_11,b_11,c_11,d_11,e_11,f_11,g_11,h_11,_)=>some (.inl (a_11,b_11,c_11,d_11,e_11,f_11,g_11,h_11,()))) (fun _=>none))) (some (.inr (.inl (g,()))))
def Zay_L11 : Q43→Option (Q1⊕Empty):=loopFix Zay_B11
def Zay_A11 : Ann:={ head:=Zay_H11,exits:=Zay_E11,fn:=Zay_L11 }
def Zay_H3 : Shape:={ env:=[(1,.av (.ptr 1 0)),(3,.av (.own 3)),(15,.av (.val I)),(16,.av (.val I))],objs:=[(1,.box [.val I,.val (.slice yQ2),.val yQ5,.val (.slice I),.val (.slice .str),.val I]),(3,.arr I)] }
def Zay_E3 : List (Ex×Shape):=[(.exit 0,{ env:=[(1,.av (.ptr 1 0)),(3,.av (.own 3))],objs:=[(1,.box [.val I,.val (.slice yQ2),.val yQ5,.val (.slice I),.val (.slice .str),.val I]),(3,.arr I)] })]
def Zay_B3 (x : Q44) : Option (Q44⊕(Q34⊕Empty)) :=
 let (a,b,c,d,e,f,g,h,i,_):=x; cond (ltI i h) ((idxI g.length i).bind fun j1=>(g[j1]?).bind fun y2=>some (.inl (a,b,c,d,e,f,(g.set j1 (-1)),h,(addI .i64 i 1),()))) (some (.inr (.inl (a,b,c,d,e,f,g,()))))
def Zay_L3 : Q44→Option (Q34⊕Empty):=loopFix Zay_B3
def Zay_A3 : Ann:={ head:=Zay_H3,exits:=Zay_E3,fn:=Zay_L3 }
def Zay_As : Anns:=[(3,Zay_A3),(11,Zay_A11),(16,Zay_A16)]
def Zay (x : (Q10×Unit)) : Option Q1 :=
 let (((a,b,c,_),d,e,f,_),_):=x; (makeL I (d.length : Nat) (d.length : Nat)).bind fun m1=>(Zay_L3 (a,b,c,d,e,f,m1,(m1.length : Nat),0,())).bind (Sum.elim (fun (a_3,b_3,c_3,d_3,e_3,f_3,g_3,_)=>cond (eqI (g_3.length : Nat) 0) (some ([],())) ((idxI g_3.length 0).bind fun j4=>(g_3[j4]?).bind fun y5=>(Zay_L11 (a_3,b_3,c_3,d_3,e_3,f_3,(g_3.set j4 1),[0],())).bind (Sum.elim (fun z7=>some (z7.1,())) (fun _=>none)))) (fun _=>none))
def Zay_c : Con:={ ins:=[(.rd,yQ11)],outs:=[(true,(.slice I))],fn:=Zay }
def Zay_C : Ctx:={ tab:=tab,con:=fun | 47,_=>some Zbn_c | _,_=>none,glob:=glob,eqs:=eqs,maps:=maps }
theorem Zay_R16 (x : Zay_H16.ty.den) : round Zay_C Zay_As Zay_A16 (loopBody 16 (bodyOf Tryd.f23)) x=Zay_B16 x:=by kernel_rfl
theorem Zay_R11 (x : Zay_H11.ty.den) : round Zay_C Zay_As Zay_A11 (loopBody 11 (bodyOf Tryd.f23)) x=Zay_B11 x:=by kernel_rfl
theorem Zay_R3 (x : Zay_H3.ty.den) : round Zay_C Zay_As Zay_A3 (loopBody 3 (bodyOf Tryd.f23)) x=Zay_B3 x:=by kernel_rfl
theorem Zay_eq (x : (tupTy [yQ11]).den) : callFn Zay_C Zay_As (bodyOf Tryd.f23) [(.rd,yQ11)] [(.tmp 2,true,(.slice I))] x=Zay x:=by kernel_rfl
def Zu_As : Anns:=[]
def Zu (x : (Q10×Unit)) : Option Q5 :=
 let (((a,b,c,_),d,e,f,_),_):=x; (Zax (((a,b,c,()),d,e,f,()),())).bind fun r1=>cond (!r1.1) (some ([],13,())) ((Zay (((a,b,c,()),d,e,f,()),())).bind fun r2=>some (r2.1,0,()))
def Zu_c : Con:={ ins:=[(.rd,yQ11)],outs:=[(true,(.slice I)),(true,I)],fn:=Zu }
def Zu_C : Ctx:={ tab:=tab,con:=fun | 22,_=>some Zax_c | 23,_=>some Zay_c | _,_=>none,glob:=glob,eqs:=eqs,maps:=maps }
theorem Zu_eq (x : (tupTy [yQ11]).den) : callFn Zu_C Zu_As (bodyOf Tryd.f10) [(.rd,yQ11)] [(.tmp 2,true,(.slice I)),(.tmp 3,true,I)] x=Zu x:=by kernel_rfl
def Zp_H15 : Shape:={ env:=[(1,.av (.ptr 1 0)),(5,.av (.val I)),(8,.av (.val I)),(17,.av (.own 17)),(18,.av (.val I)),(19,.av (.val I)),(34,.av (.val (.slice I))),(35,.av (.val I)),(36,.av (.val I))],objs:=[(1,.box [.val I,.val (.slice yQ2),.val yQ5,.val (.slice I),.val (.slice .str),.val I]),(17,.arr (.slice I))] }
def Zp_E15 : List (Ex×Shape):=[(.ret,{ env:=[(2,.av (.val .bool))],objs:=[] }),(.exit 4,{ env:=[(1,.av (.ptr 1 0)),(8,.av (.val I)),(17,.av (.own 17)),(18,.av (.val I)),(19,.av (.val I))],objs:=[(1,.box [.val I,.val (.slice yQ2),.val yQ5,.val (.slice I),.val (.slice .str),.val I]),(17,.arr (.slice I))] })]
def Zp_B15 (x : Q72) : Option (Q72⊕((Bool×Unit)⊕(Q58⊕Empty))) :=
 let (a,b,c,d,e,f,g,h,i,k,l,m,n,o,_):=x; cond (ltI o n) ((getI m o).bind fun y1=>(getI d (xorI .i64 y1 1)).bind fun y2=>cond (eqI (subI .i64 2 y2) 0) (some (.inl (a,b,c,d,e,f,g,h,i,k,l,m,n,(addI .i64 o 1),()))) (cond (eqI (subI .i64 2 y2) h) (some (.inl (a,b,c,d,e,f,g,h,(addI .i64 i 1),k,l,m,n,(addI .i64 o 1),()))) (some (.inr (.inl (false,())))))) (some (.inr (.inr (.inl (a,b,c,d,e,f,g,i,k,l,())))))
def Zp_L15 : Q72→Option ((Bool×Unit)⊕(Q58⊕Empty)):=loopFix Zp_B15
def Zp_A15 : Ann:={ head:=Zp_H15,exits:=Zp_E15,fn:=Zp_L15 }
def Zp_H8 : Shape:={ env:=[(1,.av (.ptr 1 0)),(4,.av (.val (.slice I))),(5,.av (.val I)),(17,.av (.own 17)),(18,.av (.val I)),(19,.av (.val I)),(23,.av (.val (.slice I))),(24,.av (.val I)),(25,.av (.val I))],objs:=[(1,.box [.val I,.val (.slice yQ2),.val yQ5,.val (.slice I),.val (.slice .str),.val I]),(17,.arr (.slice I))] }
def Zp_E8 : List (Ex×Shape):=[(.exit 2,{ env:=[(1,.av (.ptr 1 0)),(4,.av (.val (.slice I))),(5,.av (.val I)),(17,.av (.own 17)),(18,.av (.val I)),(19,.av (.val I))],objs:=[(1,.box [.val I,.val (.slice yQ2),.val yQ5,.val (.slice I),.val (.slice .str),.val I]),(17,.arr (.slice I))] })]
def Zp_B8 (x : Q74) : Option (Q74⊕(Q67⊕Empty)) :=
 let (a,b,c,d,e,f,g,h,i,k,l,m,n,o,_):=x; cond (ltI o n) ((getI m o).bind fun y1=>cond (eqI y1 f) (some (.inl (a,b,c,d,e,f,g,h,(-1),k,l,m,n,(addI .i64 o 1),()))) (some (.inl (a,b,c,d,e,f,g,h,i,k,l,m,n,(addI .i64 o 1),())))) (some (.inr (.inl (a,b,c,d,e,f,g,h,i,k,l,()))))
def Zp_L8 : Q74→Option (Q67⊕Empty):=loopFix Zp_B8
def Zp_A8 : Ann:={ head:=Zp_H8,exits:=Zp_E8,fn:=Zp_L8 }
def Zp_H4 : Shape:={ env:=[(1,.av (.ptr 1 0)),(17,.av (.own 17)),(18,.av (.val I)),(19,.av (.val I))],objs:=[(1,.box [.val I,.val (.slice yQ2),.val yQ5,.val (.slice I),.val (.slice .str),.val I]),(17,.arr (.slice I))] }
def Zp_E4 : List (Ex×Shape):=[(.ret,{ env:=[(2,.av (.val .bool))],objs:=[] }),(.exit 0,{ env:=[],objs:=[] })]
def Zp_B4 (x : Q53) : Option (Q53⊕((Bool×Unit)⊕(Unit⊕Empty))) :=
 let (a,b,c,d,e,f,g,h,i,_):=x; cond (ltI i h) ((idxI g.length i).bind fun j1=>(g[j1]?).bind fun y2=>(Zp_L8 (a,b,c,d,e,f,g,y2,1,h,i,y2,(y2.length : Nat),0,())).bind (Sum.elim (fun (a_4,b_4,c_4,d_4,e_4,f_4,g_4,h_4,i_4,k_4,l_4,_)=>(Zp_L15 (a_4,b_4,c_4,d_4,e_4,f_4,g_4,i_4,0,k_4,l_4,h_4,(h_4.length : Nat),0,())).bind (Sum.elim (fun z6=>some (.inr (.inl (z6.1,())))) (Sum.elim (fun (a_7,b_7,c_7,d_7,e_7,f_7,g_7,h_7,i_7,k_7,_)=>cond (neI h_7 4) (some (.inr (.inl (false,())))) (some (.inl (a_7,b_7,c_7,d_7,e_7,f_7,g_7,i_7,(addI .i64 k_7 1),())))) (fun _=>none)))) (fun _=>none))) (some (.inr (.inr (.inl ()))))
def Zp_L4 : Q53→Option ((Bool×Unit)⊕(Unit⊕Empty)):=loopFix Zp_B4
def Zp_A4 : Ann:={ head:=Zp_H4,exits:=Zp_E4,fn:=Zp_L4 }
def Zp_As : Anns:=[(4,Zp_A4),(8,Zp_A8),(15,Zp_A15)]
def Zp (x : (Q10×Unit)) : Option (Bool×Unit) :=
 let (((a,b,c,_),d,e,f,_),_):=x; cond (eqI (d.length : Nat) 0) (some (false,())) ((Zbi ((a,b,c,()),())).bind fun r1=>(Zp_L4 (a,b,c,d,e,f,r1.1,(r1.1.length : Nat),0,())).bind (Sum.elim (fun z3=>some (z3.1,())) (Sum.elim (fun z4=>some (true,())) (fun _=>none))))
def Zp_c : Con:={ ins:=[(.rd,yQ11)],outs:=[(true,.bool)],fn:=Zp }
def Zp_C : Ctx:={ tab:=tab,con:=fun | 48,_=>some Zbi_c | _,_=>none,glob:=glob,eqs:=eqs,maps:=maps }
theorem Zp_R15 (x : Zp_H15.ty.den) : round Zp_C Zp_As Zp_A15 (loopBody 15 (bodyOf Tryd.f25)) x=Zp_B15 x:=by kernel_rfl
theorem Zp_R8 (x : Zp_H8.ty.den) : round Zp_C Zp_As Zp_A8 (loopBody 8 (bodyOf Tryd.f25)) x=Zp_B8 x:=by kernel_rfl
theorem Zp_R4 (x : Zp_H4.ty.den) : round Zp_C Zp_As Zp_A4 (loopBody 4 (bodyOf Tryd.f25)) x=Zp_B4 x:=by kernel_rfl
theorem Zp_eq (x : (tupTy [yQ11]).den) : callFn Zp_C Zp_As (bodyOf Tryd.f25) [(.rd,yQ11)] [(.tmp 2,true,.bool)] x=Zp x:=by kernel_rfl
def Zbb_H11 : Shape:={ env:=[(1,.av (.val (.slice I))),(2,.av (.val I)),(3,.av (.ptr 3 0)),(7,.av (.own 7)),(9,.av (.val .bool)),(29,.av (.val (.slice I))),(30,.av (.val I)),(31,.av (.val I))],objs:=[(3,.box [.val I,.val (.slice yQ2),.val yQ5,.val (.slice I),.val (.slice .str),.val I]),(7,.arr I)] }
def Zbb_E11 : List (Ex×Shape):=[(.exit 4,{ env:=[(1,.av (.val (.slice I))),(2,.av (.val I)),(3,.av (.ptr 3 0)),(7,.av (.own 7)),(9,.av (.val .bool))],objs:=[(3,.box [.val I,.val (.slice yQ2),.val yQ5,.val (.slice I),.val (.slice .str),.val I]),(7,.arr I)] })]
def Zbb_B11 (x : Q71) : Option (Q71⊕(Q54⊕Empty)) :=
 let (a,b,c,d,e,f,g,h,i,k,l,m,n,_):=x; cond (ltI n m) ((getI l n).bind fun y1=>(Zbm ((a,b,c,()),n,())).bind fun r2=>(Zbm ((a,b,c,()),(xorI .i64 n 1),())).bind fun r3=>cond (eqI y1 i) ((idxI g.length r2.1).bind fun j4=>(g[j4]?).bind fun y5=>(idxI g.length r3.1).bind fun j6=>(g[j6]?).bind fun y7=>cond (neI y5 y7) ((idxI g.length r2.1).bind fun j8=>(g[j8]?).bind fun y9=>(idxI g.length r3.1).bind fun j10=>(g[j10]?).bind fun y11=>(idxI g.length r2.1).bind fun j12=>(g[j12]?).bind fun y13=>(idxI (g.set j12 (minI y9 y11)).length r2.1).bind fun j14=>((g.set j12 (minI y9 y11))[j14]?).bind fun y15=>(idxI (g.set j12 (minI y9 y11)).length r3.1).bind fun j16=>((g.set j12 (minI y9 y11))[j16]?).bind fun y17=>some (.inl (a,b,c,d,e,f,((g.set j12 (minI y9 y11)).set j16 y15),h,i,true,l,m,(addI .i64 n 1),()))) (some (.inl (a,b,c,d,e,f,g,h,i,k,l,m,(addI .i64 n 1),())))) (some (.inl (a,b,c,d,e,f,g,h,i,k,l,m,(addI .i64 n 1),())))) (some (.inr (.inl (a,b,c,d,e,f,g,h,i,k,()))))
def Zbb_L11 : Q71→Option (Q54⊕Empty):=loopFix Zbb_B11
def Zbb_A11 : Ann:={ head:=Zbb_H11,exits:=Zbb_E11,fn:=Zbb_L11 }
def Zbb_H8 : Shape:={ env:=[(1,.av (.val (.slice I))),(2,.av (.val I)),(3,.av (.ptr 3 0)),(7,.av (.own 7)),(9,.av (.val .bool))],objs:=[(3,.box [.val I,.val (.slice yQ2),.val yQ5,.val (.slice I),.val (.slice .str),.val I]),(7,.arr I)] }
def Zbb_E8 : List (Ex×Shape):=[(.exit 2,{ env:=[(7,.av (.own 7))],objs:=[(7,.arr I)] })]
def Zbb_B8 (x : Q54) : Option (Q54⊕(Q1⊕Empty)) :=
 let (a,b,c,d,e,f,g,h,i,k,_):=x; cond k ((Zbb_L11 (a,b,c,d,e,f,g,h,i,false,h,(h.length : Nat),0,())).bind (Sum.elim (fun (a_2,b_2,c_2,d_2,e_2,f_2,g_2,h_2,i_2,k_2,_)=>some (.inl (a_2,b_2,c_2,d_2,e_2,f_2,g_2,h_2,i_2,k_2,()))) (fun _=>none))) (some (.inr (.inl (g,()))))
def Zbb_L8 : Q54→Option (Q1⊕Empty):=loopFix Zbb_B8
def Zbb_A8 : Ann:={ head:=Zbb_H8,exits:=Zbb_E8,fn:=Zbb_L8 }
def Zbb_H3 : Shape:={ env:=[(1,.av (.val (.slice I))),(2,.av (.val I)),(3,.av (.ptr 3 0)),(7,.av (.own 7)),(19,.av (.val I)),(20,.av (.val I))],objs:=[(3,.box [.val I,.val (.slice yQ2),.val yQ5,.val (.slice I),.val (.slice .str),.val I]),(7,.arr I)] }
def Zbb_E3 : List (Ex×Shape):=[(.exit 0,{ env:=[(1,.av (.val (.slice I))),(2,.av (.val I)),(3,.av (.ptr 3 0)),(7,.av (.own 7))],objs:=[(3,.box [.val I,.val (.slice yQ2),.val yQ5,.val (.slice I),.val (.slice .str),.val I]),(7,.arr I)] })]
def Zbb_B3 (x : Q59) : Option (Q59⊕(Q49⊕Empty)) :=
 let (a,b,c,d,e,f,g,h,i,k,l,_):=x; cond (ltI l k) ((idxI g.length l).bind fun j1=>(g[j1]?).bind fun y2=>some (.inl (a,b,c,d,e,f,(g.set j1 l),h,i,k,(addI .i64 l 1),()))) (some (.inr (.inl (a,b,c,d,e,f,g,h,i,()))))
def Zbb_L3 : Q59→Option (Q49⊕Empty):=loopFix Zbb_B3
def Zbb_A3 : Ann:={ head:=Zbb_H3,exits:=Zbb_E3,fn:=Zbb_L3 }
def Zbb_As : Anns:=[(3,Zbb_A3),(8,Zbb_A8),(11,Zbb_A11)]
def Zbb (x : (Q10×List Int×Int×Unit)) : Option Q1 :=
 let (((a,b,c,_),d,e,f,_),g,h,_):=x; (makeL I a a).bind fun m1=>(Zbb_L3 (a,b,c,d,e,f,m1,g,h,(m1.length : Nat),0,())).bind (Sum.elim (fun (a_3,b_3,c_3,d_3,e_3,f_3,g_3,h_3,i_3,_)=>(Zbb_L8 (a_3,b_3,c_3,d_3,e_3,f_3,g_3,h_3,i_3,true,())).bind (Sum.elim (fun z5=>some (z5.1,())) (fun _=>none))) (fun _=>none))
def Zbb_c : Con:={ ins:=[(.rd,yQ11),(.rd,(.slice I)),(.rd,I)],outs:=[(true,(.slice I))],fn:=Zbb }
def Zbb_C : Ctx:={ tab:=tab,con:=fun | 31,_=>some Zbm_c | _,_=>none,glob:=glob,eqs:=eqs,maps:=maps }
theorem Zbb_R11 (x : Zbb_H11.ty.den) : round Zbb_C Zbb_As Zbb_A11 (loopBody 11 (bodyOf Tryd.f27)) x=Zbb_B11 x:=by kernel_rfl
theorem Zbb_R8 (x : Zbb_H8.ty.den) : round Zbb_C Zbb_As Zbb_A8 (loopBody 8 (bodyOf Tryd.f27)) x=Zbb_B8 x:=by kernel_rfl
theorem Zbb_R3 (x : Zbb_H3.ty.den) : round Zbb_C Zbb_As Zbb_A3 (loopBody 3 (bodyOf Tryd.f27)) x=Zbb_B3 x:=by kernel_rfl
theorem Zbb_eq (x : (tupTy [yQ11,(.slice I),I]).den) : callFn Zbb_C Zbb_As (bodyOf Tryd.f27) [(.rd,yQ11),(.rd,(.slice I)),(.rd,I)] [(.tmp 6,true,(.slice I))] x=Zbb x:=by kernel_rfl
def Zbq_H14 : Shape:={ env:=[(2,.av (.val (.slice I))),(9,.av (.own 9)),(14,.av (.own 14)),(70,.av (.val I)),(71,.av (.val I))],objs:=[(9,.arr I),(14,.arr I)] }
def Zbq_E14 : List (Ex×Shape):=[(.exit 4,{ env:=[(14,.av (.own 14))],objs:=[(14,.arr I)] })]
def Zbq_B14 (x : Q14) : Option (Q14⊕(Q1⊕Empty)) :=
 let (a,b,c,d,e,_):=x; cond (ltI e d) ((getI c e).bind fun y1=>(idxI a.length y1).bind fun j2=>(a[j2]?).bind fun y3=>(idxI b.length e).bind fun j4=>(b[j4]?).bind fun y5=>some (.inl (a,(b.set j4 y3),c,d,(addI .i64 e 1),()))) (some (.inr (.inl (b,()))))
def Zbq_L14 : Q14→Option (Q1⊕Empty):=loopFix Zbq_B14
def Zbq_A14 : Ann:={ head:=Zbq_H14,exits:=Zbq_E14,fn:=Zbq_L14 }
def Zbq_H5 : Shape:={ env:=[(1,.av (.val (.slice I))),(2,.av (.val (.slice I))),(3,.av (.val I)),(4,.av (.ptr 4 0)),(9,.av (.own 9)),(22,.av (.val I)),(23,.av (.val I)),(25,.av (.val (.slice I))),(26,.av (.val I)),(27,.av (.val I))],objs:=[(4,.box [.val I,.val (.slice yQ2),.val yQ5,.val (.slice I),.val (.slice .str),.val I]),(9,.arr I)] }
def Zbq_E5 : List (Ex×Shape):=[(.exit 2,{ env:=[(1,.av (.val (.slice I))),(2,.av (.val (.slice I))),(3,.av (.val I)),(4,.av (.ptr 4 0)),(9,.av (.own 9)),(22,.av (.val I)),(23,.av (.val I))],objs:=[(4,.box [.val I,.val (.slice yQ2),.val yQ5,.val (.slice I),.val (.slice .str),.val I]),(9,.arr I)] })]
def Zbq_B5 (x : Q76) : Option (Q76⊕(Q69⊕Empty)) :=
 let (a,b,c,d,e,f,g,h,i,k,l,m,n,o,p,_):=x; cond (ltI p o) ((getI n p).bind fun y1=>(Zbm ((a,b,c,()),p,())).bind fun r2=>(getI i r2.1).bind fun y3=>(Zbm ((a,b,c,()),(xorI .i64 p 1),())).bind fun r4=>(getI i r4.1).bind fun y5=>cond (eqI y1 k) ((idxI g.length y5).bind fun j6=>(g[j6]?).bind fun y7=>(idxI g.length y3).bind fun j8=>(g[j8]?).bind fun y9=>(idxI g.length y5).bind fun j10=>(g[j10]?).bind fun y11=>some (.inl (a,b,c,d,e,f,(g.set j10 (maxI y7 (addI .i64 y9 1))),h,i,k,l,m,n,o,(addI .i64 p 1),()))) (some (.inl (a,b,c,d,e,f,g,h,i,k,l,m,n,o,(addI .i64 p 1),())))) (some (.inr (.inl (a,b,c,d,e,f,g,h,i,k,l,m,()))))
def Zbq_L5 : Q76→Option (Q69⊕Empty):=loopFix Zbq_B5
def Zbq_A5 : Ann:={ head:=Zbq_H5,exits:=Zbq_E5,fn:=Zbq_L5 }
def Zbq_H3 : Shape:={ env:=[(1,.av (.val (.slice I))),(2,.av (.val (.slice I))),(3,.av (.val I)),(4,.av (.ptr 4 0)),(9,.av (.own 9)),(22,.av (.val I)),(23,.av (.val I))],objs:=[(4,.box [.val I,.val (.slice yQ2),.val yQ5,.val (.slice I),.val (.slice .str),.val I]),(9,.arr I)] }
def Zbq_E3 : List (Ex×Shape):=[(.exit 0,{ env:=[(2,.av (.val (.slice I))),(4,.av (.ptr 4 0)),(9,.av (.own 9))],objs:=[(4,.box [.val I,.val (.slice yQ2),.val yQ5,.val (.slice I),.val (.slice .str),.val I]),(9,.arr I)] })]
def Zbq_B3 (x : Q69) : Option (Q69⊕(Q43⊕Empty)) :=
 let (a,b,c,d,e,f,g,h,i,k,l,m,_):=x; cond (ltI m l) ((Zbq_L5 (a,b,c,d,e,f,g,h,i,k,l,m,h,(h.length : Nat),0,())).bind (Sum.elim (fun (a_2,b_2,c_2,d_2,e_2,f_2,g_2,h_2,i_2,k_2,l_2,m_2,_)=>some (.inl (a_2,b_2,c_2,d_2,e_2,f_2,g_2,h_2,i_2,k_2,l_2,(addI .i64 m_2 1),()))) (fun _=>none))) (some (.inr (.inl (a,b,c,d,e,f,g,i,()))))
def Zbq_L3 : Q69→Option (Q43⊕Empty):=loopFix Zbq_B3
def Zbq_A3 : Ann:={ head:=Zbq_H3,exits:=Zbq_E3,fn:=Zbq_L3 }
def Zbq_As : Anns:=[(3,Zbq_A3),(5,Zbq_A5),(14,Zbq_A14)]
def Zbq (x : (Q10×List Int×List Int×Int×Unit)) : Option Q1 :=
 let (((a,b,c,_),d,e,f,_),g,h,i,_):=x; (makeL I a a).bind fun m1=>(Zbq_L3 (a,b,c,d,e,f,m1,g,h,i,a,0,())).bind (Sum.elim (fun (a_3,_,_,_,_,_,b_3,c_3,_)=>(makeL I a_3 a_3).bind fun m4=>(Zbq_L14 (b_3,m4,c_3,(m4.length : Nat),0,())).bind (Sum.elim (fun z6=>some (z6.1,())) (fun _=>none))) (fun _=>none))
def Zbq_c : Con:={ ins:=[(.rd,yQ11),(.rd,(.slice I)),(.rd,(.slice I)),(.rd,I)],outs:=[(true,(.slice I))],fn:=Zbq }
def Zbq_C : Ctx:={ tab:=tab,con:=fun | 31,_=>some Zbm_c | _,_=>none,glob:=glob,eqs:=eqs,maps:=maps }
theorem Zbq_R14 (x : Zbq_H14.ty.den) : round Zbq_C Zbq_As Zbq_A14 (loopBody 14 (bodyOf Tryd.f26)) x=Zbq_B14 x:=by kernel_rfl
theorem Zbq_R5 (x : Zbq_H5.ty.den) : round Zbq_C Zbq_As Zbq_A5 (loopBody 5 (bodyOf Tryd.f26)) x=Zbq_B5 x:=by kernel_rfl
theorem Zbq_R3 (x : Zbq_H3.ty.den) : round Zbq_C Zbq_As Zbq_A3 (loopBody 3 (bodyOf Tryd.f26)) x=Zbq_B3 x:=by kernel_rfl
theorem Zbq_eq (x : (tupTy [yQ11,(.slice I),(.slice I),I]).den) : callFn Zbq_C Zbq_As (bodyOf Tryd.f26) [(.rd,yQ11),(.rd,(.slice I)),(.rd,(.slice I)),(.rd,I)] [(.tmp 8,true,(.slice I))] x=Zbq x:=by kernel_rfl
def Zbs_H8 : Shape:={ env:=[(5,.av (.own 5)),(6,.av (.own 6)),(7,.av (.own 7)),(36,.av (.val I)),(37,.av (.val I))],objs:=[(5,.arr I),(6,.arr I),(7,.arr yQ2)] }
def Zbs_E8 : List (Ex×Shape):=[(.exit 0,{ env:=[(7,.av (.own 7))],objs:=[(7,.arr yQ2)] })]
def Zbs_B8 (x : Q16) : Option (Q16⊕(((List Q2)×Unit)⊕Empty)) :=
 let (a,b,c,d,e,_):=x; cond (ltI e d) ((idxI a.length e).bind fun j1=>(a[j1]?).bind fun y2=>(idxI b.length e).bind fun j3=>(b[j3]?).bind fun y4=>(idxI c.length e).bind fun j5=>(c[j5]?).bind fun y6=>some (.inl (a,b,(c.set j5 (y2,y4,())),d,(addI .i64 e 1),()))) (some (.inr (.inl (c,()))))
def Zbs_L8 : Q16→Option (((List Q2)×Unit)⊕Empty):=loopFix Zbs_B8
def Zbs_A8 : Ann:={ head:=Zbs_H8,exits:=Zbs_E8,fn:=Zbs_L8 }
def Zbs_As : Anns:=[(8,Zbs_A8)]
def Zbs (x : (Q10×Unit)) : Option ((List Q2)×Int×Unit) :=
 let (((a,b,c,_),d,e,f,_),_):=x; (Zax (((a,b,c,()),d,e,f,()),())).bind fun r1=>cond (!r1.1) (some ([],13,())) ((Zp (((a,b,c,()),d,e,f,()),())).bind fun r2=>cond (!r2.1) (some ([],13,())) ((Zay (((a,b,c,()),d,e,f,()),())).bind fun r3=>(Zbb (((a,b,c,()),d,e,f,()),r3.1,0,())).bind fun r4=>(Zbq (((a,b,c,()),d,e,f,()),r3.1,r4.1,1,())).bind fun r5=>(Zbb (((a,b,c,()),d,e,f,()),r3.1,1,())).bind fun r6=>(Zbq (((a,b,c,()),d,e,f,()),r3.1,r6.1,2,())).bind fun r7=>(makeL yQ2 a a).bind fun m8=>(Zbs_L8 (r5.1,r7.1,m8,(m8.length : Nat),0,())).bind (Sum.elim (fun z10=>some (z10.1,0,())) (fun _=>none))))
def Zbs_c : Con:={ ins:=[(.rd,yQ11)],outs:=[(true,(.slice yQ2)),(true,I)],fn:=Zbs }
def Zbs_C : Ctx:={ tab:=tab,con:=fun | 22,_=>some Zax_c | 23,_=>some Zay_c | 25,_=>some Zp_c | 26,_=>some Zbq_c | 27,_=>some Zbb_c | _,_=>none,glob:=glob,eqs:=eqs,maps:=maps }
theorem Zbs_R8 (x : Zbs_H8.ty.den) : round Zbs_C Zbs_As Zbs_A8 (loopBody 8 (bodyOf Tryd.f13)) x=Zbs_B8 x:=by kernel_rfl
theorem Zbs_eq (x : (tupTy [yQ11]).den) : callFn Zbs_C Zbs_As (bodyOf Tryd.f13) [(.rd,yQ11)] [(.tmp 2,true,(.slice yQ2)),(.tmp 3,true,I)] x=Zbs x:=by kernel_rfl
def Zk_H4 : Shape:={ env:=[(0,.av (.val (.slice I))),(1,.av (.val (.slice I))),(5,.av (.val I))],objs:=[] }
def Zk_E4 : List (Ex×Shape):=[(.ret,{ env:=[(4,.av (.val .bool))],objs:=[] }),(.exit 0,{ env:=[],objs:=[] })]
def Zk_B4 (x : (List Int×List Int×Int×Unit)) : Option ((List Int×List Int×Int×Unit)⊕((Bool×Unit)⊕(Unit⊕Empty))) :=
 let (a,b,c,_):=x; cond (ltI c (a.length : Nat)) ((getI a c).bind fun y1=>(getI b c).bind fun y2=>cond (neI y1 y2) (some (.inr (.inl (false,())))) (some (.inl (a,b,(addI .i64 c 1),())))) (some (.inr (.inr (.inl ()))))
def Zk_L4 : (List Int×List Int×Int×Unit)→Option ((Bool×Unit)⊕(Unit⊕Empty)):=loopFix Zk_B4
def Zk_A4 : Ann:={ head:=Zk_H4,exits:=Zk_E4,fn:=Zk_L4 }
def Zk_As : Anns:=[(4,Zk_A4)]
def Zk (x : (List Int×List Int×Unit)) : Option (Bool×Unit) :=
 cond (neI (x.1.length : Nat) (x.2.1.length : Nat)) (some (false,())) ((Zk_L4 (x.1,x.2.1,0,())).bind (Sum.elim (fun z2=>some (z2.1,())) (Sum.elim (fun z3=>some (true,())) (fun _=>none))))
def Zk_c : Con:={ ins:=[(.rd,(.slice I)),(.rd,(.slice I))],outs:=[(true,.bool)],fn:=Zk }
def Zk_C : Ctx:={ tab:=tab,con:=fun _ _=>none,glob:=glob,eqs:=eqs,maps:=maps }
theorem Zk_R4 (x : Zk_H4.ty.den) : round Zk_C Zk_As Zk_A4 (loopBody 4 (bodyOf Tryd.f12)) x=Zk_B4 x:=by kernel_rfl
theorem Zk_eq (x : (tupTy [(.slice I),(.slice I)]).den) : callFn Zk_C Zk_As (bodyOf Tryd.f12) [(.rd,(.slice I)),(.rd,(.slice I))] [(.tmp 4,true,.bool)] x=Zk x:=by kernel_rfl
def Zh_H4 : Shape:={ env:=[(0,.av (.val (.slice yQ2))),(1,.av (.val (.slice yQ2))),(5,.av (.val I))],objs:=[] }
def Zh_E4 : List (Ex×Shape):=[(.ret,{ env:=[(4,.av (.val .bool))],objs:=[] }),(.exit 0,{ env:=[],objs:=[] })]
def Zh_B4 (x : ((List Q2)×(List Q2)×Int×Unit)) : Option (((List Q2)×(List Q2)×Int×Unit)⊕((Bool×Unit)⊕(Unit⊕Empty))) :=
 let (a,b,c,_):=x; cond (ltI c (a.length : Nat)) ((getI a c).bind fun y1=>(getI b c).bind fun y2=>cond (!((eqI y1.1 y2.1) && ((eqI y1.2.1 y2.2.1) && true))) (some (.inr (.inl (false,())))) (some (.inl (a,b,(addI .i64 c 1),())))) (some (.inr (.inr (.inl ()))))
def Zh_L4 : ((List Q2)×(List Q2)×Int×Unit)→Option ((Bool×Unit)⊕(Unit⊕Empty)):=loopFix Zh_B4
def Zh_A4 : Ann:={ head:=Zh_H4,exits:=Zh_E4,fn:=Zh_L4 }
def Zh_As : Anns:=[(4,Zh_A4)]
def Zh (x : ((List Q2)×(List Q2)×Unit)) : Option (Bool×Unit) :=
 cond (neI (x.1.length : Nat) (x.2.1.length : Nat)) (some (false,())) ((Zh_L4 (x.1,x.2.1,0,())).bind (Sum.elim (fun z2=>some (z2.1,())) (Sum.elim (fun z3=>some (true,())) (fun _=>none))))
def Zh_c : Con:={ ins:=[(.rd,(.slice yQ2)),(.rd,(.slice yQ2))],outs:=[(true,.bool)],fn:=Zh }
def Zh_C : Ctx:={ tab:=tab,con:=fun _ _=>none,glob:=glob,eqs:=eqs,maps:=maps }
theorem Zh_R4 (x : Zh_H4.ty.den) : round Zh_C Zh_As Zh_A4 (loopBody 4 (bodyOf Tryd.f15)) x=Zh_B4 x:=by kernel_rfl
theorem Zh_eq (x : (tupTy [(.slice yQ2),(.slice yQ2)]).den) : callFn Zh_C Zh_As (bodyOf Tryd.f15) [(.rd,(.slice yQ2)),(.rd,(.slice yQ2))] [(.tmp 4,true,.bool)] x=Zh x:=by kernel_rfl
def Zca_As : Anns:=[]
def Zca (x : (Q2×Unit)) : Option (Bool×Unit) :=
 let ((a,b,_),_):=x; cond (geI a (-268435456)) (cond (leI a 268435456) (cond (geI b (-268435456)) (some ((leI b 268435456),())) (some (false,()))) (some (false,()))) (some (false,()))
def Zca_c : Con:={ ins:=[(.rd,yQ2)],outs:=[(true,.bool)],fn:=Zca }
def Zca_C : Ctx:={ tab:=tab,con:=fun _ _=>none,glob:=glob,eqs:=eqs,maps:=maps }
theorem Zca_eq (x : (tupTy [yQ2]).den) : callFn Zca_C Zca_As (bodyOf Tryd.f49) [(.rd,yQ2)] [(.tmp 2,true,.bool)] x=Zca x:=by kernel_rfl
def Zab_H3 : Shape:={ env:=[(3,.av (.ownm 3)),(7,.av (.val (.slice yQ2))),(8,.av (.val I)),(9,.av (.val I))],objs:=[(3,.map yQ2 .bool)] }
def Zab_E3 : List (Ex×Shape):=[(.ret,{ env:=[(2,.av (.val .bool))],objs:=[] }),(.exit 0,{ env:=[],objs:=[] })]
def Zab_B3 (x : Q15) : Option (Q15⊕((Bool×Unit)⊕(Unit⊕Empty))) :=
 let (a,b,c,d,_):=x; cond (ltI d c) ((getI b d).bind fun y1=>(Zca ((y1.1,y1.2.1,()),())).bind fun r2=>cond (!r2.1) (some (.inr (.inl (false,())))) (cond ((mapGet yQ2 .bool (y1.1,y1.2.1,()) a).getD (zeroVal .bool)) (some (.inr (.inl (false,())))) (some (.inl ((mapSet yQ2 .bool (y1.1,y1.2.1,()) true a),b,c,(addI .i64 d 1),()))))) (some (.inr (.inr (.inl ()))))
def Zab_L3 : Q15→Option ((Bool×Unit)⊕(Unit⊕Empty)):=loopFix Zab_B3
def Zab_A3 : Ann:={ head:=Zab_H3,exits:=Zab_E3,fn:=Zab_L3 }
def Zab_As : Anns:=[(3,Zab_A3)]
def Zab (x : ((List Q2)×Unit)) : Option (Bool×Unit) :=
 (Zab_L3 ([],x.1,(x.1.length : Nat),0,())).bind (Sum.elim (fun z2=>some (z2.1,())) (Sum.elim (fun z3=>some (true,())) (fun _=>none)))
def Zab_c : Con:={ ins:=[(.rd,(.slice yQ2))],outs:=[(true,.bool)],fn:=Zab }
def Zab_C : Ctx:={ tab:=tab,con:=fun | 49,_=>some Zca_c | _,_=>none,glob:=glob,eqs:=eqs,maps:=maps }
theorem Zab_R3 (x : Zab_H3.ty.den) : round Zab_C Zab_As Zab_A3 (loopBody 3 (bodyOf Tryd.f29)) x=Zab_B3 x:=by kernel_rfl
theorem Zab_eq (x : (tupTy [(.slice yQ2)]).den) : callFn Zab_C Zab_As (bodyOf Tryd.f29) [(.rd,(.slice yQ2))] [(.tmp 2,true,.bool)] x=Zab x:=by kernel_rfl
def Zbp_As : Anns:=[]
def Zbp (x : (Q2×Q2×Int×Unit)) : Option (Bool×Unit) :=
 let ((a,b,_),(c,d,_),e,_):=x; cond (eqI e 0) (cond (eqI a c) (some ((ltI d b),())) (some (false,()))) (cond (eqI e 1) (cond (eqI b d) (some ((gtI c a),())) (some (false,()))) (cond (eqI e 2) (cond (eqI a c) (some ((gtI d b),())) (some (false,()))) (cond (eqI b d) (some ((ltI c a),())) (some (false,())))))
def Zbp_c : Con:={ ins:=[(.rd,yQ2),(.rd,yQ2),(.rd,I)],outs:=[(true,.bool)],fn:=Zbp }
def Zbp_C : Ctx:={ tab:=tab,con:=fun _ _=>none,glob:=glob,eqs:=eqs,maps:=maps }
theorem Zbp_eq (x : (tupTy [yQ2,yQ2,I]).den) : callFn Zbp_C Zbp_As (bodyOf Tryd.f30) [(.rd,yQ2),(.rd,yQ2),(.rd,I)] [(.tmp 6,true,.bool)] x=Zbp x:=by kernel_rfl
def Zcf_As : Anns:=[]
def Zcf (x : (Q3×Unit)) : Option (Q3×Bool×Unit) :=
 let (((a,b,_),(c,d,_),_),_):=x; (Zca ((a,b,()),())).bind fun r1=>cond r1.1 ((Zca ((c,d,()),())).bind fun r2=>some (((a,b,()),(c,d,()),()),r2.1,())) (some (((a,b,()),(c,d,()),()),false,()))
def Zcf_c : Con:={ ins:=[(.rd,yQ4)],outs:=[(true,yQ4),(true,.bool)],fn:=Zcf }
def Zcf_C : Ctx:={ tab:=tab,con:=fun | 49,_=>some Zca_c | _,_=>none,glob:=glob,eqs:=eqs,maps:=maps }
theorem Zcf_eq (x : (tupTy [yQ4]).den) : callFn Zcf_C Zcf_As (bodyOf Tryd.f66) [(.rd,yQ4)] [(.cell 2 78,true,yQ4),(.tmp 3,true,.bool)] x=Zcf x:=by kernel_rfl
def Zas_As : Anns:=[]
def Zas (x : (Q3×Q2×Unit)) : Option (Bool×Unit) :=
 let (((a,b,_),(c,d,_),_),(e,f,_),_):=x; cond (geI e (minI a c)) (cond (leI e (maxI a c)) (cond (geI f (minI b d)) (some ((leI f (maxI b d)),())) (some (false,()))) (some (false,()))) (some (false,()))
def Zas_c : Con:={ ins:=[(.rd,yQ4),(.rd,yQ2)],outs:=[(true,.bool)],fn:=Zas }
def Zas_C : Ctx:={ tab:=tab,con:=fun _ _=>none,glob:=glob,eqs:=eqs,maps:=maps }
theorem Zas_eq (x : (tupTy [yQ4,yQ2]).den) : callFn Zas_C Zas_As (bodyOf Tryd.f81) [(.rd,yQ4),(.rd,yQ2)] [(.tmp 4,true,.bool)] x=Zas x:=by kernel_rfl
def Zbe_As : Anns:=[]
def Zbe (x : (Q3×Q2×Unit)) : Option (Int×Unit) :=
 let (((a,b,_),(c,d,_),_),(e,f,_),_):=x; cond (gtI (subI .i64 (mulI .i64 (subI .i64 c a) (subI .i64 f b)) (mulI .i64 (subI .i64 d b) (subI .i64 e a))) 0) (some (1,())) (cond (ltI (subI .i64 (mulI .i64 (subI .i64 c a) (subI .i64 f b)) (mulI .i64 (subI .i64 d b) (subI .i64 e a))) 0) (some ((-1),())) (some (0,())))
def Zbe_c : Con:={ ins:=[(.rd,yQ4),(.rd,yQ2)],outs:=[(true,I)],fn:=Zbe }
def Zbe_C : Ctx:={ tab:=tab,con:=fun _ _=>none,glob:=glob,eqs:=eqs,maps:=maps }
theorem Zbe_eq (x : (tupTy [yQ4,yQ2]).den) : callFn Zbe_C Zbe_As (bodyOf Tryd.f82) [(.rd,yQ4),(.rd,yQ2)] [(.tmp 4,true,I)] x=Zbe x:=by kernel_rfl
def Zbo_As : Anns:=[]
def Zbo (x : (Q3×Q2×Unit)) : Option (Bool×Unit) :=
 let (((a,b,_),(c,d,_),_),(e,f,_),_):=x; (Zas (((a,b,()),(c,d,()),()),(e,f,()),())).bind fun r1=>cond r1.1 ((Zbe (((a,b,()),(c,d,()),()),(e,f,()),())).bind fun r2=>some ((eqI r2.1 0),())) (some (false,()))
def Zbo_c : Con:={ ins:=[(.rd,yQ4),(.rd,yQ2)],outs:=[(true,.bool)],fn:=Zbo }
def Zbo_C : Ctx:={ tab:=tab,con:=fun | 81,_=>some Zas_c | 82,_=>some Zbe_c | _,_=>none,glob:=glob,eqs:=eqs,maps:=maps }
theorem Zbo_eq (x : (tupTy [yQ4,yQ2]).den) : callFn Zbo_C Zbo_As (bodyOf Tryd.f67) [(.rd,yQ4),(.rd,yQ2)] [(.tmp 4,true,.bool)] x=Zbo x:=by kernel_rfl
def Zce_As : Anns:=[]
def Zce (x : (Q2×Q3×Unit)) : Option (Bool×Unit) :=
 let ((a,b,_),((c,d,_),(e,f,_),_),_):=x; (Zcf (((c,d,()),(e,f,()),()),())).bind fun r1=>cond r1.2.1 ((Zca ((a,b,()),())).bind fun r2=>cond r2.1 ((Zbo (((r1.1.1.1,r1.1.1.2.1,()),(r1.1.2.1.1,r1.1.2.1.2.1,()),()),(a,b,()),())).bind fun r3=>some (r3.1,())) (some (false,()))) (some (false,()))
def Zce_c : Con:={ ins:=[(.rd,yQ2),(.rd,yQ4)],outs:=[(true,.bool)],fn:=Zce }
def Zce_C : Ctx:={ tab:=tab,con:=fun | 49,_=>some Zca_c | 66,_=>some Zcf_c | 67,_=>some Zbo_c | _,_=>none,glob:=glob,eqs:=eqs,maps:=maps }
theorem Zce_eq (x : (tupTy [yQ2,yQ4]).den) : callFn Zce_C Zce_As (bodyOf Tryd.f52) [(.rd,yQ2),(.rd,yQ4)] [(.tmp 4,true,.bool)] x=Zce x:=by kernel_rfl
def Zau_As : Anns:=[]
def Zau (x : (Q3×Q3×Unit)) : Option (Bool×Unit) :=
 let (((a,b,_),(c,d,_),_),((e,f,_),(g,h,_),_),_):=x; (Zbe (((a,b,()),(c,d,()),()),(e,f,()),())).bind fun r1=>(Zbe (((a,b,()),(c,d,()),()),(g,h,()),())).bind fun r2=>some ((ltI (mulI .i64 r1.1 r2.1) 0),())
def Zau_c : Con:={ ins:=[(.rd,yQ4),(.rd,yQ4)],outs:=[(true,.bool)],fn:=Zau }
def Zau_C : Ctx:={ tab:=tab,con:=fun | 82,_=>some Zbe_c | _,_=>none,glob:=glob,eqs:=eqs,maps:=maps }
theorem Zau_eq (x : (tupTy [yQ4,yQ4]).den) : callFn Zau_C Zau_As (bodyOf Tryd.f68) [(.rd,yQ4),(.rd,yQ4)] [(.tmp 4,true,.bool)] x=Zau x:=by kernel_rfl
def Zcd_As : Anns:=[]
def Zcd (x : (Q3×Q3×Unit)) : Option (Bool×Unit) :=
 let (((a,b,_),(c,d,_),_),((e,f,_),(g,h,_),_),_):=x; (Zcf (((a,b,()),(c,d,()),()),())).bind fun r1=>(Zcf (((e,f,()),(g,h,()),()),())).bind fun r2=>let t_0:=(Zbo (((r1.1.1.1,r1.1.1.2.1,()),(r1.1.2.1.1,r1.1.2.1.2.1,()),()),(r2.1.1.1,r2.1.1.2.1,()),())).bind fun r5=>cond r5.1 (some (true,())) ((Zbo (((r1.1.1.1,r1.1.1.2.1,()),(r1.1.2.1.1,r1.1.2.1.2.1,()),()),(r2.1.2.1.1,r2.1.2.1.2.1,()),())).bind fun r6=>cond r6.1 (some (true,())) ((Zbo (((r2.1.1.1,r2.1.1.2.1,()),(r2.1.2.1.1,r2.1.2.1.2.1,()),()),(r1.1.1.1,r1.1.1.2.1,()),())).bind fun r7=>cond r7.1 (some (true,())) ((Zbo (((r2.1.1.1,r2.1.1.2.1,()),(r2.1.2.1.1,r2.1.2.1.2.1,()),()),(r1.1.2.1.1,r1.1.2.1.2.1,()),())).bind fun r8=>some (r8.1,())))); cond (!r1.2.1) (some (false,())) (cond (!r2.2.1) (some (false,())) ((Zau (((r1.1.1.1,r1.1.1.2.1,()),(r1.1.2.1.1,r1.1.2.1.2.1,()),()),((r2.1.1.1,r2.1.1.2.1,()),(r2.1.2.1.1,r2.1.2.1.2.1,()),()),())).bind fun r3=>cond r3.1 ((Zau (((r2.1.1.1,r2.1.1.2.1,()),(r2.1.2.1.1,r2.1.2.1.2.1,()),()),((r1.1.1.1,r1.1.1.2.1,()),(r1.1.2.1.1,r1.1.2.1.2.1,()),()),())).bind fun r4=>cond r4.1 (some (true,())) t_0) t_0))
def Zcd_c : Con:={ ins:=[(.rd,yQ4),(.rd,yQ4)],outs:=[(true,.bool)],fn:=Zcd }
def Zcd_C : Ctx:={ tab:=tab,con:=fun | 66,_=>some Zcf_c | 67,_=>some Zbo_c | 68,_=>some Zau_c | _,_=>none,glob:=glob,eqs:=eqs,maps:=maps }
theorem Zcd_eq (x : (tupTy [yQ4,yQ4]).den) : callFn Zcd_C Zcd_As (bodyOf Tryd.f53) [(.rd,yQ4),(.rd,yQ4)] [(.tmp 4,true,.bool)] x=Zcd x:=by kernel_rfl
def Zbu_As : Anns:=[]
def Zbu (x : ((List Q2)×Q2×Q2×Unit)) : Option (Bool×Unit) :=
 let (a,(b,c,_),(d,e,_),_):=x; (getI a b).bind fun y1=>(getI a c).bind fun y2=>(getI a d).bind fun y3=>(getI a e).bind fun y4=>let t_1:=cond (eqI b d) ((Zce ((y2.1,y2.2.1,()),((y3.1,y3.2.1,()),(y4.1,y4.2.1,()),()),())).bind fun r5=>cond (!r5.1) ((Zce ((y4.1,y4.2.1,()),((y1.1,y1.2.1,()),(y2.1,y2.2.1,()),()),())).bind fun r6=>some ((!r6.1),())) (some (false,()))) (cond (eqI b e) ((Zce ((y2.1,y2.2.1,()),((y3.1,y3.2.1,()),(y4.1,y4.2.1,()),()),())).bind fun r7=>cond (!r7.1) ((Zce ((y3.1,y3.2.1,()),((y1.1,y1.2.1,()),(y2.1,y2.2.1,()),()),())).bind fun r8=>some ((!r8.1),())) (some (false,()))) (cond (eqI c d) ((Zce ((y1.1,y1.2.1,()),((y3.1,y3.2.1,()),(y4.1,y4.2.1,()),()),())).bind fun r9=>cond (!r9.1) ((Zce ((y4.1,y4.2.1,()),((y1.1,y1.2.1,()),(y2.1,y2.2.1,()),()),())).bind fun r10=>some ((!r10.1),())) (some (false,()))) (cond (eqI c e) ((Zce ((y1.1,y1.2.1,()),((y3.1,y3.2.1,()),(y4.1,y4.2.1,()),()),())).bind fun r11=>cond (!r11.1) ((Zce ((y3.1,y3.2.1,()),((y1.1,y1.2.1,()),(y2.1,y2.2.1,()),()),())).bind fun r12=>some ((!r12.1),())) (some (false,()))) ((Zcd (((y1.1,y1.2.1,()),(y2.1,y2.2.1,()),()),((y3.1,y3.2.1,()),(y4.1,y4.2.1,()),()),())).bind fun r13=>some ((!r13.1),()))))); let t_0:=cond (eqI b e) (cond (eqI c d) (some (false,())) t_1) t_1; cond (eqI b d) (cond (eqI c e) (some (false,())) t_0) t_0
def Zbu_c : Con:={ ins:=[(.rd,(.slice yQ2)),(.rd,yQ2),(.rd,yQ2)],outs:=[(true,.bool)],fn:=Zbu }
def Zbu_C : Ctx:={ tab:=tab,con:=fun | 52,_=>some Zce_c | 53,_=>some Zcd_c | _,_=>none,glob:=glob,eqs:=eqs,maps:=maps }
theorem Zbu_eq (x : (tupTy [(.slice yQ2),yQ2,yQ2]).den) : callFn Zbu_C Zbu_As (bodyOf Tryd.f32) [(.rd,(.slice yQ2)),(.rd,yQ2),(.rd,yQ2)] [(.tmp 6,true,.bool)] x=Zbu x:=by kernel_rfl
def Zbt_H13 : Shape:={ env:=[(1,.av (.val (.slice yQ2))),(2,.av (.ptr 2 0)),(8,.av (.ptr 8 0)),(56,.av (.val (.slice yQ2))),(57,.av (.val I)),(58,.av (.val I)),(67,.av (.val (.slice yQ2))),(68,.av (.val I)),(69,.av (.val I))],objs:=[(2,.box [.val I,.val (.slice yQ2),.val yQ5,.val (.slice I),.val (.slice .str),.val I]),(8,.box [.val I,.val I])] }
def Zbt_E13 : List (Ex×Shape):=[(.ret,{ env:=[(4,.av (.val .bool))],objs:=[] }),(.exit 4,{ env:=[(1,.av (.val (.slice yQ2))),(2,.av (.ptr 2 0)),(56,.av (.val (.slice yQ2))),(57,.av (.val I)),(58,.av (.val I))],objs:=[(2,.box [.val I,.val (.slice yQ2),.val yQ5,.val (.slice I),.val (.slice .str),.val I])] })]
def Zbt_B13 (x : Q75) : Option (Q75⊕((Bool×Unit)⊕(Q56⊕Empty))) :=
 let (a,b,c,d,e,f,g,h,i,k,l,m,n,o,p,_):=x; cond (ltI p o) ((getI n p).bind fun y1=>(Zbu (i,(g,h,()),(y1.1,y1.2.1,()),())).bind fun r2=>cond (!r2.1) (some (.inr (.inl (false,())))) (some (.inl (a,b,c,d,e,f,g,h,i,k,l,m,n,o,(addI .i64 p 1),())))) (some (.inr (.inr (.inl (a,b,c,d,e,f,i,k,l,m,())))))
def Zbt_L13 : Q75→Option ((Bool×Unit)⊕(Q56⊕Empty)):=loopFix Zbt_B13
def Zbt_A13 : Ann:={ head:=Zbt_H13,exits:=Zbt_E13,fn:=Zbt_L13 }
def Zbt_H10 : Shape:={ env:=[(1,.av (.val (.slice yQ2))),(2,.av (.ptr 2 0)),(56,.av (.val (.slice yQ2))),(57,.av (.val I)),(58,.av (.val I))],objs:=[(2,.box [.val I,.val (.slice yQ2),.val yQ5,.val (.slice I),.val (.slice .str),.val I])] }
def Zbt_E10 : List (Ex×Shape):=[(.ret,{ env:=[(4,.av (.val .bool))],objs:=[] }),(.exit 2,{ env:=[],objs:=[] })]
def Zbt_B10 (x : Q56) : Option (Q56⊕((Bool×Unit)⊕(Unit⊕Empty))) :=
 let (a,b,c,d,e,f,g,h,i,k,_):=x; cond (ltI k i) ((getI h k).bind fun y1=>(sliceL b 0 k).bind fun y2=>(Zbt_L13 (a,b,c,d,e,f,y1.1,y1.2.1,g,h,i,k,y2,(y2.length : Nat),0,())).bind (Sum.elim (fun z4=>some (.inr (.inl (z4.1,())))) (Sum.elim (fun (a_5,b_5,c_5,d_5,e_5,f_5,g_5,h_5,i_5,k_5,_)=>some (.inl (a_5,b_5,c_5,d_5,e_5,f_5,g_5,h_5,i_5,(addI .i64 k_5 1),()))) (fun _=>none)))) (some (.inr (.inr (.inl ()))))
def Zbt_L10 : Q56→Option ((Bool×Unit)⊕(Unit⊕Empty)):=loopFix Zbt_B10
def Zbt_A10 : Ann:={ head:=Zbt_H10,exits:=Zbt_E10,fn:=Zbt_L10 }
def Zbt_H4 : Shape:={ env:=[(1,.av (.val (.slice yQ2))),(2,.av (.ptr 2 0)),(28,.av (.own 28)),(29,.av (.val I)),(30,.av (.val I))],objs:=[(2,.box [.val I,.val (.slice yQ2),.val yQ5,.val (.slice I),.val (.slice .str),.val I]),(28,.arr I)] }
def Zbt_E4 : List (Ex×Shape):=[(.ret,{ env:=[(4,.av (.val .bool))],objs:=[] }),(.exit 0,{ env:=[(1,.av (.val (.slice yQ2))),(2,.av (.ptr 2 0))],objs:=[(2,.box [.val I,.val (.slice yQ2),.val yQ5,.val (.slice I),.val (.slice .str),.val I])] })]
def Zbt_B4 (x : Q55) : Option (Q55⊕((Bool×Unit)⊕(Q36⊕Empty))) :=
 let (a,b,c,d,e,f,g,h,i,k,_):=x; cond (ltI k i) ((idxI g.length k).bind fun j1=>(g[j1]?).bind fun y2=>(Zbm ((a,b,c,()),k,())).bind fun r3=>(getI h r3.1).bind fun y4=>(Zbm ((a,b,c,()),(xorI .i64 k 1),())).bind fun r5=>(getI h r5.1).bind fun y6=>(Zbp (y4,y6,y2,())).bind fun r7=>cond (!r7.1) (some (.inr (.inl (false,())))) (some (.inl (a,b,c,d,e,f,g,h,i,(addI .i64 k 1),())))) (some (.inr (.inr (.inl (a,b,c,d,e,f,h,())))))
def Zbt_L4 : Q55→Option ((Bool×Unit)⊕(Q36⊕Empty)):=loopFix Zbt_B4
def Zbt_A4 : Ann:={ head:=Zbt_H4,exits:=Zbt_E4,fn:=Zbt_L4 }
def Zbt_As : Anns:=[(4,Zbt_A4),(10,Zbt_A10),(13,Zbt_A13)]
def Zbt (x : (Q10×(List Q2)×Unit)) : Option (Bool×Unit) :=
 let (((a,b,c,_),d,e,f,_),g,_):=x; (Zax (((a,b,c,()),d,e,f,()),())).bind fun r1=>cond (!r1.1) (some (false,())) (cond (neI (g.length : Nat) a) (some (false,())) ((Zab (g,())).bind fun r2=>cond (!r2.1) (some (false,())) ((Zay (((a,b,c,()),d,e,f,()),())).bind fun r3=>(Zbt_L4 (a,b,c,d,e,f,r3.1,g,(r3.1.length : Nat),0,())).bind (Sum.elim (fun z5=>some (z5.1,())) (Sum.elim (fun (a_6,b_6,c_6,d_6,e_6,f_6,g_6,_)=>(Zbt_L10 (a_6,b_6,c_6,d_6,e_6,f_6,g_6,b_6,(b_6.length : Nat),0,())).bind (Sum.elim (fun z8=>some (z8.1,())) (Sum.elim (fun z9=>some (true,())) (fun _=>none)))) (fun _=>none))))))
def Zbt_c : Con:={ ins:=[(.rd,yQ11),(.rd,(.slice yQ2))],outs:=[(true,.bool)],fn:=Zbt }
def Zbt_C : Ctx:={ tab:=tab,con:=fun | 22,_=>some Zax_c | 23,_=>some Zay_c | 29,_=>some Zab_c | 30,_=>some Zbp_c | 31,_=>some Zbm_c | 32,_=>some Zbu_c | _,_=>none,glob:=glob,eqs:=eqs,maps:=maps }
theorem Zbt_R13 (x : Zbt_H13.ty.den) : round Zbt_C Zbt_As Zbt_A13 (loopBody 13 (bodyOf Tryd.f16)) x=Zbt_B13 x:=by kernel_rfl
theorem Zbt_R10 (x : Zbt_H10.ty.den) : round Zbt_C Zbt_As Zbt_A10 (loopBody 10 (bodyOf Tryd.f16)) x=Zbt_B10 x:=by kernel_rfl
theorem Zbt_R4 (x : Zbt_H4.ty.den) : round Zbt_C Zbt_As Zbt_A4 (loopBody 4 (bodyOf Tryd.f16)) x=Zbt_B4 x:=by kernel_rfl
theorem Zbt_eq (x : (tupTy [yQ11,(.slice yQ2)]).den) : callFn Zbt_C Zbt_As (bodyOf Tryd.f16) [(.rd,yQ11),(.rd,(.slice yQ2))] [(.tmp 4,true,.bool)] x=Zbt x:=by kernel_rfl
def Zaj_As : Anns:=[]
def Zaj (x : Unit) : Option (Bool×Unit) :=
 (Zr ()).bind fun r1=>(Zu (((r1.1.1.1,r1.1.1.2.1,r1.1.1.2.2.1,()),r1.1.2.1,r1.1.2.2.1,r1.1.2.2.2.1,()),())).bind fun r2=>(Zr ()).bind fun r3=>(Zbs (((r3.1.1.1,r3.1.1.2.1,r3.1.1.2.2.1,()),r3.1.2.1,r3.1.2.2.1,r3.1.2.2.2.1,()),())).bind fun r4=>cond (eqI r2.2.1 0) ((Zk (r2.1,[1,3,0,2,3,1,2,0],())).bind fun r5=>cond r5.1 (cond (eqI r4.2.1 0) ((Zh (r4.1,[(0,1,()),(1,1,()),(1,0,()),(0,0,())],())).bind fun r6=>cond r6.1 ((Zr ()).bind fun r7=>(Zbt (((r7.1.1.1,r7.1.1.2.1,r7.1.1.2.2.1,()),r7.1.2.1,r7.1.2.2.1,r7.1.2.2.2.1,()),r4.1,())).bind fun r8=>cond r8.1 ((Zr ()).bind fun r9=>(Zbt (((r9.1.1.1,r9.1.1.2.1,r9.1.1.2.2.1,()),r9.1.2.1,r9.1.2.2.1,r9.1.2.2.2.1,()),[(0,1,()),(1,1,()),(1,0,()),(1,0,())],())).bind fun r10=>some ((!r10.1),())) (some (false,()))) (some (false,()))) (some (false,()))) (some (false,()))) (some (false,()))
def Zaj_c : Con:={ ins:=[],outs:=[(true,.bool)],fn:=Zaj }
def Zaj_C : Ctx:={ tab:=tab,con:=fun | 10,_=>some Zu_c | 12,_=>some Zk_c | 13,_=>some Zbs_c | 15,_=>some Zh_c | 16,_=>some Zbt_c | 21,_=>some Zr_c | _,_=>none,glob:=glob,eqs:=eqs,maps:=maps }
theorem Zaj_eq (x : (tupTy []).den) : callFn Zaj_C Zaj_As (bodyOf Tryd.f9) [] [(.tmp 0,true,.bool)] x=Zaj x:=by kernel_rfl
def Zah_H3 : Shape:={ env:=[(1,.av (.ptr 1 0)),(3,.av (.own 3)),(4,.av (.val I))],objs:=[(1,.box [.val I,.val (.slice yQ2),.val yQ5]),(3,.arr I)] }
def Zah_E3 : List (Ex×Shape):=[(.exit 0,{ env:=[(3,.av (.own 3))],objs:=[(3,.arr I)] })]
def Zah_B3 (x : Q20) : Option (Q20⊕(Q1⊕Empty)) :=
 let (a,b,c,d,e,_):=x; cond (ltI e (b.length : Nat)) ((getI b e).bind fun y1=>(getI b e).bind fun y2=>(app d [y1.1,y2.2.1]).bind fun a3=>some (.inl (a,b,c,a3,(addI .i64 e 1),()))) (some (.inr (.inl (d,()))))
def Zah_L3 : Q20→Option (Q1⊕Empty):=loopFix Zah_B3
def Zah_A3 : Ann:={ head:=Zah_H3,exits:=Zah_E3,fn:=Zah_L3 }
def Zah_As : Anns:=[(3,Zah_A3)]
def Zah (x : (Q9×Unit)) : Option Q1 :=
 (Zah_L3 (x.1.1,x.1.2.1,x.1.2.2.1,[],0,())).bind (Sum.elim (fun z2=>some (z2.1,())) (fun _=>none))
def Zah_c : Con:={ ins:=[(.rd,yQ8)],outs:=[(true,(.slice I))],fn:=Zah }
def Zah_C : Ctx:={ tab:=tab,con:=fun _ _=>none,glob:=glob,eqs:=eqs,maps:=maps }
theorem Zah_R3 (x : Zah_H3.ty.den) : round Zah_C Zah_As Zah_A3 (loopBody 3 (bodyOf Tryd.f54)) x=Zah_B3 x:=by kernel_rfl
theorem Zah_eq (x : (tupTy [yQ8]).den) : callFn Zah_C Zah_As (bodyOf Tryd.f54) [(.rd,yQ8)] [(.tmp 2,true,(.slice I))] x=Zah x:=by kernel_rfl
def Zx_H16 : Shape:={ env:=[(1,.av (.ptr 1 0)),(5,.av (.own 5)),(6,.av (.own 6)),(7,.av (.val I)),(8,.av (.val I)),(9,.av (.val I))],objs:=[(1,.box [.val I,.val (.slice yQ2),.val yQ5]),(5,.arr I),(6,.arr .bool)] }
def Zx_E16 : List (Ex×Shape):=[(.ret,{ env:=[(2,.av (.val .bool))],objs:=[] }),(.exit 4,{ env:=[(1,.av (.ptr 1 0)),(5,.av (.own 5)),(6,.av (.own 6)),(7,.av (.val I)),(8,.av (.val I))],objs:=[(1,.box [.val I,.val (.slice yQ2),.val yQ5]),(5,.arr I),(6,.arr .bool)] })]
def Zx_B16 (x : Q33) : Option (Q33⊕((Bool×Unit)⊕(Q28⊕Empty))) :=
 let (a,b,c,d,e,f,g,h,_):=x; (getI c g).bind fun y1=>cond (ltI h (y1.length : Nat)) ((getI c g).bind fun y2=>(getI y2 h).bind fun y3=>cond (ltI y3 0) (some (.inr (.inl (false,())))) (cond (geI y3 (d.length : Nat)) (some (.inr (.inl (false,())))) ((idxI e.length y3).bind fun j4=>(e[j4]?).bind fun y5=>cond y5 (some (.inr (.inl (false,())))) ((idxI d.length y3).bind fun j6=>(d[j6]?).bind fun y7=>cond (neI y7 g) (some (.inr (.inl (false,())))) ((idxI e.length y3).bind fun j8=>(e[j8]?).bind fun y9=>some (.inl (a,b,c,d,(e.set j8 true),(addI .i64 f 1),g,(addI .i64 h 1),()))))))) (some (.inr (.inr (.inl (a,b,c,d,e,f,g,())))))
def Zx_L16 : Q33→Option ((Bool×Unit)⊕(Q28⊕Empty)):=loopFix Zx_B16
def Zx_A16 : Ann:={ head:=Zx_H16,exits:=Zx_E16,fn:=Zx_L16 }
def Zx_H13 : Shape:={ env:=[(1,.av (.ptr 1 0)),(5,.av (.own 5)),(6,.av (.own 6)),(7,.av (.val I)),(8,.av (.val I))],objs:=[(1,.box [.val I,.val (.slice yQ2),.val yQ5]),(5,.arr I),(6,.arr .bool)] }
def Zx_E13 : List (Ex×Shape):=[(.ret,{ env:=[(2,.av (.val .bool))],objs:=[] }),(.exit 2,{ env:=[(5,.av (.own 5)),(7,.av (.val I))],objs:=[(5,.arr I)] })]
def Zx_B13 (x : Q28) : Option (Q28⊕((Bool×Unit)⊕(Q5⊕Empty))) :=
 let (a,b,c,d,e,f,g,_):=x; cond (ltI g a) ((Zx_L16 (a,b,c,d,e,f,g,0,())).bind (Sum.elim (fun z2=>some (.inr (.inl (z2.1,())))) (Sum.elim (fun (a_3,b_3,c_3,d_3,e_3,f_3,g_3,_)=>some (.inl (a_3,b_3,c_3,d_3,e_3,f_3,(addI .i64 g_3 1),()))) (fun _=>none)))) (some (.inr (.inr (.inl (d,f,())))))
def Zx_L13 : Q28→Option ((Bool×Unit)⊕(Q5⊕Empty)):=loopFix Zx_B13
def Zx_A13 : Ann:={ head:=Zx_H13,exits:=Zx_E13,fn:=Zx_L13 }
def Zx_H4 : Shape:={ env:=[(1,.av (.ptr 1 0)),(3,.av (.val I))],objs:=[(1,.box [.val I,.val (.slice yQ2),.val yQ5])] }
def Zx_E4 : List (Ex×Shape):=[(.ret,{ env:=[(2,.av (.val .bool))],objs:=[] }),(.exit 0,{ env:=[(1,.av (.ptr 1 0))],objs:=[(1,.box [.val I,.val (.slice yQ2),.val yQ5])] })]
def Zx_B4 (x : Q13) : Option (Q13⊕((Bool×Unit)⊕(Q9⊕Empty))) :=
 let (a,b,c,d,_):=x; cond (ltI d (b.length : Nat)) ((getI b d).bind fun y1=>cond (ltI y1.1 0) (some (.inr (.inl (false,())))) (cond (geI y1.1 a) (some (.inr (.inl (false,())))) (cond (ltI y1.2.1 0) (some (.inr (.inl (false,())))) (cond (geI y1.2.1 a) (some (.inr (.inl (false,())))) (cond (eqI y1.1 y1.2.1) (some (.inr (.inl (false,())))) (some (.inl (a,b,c,(addI .i64 d 1),())))))))) (some (.inr (.inr (.inl (a,b,c,())))))
def Zx_L4 : Q13→Option ((Bool×Unit)⊕(Q9⊕Empty)):=loopFix Zx_B4
def Zx_A4 : Ann:={ head:=Zx_H4,exits:=Zx_E4,fn:=Zx_L4 }
def Zx_As : Anns:=[(4,Zx_A4),(13,Zx_A13),(16,Zx_A16)]
def Zx (x : (Q9×Unit)) : Option (Bool×Unit) :=
 let ((a,b,c,_),_):=x; cond (ltI a 0) (some (false,())) (cond (gtI a 16384) (some (false,())) (cond (gtI (b.length : Nat) 32768) (some (false,())) (cond (neI (c.length : Nat) a) (some (false,())) ((Zx_L4 (a,b,c,0,())).bind (Sum.elim (fun z2=>some (z2.1,())) (Sum.elim (fun (a_3,b_3,c_3,_)=>(Zah ((a_3,b_3,c_3,()),())).bind fun r4=>(makeL .bool (r4.1.length : Nat) (r4.1.length : Nat)).bind fun m5=>(Zx_L13 (a_3,b_3,c_3,r4.1,m5,0,0,())).bind (Sum.elim (fun z7=>some (z7.1,())) (Sum.elim (fun z8=>some ((eqI z8.2.1 (z8.1.length : Nat)),())) (fun _=>none)))) (fun _=>none)))))))
def Zx_c : Con:={ ins:=[(.rd,yQ8)],outs:=[(true,.bool)],fn:=Zx }
def Zx_C : Ctx:={ tab:=tab,con:=fun | 54,_=>some Zah_c | _,_=>none,glob:=glob,eqs:=eqs,maps:=maps }
theorem Zx_R16 (x : Zx_H16.ty.den) : round Zx_C Zx_As Zx_A16 (loopBody 16 (bodyOf Tryd.f39)) x=Zx_B16 x:=by kernel_rfl
theorem Zx_R13 (x : Zx_H13.ty.den) : round Zx_C Zx_As Zx_A13 (loopBody 13 (bodyOf Tryd.f39)) x=Zx_B13 x:=by kernel_rfl
theorem Zx_R4 (x : Zx_H4.ty.den) : round Zx_C Zx_As Zx_A4 (loopBody 4 (bodyOf Tryd.f39)) x=Zx_B4 x:=by kernel_rfl
theorem Zx_eq (x : (tupTy [yQ8]).den) : callFn Zx_C Zx_As (bodyOf Tryd.f39) [(.rd,yQ8)] [(.tmp 2,true,.bool)] x=Zx x:=by kernel_rfl
def Zv_H7 : Shape:={ env:=[(1,.av (.ptr 1 0)),(3,.av (.own 3)),(4,.av (.val I)),(5,.av (.val (.slice I))),(6,.av (.val I))],objs:=[(1,.box [.val I,.val (.slice yQ2),.val yQ5]),(3,.arr I)] }
def Zv_E7 : List (Ex×Shape):=[(.exit 2,{ env:=[(1,.av (.ptr 1 0)),(3,.av (.own 3)),(4,.av (.val I))],objs:=[(1,.box [.val I,.val (.slice yQ2),.val yQ5]),(3,.arr I)] })]
def Zv_B7 (x : Q27) : Option (Q27⊕(Q20⊕Empty)) :=
 let (a,b,c,d,e,f,g,_):=x; cond (ltI g (f.length : Nat)) ((getI f g).bind fun y1=>cond (eqI (f.length : Nat) 0) none ((getI f (remI (addI .i64 g 1) (f.length : Nat))).bind fun y2=>(idxI d.length y1).bind fun j3=>(d[j3]?).bind fun y4=>some (.inl (a,b,c,(d.set j3 y2),e,f,(addI .i64 g 1),())))) (some (.inr (.inl (a,b,c,d,e,()))))
def Zv_L7 : Q27→Option (Q20⊕Empty):=loopFix Zv_B7
def Zv_A7 : Ann:={ head:=Zv_H7,exits:=Zv_E7,fn:=Zv_L7 }
def Zv_H3 : Shape:={ env:=[(1,.av (.ptr 1 0)),(3,.av (.own 3)),(4,.av (.val I))],objs:=[(1,.box [.val I,.val (.slice yQ2),.val yQ5]),(3,.arr I)] }
def Zv_E3 : List (Ex×Shape):=[(.exit 0,{ env:=[(3,.av (.own 3))],objs:=[(3,.arr I)] })]
def Zv_B3 (x : Q20) : Option (Q20⊕(Q1⊕Empty)) :=
 let (a,b,c,d,e,_):=x; cond (ltI e a) ((getI c e).bind fun y1=>(Zv_L7 (a,b,c,d,e,y1,0,())).bind (Sum.elim (fun z3=>some (.inl (z3.1,z3.2.1,z3.2.2.1,z3.2.2.2.1,(addI .i64 z3.2.2.2.2.1 1),()))) (fun _=>none))) (some (.inr (.inl (d,()))))
def Zv_L3 : Q20→Option (Q1⊕Empty):=loopFix Zv_B3
def Zv_A3 : Ann:={ head:=Zv_H3,exits:=Zv_E3,fn:=Zv_L3 }
def Zv_As : Anns:=[(3,Zv_A3),(7,Zv_A7)]
def Zv (x : (Q9×Unit)) : Option Q1 :=
 let ((a,b,c,_),_):=x; (makeL I (mulI .i64 2 (b.length : Nat)) (mulI .i64 2 (b.length : Nat))).bind fun m1=>(Zv_L3 (a,b,c,m1,0,())).bind (Sum.elim (fun z3=>some (z3.1,())) (fun _=>none))
def Zv_c : Con:={ ins:=[(.rd,yQ8)],outs:=[(true,(.slice I))],fn:=Zv }
def Zv_C : Ctx:={ tab:=tab,con:=fun _ _=>none,glob:=glob,eqs:=eqs,maps:=maps }
theorem Zv_R7 (x : Zv_H7.ty.den) : round Zv_C Zv_As Zv_A7 (loopBody 7 (bodyOf Tryd.f57)) x=Zv_B7 x:=by kernel_rfl
theorem Zv_R3 (x : Zv_H3.ty.den) : round Zv_C Zv_As Zv_A3 (loopBody 3 (bodyOf Tryd.f57)) x=Zv_B3 x:=by kernel_rfl
theorem Zv_eq (x : (tupTy [yQ8]).den) : callFn Zv_C Zv_As (bodyOf Tryd.f57) [(.rd,yQ8)] [(.tmp 2,true,(.slice I))] x=Zv x:=by kernel_rfl
def Zac_As : Anns:=[]
def Zac (x : (Int×Unit)) : Option (Int×Unit) :=
 cond (eqI (remI x.1 2) 0) (some ((addI .i64 x.1 1),())) (some ((subI .i64 x.1 1),()))
def Zac_c : Con:={ ins:=[(.rd,I)],outs:=[(true,I)],fn:=Zac }
def Zac_C : Ctx:={ tab:=tab,con:=fun _ _=>none,glob:=glob,eqs:=eqs,maps:=maps }
theorem Zac_eq (x : (tupTy [I]).den) : callFn Zac_C Zac_As (bodyOf Tryd.f58) [(.rd,I)] [(.tmp 2,true,I)] x=Zac x:=by kernel_rfl
def Zz_H12 : Shape:={ env:=[(3,.av (.own 3)),(4,.av (.own 4)),(5,.av (.own 5)),(6,.av (.val I)),(7,.av (.own 7)),(8,.av (.val I))],objs:=[(3,.arr (.slice I)),(4,.arr I),(5,.arr .bool),(7,.arr I)] }
def Zz_E12 : List (Ex×Shape):=[(.exit 2,{ env:=[(3,.av (.own 3)),(4,.av (.own 4)),(5,.av (.own 5)),(6,.av (.val I)),(7,.av (.own 7))],objs:=[(3,.arr (.slice I)),(4,.arr I),(5,.arr .bool),(7,.arr I)] })]
def Zz_B12 (x : Q23) : Option (Q23⊕(((List (List Int))×List Int×List Bool×List Int×Int×Unit)⊕Empty)) :=
 let (a,b,c,d,e,f,_):=x; (idxI c.length f).bind fun j1=>(c[j1]?).bind fun y2=>cond (!y2) ((idxI c.length f).bind fun j3=>(c[j3]?).bind fun y4=>(app d [f]).bind fun a5=>(Zac (f,())).bind fun r6=>(idxI b.length r6.1).bind fun j7=>(b[j7]?).bind fun y8=>some (.inl (a,b,(c.set j3 true),a5,e,y8,()))) (some (.inr (.inl (a,b,c,d,e,()))))
def Zz_L12 : Q23→Option (((List (List Int))×List Int×List Bool×List Int×Int×Unit)⊕Empty):=loopFix Zz_B12
def Zz_A12 : Ann:={ head:=Zz_H12,exits:=Zz_E12,fn:=Zz_L12 }
def Zz_H7 : Shape:={ env:=[(3,.av (.own 3)),(4,.av (.own 4)),(5,.av (.own 5)),(6,.av (.val I))],objs:=[(3,.arr (.slice I)),(4,.arr I),(5,.arr .bool)] }
def Zz_E7 : List (Ex×Shape):=[(.exit 0,{ env:=[(3,.av (.own 3))],objs:=[(3,.arr (.slice I))] })]
def Zz_B7 (x : Q17) : Option (Q17⊕(Q6⊕Empty)) :=
 let (a,b,c,d,_):=x; cond (ltI d (b.length : Nat)) ((idxI c.length d).bind fun j1=>(c[j1]?).bind fun y2=>cond y2 (some (.inl (a,b,c,(addI .i64 d 1),()))) ((Zz_L12 (a,b,c,[],d,d,())).bind (Sum.elim (fun z4=>(app z4.1 [z4.2.2.2.1]).bind fun a5=>some (.inl (a5,z4.2.1,z4.2.2.1,(addI .i64 z4.2.2.2.2.1 1),()))) (fun _=>none)))) (some (.inr (.inl (a,()))))
def Zz_L7 : Q17→Option (Q6⊕Empty):=loopFix Zz_B7
def Zz_A7 : Ann:={ head:=Zz_H7,exits:=Zz_E7,fn:=Zz_L7 }
def Zz_As : Anns:=[(7,Zz_A7),(12,Zz_A12)]
def Zz (x : (Q9×Unit)) : Option Q6 :=
 let ((a,b,c,_),_):=x; (Zx ((a,b,c,()),())).bind fun r1=>cond (!r1.1) (some ([],())) ((Zv ((a,b,c,()),())).bind fun r2=>(makeL .bool (r2.1.length : Nat) (r2.1.length : Nat)).bind fun m3=>(Zz_L7 ([],r2.1,m3,0,())).bind (Sum.elim (fun z5=>some (z5.1,())) (fun _=>none)))
def Zz_c : Con:={ ins:=[(.rd,yQ8)],outs:=[(true,yQ5)],fn:=Zz }
def Zz_C : Ctx:={ tab:=tab,con:=fun | 39,_=>some Zx_c | 57,_=>some Zv_c | 58,_=>some Zac_c | _,_=>none,glob:=glob,eqs:=eqs,maps:=maps }
theorem Zz_R12 (x : Zz_H12.ty.den) : round Zz_C Zz_As Zz_A12 (loopBody 12 (bodyOf Tryd.f37)) x=Zz_B12 x:=by kernel_rfl
theorem Zz_R7 (x : Zz_H7.ty.den) : round Zz_C Zz_As Zz_A7 (loopBody 7 (bodyOf Tryd.f37)) x=Zz_B7 x:=by kernel_rfl
theorem Zz_eq (x : (tupTy [yQ8]).den) : callFn Zz_C Zz_As (bodyOf Tryd.f37) [(.rd,yQ8)] [(.tmp 2,true,yQ5)] x=Zz x:=by kernel_rfl
def Zaz_H1 : Shape:={ env:=[(0,.av (.val (.slice I))),(1,.av (.val I))],objs:=[] }
def Zaz_E1 : List (Ex×Shape):=[(.exit 0,{ env:=[(1,.av (.val I))],objs:=[] })]
def Zaz_B1 (x : Q5) : Option (Q5⊕((Int×Unit)⊕Empty)) :=
 let (a,b,_):=x; (getI a b).bind fun y1=>cond (neI y1 b) ((getI a b).bind fun y2=>some (.inl (a,y2,()))) (some (.inr (.inl (b,()))))
def Zaz_L1 : Q5→Option ((Int×Unit)⊕Empty):=loopFix Zaz_B1
def Zaz_A1 : Ann:={ head:=Zaz_H1,exits:=Zaz_E1,fn:=Zaz_L1 }
def Zaz_As : Anns:=[(1,Zaz_A1)]
def Zaz (x : Q5) : Option (Int×Unit) :=
 (Zaz_L1 (x.1,x.2.1,())).bind (Sum.elim (fun z2=>some (z2.1,())) (fun _=>none))
def Zaz_c : Con:={ ins:=[(.rd,(.slice I)),(.rd,I)],outs:=[(true,I)],fn:=Zaz }
def Zaz_C : Ctx:={ tab:=tab,con:=fun _ _=>none,glob:=glob,eqs:=eqs,maps:=maps }
theorem Zaz_R1 (x : Zaz_H1.ty.den) : round Zaz_C Zaz_As Zaz_A1 (loopBody 1 (bodyOf Tryd.f72)) x=Zaz_B1 x:=by kernel_rfl
theorem Zaz_eq (x : (tupTy [(.slice I),I]).den) : callFn Zaz_C Zaz_As (bodyOf Tryd.f72) [(.rd,(.slice I)),(.rd,I)] [(.tmp 4,true,I)] x=Zaz x:=by kernel_rfl
def Zg_H8 : Shape:={ env:=[(1,.av (.ptr 1 0)),(3,.av (.own 3)),(5,.av (.val I)),(6,.av (.val I))],objs:=[(1,.box [.val I,.val (.slice yQ2),.val yQ5]),(3,.arr I)] }
def Zg_E8 : List (Ex×Shape):=[(.exit 2,{ env:=[(5,.av (.val I))],objs:=[] })]
def Zg_B8 (x : Q21) : Option (Q21⊕((Int×Unit)⊕Empty)) :=
 let (a,b,c,d,e,f,_):=x; cond (ltI f (b.length : Nat)) ((getI b f).bind fun y1=>(Zaz (d,y1.1,())).bind fun r2=>(getI b f).bind fun y3=>(Zaz (d,y3.2.1,())).bind fun r4=>cond (neI r2.1 r4.1) ((idxI d.length (maxI r2.1 r4.1)).bind fun j5=>(d[j5]?).bind fun y6=>some (.inl (a,b,c,(d.set j5 (minI r2.1 r4.1)),(subI .i64 e 1),(addI .i64 f 1),()))) (some (.inl (a,b,c,d,e,(addI .i64 f 1),())))) (some (.inr (.inl (e,()))))
def Zg_L8 : Q21→Option ((Int×Unit)⊕Empty):=loopFix Zg_B8
def Zg_A8 : Ann:={ head:=Zg_H8,exits:=Zg_E8,fn:=Zg_L8 }
def Zg_H3 : Shape:={ env:=[(1,.av (.ptr 1 0)),(3,.av (.own 3)),(4,.av (.val I))],objs:=[(1,.box [.val I,.val (.slice yQ2),.val yQ5]),(3,.arr I)] }
def Zg_E3 : List (Ex×Shape):=[(.exit 0,{ env:=[(1,.av (.ptr 1 0)),(3,.av (.own 3))],objs:=[(1,.box [.val I,.val (.slice yQ2),.val yQ5]),(3,.arr I)] })]
def Zg_B3 (x : Q20) : Option (Q20⊕((Int×(List Q2)×(List (List Int))×List Int×Unit)⊕Empty)) :=
 let (a,b,c,d,e,_):=x; cond (ltI e a) ((app d [e]).bind fun a1=>some (.inl (a,b,c,a1,(addI .i64 e 1),()))) (some (.inr (.inl (a,b,c,d,()))))
def Zg_L3 : Q20→Option ((Int×(List Q2)×(List (List Int))×List Int×Unit)⊕Empty):=loopFix Zg_B3
def Zg_A3 : Ann:={ head:=Zg_H3,exits:=Zg_E3,fn:=Zg_L3 }
def Zg_As : Anns:=[(3,Zg_A3),(8,Zg_A8)]
def Zg (x : (Q9×Unit)) : Option (Int×Unit) :=
 (Zg_L3 (x.1.1,x.1.2.1,x.1.2.2.1,[],0,())).bind (Sum.elim (fun z2=>(Zg_L8 (z2.1,z2.2.1,z2.2.2.1,z2.2.2.2.1,z2.1,0,())).bind (Sum.elim (fun z4=>some (z4.1,())) (fun _=>none))) (fun _=>none))
def Zg_c : Con:={ ins:=[(.rd,yQ8)],outs:=[(true,I)],fn:=Zg }
def Zg_C : Ctx:={ tab:=tab,con:=fun | 72,_=>some Zaz_c | _,_=>none,glob:=glob,eqs:=eqs,maps:=maps }
theorem Zg_R8 (x : Zg_H8.ty.den) : round Zg_C Zg_As Zg_A8 (loopBody 8 (bodyOf Tryd.f60)) x=Zg_B8 x:=by kernel_rfl
theorem Zg_R3 (x : Zg_H3.ty.den) : round Zg_C Zg_As Zg_A3 (loopBody 3 (bodyOf Tryd.f60)) x=Zg_B3 x:=by kernel_rfl
theorem Zg_eq (x : (tupTy [yQ8]).den) : callFn Zg_C Zg_As (bodyOf Tryd.f60) [(.rd,yQ8)] [(.tmp 2,true,I)] x=Zg x:=by kernel_rfl
def Zaa_H5 : Shape:={ env:=[(1,.av (.ptr 1 0)),(3,.av (.val I)),(4,.av (.val I))],objs:=[(1,.box [.val I,.val (.slice yQ2),.val yQ5])] }
def Zaa_E5 : List (Ex×Shape):=[(.exit 0,{ env:=[(1,.av (.ptr 1 0)),(3,.av (.val I))],objs:=[(1,.box [.val I,.val (.slice yQ2),.val yQ5])] })]
def Zaa_B5 (x : Q18) : Option (Q18⊕(Q13⊕Empty)) :=
 let (a,b,c,d,e,_):=x; cond (ltI e a) ((getI c e).bind fun y1=>cond (eqI (y1.length : Nat) 0) (some (.inl (a,b,c,(addI .i64 d 1),(addI .i64 e 1),()))) (some (.inl (a,b,c,d,(addI .i64 e 1),())))) (some (.inr (.inl (a,b,c,d,()))))
def Zaa_L5 : Q18→Option (Q13⊕Empty):=loopFix Zaa_B5
def Zaa_A5 : Ann:={ head:=Zaa_H5,exits:=Zaa_E5,fn:=Zaa_L5 }
def Zaa_As : Anns:=[(5,Zaa_A5)]
def Zaa (x : (Q9×Unit)) : Option (Int×Unit) :=
 let ((a,b,c,_),_):=x; (Zx ((a,b,c,()),())).bind fun r1=>cond (!r1.1) (some ((-1),())) ((Zz ((a,b,c,()),())).bind fun r2=>(Zaa_L5 (a,b,c,(r2.1.length : Nat),0,())).bind (Sum.elim (fun z4=>(Zg ((z4.1,z4.2.1,z4.2.2.1,()),())).bind fun r5=>some ((subI .i64 r5.1 (quoI .i64 (addI .i64 (subI .i64 z4.1 (z4.2.1.length : Nat)) z4.2.2.2.1) 2)),())) (fun _=>none)))
def Zaa_c : Con:={ ins:=[(.rd,yQ8)],outs:=[(true,I)],fn:=Zaa }
def Zaa_C : Ctx:={ tab:=tab,con:=fun | 37,_=>some Zz_c | 39,_=>some Zx_c | 60,_=>some Zg_c | _,_=>none,glob:=glob,eqs:=eqs,maps:=maps }
theorem Zaa_R5 (x : Zaa_H5.ty.den) : round Zaa_C Zaa_As Zaa_A5 (loopBody 5 (bodyOf Tryd.f59)) x=Zaa_B5 x:=by kernel_rfl
theorem Zaa_eq (x : (tupTy [yQ8]).den) : callFn Zaa_C Zaa_As (bodyOf Tryd.f59) [(.rd,yQ8)] [(.tmp 2,true,I)] x=Zaa x:=by kernel_rfl
def Zs_As : Anns:=[]
def Zs (x : (Q9×Unit)) : Option (Bool×Unit) :=
 let ((a,b,c,_),_):=x; (Zaa ((a,b,c,()),())).bind fun r1=>cond (eqI r1.1 0) ((Zg ((a,b,c,()),())).bind fun r2=>some ((eqI r2.1 1),())) (some (false,()))
def Zs_c : Con:={ ins:=[(.rd,yQ8)],outs:=[(true,.bool)],fn:=Zs }
def Zs_C : Ctx:={ tab:=tab,con:=fun | 59,_=>some Zaa_c | 60,_=>some Zg_c | _,_=>none,glob:=glob,eqs:=eqs,maps:=maps }
theorem Zs_eq (x : (tupTy [yQ8]).den) : callFn Zs_C Zs_As (bodyOf Tryd.f40) [(.rd,yQ8)] [(.tmp 2,true,.bool)] x=Zs x:=by kernel_rfl
def Zat_H6 : Shape:={ env:=[(1,.av (.ptr 1 0)),(3,.av (.val I)),(4,.av (.val I)),(5,.av (.val I))],objs:=[(1,.box [.val I,.val (.slice yQ2),.val yQ5,.val (.slice I),.val (.slice .str),.val I])] }
def Zat_E6 : List (Ex×Shape):=[(.ret,{ env:=[(2,.av (.val .bool))],objs:=[] }),(.exit 2,{ env:=[(1,.av (.ptr 1 0)),(3,.av (.val I)),(4,.av (.val I))],objs:=[(1,.box [.val I,.val (.slice yQ2),.val yQ5,.val (.slice I),.val (.slice .str),.val I])] })]
def Zat_B6 (x : Q40) : Option (Q40⊕((Bool×Unit)⊕(Q35⊕Empty))) :=
 let (a,b,c,d,e,f,g,h,i,_):=x; (getI c g).bind fun y1=>cond (ltI i (y1.length : Nat)) ((getI c g).bind fun y2=>(getI y2 i).bind fun y3=>(getI d y3).bind fun y4=>cond (ltI y4 1) (some (.inr (.inl (false,())))) (cond (gtI y4 4) (some (.inr (.inl (false,())))) (some (.inl (a,b,c,d,e,f,g,(addI .i64 h y4),(addI .i64 i 1),()))))) (some (.inr (.inr (.inl (a,b,c,d,e,f,g,h,())))))
def Zat_L6 : Q40→Option ((Bool×Unit)⊕(Q35⊕Empty)):=loopFix Zat_B6
def Zat_A6 : Ann:={ head:=Zat_H6,exits:=Zat_E6,fn:=Zat_L6 }
def Zat_H2 : Shape:={ env:=[(1,.av (.ptr 1 0)),(3,.av (.val I))],objs:=[(1,.box [.val I,.val (.slice yQ2),.val yQ5,.val (.slice I),.val (.slice .str),.val I])] }
def Zat_E2 : List (Ex×Shape):=[(.ret,{ env:=[(2,.av (.val .bool))],objs:=[] }),(.exit 0,{ env:=[],objs:=[] })]
def Zat_B2 (x : Q31) : Option (Q31⊕((Bool×Unit)⊕(Unit⊕Empty))) :=
 let (a,b,c,d,e,f,g,_):=x; cond (ltI g a) ((Zat_L6 (a,b,c,d,e,f,g,0,0,())).bind (Sum.elim (fun z2=>some (.inr (.inl (z2.1,())))) (Sum.elim (fun (a_3,b_3,c_3,d_3,e_3,f_3,g_3,h_3,_)=>cond (neI h_3 4) ((getI c_3 g_3).bind fun y4=>cond (gtI (y4.length : Nat) 0) (some (.inr (.inl (false,())))) (some (.inl (a_3,b_3,c_3,d_3,e_3,f_3,(addI .i64 g_3 1),())))) (some (.inl (a_3,b_3,c_3,d_3,e_3,f_3,(addI .i64 g_3 1),())))) (fun _=>none)))) (some (.inr (.inr (.inl ()))))
def Zat_L2 : Q31→Option ((Bool×Unit)⊕(Unit⊕Empty)):=loopFix Zat_B2
def Zat_A2 : Ann:={ head:=Zat_H2,exits:=Zat_E2,fn:=Zat_L2 }
def Zat_As : Anns:=[(2,Zat_A2),(6,Zat_A6)]
def Zat (x : (Q10×Unit)) : Option (Bool×Unit) :=
 let (((a,b,c,_),d,e,f,_),_):=x; (Zat_L2 (a,b,c,d,e,f,0,())).bind (Sum.elim (fun z2=>some (z2.1,())) (Sum.elim (fun z3=>some (true,())) (fun _=>none)))
def Zat_c : Con:={ ins:=[(.rd,yQ11)],outs:=[(true,.bool)],fn:=Zat }
def Zat_C : Ctx:={ tab:=tab,con:=fun _ _=>none,glob:=glob,eqs:=eqs,maps:=maps }
theorem Zat_R6 (x : Zat_H6.ty.den) : round Zat_C Zat_As Zat_A6 (loopBody 6 (bodyOf Tryd.f41)) x=Zat_B6 x:=by kernel_rfl
theorem Zat_R2 (x : Zat_H2.ty.den) : round Zat_C Zat_As Zat_A2 (loopBody 2 (bodyOf Tryd.f41)) x=Zat_B2 x:=by kernel_rfl
theorem Zat_eq (x : (tupTy [yQ11]).den) : callFn Zat_C Zat_As (bodyOf Tryd.f41) [(.rd,yQ11)] [(.tmp 2,true,.bool)] x=Zat x:=by kernel_rfl
def Zi_As : Anns:=[]
def Zi (x : (Int×Unit)) : Option (Int×Unit) :=
 cond (eqI x.1 76) (some (82,())) (cond (eqI x.1 82) (some (76,())) (some (x.1,())))
def Zi_c : Con:={ ins:=[(.rd,(.int .u8))],outs:=[(true,(.int .u8))],fn:=Zi }
def Zi_C : Ctx:={ tab:=tab,con:=fun _ _=>none,glob:=glob,eqs:=eqs,maps:=maps }
theorem Zi_eq (x : (tupTy [(.int .u8)]).den) : callFn Zi_C Zi_As (bodyOf Tryd.f73) [(.rd,(.int .u8))] [(.tmp 2,true,(.int .u8))] x=Zi x:=by kernel_rfl
def Zo_H3 : Shape:={ env:=[(0,.av (.val .str)),(3,.av (.own 3)),(4,.av (.val I))],objs:=[(3,.arr (.int .u8))] }
def Zo_E3 : List (Ex×Shape):=[(.exit 0,{ env:=[(3,.av (.own 3))],objs:=[(3,.arr (.int .u8))] })]
def Zo_B3 (x : (List Int×ByteArray×Int×Unit)) : Option ((List Int×ByteArray×Int×Unit)⊕(Q1⊕Empty)) :=
 let (a,b,c,_):=x; cond (geI c 0) ((getI b.data.toList c).bind fun c1=>(Zi ((c1.toNat : Int),())).bind fun r2=>(app a [r2.1]).bind fun a3=>some (.inl (a3,b,(subI .i64 c 1),()))) (some (.inr (.inl (a,()))))
def Zo_L3 : (List Int×ByteArray×Int×Unit)→Option (Q1⊕Empty):=loopFix Zo_B3
def Zo_A3 : Ann:={ head:=Zo_H3,exits:=Zo_E3,fn:=Zo_L3 }
def Zo_As : Anns:=[(3,Zo_A3)]
def Zo (x : Q4) : Option Q4 :=
 (Zo_L3 ([],x.1,(subI .i64 (x.1.size : Nat) 1),())).bind (Sum.elim (fun z2=>some ((ofBytes z2.1),())) (fun _=>none))
def Zo_c : Con:={ ins:=[(.rd,.str)],outs:=[(true,.str)],fn:=Zo }
def Zo_C : Ctx:={ tab:=tab,con:=fun | 73,_=>some Zi_c | _,_=>none,glob:=glob,eqs:=eqs,maps:=maps }
theorem Zo_R3 (x : Zo_H3.ty.den) : round Zo_C Zo_As Zo_A3 (loopBody 3 (bodyOf Tryd.f61)) x=Zo_B3 x:=by kernel_rfl
theorem Zo_eq (x : (tupTy [.str]).den) : callFn Zo_C Zo_As (bodyOf Tryd.f61) [(.rd,.str)] [(.tmp 2,true,.str)] x=Zo x:=by kernel_rfl
def Zai_H7 : Shape:={ env:=[(1,.av (.ptr 1 0)),(3,.av (.val I)),(4,.av (.val I))],objs:=[(1,.box [.val I,.val (.slice yQ2),.val yQ5,.val (.slice I),.val (.slice .str),.val I])] }
def Zai_E7 : List (Ex×Shape):=[(.ret,{ env:=[(2,.av (.val .bool))],objs:=[] }),(.exit 2,{ env:=[(1,.av (.ptr 1 0)),(3,.av (.val I))],objs:=[(1,.box [.val I,.val (.slice yQ2),.val yQ5,.val (.slice I),.val (.slice .str),.val I])] })]
def Zai_B7 (x : Q35) : Option (Q35⊕((Bool×Unit)⊕(Q31⊕Empty))) :=
 let (a,b,c,d,e,f,g,h,_):=x; (getI e g).bind fun y1=>cond (ltI h (y1.size : Nat)) ((getI e g).bind fun y2=>(getI y2.data.toList h).bind fun c3=>cond (neI (c3.toNat : Int) 76) ((getI e g).bind fun y4=>(getI y4.data.toList h).bind fun c5=>cond (neI (c5.toNat : Int) 82) (some (.inr (.inl (false,())))) (some (.inl (a,b,c,d,e,f,g,(addI .i64 h 1),())))) (some (.inl (a,b,c,d,e,f,g,(addI .i64 h 1),())))) (some (.inr (.inr (.inl (a,b,c,d,e,f,g,())))))
def Zai_L7 : Q35→Option ((Bool×Unit)⊕(Q31⊕Empty)):=loopFix Zai_B7
def Zai_A7 : Ann:={ head:=Zai_H7,exits:=Zai_E7,fn:=Zai_L7 }
def Zai_H2 : Shape:={ env:=[(1,.av (.ptr 1 0)),(3,.av (.val I))],objs:=[(1,.box [.val I,.val (.slice yQ2),.val yQ5,.val (.slice I),.val (.slice .str),.val I])] }
def Zai_E2 : List (Ex×Shape):=[(.ret,{ env:=[(2,.av (.val .bool))],objs:=[] }),(.exit 0,{ env:=[],objs:=[] })]
def Zai_B2 (x : Q31) : Option (Q31⊕((Bool×Unit)⊕(Unit⊕Empty))) :=
 let (a,b,c,d,e,f,g,_):=x; cond (ltI g (e.length : Nat)) ((getI e g).bind fun y1=>cond (gtI (y1.size : Nat) 64) (some (.inr (.inl (false,())))) ((getI e (xorI .i64 g 1)).bind fun y2=>(getI e g).bind fun y3=>(Zo (y3,())).bind fun r4=>cond (neS y2 r4.1) (some (.inr (.inl (false,())))) ((Zai_L7 (a,b,c,d,e,f,g,0,())).bind (Sum.elim (fun z6=>some (.inr (.inl (z6.1,())))) (Sum.elim (fun (a_7,b_7,c_7,d_7,e_7,f_7,g_7,_)=>some (.inl (a_7,b_7,c_7,d_7,e_7,f_7,(addI .i64 g_7 1),()))) (fun _=>none)))))) (some (.inr (.inr (.inl ()))))
def Zai_L2 : Q31→Option ((Bool×Unit)⊕(Unit⊕Empty)):=loopFix Zai_B2
def Zai_A2 : Ann:={ head:=Zai_H2,exits:=Zai_E2,fn:=Zai_L2 }
def Zai_As : Anns:=[(2,Zai_A2),(7,Zai_A7)]
def Zai (x : (Q10×Unit)) : Option (Bool×Unit) :=
 let (((a,b,c,_),d,e,f,_),_):=x; (Zai_L2 (a,b,c,d,e,f,0,())).bind (Sum.elim (fun z2=>some (z2.1,())) (Sum.elim (fun z3=>some (true,())) (fun _=>none)))
def Zai_c : Con:={ ins:=[(.rd,yQ11)],outs:=[(true,.bool)],fn:=Zai }
def Zai_C : Ctx:={ tab:=tab,con:=fun | 61,_=>some Zo_c | _,_=>none,glob:=glob,eqs:=eqs,maps:=maps }
theorem Zai_R7 (x : Zai_H7.ty.den) : round Zai_C Zai_As Zai_A7 (loopBody 7 (bodyOf Tryd.f42)) x=Zai_B7 x:=by kernel_rfl
theorem Zai_R2 (x : Zai_H2.ty.den) : round Zai_C Zai_As Zai_A2 (loopBody 2 (bodyOf Tryd.f42)) x=Zai_B2 x:=by kernel_rfl
theorem Zai_eq (x : (tupTy [yQ11]).den) : callFn Zai_C Zai_As (bodyOf Tryd.f42) [(.rd,yQ11)] [(.tmp 2,true,.bool)] x=Zai x:=by kernel_rfl
def Zbd_H2 : Shape:={ env:=[(0,.av (.val (.slice I))),(1,.av (.val I)),(5,.av (.val I))],objs:=[] }
def Zbd_E2 : List (Ex×Shape):=[(.ret,{ env:=[(4,.av (.val .bool))],objs:=[] }),(.exit 0,{ env:=[],objs:=[] })]
def Zbd_B2 (x : Q7) : Option (Q7⊕((Bool×Unit)⊕(Unit⊕Empty))) :=
 let (a,b,c,_):=x; cond (ltI c (a.length : Nat)) ((getI a c).bind fun y1=>cond (eqI y1 b) (some (.inr (.inl (true,())))) (some (.inl (a,b,(addI .i64 c 1),())))) (some (.inr (.inr (.inl ()))))
def Zbd_L2 : Q7→Option ((Bool×Unit)⊕(Unit⊕Empty)):=loopFix Zbd_B2
def Zbd_A2 : Ann:={ head:=Zbd_H2,exits:=Zbd_E2,fn:=Zbd_L2 }
def Zbd_As : Anns:=[(2,Zbd_A2)]
def Zbd (x : Q5) : Option (Bool×Unit) :=
 (Zbd_L2 (x.1,x.2.1,0,())).bind (Sum.elim (fun z2=>some (z2.1,())) (Sum.elim (fun z3=>some (false,())) (fun _=>none)))
def Zbd_c : Con:={ ins:=[(.rd,(.slice I)),(.rd,I)],outs:=[(true,.bool)],fn:=Zbd }
def Zbd_C : Ctx:={ tab:=tab,con:=fun _ _=>none,glob:=glob,eqs:=eqs,maps:=maps }
theorem Zbd_R2 (x : Zbd_H2.ty.den) : round Zbd_C Zbd_As Zbd_A2 (loopBody 2 (bodyOf Tryd.f43)) x=Zbd_B2 x:=by kernel_rfl
theorem Zbd_eq (x : (tupTy [(.slice I),I]).den) : callFn Zbd_C Zbd_As (bodyOf Tryd.f43) [(.rd,(.slice I)),(.rd,I)] [(.tmp 4,true,.bool)] x=Zbd x:=by kernel_rfl
def Zaq_H3 : Shape:={ env:=[(0,.av (.val .str)),(3,.av (.val I)),(4,.av (.val I))],objs:=[] }
def Zaq_E3 : List (Ex×Shape):=[(.exit 0,{ env:=[(3,.av (.val I))],objs:=[] })]
def Zaq_B3 (x : (ByteArray×Int×Int×Unit)) : Option ((ByteArray×Int×Int×Unit)⊕((Int×Unit)⊕Empty)) :=
 let (a,b,c,_):=x; cond (ltI c (a.size : Nat)) ((getI a.data.toList c).bind fun c1=>cond (eqI (c1.toNat : Int) 76) ((getI a.data.toList c).bind fun c2=>cond (eqI (c2.toNat : Int) 82) (some (.inl (a,(subI .i64 (addI .i64 b 1) 1),(addI .i64 c 1),()))) (some (.inl (a,(addI .i64 b 1),(addI .i64 c 1),())))) ((getI a.data.toList c).bind fun c3=>cond (eqI (c3.toNat : Int) 82) (some (.inl (a,(subI .i64 b 1),(addI .i64 c 1),()))) (some (.inl (a,b,(addI .i64 c 1),()))))) (some (.inr (.inl (b,()))))
def Zaq_L3 : (ByteArray×Int×Int×Unit)→Option ((Int×Unit)⊕Empty):=loopFix Zaq_B3
def Zaq_A3 : Ann:={ head:=Zaq_H3,exits:=Zaq_E3,fn:=Zaq_L3 }
def Zaq_As : Anns:=[(3,Zaq_A3)]
def Zaq (x : Q4) : Option (Int×Unit) :=
 (Zaq_L3 (x.1,0,0,())).bind (Sum.elim (fun z2=>some (z2.1,())) (fun _=>none))
def Zaq_c : Con:={ ins:=[(.rd,.str)],outs:=[(true,I)],fn:=Zaq }
def Zaq_C : Ctx:={ tab:=tab,con:=fun _ _=>none,glob:=glob,eqs:=eqs,maps:=maps }
theorem Zaq_R3 (x : Zaq_H3.ty.den) : round Zaq_C Zaq_As Zaq_A3 (loopBody 3 (bodyOf Tryd.f62)) x=Zaq_B3 x:=by kernel_rfl
theorem Zaq_eq (x : (tupTy [.str]).den) : callFn Zaq_C Zaq_As (bodyOf Tryd.f62) [(.rd,.str)] [(.tmp 2,true,I)] x=Zaq x:=by kernel_rfl
def Zal_H3 : Shape:={ env:=[(1,.av (.val (.slice I))),(2,.av (.ptr 2 0)),(5,.av (.val I)),(6,.av (.val I))],objs:=[(2,.box [.val I,.val (.slice yQ2),.val yQ5,.val (.slice I),.val (.slice .str),.val I])] }
def Zal_E3 : List (Ex×Shape):=[(.exit 0,{ env:=[(5,.av (.val I))],objs:=[] })]
def Zal_B3 (x : Q44) : Option (Q44⊕((Int×Unit)⊕Empty)) :=
 let (a,b,c,d,e,f,g,h,i,_):=x; cond (ltI i (g.length : Nat)) ((getI g i).bind fun y1=>(getI e y1).bind fun y2=>(Zaq (y2,())).bind fun r3=>(getI g i).bind fun y4=>(getI d (xorI .i64 y4 1)).bind fun y5=>some (.inl (a,b,c,d,e,f,g,(subI .i64 (addI .i64 (addI .i64 h r3.1) 2) y5),(addI .i64 i 1),()))) (some (.inr (.inl (h,()))))
def Zal_L3 : Q44→Option ((Int×Unit)⊕Empty):=loopFix Zal_B3
def Zal_A3 : Ann:={ head:=Zal_H3,exits:=Zal_E3,fn:=Zal_L3 }
def Zal_As : Anns:=[(3,Zal_A3)]
def Zal (x : (Q10×List Int×Unit)) : Option (Int×Unit) :=
 let (((a,b,c,_),d,e,f,_),g,_):=x; (Zal_L3 (a,b,c,d,e,f,g,0,0,())).bind (Sum.elim (fun z2=>some (z2.1,())) (fun _=>none))
def Zal_c : Con:={ ins:=[(.rd,yQ11),(.rd,(.slice I))],outs:=[(true,I)],fn:=Zal }
def Zal_C : Ctx:={ tab:=tab,con:=fun | 62,_=>some Zaq_c | _,_=>none,glob:=glob,eqs:=eqs,maps:=maps }
theorem Zal_R3 (x : Zal_H3.ty.den) : round Zal_C Zal_As Zal_A3 (loopBody 3 (bodyOf Tryd.f44)) x=Zal_B3 x:=by kernel_rfl
theorem Zal_eq (x : (tupTy [yQ11,(.slice I)]).den) : callFn Zal_C Zal_As (bodyOf Tryd.f44) [(.rd,yQ11),(.rd,(.slice I))] [(.tmp 4,true,I)] x=Zal x:=by kernel_rfl
def Zao_H8 : Shape:={ env:=[(1,.av (.ptr 1 0)),(4,.av (.own 4)),(5,.av (.val I))],objs:=[(1,.box [.val I,.val (.slice yQ2),.val yQ5,.val (.slice I),.val (.slice .str),.val I]),(4,.arr (.slice I))] }
def Zao_E8 : List (Ex×Shape):=[(.ret,{ env:=[(2,.av (.val I))],objs:=[] }),(.exit 0,{ env:=[],objs:=[] })]
def Zao_B8 (x : Q48) : Option (Q48⊕((Int×Unit)⊕(Unit⊕Empty))) :=
 let (a,b,c,d,e,f,g,h,_):=x; cond (ltI h (g.length : Nat)) ((idxI g.length h).bind fun j1=>(g[j1]?).bind fun y2=>(Zbd (y2,f,())).bind fun r3=>cond r3.1 ((idxI g.length h).bind fun j4=>(g[j4]?).bind fun y5=>(Zal (((a,b,c,()),d,e,f,()),y5,())).bind fun r6=>cond (neI r6.1 (-4)) (some (.inr (.inl (13,())))) (some (.inl (a,b,c,d,e,f,g,(addI .i64 h 1),())))) ((idxI g.length h).bind fun j7=>(g[j7]?).bind fun y8=>(Zal (((a,b,c,()),d,e,f,()),y8,())).bind fun r9=>cond (neI r9.1 4) (some (.inr (.inl (13,())))) (some (.inl (a,b,c,d,e,f,g,(addI .i64 h 1),()))))) (some (.inr (.inr (.inl ()))))
def Zao_L8 : Q48→Option ((Int×Unit)⊕(Unit⊕Empty)):=loopFix Zao_B8
def Zao_A8 : Ann:={ head:=Zao_H8,exits:=Zao_E8,fn:=Zao_L8 }
def Zao_As : Anns:=[(8,Zao_A8)]
def Zao (x : (Q10×Unit)) : Option (Int×Unit) :=
 let (((a,b,c,_),d,e,f,_),_):=x; let t_0:=(Zz ((a,b,c,()),())).bind fun r5=>(Zao_L8 (a,b,c,d,e,f,r5.1,0,())).bind (Sum.elim (fun z7=>some (z7.1,())) (Sum.elim (fun z8=>some (0,())) (fun _=>none))); (Zx ((a,b,c,()),())).bind fun r1=>cond (!r1.1) (some (13,())) (cond (ltI a 1) (some (13,())) ((Zs ((a,b,c,()),())).bind fun r2=>cond (!r2.1) (some (13,())) (cond (neI (d.length : Nat) (mulI .i64 2 (b.length : Nat))) (some (13,())) (cond (neI (e.length : Nat) (mulI .i64 2 (b.length : Nat))) (some (13,())) ((Zat (((a,b,c,()),d,e,f,()),())).bind fun r3=>cond (!r3.1) (some (13,())) ((Zai (((a,b,c,()),d,e,f,()),())).bind fun r4=>cond (!r4.1) (some (13,())) (cond (ltI f 0) (some (13,())) (cond (gtI f 0) (cond (geI f (mulI .i64 2 (b.length : Nat))) (some (13,())) t_0) t_0))))))))
def Zao_c : Con:={ ins:=[(.rd,yQ11)],outs:=[(true,I)],fn:=Zao }
def Zao_C : Ctx:={ tab:=tab,con:=fun | 37,_=>some Zz_c | 39,_=>some Zx_c | 40,_=>some Zs_c | 41,_=>some Zat_c | 42,_=>some Zai_c | 43,_=>some Zbd_c | 44,_=>some Zal_c | _,_=>none,glob:=glob,eqs:=eqs,maps:=maps }
theorem Zao_R8 (x : Zao_H8.ty.den) : round Zao_C Zao_As Zao_A8 (loopBody 8 (bodyOf Tryd.f19)) x=Zao_B8 x:=by kernel_rfl
theorem Zao_eq (x : (tupTy [yQ11]).den) : callFn Zao_C Zao_As (bodyOf Tryd.f19) [(.rd,yQ11)] [(.tmp 2,true,I)] x=Zao x:=by kernel_rfl
def Zaf_H5 : Shape:={ env:=[(1,.av (.ptr 1 0)),(3,.av (.val I)),(4,.av (.val I))],objs:=[(1,.box [.val I,.val (.slice yQ2),.val yQ5,.val (.slice I),.val (.slice .str),.val I])] }
def Zaf_E5 : List (Ex×Shape):=[(.exit 0,{ env:=[(3,.av (.val I))],objs:=[] })]
def Zaf_B5 (x : Q35) : Option (Q35⊕((Int×Unit)⊕Empty)) :=
 let (a,b,c,d,e,f,g,h,_):=x; cond (ltI h (e.length : Nat)) ((getI e h).bind fun y1=>some (.inl (a,b,c,d,e,f,(addI .i64 g (y1.size : Nat)),(addI .i64 h 2),()))) (some (.inr (.inl (g,()))))
def Zaf_L5 : Q35→Option ((Int×Unit)⊕Empty):=loopFix Zaf_B5
def Zaf_A5 : Ann:={ head:=Zaf_H5,exits:=Zaf_E5,fn:=Zaf_L5 }
def Zaf_As : Anns:=[(5,Zaf_A5)]
def Zaf (x : (Q10×Unit)) : Option (Int×Unit) :=
 let (((a,b,c,_),d,e,f,_),_):=x; (Zao (((a,b,c,()),d,e,f,()),())).bind fun r1=>cond (neI r1.1 0) (some (0,())) ((Zaf_L5 (a,b,c,d,e,f,0,0,())).bind (Sum.elim (fun z3=>some (z3.1,())) (fun _=>none)))
def Zaf_c : Con:={ ins:=[(.rd,yQ11)],outs:=[(true,I)],fn:=Zaf }
def Zaf_C : Ctx:={ tab:=tab,con:=fun | 19,_=>some Zao_c | _,_=>none,glob:=glob,eqs:=eqs,maps:=maps }
theorem Zaf_R5 (x : Zaf_H5.ty.den) : round Zaf_C Zaf_As Zaf_A5 (loopBody 5 (bodyOf Tryd.f20)) x=Zaf_B5 x:=by kernel_rfl
theorem Zaf_eq (x : (tupTy [yQ11]).den) : callFn Zaf_C Zaf_As (bodyOf Tryd.f20) [(.rd,yQ11)] [(.tmp 2,true,I)] x=Zaf x:=by kernel_rfl
def Zj_As : Anns:=[]
def Zj (x : (Q10×Unit)) : Option (Bool×Unit) :=
 let (((a,b,c,_),d,e,f,_),_):=x; (Zao (((a,b,c,()),d,e,f,()),())).bind fun r1=>cond (eqI r1.1 0) ((Zaf (((a,b,c,()),d,e,f,()),())).bind fun r2=>some ((eqI r2.1 0),())) (some (false,()))
def Zj_c : Con:={ ins:=[(.rd,yQ11)],outs:=[(true,.bool)],fn:=Zj }
def Zj_C : Ctx:={ tab:=tab,con:=fun | 19,_=>some Zao_c | 20,_=>some Zaf_c | _,_=>none,glob:=glob,eqs:=eqs,maps:=maps }
theorem Zj_eq (x : (tupTy [yQ11]).den) : callFn Zj_C Zj_As (bodyOf Tryd.f24) [(.rd,yQ11)] [(.tmp 2,true,.bool)] x=Zj x:=by kernel_rfl
def Zf_H19 : Shape:={ env:=[(1,.av (.ptr 1 0)),(5,.av (.own 5)),(7,.av (.val .bool)),(8,.av (.val I)),(9,.av (.val (.slice I))),(10,.av (.val I))],objs:=[(1,.box [.val I,.val (.slice yQ2),.val yQ5,.val (.slice I),.val (.slice .str),.val I]),(5,.arr I)] }
def Zf_E19 : List (Ex×Shape):=[(.exit 6,{ env:=[(1,.av (.ptr 1 0)),(5,.av (.own 5)),(7,.av (.val .bool)),(8,.av (.val I))],objs:=[(1,.box [.val I,.val (.slice yQ2),.val yQ5,.val (.slice I),.val (.slice .str),.val I]),(5,.arr I)] })]
def Zf_B19 (x : Q61) : Option (Q61⊕(Q46⊕Empty)) :=
 let (a,b,c,d,e,f,g,h,i,k,l,_):=x; cond (ltI l (k.length : Nat)) ((getI k l).bind fun y1=>let t_0:=(idxI g.length y1).bind fun j20=>(g[j20]?).bind fun y21=>cond (geI y21 0) ((idxI g.length (xorI .i64 y1 1)).bind fun j22=>(g[j22]?).bind fun y23=>cond (ltI y23 0) ((idxI g.length y1).bind fun j24=>(g[j24]?).bind fun y25=>(idxI g.length (xorI .i64 y1 1)).bind fun j26=>(g[j26]?).bind fun y27=>some (.inl (a,b,c,d,e,f,(g.set j26 (remI (addI .i64 y25 2) 4)),true,i,k,(addI .i64 l 1),()))) (some (.inl (a,b,c,d,e,f,g,h,i,k,(addI .i64 l 1),())))) (some (.inl (a,b,c,d,e,f,g,h,i,k,(addI .i64 l 1),()))); cond (eqI (k.length : Nat) 0) none ((getI k (remI (addI .i64 l 1) (k.length : Nat))).bind fun y2=>(idxI g.length y1).bind fun j3=>(g[j3]?).bind fun y4=>cond (geI y4 0) ((idxI g.length y2).bind fun j5=>(g[j5]?).bind fun y6=>cond (ltI y6 0) ((idxI g.length y1).bind fun j7=>(g[j7]?).bind fun y8=>(getI d y1).bind fun y9=>(idxI g.length y2).bind fun j10=>(g[j10]?).bind fun y11=>(idxI (g.set j10 (remI (addI .i64 y8 y9) 4)).length y1).bind fun j12=>((g.set j10 (remI (addI .i64 y8 y9) 4))[j12]?).bind fun y13=>cond (geI y13 0) ((idxI (g.set j10 (remI (addI .i64 y8 y9) 4)).length (xorI .i64 y1 1)).bind fun j14=>((g.set j10 (remI (addI .i64 y8 y9) 4))[j14]?).bind fun y15=>cond (ltI y15 0) ((idxI (g.set j10 (remI (addI .i64 y8 y9) 4)).length y1).bind fun j16=>((g.set j10 (remI (addI .i64 y8 y9) 4))[j16]?).bind fun y17=>(idxI (g.set j10 (remI (addI .i64 y8 y9) 4)).length (xorI .i64 y1 1)).bind fun j18=>((g.set j10 (remI (addI .i64 y8 y9) 4))[j18]?).bind fun y19=>some (.inl (a,b,c,d,e,f,((g.set j10 (remI (addI .i64 y8 y9) 4)).set j18 (remI (addI .i64 y17 2) 4)),true,i,k,(addI .i64 l 1),()))) (some (.inl (a,b,c,d,e,f,(g.set j10 (remI (addI .i64 y8 y9) 4)),true,i,k,(addI .i64 l 1),())))) (some (.inl (a,b,c,d,e,f,(g.set j10 (remI (addI .i64 y8 y9) 4)),true,i,k,(addI .i64 l 1),())))) t_0) t_0)) (some (.inr (.inl (a,b,c,d,e,f,g,h,i,()))))
def Zf_L19 : Q61→Option (Q46⊕Empty):=loopFix Zf_B19
def Zf_A19 : Ann:={ head:=Zf_H19,exits:=Zf_E19,fn:=Zf_L19 }
def Zf_H15 : Shape:={ env:=[(1,.av (.ptr 1 0)),(5,.av (.own 5)),(7,.av (.val .bool)),(8,.av (.val I))],objs:=[(1,.box [.val I,.val (.slice yQ2),.val yQ5,.val (.slice I),.val (.slice .str),.val I]),(5,.arr I)] }
def Zf_E15 : List (Ex×Shape):=[(.exit 4,{ env:=[(1,.av (.ptr 1 0)),(5,.av (.own 5)),(7,.av (.val .bool))],objs:=[(1,.box [.val I,.val (.slice yQ2),.val yQ5,.val (.slice I),.val (.slice .str),.val I]),(5,.arr I)] })]
def Zf_B15 (x : Q46) : Option (Q46⊕(Q41⊕Empty)) :=
 let (a,b,c,d,e,f,g,h,i,_):=x; cond (ltI i a) ((getI c i).bind fun y1=>(Zf_L19 (a,b,c,d,e,f,g,h,i,y1,0,())).bind (Sum.elim (fun (a_3,b_3,c_3,d_3,e_3,f_3,g_3,h_3,i_3,_)=>some (.inl (a_3,b_3,c_3,d_3,e_3,f_3,g_3,h_3,(addI .i64 i_3 1),()))) (fun _=>none))) (some (.inr (.inl (a,b,c,d,e,f,g,h,()))))
def Zf_L15 : Q46→Option (Q41⊕Empty):=loopFix Zf_B15
def Zf_A15 : Ann:={ head:=Zf_H15,exits:=Zf_E15,fn:=Zf_L15 }
def Zf_H12 : Shape:={ env:=[(1,.av (.ptr 1 0)),(5,.av (.own 5)),(7,.av (.val .bool))],objs:=[(1,.box [.val I,.val (.slice yQ2),.val yQ5,.val (.slice I),.val (.slice .str),.val I]),(5,.arr I)] }
def Zf_E12 : List (Ex×Shape):=[(.exit 2,{ env:=[(5,.av (.own 5))],objs:=[(5,.arr I)] })]
def Zf_B12 (x : Q41) : Option (Q41⊕(Q1⊕Empty)) :=
 let (a,b,c,d,e,f,g,h,_):=x; cond h ((Zf_L15 (a,b,c,d,e,f,g,false,0,())).bind (Sum.elim (fun (a_2,b_2,c_2,d_2,e_2,f_2,g_2,h_2,_)=>some (.inl (a_2,b_2,c_2,d_2,e_2,f_2,g_2,h_2,()))) (fun _=>none))) (some (.inr (.inl (g,()))))
def Zf_L12 : Q41→Option (Q1⊕Empty):=loopFix Zf_B12
def Zf_A12 : Ann:={ head:=Zf_H12,exits:=Zf_E12,fn:=Zf_L12 }
def Zf_H6 : Shape:={ env:=[(1,.av (.ptr 1 0)),(4,.av (.val I)),(5,.av (.own 5)),(6,.av (.val I))],objs:=[(1,.box [.val I,.val (.slice yQ2),.val yQ5,.val (.slice I),.val (.slice .str),.val I]),(5,.arr I)] }
def Zf_E6 : List (Ex×Shape):=[(.exit 0,{ env:=[(1,.av (.ptr 1 0)),(4,.av (.val I)),(5,.av (.own 5))],objs:=[(1,.box [.val I,.val (.slice yQ2),.val yQ5,.val (.slice I),.val (.slice .str),.val I]),(5,.arr I)] })]
def Zf_B6 (x : Q44) : Option (Q44⊕(Q38⊕Empty)) :=
 let (a,b,c,d,e,f,g,h,i,_):=x; cond (ltI i h) ((idxI g.length i).bind fun j1=>(g[j1]?).bind fun y2=>some (.inl (a,b,c,d,e,f,(g.set j1 (-1)),h,(addI .i64 i 1),()))) (some (.inr (.inl (a,b,c,d,e,f,g,h,()))))
def Zf_L6 : Q44→Option (Q38⊕Empty):=loopFix Zf_B6
def Zf_A6 : Ann:={ head:=Zf_H6,exits:=Zf_E6,fn:=Zf_L6 }
def Zf_As : Anns:=[(6,Zf_A6),(12,Zf_A12),(15,Zf_A15),(19,Zf_A19)]
def Zf (x : (Q10×Unit)) : Option Q5 :=
 let (((a,b,c,_),d,e,f,_),_):=x; (Zj (((a,b,c,()),d,e,f,()),())).bind fun r1=>cond (!r1.1) (some ([],13,())) ((makeL I (mulI .i64 2 (b.length : Nat)) (mulI .i64 2 (b.length : Nat))).bind fun m2=>(Zf_L6 (a,b,c,d,e,f,m2,(mulI .i64 2 (b.length : Nat)),0,())).bind (Sum.elim (fun (a_4,b_4,c_4,d_4,e_4,f_4,g_4,h_4,_)=>cond (gtI h_4 0) ((idxI g_4.length 0).bind fun j5=>(g_4[j5]?).bind fun y6=>(Zf_L12 (a_4,b_4,c_4,d_4,e_4,f_4,(g_4.set j5 1),true,())).bind (Sum.elim (fun z8=>some (z8.1,0,())) (fun _=>none))) ((Zf_L12 (a_4,b_4,c_4,d_4,e_4,f_4,g_4,true,())).bind (Sum.elim (fun z10=>some (z10.1,0,())) (fun _=>none)))) (fun _=>none)))
def Zf_c : Con:={ ins:=[(.rd,yQ11)],outs:=[(true,(.slice I)),(true,I)],fn:=Zf }
def Zf_C : Ctx:={ tab:=tab,con:=fun | 24,_=>some Zj_c | _,_=>none,glob:=glob,eqs:=eqs,maps:=maps }
theorem Zf_R19 (x : Zf_H19.ty.den) : round Zf_C Zf_As Zf_A19 (loopBody 19 (bodyOf Tryd.f11)) x=Zf_B19 x:=by kernel_rfl
theorem Zf_R15 (x : Zf_H15.ty.den) : round Zf_C Zf_As Zf_A15 (loopBody 15 (bodyOf Tryd.f11)) x=Zf_B15 x:=by kernel_rfl
theorem Zf_R12 (x : Zf_H12.ty.den) : round Zf_C Zf_As Zf_A12 (loopBody 12 (bodyOf Tryd.f11)) x=Zf_B12 x:=by kernel_rfl
theorem Zf_R6 (x : Zf_H6.ty.den) : round Zf_C Zf_As Zf_A6 (loopBody 6 (bodyOf Tryd.f11)) x=Zf_B6 x:=by kernel_rfl
theorem Zf_eq (x : (tupTy [yQ11]).den) : callFn Zf_C Zf_As (bodyOf Tryd.f11) [(.rd,yQ11)] [(.tmp 2,true,(.slice I)),(.tmp 3,true,I)] x=Zf x:=by kernel_rfl
def Za_As : Anns:=[]
def Za (x : (Q10×Unit)) : Option (Bool×Unit) :=
 let (((a,b,c,_),d,e,f,_),_):=x; (Zad (((a,b,c,()),d,e,f,()),())).bind fun r1=>cond (!r1.1) ((Zaj ()).bind fun r2=>some (r2.1,())) ((Zu (((a,b,c,()),d,e,f,()),())).bind fun r3=>(Zf (((a,b,c,()),d,e,f,()),())).bind fun r4=>cond (eqI r3.2.1 r4.2.1) ((Zk (r3.1,r4.1,())).bind fun r5=>cond r5.1 ((Zaj ()).bind fun r6=>some (r6.1,())) (some (false,()))) (some (false,())))
def Za_c : Con:={ ins:=[(.rd,yQ11)],outs:=[(true,.bool)],fn:=Za }
def Za_C : Ctx:={ tab:=tab,con:=fun | 8,_=>some Zad_c | 9,_=>some Zaj_c | 10,_=>some Zu_c | 11,_=>some Zf_c | 12,_=>some Zk_c | _,_=>none,glob:=glob,eqs:=eqs,maps:=maps }
def Zba_H2 : Shape:={ env:=[(0,.av (.val (.slice I))),(1,.av (.val I)),(5,.av (.val I))],objs:=[] }
def Zba_E2 : List (Ex×Shape):=[(.ret,{ env:=[(4,.av (.val .bool))],objs:=[] }),(.exit 0,{ env:=[],objs:=[] })]
def Zba_B2 (x : Q7) : Option (Q7⊕((Bool×Unit)⊕(Unit⊕Empty))) :=
 let (a,b,c,_):=x; cond (ltI c (a.length : Nat)) ((getI a c).bind fun y1=>cond (eqI y1 b) (some (.inr (.inl (true,())))) (some (.inl (a,b,(addI .i64 c 1),())))) (some (.inr (.inr (.inl ()))))
def Zba_L2 : Q7→Option ((Bool×Unit)⊕(Unit⊕Empty)):=loopFix Zba_B2
def Zba_A2 : Ann:={ head:=Zba_H2,exits:=Zba_E2,fn:=Zba_L2 }
def Zba_As : Anns:=[(2,Zba_A2)]
def Zba (x : Q5) : Option (Bool×Unit) :=
 (Zba_L2 (x.1,x.2.1,0,())).bind (Sum.elim (fun z2=>some (z2.1,())) (Sum.elim (fun z3=>some (false,())) (fun _=>none)))
def Zba_c : Con:={ ins:=[(.rd,(.slice I)),(.rd,I)],outs:=[(true,.bool)],fn:=Zba }
def Zba_C : Ctx:={ tab:=tab,con:=fun _ _=>none,glob:=glob,eqs:=eqs,maps:=maps }
theorem Zba_R2 (x : Zba_H2.ty.den) : round Zba_C Zba_As Zba_A2 (loopBody 2 (bodyOf Tryd.f38)) x=Zba_B2 x:=by kernel_rfl
theorem Zba_eq (x : (tupTy [(.slice I),I]).den) : callFn Zba_C Zba_As (bodyOf Tryd.f38) [(.rd,(.slice I)),(.rd,I)] [(.tmp 4,true,.bool)] x=Zba x:=by kernel_rfl
def Ze_H12 : Shape:={ env:=[(1,.av (.ptr 1 0)),(3,.av (.own 3)),(4,.av (.val I)),(5,.av (.val I)),(6,.av (.val I)),(7,.av (.val I))],objs:=[(1,.box [.val I,.val (.slice yQ2),.val yQ5,.val (.slice I),.val (.slice .str),.val I]),(3,.arr (.slice I))] }
def Ze_E12 : List (Ex×Shape):=[(.ret,{ env:=[(2,.av (.val .bool))],objs:=[] }),(.exit 2,{ env:=[(1,.av (.ptr 1 0)),(3,.av (.own 3)),(4,.av (.val I)),(6,.av (.val I))],objs:=[(1,.box [.val I,.val (.slice yQ2),.val yQ5,.val (.slice I),.val (.slice .str),.val I]),(3,.arr (.slice I))] })]
def Ze_B12 (x : Q63) : Option (Q63⊕((Bool×Unit)⊕(Q53⊕Empty))) :=
 let (a,b,c,d,e,f,g,h,i,k,l,_):=x; (idxI g.length h).bind fun j1=>(g[j1]?).bind fun y2=>cond (ltI l (y2.length : Nat)) ((idxI g.length h).bind fun j3=>(g[j3]?).bind fun y4=>(getI y4 l).bind fun y5=>(getI d (xorI .i64 y5 1)).bind fun y6=>let t_0:=cond (neI (subI .i64 2 y6) 0) (some (.inl (a,b,c,d,e,f,g,h,i,(addI .i64 k 1),(addI .i64 l 1),()))) (some (.inl (a,b,c,d,e,f,g,h,i,k,(addI .i64 l 1),()))); cond (neI (subI .i64 2 y6) 0) (cond (neI (subI .i64 2 y6) i) (some (.inr (.inl (false,())))) t_0) t_0) (some (.inr (.inr (.inl (a,b,c,d,e,f,g,h,k,())))))
def Ze_L12 : Q63→Option ((Bool×Unit)⊕(Q53⊕Empty)):=loopFix Ze_B12
def Ze_A12 : Ann:={ head:=Ze_H12,exits:=Ze_E12,fn:=Ze_L12 }
def Ze_H5 : Shape:={ env:=[(1,.av (.ptr 1 0)),(3,.av (.own 3)),(4,.av (.val I))],objs:=[(1,.box [.val I,.val (.slice yQ2),.val yQ5,.val (.slice I),.val (.slice .str),.val I]),(3,.arr (.slice I))] }
def Ze_E5 : List (Ex×Shape):=[(.ret,{ env:=[(2,.av (.val .bool))],objs:=[] }),(.exit 0,{ env:=[],objs:=[] })]
def Ze_B5 (x : Q48) : Option (Q48⊕((Bool×Unit)⊕(Unit⊕Empty))) :=
  let t_0:=Sum.elim (fun z5=>some (.inr (.inl (z5.1,())))) (Sum.elim (fun (a_6,b_6,c_6,d_6,e_6,f_6,g_6,h_6,i_6,_)=>cond (neI i_6 4) (some (.inr (.inl (false,())))) (some (.inl (a_6,b_6,c_6,d_6,e_6,f_6,g_6,(addI .i64 h_6 1),())))) (fun _=>none));let (a,b,c,d,e,f,g,h,_):=x; cond (ltI h (g.length : Nat)) ((idxI g.length h).bind fun j1=>(g[j1]?).bind fun y2=>(Zba (y2,f,())).bind fun r3=>cond r3.1 ((Ze_L12 (a,b,c,d,e,f,g,h,(-1),0,0,())).bind t_0) ((Ze_L12 (a,b,c,d,e,f,g,h,1,0,0,())).bind t_0)) (some (.inr (.inr (.inl ()))))
def Ze_L5 : Q48→Option ((Bool×Unit)⊕(Unit⊕Empty)):=loopFix Ze_B5
def Ze_A5 : Ann:={ head:=Ze_H5,exits:=Ze_E5,fn:=Ze_L5 }
def Ze_As : Anns:=[(5,Ze_A5),(12,Ze_A12)]
def Ze (x : (Q10×Unit)) : Option (Bool×Unit) :=
 let (((a,b,c,_),d,e,f,_),_):=x; (Zj (((a,b,c,()),d,e,f,()),())).bind fun r1=>cond (!r1.1) (some (false,())) (cond (eqI (b.length : Nat) 0) (some (false,())) ((Zz ((a,b,c,()),())).bind fun r2=>(Ze_L5 (a,b,c,d,e,f,r2.1,0,())).bind (Sum.elim (fun z4=>some (z4.1,())) (Sum.elim (fun z5=>some (true,())) (fun _=>none)))))
def Ze_c : Con:={ ins:=[(.rd,yQ11)],outs:=[(true,.bool)],fn:=Ze }
def Ze_C : Ctx:={ tab:=tab,con:=fun | 24,_=>some Zj_c | 37,_=>some Zz_c | 38,_=>some Zba_c | _,_=>none,glob:=glob,eqs:=eqs,maps:=maps }
theorem Ze_R12 (x : Ze_H12.ty.den) : round Ze_C Ze_As Ze_A12 (loopBody 12 (bodyOf Tryd.f18)) x=Ze_B12 x:=by kernel_rfl
theorem Ze_R5 (x : Ze_H5.ty.den) : round Ze_C Ze_As Ze_A5 (loopBody 5 (bodyOf Tryd.f18)) x=Ze_B5 x:=by kernel_rfl
theorem Ze_eq (x : (tupTy [yQ11]).den) : callFn Ze_C Ze_As (bodyOf Tryd.f18) [(.rd,yQ11)] [(.tmp 2,true,.bool)] x=Ze x:=by kernel_rfl
def Zav_As : Anns:=[]
def Zav (x : (Q9×Int×Unit)) : Option (Int×Unit) :=
 let ((a,b,c,_),d,_):=x; (Zx ((a,b,c,()),())).bind fun r1=>cond (!r1.1) (some ((-1),())) (cond (ltI d 0) (some ((-1),())) (cond (geI d (mulI .i64 2 (b.length : Nat))) (some ((-1),())) ((Zah ((a,b,c,()),())).bind fun r2=>(idxI r2.1.length d).bind fun j3=>(r2.1[j3]?).bind fun y4=>some (y4,()))))
def Zav_c : Con:={ ins:=[(.rd,yQ8),(.rd,I)],outs:=[(true,I)],fn:=Zav }
def Zav_C : Ctx:={ tab:=tab,con:=fun | 39,_=>some Zx_c | 54,_=>some Zah_c | _,_=>none,glob:=glob,eqs:=eqs,maps:=maps }
theorem Zav_eq (x : (tupTy [yQ8,I]).den) : callFn Zav_C Zav_As (bodyOf Tryd.f35) [(.rd,yQ8),(.rd,I)] [(.tmp 4,true,I)] x=Zav x:=by kernel_rfl
def Zq_H6 : Shape:={ env:=[(1,.av (.val (.slice I))),(2,.av (.val I)),(3,.av (.val I)),(4,.av (.ptr 4 0)),(9,.av (.own 9)),(10,.av (.val .bool)),(11,.av (.val I))],objs:=[(4,.box [.val I,.val (.slice yQ2),.val yQ5,.val (.slice I),.val (.slice .str),.val I]),(9,.arr I)] }
def Zq_E6 : List (Ex×Shape):=[(.exit 2,{ env:=[(1,.av (.val (.slice I))),(2,.av (.val I)),(3,.av (.val I)),(4,.av (.ptr 4 0)),(9,.av (.own 9)),(10,.av (.val .bool))],objs:=[(4,.box [.val I,.val (.slice yQ2),.val yQ5,.val (.slice I),.val (.slice .str),.val I]),(9,.arr I)] })]
def Zq_B6 (x : Q65) : Option (Q65⊕(Q62⊕Empty)) :=
 let (a,b,c,d,e,f,g,h,i,k,l,m,_):=x; cond (ltI m (h.length : Nat)) ((Zav ((a,b,c,()),m,())).bind fun r1=>(Zav ((a,b,c,()),(xorI .i64 m 1),())).bind fun r2=>let t_0:=(idxI g.length r1.1).bind fun j7=>(g[j7]?).bind fun y8=>(idxI g.length r2.1).bind fun j9=>(g[j9]?).bind fun y10=>cond (ltI y10 y8) ((idxI g.length r2.1).bind fun j11=>(g[j11]?).bind fun y12=>some (.inl (a,b,c,d,e,f,(g.set j11 y8),h,i,k,true,(addI .i64 m 1),()))) (some (.inl (a,b,c,d,e,f,g,h,i,k,l,(addI .i64 m 1),()))); (getI h m).bind fun y3=>cond (eqI y3 i) ((idxI g.length r1.1).bind fun j4=>(g[j4]?).bind fun y5=>(getI h m).bind fun y6=>cond (eqI (remI y6 2) (remI k 2)) t_0 ((idxI g.length r2.1).bind fun j13=>(g[j13]?).bind fun y14=>cond (ltI y14 (addI .i64 y5 1)) ((idxI g.length r2.1).bind fun j15=>(g[j15]?).bind fun y16=>some (.inl (a,b,c,d,e,f,(g.set j15 (addI .i64 y5 1)),h,i,k,true,(addI .i64 m 1),()))) (some (.inl (a,b,c,d,e,f,g,h,i,k,l,(addI .i64 m 1),()))))) ((getI h m).bind fun y17=>cond (eqI (remI y17 2) (remI k 2)) t_0 ((idxI g.length r2.1).bind fun j24=>(g[j24]?).bind fun y25=>cond (ltI y25 (-1)) ((idxI g.length r2.1).bind fun j26=>(g[j26]?).bind fun y27=>some (.inl (a,b,c,d,e,f,(g.set j26 (-1)),h,i,k,true,(addI .i64 m 1),()))) (some (.inl (a,b,c,d,e,f,g,h,i,k,l,(addI .i64 m 1),())))))) (some (.inr (.inl (a,b,c,d,e,f,g,h,i,k,l,()))))
def Zq_L6 : Q65→Option (Q62⊕Empty):=loopFix Zq_B6
def Zq_A6 : Ann:={ head:=Zq_H6,exits:=Zq_E6,fn:=Zq_L6 }
def Zq_H3 : Shape:={ env:=[(1,.av (.val (.slice I))),(2,.av (.val I)),(3,.av (.val I)),(4,.av (.ptr 4 0)),(9,.av (.own 9)),(10,.av (.val .bool))],objs:=[(4,.box [.val I,.val (.slice yQ2),.val yQ5,.val (.slice I),.val (.slice .str),.val I]),(9,.arr I)] }
def Zq_E3 : List (Ex×Shape):=[(.exit 0,{ env:=[(9,.av (.own 9))],objs:=[(9,.arr I)] })]
def Zq_B3 (x : Q62) : Option (Q62⊕(Q1⊕Empty)) :=
 let (a,b,c,d,e,f,g,h,i,k,l,_):=x; cond l ((Zq_L6 (a,b,c,d,e,f,g,h,i,k,false,0,())).bind (Sum.elim (fun (a_2,b_2,c_2,d_2,e_2,f_2,g_2,h_2,i_2,k_2,l_2,_)=>some (.inl (a_2,b_2,c_2,d_2,e_2,f_2,g_2,h_2,i_2,k_2,l_2,()))) (fun _=>none))) (some (.inr (.inl (g,()))))
def Zq_L3 : Q62→Option (Q1⊕Empty):=loopFix Zq_B3
def Zq_A3 : Ann:={ head:=Zq_H3,exits:=Zq_E3,fn:=Zq_L3 }
def Zq_As : Anns:=[(3,Zq_A3),(6,Zq_A6)]
def Zq (x : (Q10×List Int×Int×Int×Unit)) : Option Q1 :=
 let (((a,b,c,_),d,e,f,_),g,h,i,_):=x; (makeL I a a).bind fun m1=>(Zq_L3 (a,b,c,d,e,f,m1,g,h,i,true,())).bind (Sum.elim (fun z3=>some (z3.1,())) (fun _=>none))
def Zq_c : Con:={ ins:=[(.rd,yQ11),(.rd,(.slice I)),(.rd,I),(.rd,I)],outs:=[(true,(.slice I))],fn:=Zq }
def Zq_C : Ctx:={ tab:=tab,con:=fun | 35,_=>some Zav_c | _,_=>none,glob:=glob,eqs:=eqs,maps:=maps }
theorem Zq_R6 (x : Zq_H6.ty.den) : round Zq_C Zq_As Zq_A6 (loopBody 6 (bodyOf Tryd.f28)) x=Zq_B6 x:=by kernel_rfl
theorem Zq_R3 (x : Zq_H3.ty.den) : round Zq_C Zq_As Zq_A3 (loopBody 3 (bodyOf Tryd.f28)) x=Zq_B3 x:=by kernel_rfl
def Zam_H8 : Shape:={ env:=[(1,.av (.ptr 1 0)),(6,.av (.own 6)),(7,.av (.own 7)),(8,.av (.own 8)),(9,.av (.val I))],objs:=[(1,.box [.val I,.val (.slice yQ2),.val yQ5,.val (.slice I),.val (.slice .str),.val I]),(6,.arr I),(7,.arr I),(8,.arr yQ2)] }
def Zam_E8 : List (Ex×Shape):=[(.exit 0,{ env:=[(8,.av (.own 8))],objs:=[(8,.arr yQ2)] })]
def Zam_B8 (x : Q60) : Option (Q60⊕(((List Q2)×Unit)⊕Empty)) :=
 let (a,b,c,d,e,f,g,h,i,k,_):=x; cond (ltI k a) ((idxI g.length k).bind fun j1=>(g[j1]?).bind fun y2=>(idxI h.length k).bind fun j3=>(h[j3]?).bind fun y4=>(app i [(y2,y4,())]).bind fun a5=>some (.inl (a,b,c,d,e,f,g,h,a5,(addI .i64 k 1),()))) (some (.inr (.inl (i,()))))
def Zam_L8 : Q60→Option (((List Q2)×Unit)⊕Empty):=loopFix Zam_B8
def Zam_A8 : Ann:={ head:=Zam_H8,exits:=Zam_E8,fn:=Zam_L8 }
def Zam_As : Anns:=[(8,Zam_A8)]
def Zam (x : (Q10×Unit)) : Option ((List Q2)×Int×Unit) :=
 let (((a,b,c,_),d,e,f,_),_):=x; (Ze (((a,b,c,()),d,e,f,()),())).bind fun r1=>cond (!r1.1) (some ([],13,())) ((Zf (((a,b,c,()),d,e,f,()),())).bind fun r2=>(Zq (((a,b,c,()),d,e,f,()),r2.1,1,0,())).bind fun r3=>(Zq (((a,b,c,()),d,e,f,()),r2.1,2,1,())).bind fun r4=>(Zam_L8 (a,b,c,d,e,f,r3.1,r4.1,[],0,())).bind (Sum.elim (fun z6=>some (z6.1,0,())) (fun _=>none)))
def Zam_c : Con:={ ins:=[(.rd,yQ11)],outs:=[(true,(.slice yQ2)),(true,I)],fn:=Zam }
def Zam_C : Ctx:={ tab:=tab,con:=fun | 11,_=>some Zf_c | 18,_=>some Ze_c | 28,_=>some Zq_c | _,_=>none,glob:=glob,eqs:=eqs,maps:=maps }
theorem Zam_R8 (x : Zam_H8.ty.den) : round Zam_C Zam_As Zam_A8 (loopBody 8 (bodyOf Tryd.f14)) x=Zam_B8 x:=by kernel_rfl
def Zb_As : Anns:=[]
def Zb (x : (Q10×Unit)) : Option (Bool×Unit) :=
 let (((a,b,c,_),d,e,f,_),_):=x; (Zad (((a,b,c,()),d,e,f,()),())).bind fun r1=>cond (!r1.1) ((Zaj ()).bind fun r2=>some (r2.1,())) ((Zbs (((a,b,c,()),d,e,f,()),())).bind fun r3=>(Zam (((a,b,c,()),d,e,f,()),())).bind fun r4=>cond (eqI r3.2.1 r4.2.1) ((Zh (r3.1,r4.1,())).bind fun r5=>cond r5.1 ((Zaj ()).bind fun r6=>some (r6.1,())) (some (false,()))) (some (false,())))
def Zb_c : Con:={ ins:=[(.rd,yQ11)],outs:=[(true,.bool)],fn:=Zb }
def Zb_C : Ctx:={ tab:=tab,con:=fun | 8,_=>some Zad_c | 9,_=>some Zaj_c | 13,_=>some Zbs_c | 14,_=>some Zam_c | 15,_=>some Zh_c | _,_=>none,glob:=glob,eqs:=eqs,maps:=maps }
def Zy_As : Anns:=[]
def Zy (x : (Q2×Unit)) : Option (Bool×Unit) :=
 let ((a,b,_),_):=x; cond (geI a (-268435456)) (cond (leI a 268435456) (cond (geI b (-268435456)) (some ((leI b 268435456),())) (some (false,()))) (some (false,()))) (some (false,()))
def Zy_c : Con:={ ins:=[(.rd,yQ2)],outs:=[(true,.bool)],fn:=Zy }
def Zy_C : Ctx:={ tab:=tab,con:=fun _ _=>none,glob:=glob,eqs:=eqs,maps:=maps }
theorem Zy_eq (x : (tupTy [yQ2]).den) : callFn Zy_C Zy_As (bodyOf Tryd.f33) [(.rd,yQ2)] [(.tmp 2,true,.bool)] x=Zy x:=by kernel_rfl
def Zw_As : Anns:=[]
def Zw (x : (Q2×Q2×Int×Unit)) : Option (Bool×Unit) :=
 let ((a,b,_),(c,d,_),e,_):=x; cond (eqI e 0) (cond (eqI a c) (some ((ltI d b),())) (some (false,()))) (cond (eqI e 1) (cond (eqI b d) (some ((gtI c a),())) (some (false,()))) (cond (eqI e 2) (cond (eqI a c) (some ((gtI d b),())) (some (false,()))) (cond (eqI b d) (some ((ltI c a),())) (some (false,())))))
def Zw_c : Con:={ ins:=[(.rd,yQ2),(.rd,yQ2),(.rd,I)],outs:=[(true,.bool)],fn:=Zw }
def Zw_C : Ctx:={ tab:=tab,con:=fun _ _=>none,glob:=glob,eqs:=eqs,maps:=maps }
theorem Zw_eq (x : (tupTy [yQ2,yQ2,I]).den) : callFn Zw_C Zw_As (bodyOf Tryd.f34) [(.rd,yQ2),(.rd,yQ2),(.rd,I)] [(.tmp 6,true,.bool)] x=Zw x:=by kernel_rfl
def Zae_As : Anns:=[]
def Zae (x : (Q3×Unit)) : Option (Bool×Unit) :=
 let (((a,b,_),(c,d,_),_),_):=x; (Zy ((a,b,()),())).bind fun r1=>cond r1.1 ((Zy ((c,d,()),())).bind fun r2=>some (r2.1,())) (some (false,()))
def Zae_c : Con:={ ins:=[(.rd,yQ4)],outs:=[(true,.bool)],fn:=Zae }
def Zae_C : Ctx:={ tab:=tab,con:=fun | 33,_=>some Zy_c | _,_=>none,glob:=glob,eqs:=eqs,maps:=maps }
theorem Zae_eq (x : (tupTy [yQ4]).den) : callFn Zae_C Zae_As (bodyOf Tryd.f70) [(.rd,yQ4)] [(.tmp 2,true,.bool)] x=Zae x:=by kernel_rfl
def Zar_As : Anns:=[]
def Zar (x : (Int×Unit)) : Option (Int×Unit) :=
 cond (ltI x.1 0) (some ((-1),())) (cond (gtI x.1 0) (some (1,())) (some (0,())))
def Zar_c : Con:={ ins:=[(.rd,I)],outs:=[(true,I)],fn:=Zar }
def Zar_C : Ctx:={ tab:=tab,con:=fun _ _=>none,glob:=glob,eqs:=eqs,maps:=maps }
theorem Zar_eq (x : (tupTy [I]).den) : callFn Zar_C Zar_As (bodyOf Tryd.f83) [(.rd,I)] [(.tmp 2,true,I)] x=Zar x:=by kernel_rfl
def Zt_As : Anns:=[]
def Zt (x : (Q2×Q2×Q2×Unit)) : Option (Int×Unit) :=
 let ((a,b,_),(c,d,_),(e,f,_),_):=x; (Zy ((a,b,()),())).bind fun r1=>cond (!r1.1) (some (0,())) ((Zy ((c,d,()),())).bind fun r2=>cond (!r2.1) (some (0,())) ((Zy ((e,f,()),())).bind fun r3=>cond (!r3.1) (some (0,())) ((Zar ((subI .i64 (mulI .i64 (subI .i64 c a) (subI .i64 f b)) (mulI .i64 (subI .i64 d b) (subI .i64 e a))),())).bind fun r4=>some (r4.1,()))))
def Zt_c : Con:={ ins:=[(.rd,yQ2),(.rd,yQ2),(.rd,yQ2)],outs:=[(true,I)],fn:=Zt }
def Zt_C : Ctx:={ tab:=tab,con:=fun | 33,_=>some Zy_c | 83,_=>some Zar_c | _,_=>none,glob:=glob,eqs:=eqs,maps:=maps }
theorem Zt_eq (x : (tupTy [yQ2,yQ2,yQ2]).den) : callFn Zt_C Zt_As (bodyOf Tryd.f71) [(.rd,yQ2),(.rd,yQ2),(.rd,yQ2)] [(.tmp 6,true,I)] x=Zt x:=by kernel_rfl
def Zag_As : Anns:=[]
def Zag (x : (Q3×Q3×Unit)) : Option (Bool×Unit) :=
 let (((a,b,_),(c,d,_),_),((e,f,_),(g,h,_),_),_):=x; (Zae (((a,b,()),(c,d,()),()),())).bind fun r1=>cond (!r1.1) (some (false,())) ((Zae (((e,f,()),(g,h,()),()),())).bind fun r2=>cond (!r2.1) (some (false,())) ((Zt ((a,b,()),(c,d,()),(e,f,()),())).bind fun r3=>(Zt ((a,b,()),(c,d,()),(g,h,()),())).bind fun r4=>cond (ltI (mulI .i64 r3.1 r4.1) 0) ((Zt ((e,f,()),(g,h,()),(a,b,()),())).bind fun r5=>(Zt ((e,f,()),(g,h,()),(c,d,()),())).bind fun r6=>some ((ltI (mulI .i64 r5.1 r6.1) 0),())) (some (false,()))))
def Zag_c : Con:={ ins:=[(.rd,yQ4),(.rd,yQ4)],outs:=[(true,.bool)],fn:=Zag }
def Zag_C : Ctx:={ tab:=tab,con:=fun | 70,_=>some Zae_c | 71,_=>some Zt_c | _,_=>none,glob:=glob,eqs:=eqs,maps:=maps }
theorem Zag_eq (x : (tupTy [yQ4,yQ4]).den) : callFn Zag_C Zag_As (bodyOf Tryd.f69) [(.rd,yQ4),(.rd,yQ4)] [(.tmp 4,true,.bool)] x=Zag x:=by kernel_rfl
def Zbj_As : Anns:=[]
def Zbj (x : (Q2×Q3×Unit)) : Option (Bool×Unit) :=
 let ((a,b,_),((c,d,_),(e,f,_),_),_):=x; (Zy ((a,b,()),())).bind fun r1=>cond (!r1.1) (some (false,())) ((Zae (((c,d,()),(e,f,()),()),())).bind fun r2=>cond (!r2.1) (some (false,())) ((Zt ((c,d,()),(e,f,()),(a,b,()),())).bind fun r3=>cond (neI r3.1 0) (some (false,())) (cond (geI a (minI c e)) (cond (leI a (maxI c e)) (cond (geI b (minI d f)) (some ((leI b (maxI d f)),())) (some (false,()))) (some (false,()))) (some (false,())))))
def Zbj_c : Con:={ ins:=[(.rd,yQ2),(.rd,yQ4)],outs:=[(true,.bool)],fn:=Zbj }
def Zbj_C : Ctx:={ tab:=tab,con:=fun | 33,_=>some Zy_c | 70,_=>some Zae_c | 71,_=>some Zt_c | _,_=>none,glob:=glob,eqs:=eqs,maps:=maps }
theorem Zbj_eq (x : (tupTy [yQ2,yQ4]).den) : callFn Zbj_C Zbj_As (bodyOf Tryd.f56) [(.rd,yQ2),(.rd,yQ4)] [(.tmp 4,true,.bool)] x=Zbj x:=by kernel_rfl
def Zaw_As : Anns:=[]
def Zaw (x : (Q3×Q3×Unit)) : Option (Bool×Unit) :=
 let (((a,b,_),(c,d,_),_),((e,f,_),(g,h,_),_),_):=x; let t_2:=(Zbj ((g,h,()),((a,b,()),(c,d,()),()),())).bind fun r8=>cond r8.1 ((Zae (((e,f,()),(g,h,()),()),())).bind fun r9=>some (r9.1,())) (some (false,())); let t_1:=(Zbj ((e,f,()),((a,b,()),(c,d,()),()),())).bind fun r6=>cond r6.1 ((Zae (((e,f,()),(g,h,()),()),())).bind fun r7=>cond r7.1 (some (true,())) t_2) t_2; let t_0:=(Zbj ((c,d,()),((e,f,()),(g,h,()),()),())).bind fun r4=>cond r4.1 ((Zae (((a,b,()),(c,d,()),()),())).bind fun r5=>cond r5.1 (some (true,())) t_1) t_1; (Zag (((a,b,()),(c,d,()),()),((e,f,()),(g,h,()),()),())).bind fun r1=>cond r1.1 (some (true,())) ((Zbj ((a,b,()),((e,f,()),(g,h,()),()),())).bind fun r2=>cond r2.1 ((Zae (((a,b,()),(c,d,()),()),())).bind fun r3=>cond r3.1 (some (true,())) t_0) t_0)
def Zaw_c : Con:={ ins:=[(.rd,yQ4),(.rd,yQ4)],outs:=[(true,.bool)],fn:=Zaw }
def Zaw_C : Ctx:={ tab:=tab,con:=fun | 56,_=>some Zbj_c | 69,_=>some Zag_c | 70,_=>some Zae_c | _,_=>none,glob:=glob,eqs:=eqs,maps:=maps }
theorem Zaw_eq (x : (tupTy [yQ4,yQ4]).den) : callFn Zaw_C Zaw_As (bodyOf Tryd.f55) [(.rd,yQ4),(.rd,yQ4)] [(.tmp 4,true,.bool)] x=Zaw x:=by kernel_rfl
def Zak_As : Anns:=[]
def Zak (x : (Q9×(List Q2)×Int×Int×Unit)) : Option (Bool×Unit) :=
 let ((_,a,_),b,c,d,_):=x; (getI a c).bind fun y1=>(getI a d).bind fun y2=>let t_4:=cond (eqI y1.1 y2.1) (cond (eqI y1.2.1 y2.1) (some (true,())) (some ((eqI y1.2.1 y2.2.1),()))) (cond (eqI y1.1 y2.2.1) (cond (eqI y1.2.1 y2.1) (some (true,())) (some ((eqI y1.2.1 y2.2.1),()))) (some (false,()))); (getI b y1.1).bind fun y3=>(getI b y1.2.1).bind fun y4=>(getI b y2.1).bind fun y5=>(getI b y2.2.1).bind fun y6=>let t_3:=cond (neI y2.2.1 y1.1) (cond (neI y2.2.1 y1.2.1) ((Zbj ((y6.1,y6.2.1,()),((y3.1,y3.2.1,()),(y4.1,y4.2.1,()),()),())).bind fun r11=>cond r11.1 (some (true,())) t_4) t_4) t_4; let t_2:=cond (neI y2.1 y1.1) (cond (neI y2.1 y1.2.1) ((Zbj ((y5.1,y5.2.1,()),((y3.1,y3.2.1,()),(y4.1,y4.2.1,()),()),())).bind fun r10=>cond r10.1 (some (true,())) t_3) t_3) t_3; let t_1:=cond (neI y1.2.1 y2.1) (cond (neI y1.2.1 y2.2.1) ((Zbj ((y4.1,y4.2.1,()),((y5.1,y5.2.1,()),(y6.1,y6.2.1,()),()),())).bind fun r9=>cond r9.1 (some (true,())) t_2) t_2) t_2; let t_0:=cond (neI y1.1 y2.1) (cond (neI y1.1 y2.2.1) ((Zbj ((y3.1,y3.2.1,()),((y5.1,y5.2.1,()),(y6.1,y6.2.1,()),()),())).bind fun r8=>cond r8.1 (some (true,())) t_1) t_1) t_1; cond (neI y1.1 y2.1) (cond (neI y1.1 y2.2.1) (cond (neI y1.2.1 y2.1) (cond (neI y1.2.1 y2.2.1) ((Zaw (((y3.1,y3.2.1,()),(y4.1,y4.2.1,()),()),((y5.1,y5.2.1,()),(y6.1,y6.2.1,()),()),())).bind fun r7=>some (r7.1,())) t_0) t_0) t_0) t_0
def Zak_c : Con:={ ins:=[(.rd,yQ8),(.rd,(.slice yQ2)),(.rd,I),(.rd,I)],outs:=[(true,.bool)],fn:=Zak }
def Zak_C : Ctx:={ tab:=tab,con:=fun | 55,_=>some Zaw_c | 56,_=>some Zbj_c | _,_=>none,glob:=glob,eqs:=eqs,maps:=maps }
theorem Zak_eq (x : (tupTy [yQ8,(.slice yQ2),I,I]).den) : callFn Zak_C Zak_As (bodyOf Tryd.f36) [(.rd,yQ8),(.rd,(.slice yQ2)),(.rd,I),(.rd,I)] [(.tmp 8,true,.bool)] x=Zak x:=by kernel_rfl
def Zan_H23 : Shape:={ env:=[(1,.av (.val (.slice yQ2))),(2,.av (.ptr 2 0)),(10,.av (.val I)),(11,.av (.val I))],objs:=[(2,.box [.val I,.val (.slice yQ2),.val yQ5,.val (.slice I),.val (.slice .str),.val I])] }
def Zan_E23 : List (Ex×Shape):=[(.ret,{ env:=[(4,.av (.val .bool))],objs:=[] }),(.exit 8,{ env:=[(1,.av (.val (.slice yQ2))),(2,.av (.ptr 2 0)),(10,.av (.val I))],objs:=[(2,.box [.val I,.val (.slice yQ2),.val yQ5,.val (.slice I),.val (.slice .str),.val I])] })]
def Zan_B23 (x : Q47) : Option (Q47⊕((Bool×Unit)⊕(Q42⊕Empty))) :=
 let (a,b,c,d,e,f,g,h,i,_):=x; cond (ltI i h) ((Zak ((a,b,c,()),g,h,i,())).bind fun r1=>cond r1.1 (some (.inr (.inl (false,())))) (some (.inl (a,b,c,d,e,f,g,h,(addI .i64 i 1),())))) (some (.inr (.inr (.inl (a,b,c,d,e,f,g,h,())))))
def Zan_L23 : Q47→Option ((Bool×Unit)⊕(Q42⊕Empty)):=loopFix Zan_B23
def Zan_A23 : Ann:={ head:=Zan_H23,exits:=Zan_E23,fn:=Zan_L23 }
def Zan_H20 : Shape:={ env:=[(1,.av (.val (.slice yQ2))),(2,.av (.ptr 2 0)),(10,.av (.val I))],objs:=[(2,.box [.val I,.val (.slice yQ2),.val yQ5,.val (.slice I),.val (.slice .str),.val I])] }
def Zan_E20 : List (Ex×Shape):=[(.ret,{ env:=[(4,.av (.val .bool))],objs:=[] }),(.exit 6,{ env:=[],objs:=[] })]
def Zan_B20 (x : Q42) : Option (Q42⊕((Bool×Unit)⊕(Unit⊕Empty))) :=
 let (a,b,c,d,e,f,g,h,_):=x; cond (ltI h (b.length : Nat)) ((Zan_L23 (a,b,c,d,e,f,g,h,0,())).bind (Sum.elim (fun z2=>some (.inr (.inl (z2.1,())))) (Sum.elim (fun (a_3,b_3,c_3,d_3,e_3,f_3,g_3,h_3,_)=>some (.inl (a_3,b_3,c_3,d_3,e_3,f_3,g_3,(addI .i64 h_3 1),()))) (fun _=>none)))) (some (.inr (.inr (.inl ()))))
def Zan_L20 : Q42→Option ((Bool×Unit)⊕(Unit⊕Empty)):=loopFix Zan_B20
def Zan_A20 : Ann:={ head:=Zan_H20,exits:=Zan_E20,fn:=Zan_L20 }
def Zan_H15 : Shape:={ env:=[(1,.av (.val (.slice yQ2))),(2,.av (.ptr 2 0)),(5,.av (.own 5)),(9,.av (.val I))],objs:=[(2,.box [.val I,.val (.slice yQ2),.val yQ5,.val (.slice I),.val (.slice .str),.val I]),(5,.arr I)] }
def Zan_E15 : List (Ex×Shape):=[(.ret,{ env:=[(4,.av (.val .bool))],objs:=[] }),(.exit 4,{ env:=[(1,.av (.val (.slice yQ2))),(2,.av (.ptr 2 0))],objs:=[(2,.box [.val I,.val (.slice yQ2),.val yQ5,.val (.slice I),.val (.slice .str),.val I])] })]
def Zan_B15 (x : Q51) : Option (Q51⊕((Bool×Unit)⊕(Q36⊕Empty))) :=
 let (a,b,c,d,e,f,g,h,i,_):=x; cond (ltI i (g.length : Nat)) ((Zav ((a,b,c,()),i,())).bind fun r1=>(getI h r1.1).bind fun y2=>(Zav ((a,b,c,()),(xorI .i64 i 1),())).bind fun r3=>(getI h r3.1).bind fun y4=>(idxI g.length i).bind fun j5=>(g[j5]?).bind fun y6=>(Zw (y2,y4,y6,())).bind fun r7=>cond (!r7.1) (some (.inr (.inl (false,())))) (some (.inl (a,b,c,d,e,f,g,h,(addI .i64 i 1),())))) (some (.inr (.inr (.inl (a,b,c,d,e,f,h,())))))
def Zan_L15 : Q51→Option ((Bool×Unit)⊕(Q36⊕Empty)):=loopFix Zan_B15
def Zan_A15 : Ann:={ head:=Zan_H15,exits:=Zan_E15,fn:=Zan_L15 }
def Zan_H10 : Shape:={ env:=[(1,.av (.val (.slice yQ2))),(2,.av (.ptr 2 0)),(5,.av (.own 5)),(7,.av (.val I)),(8,.av (.val I))],objs:=[(2,.box [.val I,.val (.slice yQ2),.val yQ5,.val (.slice I),.val (.slice .str),.val I]),(5,.arr I)] }
def Zan_E10 : List (Ex×Shape):=[(.ret,{ env:=[(4,.av (.val .bool))],objs:=[] }),(.exit 2,{ env:=[(1,.av (.val (.slice yQ2))),(2,.av (.ptr 2 0)),(5,.av (.own 5)),(7,.av (.val I))],objs:=[(2,.box [.val I,.val (.slice yQ2),.val yQ5,.val (.slice I),.val (.slice .str),.val I]),(5,.arr I)] })]
def Zan_B10 (x : Q55) : Option (Q55⊕((Bool×Unit)⊕(Q51⊕Empty))) :=
 let (a,b,c,d,e,f,g,h,i,k,_):=x; cond (ltI k i) ((getI h k).bind fun y1=>(getI h i).bind fun y2=>cond ((eqI y1.1 y2.1) && ((eqI y1.2.1 y2.2.1) && true)) (some (.inr (.inl (false,())))) (some (.inl (a,b,c,d,e,f,g,h,i,(addI .i64 k 1),())))) (some (.inr (.inr (.inl (a,b,c,d,e,f,g,h,i,())))))
def Zan_L10 : Q55→Option ((Bool×Unit)⊕(Q51⊕Empty)):=loopFix Zan_B10
def Zan_A10 : Ann:={ head:=Zan_H10,exits:=Zan_E10,fn:=Zan_L10 }
def Zan_H5 : Shape:={ env:=[(1,.av (.val (.slice yQ2))),(2,.av (.ptr 2 0)),(5,.av (.own 5)),(7,.av (.val I))],objs:=[(2,.box [.val I,.val (.slice yQ2),.val yQ5,.val (.slice I),.val (.slice .str),.val I]),(5,.arr I)] }
def Zan_E5 : List (Ex×Shape):=[(.ret,{ env:=[(4,.av (.val .bool))],objs:=[] }),(.exit 0,{ env:=[(1,.av (.val (.slice yQ2))),(2,.av (.ptr 2 0)),(5,.av (.own 5))],objs:=[(2,.box [.val I,.val (.slice yQ2),.val yQ5,.val (.slice I),.val (.slice .str),.val I]),(5,.arr I)] })]
def Zan_B5 (x : Q51) : Option (Q51⊕((Bool×Unit)⊕(Q45⊕Empty))) :=
 let (a,b,c,d,e,f,g,h,i,_):=x; cond (ltI i (h.length : Nat)) ((getI h i).bind fun y1=>(Zy (y1,())).bind fun r2=>cond (!r2.1) (some (.inr (.inl (false,())))) ((Zan_L10 (a,b,c,d,e,f,g,h,i,0,())).bind (Sum.elim (fun z4=>some (.inr (.inl (z4.1,())))) (Sum.elim (fun (a_5,b_5,c_5,d_5,e_5,f_5,g_5,h_5,i_5,_)=>some (.inl (a_5,b_5,c_5,d_5,e_5,f_5,g_5,h_5,(addI .i64 i_5 1),()))) (fun _=>none))))) (some (.inr (.inr (.inl (a,b,c,d,e,f,g,h,())))))
def Zan_L5 : Q51→Option ((Bool×Unit)⊕(Q45⊕Empty)):=loopFix Zan_B5
def Zan_A5 : Ann:={ head:=Zan_H5,exits:=Zan_E5,fn:=Zan_L5 }
def Zan_As : Anns:=[(5,Zan_A5),(10,Zan_A10),(15,Zan_A15),(20,Zan_A20),(23,Zan_A23)]
def Zan (x : (Q10×(List Q2)×Unit)) : Option (Bool×Unit) :=
 let (((a,b,c,_),d,e,f,_),g,_):=x; (Zf (((a,b,c,()),d,e,f,()),())).bind fun r1=>cond (neI r1.2.1 0) (some (false,())) (cond (neI (g.length : Nat) a) (some (false,())) ((Zan_L5 (a,b,c,d,e,f,r1.1,g,0,())).bind (Sum.elim (fun z3=>some (z3.1,())) (Sum.elim (fun (a_4,b_4,c_4,d_4,e_4,f_4,g_4,h_4,_)=>(Zan_L15 (a_4,b_4,c_4,d_4,e_4,f_4,g_4,h_4,0,())).bind (Sum.elim (fun z6=>some (z6.1,())) (Sum.elim (fun (a_7,b_7,c_7,d_7,e_7,f_7,g_7,_)=>(Zan_L20 (a_7,b_7,c_7,d_7,e_7,f_7,g_7,0,())).bind (Sum.elim (fun z9=>some (z9.1,())) (Sum.elim (fun z10=>some (true,())) (fun _=>none)))) (fun _=>none)))) (fun _=>none)))))
def Zan_c : Con:={ ins:=[(.rd,yQ11),(.rd,(.slice yQ2))],outs:=[(true,.bool)],fn:=Zan }
def Zan_C : Ctx:={ tab:=tab,con:=fun | 11,_=>some Zf_c | 33,_=>some Zy_c | 34,_=>some Zw_c | 35,_=>some Zav_c | 36,_=>some Zak_c | _,_=>none,glob:=glob,eqs:=eqs,maps:=maps }
theorem Zan_R23 (x : Zan_H23.ty.den) : round Zan_C Zan_As Zan_A23 (loopBody 23 (bodyOf Tryd.f17)) x=Zan_B23 x:=by kernel_rfl
theorem Zan_R20 (x : Zan_H20.ty.den) : round Zan_C Zan_As Zan_A20 (loopBody 20 (bodyOf Tryd.f17)) x=Zan_B20 x:=by kernel_rfl
theorem Zan_R15 (x : Zan_H15.ty.den) : round Zan_C Zan_As Zan_A15 (loopBody 15 (bodyOf Tryd.f17)) x=Zan_B15 x:=by kernel_rfl
theorem Zan_R10 (x : Zan_H10.ty.den) : round Zan_C Zan_As Zan_A10 (loopBody 10 (bodyOf Tryd.f17)) x=Zan_B10 x:=by kernel_rfl
theorem Zan_R5 (x : Zan_H5.ty.den) : round Zan_C Zan_As Zan_A5 (loopBody 5 (bodyOf Tryd.f17)) x=Zan_B5 x:=by kernel_rfl
theorem Zan_eq (x : (tupTy [yQ11,(.slice yQ2)]).den) : callFn Zan_C Zan_As (bodyOf Tryd.f17) [(.rd,yQ11),(.rd,(.slice yQ2))] [(.tmp 4,true,.bool)] x=Zan x:=by kernel_rfl
def Zc_As : Anns:=[]
def Zc (x : (Q10×(List Q2)×Unit)) : Option (Bool×Unit) :=
 let (((a,b,c,_),d,e,f,_),g,_):=x; (Zad (((a,b,c,()),d,e,f,()),())).bind fun r1=>cond (!r1.1) ((Zaj ()).bind fun r2=>some (r2.1,())) (cond (gtI (g.length : Nat) 50) ((Zaj ()).bind fun r3=>some (r3.1,())) ((Zbt (((a,b,c,()),d,e,f,()),g,())).bind fun r4=>(Zan (((a,b,c,()),d,e,f,()),g,())).bind fun r5=>cond (eqB r4.1 r5.1) ((Zaj ()).bind fun r6=>some (r6.1,())) (some (false,()))))
def Zc_c : Con:={ ins:=[(.rd,yQ11),(.rd,(.slice yQ2))],outs:=[(true,.bool)],fn:=Zc }
def Zc_C : Ctx:={ tab:=tab,con:=fun | 8,_=>some Zad_c | 9,_=>some Zaj_c | 16,_=>some Zbt_c | 17,_=>some Zan_c | _,_=>none,glob:=glob,eqs:=eqs,maps:=maps }
def Zd_H14 : Shape:={ env:=[(1,.av (.val (.slice yQ2))),(5,.av (.own 5)),(7,.av (.val I)),(8,.av (.val I)),(10,.av (.val I))],objs:=[(5,.arr yQ2)] }
def Zd_E14 : List (Ex×Shape):=[(.ret,{ env:=[(4,.av (.val .bool))],objs:=[] }),(.exit 2,{ env:=[],objs:=[] })]
def Zd_B14 (x : Q11) : Option (Q11⊕((Bool×Unit)⊕(Unit⊕Empty))) :=
 let (a,b,c,d,e,_):=x; cond (ltI e (b.length : Nat)) ((getI b e).bind fun y1=>(idxI a.length e).bind fun j2=>(a[j2]?).bind fun y3=>cond (ltI (subI .i64 y1.1 c) y3.1) (some (.inr (.inl (false,())))) ((getI b e).bind fun y4=>(idxI a.length e).bind fun j5=>(a[j5]?).bind fun y6=>cond (ltI (subI .i64 y4.2.1 d) y6.2.1) (some (.inr (.inl (false,())))) (some (.inl (a,b,c,d,(addI .i64 e 1),()))))) (some (.inr (.inr (.inl ()))))
def Zd_L14 : Q11→Option ((Bool×Unit)⊕(Unit⊕Empty)):=loopFix Zd_B14
def Zd_A14 : Ann:={ head:=Zd_H14,exits:=Zd_E14,fn:=Zd_L14 }
def Zd_H10 : Shape:={ env:=[(1,.av (.val (.slice yQ2))),(5,.av (.own 5)),(7,.av (.val I)),(8,.av (.val I)),(9,.av (.val I))],objs:=[(5,.arr yQ2)] }
def Zd_E10 : List (Ex×Shape):=[(.exit 0,{ env:=[(1,.av (.val (.slice yQ2))),(5,.av (.own 5)),(7,.av (.val I)),(8,.av (.val I))],objs:=[(5,.arr yQ2)] })]
def Zd_B10 (x : Q11) : Option (Q11⊕(((List Q2)×(List Q2)×Int×Int×Unit)⊕Empty)) :=
 let (a,b,c,d,e,_):=x; cond (ltI e (b.length : Nat)) ((getI b e).bind fun y1=>(getI b e).bind fun y2=>some (.inl (a,b,(minI c y1.1),(minI d y2.2.1),(addI .i64 e 1),()))) (some (.inr (.inl (a,b,c,d,()))))
def Zd_L10 : Q11→Option (((List Q2)×(List Q2)×Int×Int×Unit)⊕Empty):=loopFix Zd_B10
def Zd_A10 : Ann:={ head:=Zd_H10,exits:=Zd_E10,fn:=Zd_L10 }
def Zd_As : Anns:=[(10,Zd_A10),(14,Zd_A14)]
def Zd (x : (Q10×(List Q2)×Unit)) : Option (Bool×Unit) :=
 let (((a,b,c,_),d,e,f,_),g,_):=x; (Zad (((a,b,c,()),d,e,f,()),())).bind fun r1=>cond (!r1.1) ((Zaj ()).bind fun r2=>some (r2.1,())) (cond (gtI (g.length : Nat) 50) ((Zaj ()).bind fun r3=>some (r3.1,())) ((Ze (((a,b,c,()),d,e,f,()),())).bind fun r4=>cond (!r4.1) ((Zaj ()).bind fun r5=>some (r5.1,())) ((Zbs (((a,b,c,()),d,e,f,()),())).bind fun r6=>cond (neI r6.2.1 0) (some (false,())) ((Zbt (((a,b,c,()),d,e,f,()),r6.1,())).bind fun r7=>cond (!r7.1) (some (false,())) ((Zan (((a,b,c,()),d,e,f,()),r6.1,())).bind fun r8=>cond (!r8.1) (some (false,())) ((Zan (((a,b,c,()),d,e,f,()),g,())).bind fun r9=>cond (!r9.1) ((Zaj ()).bind fun r10=>some (r10.1,())) ((getI g 0).bind fun y11=>(getI g 0).bind fun y12=>(Zd_L10 (r6.1,g,y11.1,y12.2.1,0,())).bind (Sum.elim (fun z14=>(Zd_L14 (z14.1,z14.2.1,z14.2.2.1,z14.2.2.2.1,0,())).bind (Sum.elim (fun z16=>some (z16.1,())) (Sum.elim (fun z17=>(Zaj ()).bind fun r18=>some (r18.1,())) (fun _=>none)))) (fun _=>none)))))))))
def Zd_c : Con:={ ins:=[(.rd,yQ11),(.rd,(.slice yQ2))],outs:=[(true,.bool)],fn:=Zd }
def Zd_C : Ctx:={ tab:=tab,con:=fun | 8,_=>some Zad_c | 9,_=>some Zaj_c | 13,_=>some Zbs_c | 16,_=>some Zbt_c | 17,_=>some Zan_c | 18,_=>some Ze_c | _,_=>none,glob:=glob,eqs:=eqs,maps:=maps }
theorem Zd_R14 (x : Zd_H14.ty.den) : round Zd_C Zd_As Zd_A14 (loopBody 14 (bodyOf Tryd.f6)) x=Zd_B14 x:=by kernel_rfl
theorem Zd_R10 (x : Zd_H10.ty.den) : round Zd_C Zd_As Zd_A10 (loopBody 10 (bodyOf Tryd.f6)) x=Zd_B10 x:=by kernel_rfl
theorem Zd_eq (x : (tupTy [yQ11,(.slice yQ2)]).den) : callFn Zd_C Zd_As (bodyOf Tryd.f6) [(.rd,yQ11),(.rd,(.slice yQ2))] [(.tmp 4,true,.bool)] x=Zd x:=by kernel_rfl
end
end Go.Vm

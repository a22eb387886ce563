/-
 The functions that the law reaches, as functions on values, and the proofs that the machine computes them.
-/
import Derived.Test.YtganppkchbnikaaGreatDoorVmPack
import Derived.Test.YtganppkchbnikaaGreatDoorSA
import Derived.Test.YtganppkchbnikaaGreatDoorSA
import Derived.Test.YtganppkchbnikaaGreatDoorSA
import Derived.Test.YtganppkchbnikaaGreatDoorVmExt2
import Derived.Test.YtganppkchbnikaaGreatDoorVmExt3
import Derived.Test.YtganppkchbnikaaGreatDoorVmExt4
import Derived.Test.YtganppkchbnikaaGreatDoorProg
import Derived.KernelRfl
open Sum renaming elim->A9
open Nat renaming ble->JK
set_option linter.unusedVariables false
set_option linter.unusedSimpArgs false
namespace Go.Vm
open Go.Proofs
abbrev I:Ty:=.int .i64
abbrev yQ1:Ty:=.prod I .unit
abbrev yQ2:Ty:=.prod I yQ1
abbrev yQ3:Ty:=.slice (.slice I)
abbrev yQ4:Ty:=.prod yQ3 .unit
abbrev yQ5:Ty:=.prod (.slice I) yQ4
abbrev yQ6:Ty:=.prod I yQ5
abbrev yQ7:Ty:=.prod (.slice I) yQ6
abbrev yQ8:Ty:=.prod (.slice I) yQ7
abbrev yQ9:Ty:=.prod (.ptr I) .unit
abbrev Ih:Ty:=.slice (.slice .bool)
abbrev I8:Ty:=.prod Ih yQ4
abbrev k9:Ty:=.prod (.slice yQ2) yQ4
abbrev ec:Ty:=.prod I k9
abbrev pn:Ty:=.prod (.ptr k9) yQ8
abbrev IW:Ty:=.prod (.slice I) .unit
abbrev ma:Ty:=.prod (.slice I) IW
abbrev ou:Ty:=.prod (.ptr ma) .unit
abbrev IM:Ty:=.prod (.slice yQ2) .unit
abbrev fj:Ty:=.prod I IM
abbrev I5:Ty:=.prod (.slice .bool) I8
abbrev Jb:Ty:=.prod yQ3 I5
abbrev eA:Ty:=.prod I Jb
abbrev sS:Ty:=.prod (.ptr (.slice I)) yQ9
abbrev ud:Ty:=.prod (.ptr (.slice I)) .unit
abbrev zh:Ty:=.prod (.ptr (.ptr eA)) ou
abbrev Q1:=List Int×Unit
abbrev Q2:=Int×Int×Unit
abbrev Q3:=List (Int×Bool)
abbrev Q4:=List Int×Int×Unit
abbrev Q5:=List Int×Q4×Unit
abbrev Q6:=Int×(List Q2)×Unit
abbrev Q7:=(List (List Int))×Unit
abbrev Q8:=List Int×List Int×Unit
abbrev Q9:=Int×(List Q2)×Int×Unit
abbrev Q10:=List Int×Q1×Int×Int×Unit
abbrev Q11:=List Int×Q4×Int×Int×Unit
abbrev Q12:=(List Q2)×(List (List Int))×Unit
abbrev Q13:=List Int×List Int×Int×Int×Unit
abbrev Q14:=Int×(List Q2)×(List (List Int))×Unit
abbrev Q15:=Q14×Int×Unit
abbrev Q16:=Int×(List Q2)×(List Q2)×Int×Int×Unit
abbrev Q17:=List Int×(List (List Int))×Int×Int×Unit
abbrev Q18:=Int×(List Q2)×List Int×Int×Int×Int×Unit
abbrev Q19:=List Int×List Int×List Int×Int×Int×Int×Unit
abbrev Q20:=(List (List Int))×(List (List Int))×Int×Int×Unit
abbrev Q21:=Q12×List Int×List Int×Int×List Int×(List (List Int))×Unit
abbrev Q22:=Q21×Int×Int×Unit
abbrev Q23:=Int×(List Q2)×(List (List Int))×List Bool×List Int×Int×Unit
abbrev Q24:=Int×(List Q2)×(List (List Int))×List Bool×Int×Int×Int×Unit
abbrev Q25:=Int×Int×(List Q2)×List Int×(List Q2)×(List Q2)×Int×Int×Unit
abbrev Q26:=Int×(List Q2)×List Int×Int×(List Q2)×(List Q2)×Int×Int×Unit
abbrev Q27:=Int×(List Q2)×(List (List Int))×List Int×List Int×List Int×Unit
abbrev Q28:=List Int×List Bool×(List (List Int))×List Int×Int×Int×Int×Unit
abbrev Q29:=List Int×(List (List Int))×Int×Int×Int×List Int×Int×Int×Unit
abbrev Q30:=Int×(List Q2)×(List (List Int))×Int×(List (List Int))×Int×Int×Unit
abbrev Q31:=Int×Int×(List Q2)×(List (List Int))×(List (List Int))×Int×Int×Unit
abbrev Q32:=Q12×Int×List Int×List Int×List Int×(List (List Int))×Int×Int×Unit
abbrev Q33:=List Int×List Int×(List (List Int))×Int×Int×List Int×Int×Int×Unit
abbrev Q34:=Int×(List (List Int))×List Bool×(List (List Bool))×(List (List Int))×Unit
abbrev Q35:=Q34×Q8×Unit
abbrev Q36:=List Bool×List Int×List Int×List Int×Q34×Unit
abbrev Q37:=List Int×Q34×Int×(Q8×Unit)×Q35×(Q8×Unit)×Int×Int×Unit
abbrev Q38:=List Bool×List Int×List Int×List Int×Q34×List Int×Int×Int×Unit
abbrev Q39:=List Int×List Int×Q34×Int×(Q8×Unit)×Q35×(Q8×Unit)×Int×Unit
abbrev Q40:=Int×(List Q2)×(List (List Int))×List Bool×List Int×Int×Int×Int×Unit
abbrev Q41:=List Int×Q34×Int×(Int×Unit)×(Int×Unit)×(Int×Unit)×Int×Int×Unit
abbrev Q42:=Int×(List Q2)×(List (List Int))×List Int×List Int×List Int×Int×Int×Unit
abbrev Q43:=Int×List Int×Int×(List Q2)×(List (List Int))×List Int×List Int×Int×Unit
abbrev Q44:=Int×List Int×Int×(List Q2)×(List (List Int))×List Int×Int×Int×Int×Unit
abbrev Q45:=(List (List Int))×List Int×Int×Int×Int×Int×Int×List Int×Int×Int×Unit
abbrev Q46:=List Int×List Int×Q34×Int×(Int×Unit)×(Int×Unit)×(Int×Unit)×Int×Unit
abbrev Q47:=(List (List Int))×List Int×(List (List Int))×Int×Int×List Int×Int×Int×Unit
abbrev Q48:=Int×(List Q2)×(List (List Int))×List Bool×Int×(List (List Int))×Int×Int×Unit
abbrev Q49:=Int×(List Q2)×(List (List Int))×List Int×List Int×Int×List Int×List Int×Unit
abbrev Q50:=Int×(List Q2)×(List (List Int))×List Int×List Int×List Int×Int×Int×Int×Unit
abbrev Q51:=Int×(List Q2)×(List (List Int))×(List (List Int))×(List (List Int))×Int×Int×Unit
abbrev Q52:=Int×(List Q2)×(List (List Int))×List Bool×List Int×Int×List Int×Int×Int×Unit
abbrev Q53:=Int×(List Q2)×(List (List Int))×List Int×List Int×List Int×List Int×Int×Int×Unit
abbrev Q54:=Q12×Int×List Int×List Int×List Int×(List (List Int))×Int×Int×List Int×Int×Int×Unit
abbrev Q55:=Int×(List Q2)×Int×(List (List Int))×List Bool×(List (List Bool))×List Int×Int×Int×Unit
abbrev Q56:=Int×(List Q2)×(List (List Int))×List Int×List Int×List Int×Int×Int×Int×Int×Int×Unit
abbrev Q57:=Int×(List Q2)×(List (List Int))×List Bool×List Int×Int×Int×Int×List Int×Int×Int×Unit
abbrev Q58:=List Int×List Int×Q34×Int×(Q8×Unit)×Q35×(Q8×Unit)×Int×Int×List Int×Int×Int×Unit
abbrev Q59:=Int×(List Q2)×Int×Int×List Int×Int×Int×Int×(List (List Int))×(List Q2)×Int×Int×Unit
abbrev Q60:=Int×(List Q2)×List Int×List Int×(List (List Int))×(List (List Int))×(List Q2)×Int×Int×Unit
abbrev Q61:=Q12×Int×(List (List Int))×List Bool×List Int×List Int×List Int×(List (List Int))×Int×Int×Unit
abbrev Q62:=Int×(List (List Int))×List Bool×(List (List Bool))×(List (List Int))×List Int×List Int×Int×Int×Unit
abbrev Q63:=List Int×List Int×Q34×Int×(Int×Unit)×(Int×Unit)×(Int×Unit)×Int×Int×List Int×Int×Int×Unit
abbrev Q64:=Int×(List Q8)×List Bool×(List (List Int))×List Bool×(List (List Bool))×(List (List Int))×Int×Int×Unit
abbrev Q65:=Int×(List Q2)×(List (List Int))×List Bool×Int×Int×(List (List Int))×Int×Int×List Int×Int×Int×Unit
abbrev Q66:=Q12×Int×(List (List Int))×List Bool×List Int×List Int×List Int×List Int×(List (List Int))×Int×Int×Int×Unit
abbrev Q67:=Int×(List Q2)×Int×Int×List Int×Int×(List Q2)×(List (List Int))×Int×(List (List Int))×(List Q2)×Int×Int×Unit
abbrev Q68:=Int×List Int×List Int×List Int×(List Q8)×(List (List Int))×List Bool×(List (List Bool))×(List (List Int))×Int×Int×Unit
abbrev Q69:=Int×(List Q8)×List Bool×(List (List Int))×List Bool×(List (List Bool))×(List (List Int))×Int×Int×Int×Int×Int×Int×Unit
abbrev Q70:=Int×(List Q2)×(List (List Int))×(List (List Int))×(List (List Int))×(List (List Int))×(List (List Int))×Int×Int×Int×Int×Unit
abbrev Q71:=Q12×Int×(List (List Int))×List Bool×List Int×List Int×List Int×List Int×(List (List Int))×Int×Int×Int×List Int×Int×Int×Unit
abbrev Q72:=Int×(List Q2)×(List (List Int))×(List (List Int))×(List (List Int))×(List (List Int))×(List (List Int))×Int×Int×Int×Int×Int×Int×Int×Int×Unit
abbrev Q73:=Int×(List Q2)×Int×Int×List Int×Int×(List Q2)×(List (List Int))×Int×(List (List Int))×Int×(List Q2)×(List (List Int))×Q3×Int×List Int×Int×(List Q2)×Int×Int×Int×Int×Unit
abbrev Q74:=Int×(List Q2)×Int×Int×List Int×Int×(List Q2)×(List (List Int))×Int×(List (List Int))×Int×(List Q2)×(List (List Int))×Q3×Int×List Int×(List Q2)×Int×Int×List Int×Int×Int×Unit
abbrev Q75:=Int×(List Q2)×Int×Int×List Int×Int×(List Q2)×(List (List Int))×Int×(List (List Int))×Int×(List Q2)×(List (List Int))×Q3×Int×List Int×Int×Int×Int×Int×(List Q2)×Int×Int×Int×Int×Unit
noncomputable section
def tab:Tab:=[(2,I),(3,I),(4,.bool),(5,(.int .u8)),(6,(.int .u8)),(7,(.prod I (.prod I (.prod .bool (.prod (.int .u8) .unit))))),(8,(.prod I (.prod I (.prod .bool (.prod (.int .u8) .unit))))),(9,.str),(10,.str),(11,.str),(12,(.int .u64)),(13,(.prod .str (.prod (.int .u64) .unit))),(14,(.prod .str (.prod (.int .u64) .unit))),(21,(.int .i32)),(22,(.slice yQ2)),(23,fj),(24,fj),(25,I),(28,yQ3),(29,ec),(30,ec),(31,(.prod ec (.prod I yQ4))),(32,(.prod ec (.prod I yQ4))),(40,(.slice I)),(43,yQ2),(44,yQ2),(57,(.slice .bool)),(68,(.arr 2 I)),(73,(.ptr pn)),(76,(.ptr k9)),(77,pn),(78,pn),(81,(.ptr eA)),(85,Ih),(86,eA),(87,eA),(103,k9),(104,k9),(107,(.int .u64)),(110,(.clo 74 .unit)),(112,(.slice ma)),(114,ma),(115,ma),(121,I),(129,(.int .u32)),(131,(.int .u64)),(140,(.int .u64)),(166,(.int .u8)),(167,(.int .u8)),(170,(.int .i32)),(171,(.int .i32))]
def eqs:List Nat:=[44,68]
def maps:List (Nat×Ty×Ty):=[(50,I,.bool)]
def glob:List (Nat×(Σ t:Ty,t.den)):=[(0,⟨(.arr 2 I),[16384,32768]⟩)]
theorem seat_ok:SeatOK Tryz.prog tab eqs:=⟨by kernel_rfl,by kernel_rfl,by kernel_rfl⟩
abbrev Fn:=FnC Tryz.prog glob
def cx(l:List Fn):Ctx:={ tab:=tab,con:=rn l,glob:=glob,eqs:=eqs }
def IP(l:List Fn)(r:List (Nat×Fn)):Ctx:={ cx l with con:=wS l r }
def Id:List (Nat×Hint):=[(100,{})]
theorem E9:mV Tryz.prog Id=true:=by kernel_rfl
theorem Gy:CtxOK Tryz.prog (cx []):=⟨seat_ok.tab,l5 seat_ok.tab seat_ok.eqs,jO (by kernel_rfl),af,λ_ _ h=>by cases h⟩
set_option maxRecDepth 100000
def qa(x:Q9):Option (Q9⊕((Bool×Unit)⊕(Unit⊕Empty))):=
 let(a,b,c,_):=x;cond (ltI c (b.length:Nat)) ((aL b c).bind λy1=>cond (ltI y1.1 0) (some (.inr (.inl (false,())))) (cond (geI y1.1 a) (some (.inr (.inl (false,())))) (cond (ltI y1.2.1 0) (some (.inr (.inl (false,())))) (cond (geI y1.2.1 a) (some (.inr (.inl (false,())))) (some (.inl (a,b,(ap .i64 c 1),()))))))) (some (.inr (.inr (.inl ()))))
def vy:=aa qa
def BK:Ann:=⟨sh [(1,.av (.ptr 1 0)),(3,.av (.val I))] [(1,.box [.val I,.val (.slice yQ2)])],[(.ret,sh [(2,.av (.val .bool))] []),(.exit 0,sh [] [])],vy⟩
def Zas(x:(Q6×Unit)):Option (Bool×Unit):=
 let((a,b,_),_):=x;cond (ltI a 0) (some (false,())) (cond (gtI a 64) (some (false,())) (cond (gtI (b.length:Nat) 256) (some (false,())) ((vy (a,b,0,())).bind (A9 (λz2=>some (z2.1,())) (A9 (λz3=>some (true,())) (λ_=>none))))))
def HN:Fn:=mkF { cx []with maps:=maps } [(4,BK)] 19 Tryz.f19 [(.rd,fj)] [(.tmp 2,true,.bool)] Zas [lp 4 BK qa] seat_ok af rfl
def iG(x:(Int×(List Q2)×Int×Int×Unit)):Option ((Int×(List Q2)×Int×Int×Unit)⊕((Int×Unit)⊕(Q9⊕Empty))):=
 let(a,b,c,d,_):=x;cond (ltI d c) ((aL b c).bind λy1=>(aL b d).bind λy2=>cond ((eqI y1.1 y2.1)&&((eqI y1.2.1 y2.2.1)&&true)) (some (.inr (.inl (6,())))) (cond (eqI y1.1 y2.2.1) (cond (eqI y1.2.1 y2.1) (some (.inr (.inl (6,())))) (some (.inl (a,b,c,(ap .i64 d 1),())))) (some (.inl (a,b,c,(ap .i64 d 1),()))))) (some (.inr (.inr (.inl (a,b,c,())))))
def xR:=aa iG
def xI:Ann:=⟨sh [(1,.av (.ptr 1 0)),(4,.av (.val I)),(5,.av (.val I))] [(1,.box [.val I,.val (.slice yQ2)])],[(.ret,sh [(2,.av (.val I))] []),(.exit 4,sh [(1,.av (.ptr 1 0)),(4,.av (.val I))] [(1,.box [.val I,.val (.slice yQ2)])])],xR⟩
def nS(x:Q9):Option (Q9⊕((Int×Unit)⊕(Unit⊕Empty))):=
 let(a,b,c,_):=x;cond (ltI c (b.length:Nat)) ((xR (a,b,c,0,())).bind (A9 (λz2=>some (.inr (.inl (z2.1,())))) (A9 (λz3=>some (.inl (z3.1,z3.2.1,(ap .i64 z3.2.2.1 1),()))) (λ_=>none)))) (some (.inr (.inr (.inl ()))))
def ve:=aa nS
def BG:Ann:=⟨sh [(1,.av (.ptr 1 0)),(4,.av (.val I))] [(1,.box [.val I,.val (.slice yQ2)])],[(.ret,sh [(2,.av (.val I))] []),(.exit 2,sh [] [])],ve⟩
def pl(x:Q9):Option (Q9⊕((Int×Unit)⊕(Q6⊕Empty))):=
 let(a,b,c,_):=x;cond (ltI c (b.length:Nat)) ((aL b c).bind λy1=>(aL b c).bind λy2=>cond (eqI y1.1 y2.2.1) (some (.inr (.inl (8,())))) (some (.inl (a,b,(ap .i64 c 1),())))) (some (.inr (.inr (.inl (a,b,())))))
def vF:=aa pl
def CG:Ann:=⟨sh [(1,.av (.ptr 1 0)),(3,.av (.val I))] [(1,.box [.val I,.val (.slice yQ2)])],[(.ret,sh [(2,.av (.val I))] []),(.exit 0,sh [(1,.av (.ptr 1 0))] [(1,.box [.val I,.val (.slice yQ2)])])],vF⟩
def Zap(x:(Q6×Unit)):Option (Int×Unit):=
 let((a,b,_),_):=x;(Zas ((a,b,()),())).bind λr1=>cond (!r1.1) (some (1,())) ((vF (a,b,0,())).bind (A9 (λz3=>some (z3.1,())) (A9 (λz4=>(ve (z4.1,z4.2.1,0,())).bind (A9 (λz6=>some (z6.1,())) (A9 (λz7=>some (0,())) (λ_=>none)))) (λ_=>none))))
def Hs:Fn:=mkF { cx [HN]with maps:=maps } [(4,CG),(9,BG),(12,xI)] 7 Tryz.f7 [(.rd,fj)] [(.tmp 2,true,I)] Zap [lp 4 CG pl,lp 9 BG nS,lp 12 xI iG] seat_ok af rfl
def pA(x:Q9):Option (Q9⊕((Bool×Unit)⊕(Unit⊕Empty))):=
 let(a,b,c,_):=x;cond (ltI c (b.length:Nat)) ((aL b c).bind λy1=>cond (ltI y1.1 0) (some (.inr (.inl (false,())))) (cond (geI y1.1 a) (some (.inr (.inl (false,())))) (cond (ltI y1.2.1 0) (some (.inr (.inl (false,())))) (cond (geI y1.2.1 a) (some (.inr (.inl (false,())))) (some (.inl (a,b,(ap .i64 c 1),()))))))) (some (.inr (.inr (.inl ()))))
def vD:=aa pA
def CM:Ann:=⟨sh [(1,.av (.ptr 1 0)),(3,.av (.val I))] [(1,.box [.val I,.val (.slice yQ2)])],[(.ret,sh [(2,.av (.val .bool))] []),(.exit 0,sh [] [])],vD⟩
def Zaq(x:(Q6×Unit)):Option (Bool×Unit):=
 let((a,b,_),_):=x;cond (ltI a 0) (some (false,())) (cond (gtI a 64) (some (false,())) (cond (gtI (b.length:Nat) 256) (some (false,())) ((vD (a,b,0,())).bind (A9 (λz2=>some (z2.1,())) (A9 (λz3=>some (true,())) (λ_=>none))))))
def Iy:Fn:=mkF { cx []with maps:=maps } [(4,CM)] 20 Tryz.f20 [(.rd,fj)] [(.tmp 2,true,.bool)] Zaq [lp 4 CM pA] seat_ok af rfl
def jv(x:(Int×(List Q2)×List Int×Int×Int×Int×Bool×Int×Unit)):Option ((Int×(List Q2)×List Int×Int×Int×Int×Bool×Int×Unit)⊕((Int×(List Q2)×List Int×Int×Int×Int×Bool×Unit)⊕Empty)):=
 let(a,b,c,d,e,f,g,h,_):=x;cond (ltI h (b.length:Nat)) ((aL b h).bind λy1=>cond (neI h d) (cond (neI y1.1 e) (cond (neI y1.2.1 e) ((ay c.length y1.1).bind λj2=>(c[j2]?).bind λy3=>(ay c.length y1.2.1).bind λj4=>(c[j4]?).bind λy5=>cond (neI y3 y5) ((ay c.length y1.1).bind λj6=>(c[j6]?).bind λy7=>(ay c.length y1.2.1).bind λj8=>(c[j8]?).bind λy9=>(ay c.length y1.1).bind λj10=>(c[j10]?).bind λy11=>(ay (c.set j10 (de y7 y9)).length y1.2.1).bind λj12=>((c.set j10 (de y7 y9))[j12]?).bind λy13=>some (.inl (a,b,((c.set j10 (de y7 y9)).set j12 (de y7 y9)),d,e,f,true,(ap .i64 h 1),()))) (some (.inl (a,b,c,d,e,f,g,(ap .i64 h 1),())))) (some (.inl (a,b,c,d,e,f,g,(ap .i64 h 1),())))) (some (.inl (a,b,c,d,e,f,g,(ap .i64 h 1),())))) (some (.inl (a,b,c,d,e,f,g,(ap .i64 h 1),())))) (some (.inr (.inl (a,b,c,d,e,f,g,()))))
def wA:=aa jv
def xN:Ann:=⟨sh [(1,.av (.val I)),(2,.av (.val I)),(3,.av (.ptr 3 0)),(7,.av (.own 7)),(9,.av (.val I)),(10,.av (.val .bool)),(11,.av (.val I))] [(3,.box [.val I,.val (.slice yQ2)]),(7,.arr I)],[(.exit 4,sh [(1,.av (.val I)),(2,.av (.val I)),(3,.av (.ptr 3 0)),(7,.av (.own 7)),(9,.av (.val I)),(10,.av (.val .bool))] [(3,.box [.val I,.val (.slice yQ2)]),(7,.arr I)])],wA⟩
def ot(x:Q18):Option (Q18⊕(Q1⊕(Q1⊕Empty))):=
 let(a,b,c,d,e,f,_):=x;cond (ltI f a) ((wA (a,b,c,d,e,f,false,0,())).bind (A9 (λ(a_2,b_2,c_2,d_2,e_2,f_2,g_2,_)=>cond (!g_2) (some (.inr (.inl (c_2,())))) (some (.inl (a_2,b_2,c_2,d_2,e_2,(ap .i64 f_2 1),())))) (λ_=>none))) (some (.inr (.inr (.inl (c,())))))
def De:=aa ot
def Dw:Ann:=⟨sh [(1,.av (.val I)),(2,.av (.val I)),(3,.av (.ptr 3 0)),(7,.av (.own 7)),(9,.av (.val I))] [(3,.box [.val I,.val (.slice yQ2)]),(7,.arr I)],[(.ret,sh [(6,.av (.own 6))] [(6,.arr I)]),(.exit 2,sh [(7,.av (.own 7))] [(7,.arr I)])],De⟩
def pw(x:Q18):Option (Q18⊕((Int×(List Q2)×List Int×Int×Int×Unit)⊕Empty)):=
 let(a,b,c,d,e,f,_):=x;cond (ltI f a) (cond (eqI f e) ((app c [(-1)]).bind λa1=>some (.inl (a,b,a1,d,e,(ap .i64 f 1),()))) ((app c [f]).bind λa2=>some (.inl (a,b,a2,d,e,(ap .i64 f 1),())))) (some (.inr (.inl (a,b,c,d,e,()))))
def Bl:=aa pw
def Bm:Ann:=⟨sh [(1,.av (.val I)),(2,.av (.val I)),(3,.av (.ptr 3 0)),(7,.av (.own 7)),(8,.av (.val I))] [(3,.box [.val I,.val (.slice yQ2)]),(7,.arr I)],[(.exit 0,sh [(1,.av (.val I)),(2,.av (.val I)),(3,.av (.ptr 3 0)),(7,.av (.own 7))] [(3,.box [.val I,.val (.slice yQ2)]),(7,.arr I)])],Bl⟩
def Zak(x:(Q6×Int×Int×Unit)):Option Q1:=
 (Bl (x.1.1,x.1.2.1,[],x.2.1,x.2.2.1,0,())).bind (A9 (λz2=>(De (z2.1,z2.2.1,z2.2.2.1,z2.2.2.2.1,z2.2.2.2.2.1,0,())).bind (A9 (λz4=>some (z4.1,())) (A9 (λz5=>some (z5.1,())) (λ_=>none)))) (λ_=>none))
def Iu:Fn:=mkF { cx []with maps:=maps,light:=[18] } [(3,Bm),(9,Dw),(13,xN)] 22 Tryz.f22 [(.rd,fj),(.rd,I),(.rd,I)] [(.tmp 6,true,(.slice I))] Zak [lp 3 Bm pw,lp 9 Dw ot,lp 13 xN jv] seat_ok af rfl
def jD(x:((List (List Int))×List Int×List Int×Int×Int×Unit)):Option (((List (List Int))×List Int×List Int×Int×Int×Unit)⊕(((List (List Int))×List Int×List Int×Int×Unit)⊕Empty)):=
 let(a,b,c,d,e,_):=x;cond (ltI e (c.length:Nat)) ((aL c e).bind λy1=>(aL c d).bind λy2=>cond (eqI y1 y2) ((app b [e]).bind λa3=>some (.inl (a,a3,c,d,(ap .i64 e 1),()))) (some (.inl (a,b,c,d,(ap .i64 e 1),())))) (some (.inr (.inl (a,b,c,d,()))))
def yg:=aa jD
def yc:Ann:=⟨sh [(0,.av (.val (.slice I))),(3,.av (.own 3)),(4,.av (.val I)),(7,.av (.own 7)),(8,.av (.val I))] [(3,.arr (.slice I)),(7,.arr I)],[(.exit 4,sh [(0,.av (.val (.slice I))),(3,.av (.own 3)),(4,.av (.val I)),(7,.av (.own 7))] [(3,.arr (.slice I)),(7,.arr I)])],yg⟩
def mo(x:((List (List Int))×List Int×Int×Bool×Int×Unit)):Option (((List (List Int))×List Int×Int×Bool×Int×Unit)⊕(((List (List Int))×List Int×Int×Bool×Unit)⊕Empty)):=
 let(a,b,c,d,e,_):=x;cond (ltI e c) (cond d ((aL b e).bind λy1=>(aL b c).bind λy2=>some (.inl (a,b,c,(neI y1 y2),(ap .i64 e 1),()))) (some (.inl (a,b,c,false,(ap .i64 e 1),())))) (some (.inr (.inl (a,b,c,d,()))))
def Dx:=aa mo
def DO:Ann:=⟨sh [(0,.av (.val (.slice I))),(3,.av (.own 3)),(4,.av (.val I)),(5,.av (.val .bool)),(6,.av (.val I))] [(3,.arr (.slice I))],[(.exit 2,sh [(0,.av (.val (.slice I))),(3,.av (.own 3)),(4,.av (.val I)),(5,.av (.val .bool))] [(3,.arr (.slice I))])],Dx⟩
def nX(x:((List (List Int))×List Int×Int×Unit)):Option (((List (List Int))×List Int×Int×Unit)⊕(Q7⊕Empty)):=
 let(a,b,c,_):=x;cond (ltI c (b.length:Nat)) ((Dx (a,b,c,true,0,())).bind (A9 (λ(a_2,b_2,c_2,d_2,_)=>cond d_2 ((yg (a_2,[],b_2,c_2,c_2,())).bind (A9 (λz4=>(app z4.1 [z4.2.1]).bind λa5=>some (.inl (a5,z4.2.2.1,(ap .i64 z4.2.2.2.1 1),()))) (λ_=>none))) (some (.inl (a_2,b_2,(ap .i64 c_2 1),())))) (λ_=>none))) (some (.inr (.inl (a,()))))
def Aa:=aa nX
def C9:Ann:=⟨sh [(0,.av (.val (.slice I))),(3,.av (.own 3)),(4,.av (.val I))] [(3,.arr (.slice I))],[(.exit 0,sh [(3,.av (.own 3))] [(3,.arr (.slice I))])],Aa⟩
def Zaj(x:Q1):Option Q7:=
 (Aa ([],x.1,0,())).bind (A9 (λz2=>some (z2.1,())) (λ_=>none))
def Hu:Fn:=mkF { cx []with maps:=maps } [(3,C9),(7,DO),(13,yc)] 21 Tryz.f21 [(.rd,(.slice I))] [(.tmp 2,true,yQ3)] Zaj [lp 3 C9 nX,lp 7 DO mo,lp 13 yc jD] seat_ok af rfl
def Zs(x:(Q6×Unit)):Option Q7:=
 let((a,b,_),_):=x;(Zaq ((a,b,()),())).bind λr1=>cond (!r1.1) (some ([],())) ((Zak ((a,b,()),(-1),(-1),())).bind λr2=>(Zaj (r2.1,())).bind λr3=>some (r3.1,()))
def Jc:Fn:=mkF { cx [Iy,Hu,Iu]with maps:=maps } [] 8 Tryz.f8 [(.rd,fj)] [(.tmp 2,true,yQ3)] Zs [] seat_ok af rfl
def Zad(x:(Q6×Unit)):Option (Int×Unit):=
 let((a,b,_),_):=x;(Zap ((a,b,()),())).bind λr1=>cond (neI r1.1 0) (some (r1.1,())) ((Zs ((a,b,()),())).bind λr2=>cond (neI (r2.1.length:Nat) 1) (some (12,())) (some (0,())))
def Ib:Fn:=mkF { cx [Hs,Jc]with maps:=maps } [] 4 Tryz.f4 [(.rd,fj)] [(.tmp 2,true,I)] Zad [] seat_ok af rfl
def Jh:Con:={ ins:=[(.rd,fj)],outs:=[(true,I)],fn:=Zad }
def kx(x:Q16):Option (Q16⊕((Bool×Unit)⊕(Unit⊕Empty))):=
 let(a,b,c,d,e,_):=x;cond (ltI e d) ((aL c e).bind λy1=>cond (ltI (de y1.1 y1.2.1) 0) (some (.inr (.inl (false,())))) (cond (geI (iU y1.1 y1.2.1) a) (some (.inr (.inl (false,())))) (some (.inl (a,b,c,d,(ap .i64 e 1),()))))) (some (.inr (.inr (.inl ()))))
def sG:=aa kx
def AA:Ann:=⟨sh [(1,.av (.ptr 1 0)),(20,.av (.val (.slice yQ2))),(21,.av (.val I)),(22,.av (.val I))] [(1,.box [.val I,.val (.slice yQ2)])],[(.ret,sh [(2,.av (.val .bool))] []),(.exit 0,sh [] [])],sG⟩
def Zbw(x:(Q6×Unit)):Option (Bool×Unit):=
 let((a,b,_),_):=x;cond (ltI a 0) (some (false,())) (cond (gtI a 64) (some (false,())) (cond (gtI (b.length:Nat) 256) (some (false,())) ((sG (a,b,b,(b.length:Nat),0,())).bind (A9 (λz2=>some (z2.1,())) (A9 (λz3=>some (true,())) (λ_=>none))))))
def t7:Fn:=mkF { cx []with maps:=maps } [(4,AA)] 23 Tryz.f23 [(.rd,fj)] [(.tmp 2,true,.bool)] Zbw [lp 4 AA kx] seat_ok af rfl
def pJ(x:(Int×Int×(List Q2)×Int×Int×Unit)):Option ((Int×Int×(List Q2)×Int×Int×Unit)⊕((Int×Unit)⊕(Unit⊕Empty))):=
 let(a,b,c,d,e,_):=x;cond (ltI e d) ((aL c e).bind λy1=>cond ((eqI a y1.1)&&((eqI b y1.2.1)&&true)) (some (.inr (.inl (e,())))) (some (.inl (a,b,c,d,(ap .i64 e 1),())))) (some (.inr (.inr (.inl ()))))
def u4:=aa pJ
def AJ:Ann:=⟨sh [(0,.av (.val (.slice yQ2))),(3,.av (.ptr 3 0)),(7,.av (.val I)),(8,.av (.val I))] [(3,.box [.val I,.val I])],[(.ret,sh [(4,.av (.val I))] []),(.exit 0,sh [] [])],u4⟩
def Zay(x:((List Q2)×Q2×Unit)):Option (Int×Unit):=
 (u4 (x.2.1.1,x.2.1.2.1,x.1,(x.1.length:Nat),0,())).bind (A9 (λz2=>some (z2.1,())) (A9 (λz3=>some ((-1),())) (λ_=>none)))
def Hv:Fn:=mkF { cx []with maps:=maps } [(2,AJ)] 87 Tryz.f87 [(.rd,(.slice yQ2)),(.rd,yQ2)] [(.tmp 4,true,I)] Zay [lp 2 AJ pJ] seat_ok af rfl
def Zah(x:((List Q2)×Q2×Unit)):Option (Bool×Unit):=
 (Zay (x.1,(x.2.1.1,x.2.1.2.1,()),())).bind λr1=>some ((geI r1.1 0),())
def Ik:Fn:=mkF { cx [Hv]with maps:=maps } [] 69 Tryz.f69 [(.rd,(.slice yQ2)),(.rd,yQ2)] [(.tmp 4,true,.bool)] Zah [] seat_ok af rfl
def nO(x:Q25):Option (Q25⊕((Int×Int×List Int×(List Q2)×Unit)⊕Empty)):=
 let(a,b,c,d,e,f,g,h,_):=x;cond (ltI h g) ((aL f h).bind λy1=>cond (eqI (de y1.1 y1.2.1) (iU y1.1 y1.2.1)) ((ay d.length h).bind λj2=>(d[j2]?).bind λy3=>some (.inl (a,b,c,(d.set j2 (-1)),e,f,g,(ap .i64 h 1),()))) ((Zah (c,((de y1.1 y1.2.1),(iU y1.1 y1.2.1),()),())).bind λr4=>cond r4.1 ((ay d.length h).bind λj5=>(d[j5]?).bind λy6=>some (.inl (a,b,c,(d.set j5 (-1)),e,f,g,(ap .i64 h 1),()))) ((ay d.length h).bind λj7=>(d[j7]?).bind λy8=>(app c [((de y1.1 y1.2.1),(iU y1.1 y1.2.1),())]).bind λa9=>(app e [(y1.1,y1.2.1,())]).bind λa10=>some (.inl (a,b,a9,(d.set j7 (c.length:Nat)),a10,f,g,(ap .i64 h 1),()))))) (some (.inr (.inl (a,b,d,e,()))))
def AB:=aa nO
def DF:Ann:=⟨sh [(2,.av (.ptr 2 0)),(4,.av (.ptr 4 0)),(5,.av (.own 5)),(6,.av (.own 6)),(22,.av (.val (.slice yQ2))),(23,.av (.val I)),(24,.av (.val I))] [(2,.box [.val I,.nils]),(4,.box [.val I,.own 500001]),(5,.arr yQ2),(6,.arr I),(500001,.arr yQ2)],[(.exit 0,sh [(2,.av (.ptr 2 0)),(4,.av (.ptr 4 0)),(6,.av (.own 6))] [(2,.box [.val I,.nils]),(4,.box [.val I,.own 500001]),(6,.arr I),(500001,.arr yQ2)])],AB⟩
def Zbi(x:(Q6×Unit)):Option (Q6×List Int×Unit):=
 let((a,b,_),_):=x;(Zbw ((a,b,()),())).bind λr1=>cond (!r1.1) (some ((0,[],()),[],())) ((bG I (b.length:Nat) (b.length:Nat)).bind λm2=>(AB (0,a,[],m2,[],b,(b.length:Nat),0,())).bind (A9 (λz4=>some ((z4.2.1,z4.2.2.2.1,()),z4.2.2.1,())) (λ_=>none)))
def FN:Fn:=mkF { cx [t7,Ik]with maps:=maps } [(7,DF)] 41 Tryz.f41 [(.rd,fj)] [(.cell 2 24,true,fj),(.tmp 3,true,(.slice I))] Zbi [lp 7 DF nO] seat_ok af rfl
def pQ(x:Q16):Option (Q16⊕((Int×Unit)⊕(Q6⊕Empty))):=
 let(a,b,c,d,e,_):=x;cond (ltI e d) ((aL c e).bind λy1=>cond (eqI y1.1 y1.2.1) (some (.inr (.inl (8,())))) (some (.inl (a,b,c,d,(ap .i64 e 1),())))) (some (.inr (.inr (.inl (a,b,())))))
def wc:=aa pQ
def Ce:Ann:=⟨sh [(1,.av (.ptr 1 0)),(11,.av (.val (.slice yQ2))),(12,.av (.val I)),(13,.av (.val I))] [(1,.box [.val I,.val (.slice yQ2)])],[(.ret,sh [(2,.av (.val I))] []),(.exit 0,sh [(1,.av (.ptr 1 0))] [(1,.box [.val I,.val (.slice yQ2)])])],wc⟩
def Zcc(x:(Q6×Unit)):Option (Int×Unit):=
 let((a,b,_),_):=x;(Zbw ((a,b,()),())).bind λr1=>cond (!r1.1) (some (1,())) ((wc (a,b,b,(b.length:Nat),0,())).bind (A9 (λz3=>some (z3.1,())) (A9 (λz4=>(Zbi ((z4.1,z4.2.1,()),())).bind λr5=>cond (ltI (r5.1.2.1.length:Nat) (z4.2.1.length:Nat)) (some (6,())) (some (0,()))) (λ_=>none))))
def BR:Fn:=mkF { cx [t7,FN]with maps:=maps } [(4,Ce)] 29 Tryz.f29 [(.rd,fj)] [(.tmp 2,true,I)] Zcc [lp 4 Ce pQ] seat_ok af rfl
def Zaw(x:((List Q2)×Unit)):Option ((List Q2)×Unit):=
 cond x.1.isEmpty (kF (some ([],())) ((app [] x.1).bind λa1=>some (a1,()))) ((app [] x.1).bind λa1=>some (a1,()))
def Zaw_h:Fn:=mkF { cx []with maps:=maps } [] 30 Tryz.f30 [(.rd,(.slice yQ2))] [(.tmp 2,true,(.slice yQ2))] Zaw [] seat_ok af rfl
def qm(x:((List (List Int))×(List Q2)×Int×Int×Unit)):Option (((List (List Int))×(List Q2)×Int×Int×Unit)⊕(Q7⊕Empty)):=
 let(a,b,c,d,_):=x;cond (ltI d c) ((aL b d).bind λy1=>(ay a.length y1.1).bind λj2=>(ay a.length y1.2.1).bind λj3=>(ay (aJ a j2).length y1.2.1).bind λj4=>(ay (aJ (a.set j2 ((aJ a j2).set j4 (dl .i64 2 d))) j3).length y1.1).bind λj5=>some (.inl (((a.set j2 ((aJ a j2).set j4 (dl .i64 2 d))).set j3 ((aJ (a.set j2 ((aJ a j2).set j4 (dl .i64 2 d))) j3).set j5 (ap .i64 (dl .i64 2 d) 1))),b,c,(ap .i64 d 1),()))) (some (.inr (.inl (a,()))))
def Ct:=aa qm
def AX:Ann:=⟨sh [(3,.av (.ownd 3)),(23,.av (.val (.slice yQ2))),(24,.av (.val I)),(25,.av (.val I))] [(3,.deep I)],[(.exit 2,sh [(3,.av (.ownd 3))] [(3,.deep I)])],Ct⟩
def qF(x:(Int×(List Q2)×(List (List Int))×Int×Int×Unit)):Option ((Int×(List Q2)×(List (List Int))×Int×Int×Unit)⊕(Q14⊕Empty)):=
 let(a,b,c,d,e,_):=x;cond (ltI e d) ((bG I a a).bind λm1=>(ay c.length e).bind λj2=>some (.inl (a,b,(c.set j2 m1),d,(ap .i64 e 1),()))) (some (.inr (.inl (a,b,c,()))))
def Cj:=aa qF
def Cw:Ann:=⟨sh [(1,.av (.ptr 1 0)),(3,.av (.ownd 3)),(11,.av (.val I)),(12,.av (.val I))] [(1,.box [.val I,.val (.slice yQ2)]),(3,.deep I)],[(.exit 0,sh [(1,.av (.ptr 1 0)),(3,.av (.ownd 3))] [(1,.box [.val I,.val (.slice yQ2)]),(3,.deep I)])],Cj⟩
def Zbx(x:(Q6×Unit)):Option Q7:=
 (bG (.slice I) x.1.1 x.1.1).bind λm1=>(Cj (x.1.1,x.1.2.1,m1,(m1.length:Nat),0,())).bind (A9 (λz3=>(Ct (z3.2.2.1,z3.2.1,(z3.2.1.length:Nat),0,())).bind (A9 (λz5=>some (z5.1,())) (λ_=>none))) (λ_=>none))
def FO:Fn:=mkF { cx []with deep:=[9],maps:=maps,light:=[10] } [(3,Cw),(8,AX)] 46 Tryz.f46 [(.rd,fj)] [(.tmp 2,true,yQ3)] Zbx [lp 3 Cw qF,lp 8 AX qm] seat_ok af rfl (d:=true)
def ol(x:Q60):Option (Q60⊕((Int×(List Q2)×List Int×List Int×(List (List Int))×(List (List Int))×Unit)⊕Empty)):=
 let(a,b,c,d,e,f,g,h,i,_):=x;cond (ltI i h) ((aL g i).bind λy1=>cond (eqI y1.1 y1.2.1) ((app e [[i]]).bind λa2=>some (.inl (a,b,c,d,a2,f,g,h,(ap .i64 i 1),()))) ((ay f.length y1.1).bind λj3=>(app (aJ f j3) [i]).bind λa4=>(ay f.length y1.1).bind λj5=>if j3=j5 then(ay (f.set j5 a4).length y1.2.1).bind λj6=>(app (aJ (f.set j5 a4) j6) [i]).bind λa7=>(ay (f.set j5 a4).length y1.2.1).bind λj8=>if j6=j8 then some (.inl (a,b,c,d,e,((f.set j5 a4).set j8 a7),g,h,(ap .i64 i 1),()))else none else none)) (some (.inr (.inl (a,b,c,d,e,f,()))))
def wk:=aa ol
def Co:Ann:=⟨sh [(3,.av (.ptr 3 0)),(22,.av (.val (.slice yQ2))),(23,.av (.val I)),(24,.av (.val I))] [(3,.box [.ptr 400000 0,.own 400001,.own 400002,.val I,.nils,.own 400005]),(400000,.box [.val (.slice yQ2),.ownd 40000100001]),(400001,.arr I),(400002,.arr I),(400005,.arr (.slice I)),(40000100001,.deep I)],[(.exit 0,sh [(3,.av (.ptr 3 0))] [(3,.box [.ptr 400000 0,.own 400001,.own 400002,.val I,.nils,.own 400005]),(400000,.box [.val (.slice yQ2),.ownd 40000100001]),(400001,.arr I),(400002,.arr I),(400005,.arr (.slice I)),(40000100001,.deep I)])],wk⟩
def Zcj(x:(Q6×Unit)):Option (Q21×Unit):=
 let((a,b,_),_):=x;(bG (.slice I) a a).bind λm1=>(bG I a a).bind λm2=>(bG I a a).bind λm3=>(wk (0,b,m2,m3,[],m1,b,(b.length:Nat),0,())).bind (A9 (λ(a_5,b_5,c_5,d_5,e_5,f_5,_)=>some (((b_5,f_5,()),c_5,d_5,a_5,[],e_5,()),())) (λ_=>none))
def FJ:Fn:=mkF { cx []with deep:=[10],maps:=maps,light:=[7,8],bfrz:=[(10,400000,k9)] } [(3,Co)] 42 Tryz.f42 [(.rd,fj)] [(.tmp 2,true,(.ptr pn))] Zcj [lp 3 Co ol] seat_ok af rfl
def Zr(x:(Q12×Int×Unit)):Option Q1:=
 (aL x.1.2.1 x.2.1).bind λy1=>some (y1,())
def HZ:Fn:=mkF { cx []with maps:=maps } [] 43 Tryz.f43 [(.rd,(.ptr k9)),(.rd,I)] [(.tmp 4,false,(.slice I))] Zr [] seat_ok af rfl
def Zq(x:(Q12×Int×Int×Unit)):Option (Int×Unit):=
 let((a,_),b,c,_):=x;(aL a b).bind λy1=>(aL a b).bind λy2=>some ((dK .i64 (ap .i64 y1.1 y2.2.1) c),())
def Ie:Fn:=mkF { cx []with maps:=maps } [] 44 Tryz.f44 [(.rd,(.ptr k9)),(.rd,I),(.rd,I)] [(.tmp 6,true,I)] Zq [] seat_ok af rfl
def Zd(x:(Q1×Unit)):Option Q1:=collectC.fn x
def I6:Fn:=⟨117,collectC,vh glob⟩
def Zbb(x:Q1):Option Q1:=sortC.fn x
def wT:Fn:=⟨45,sortC,EE glob⟩
def Ze(x:(Q1×Unit)):Option Q1:=
 (Zd (x.1,())).bind λr1=>(Zbb (r1.1,())).bind λr2=>some (r2.1,())
def I4:Fn:=mkF { cx [wT,I6]with maps:=maps } [] 99 Tryz.f99 [(.rd,(.clo 118 ud))] [(.tmp 2,true,(.slice I))] Ze [] seat_ok af rfl
def fk(gg:Q22->Option (Q21×Unit))(x:Q54):Option (Q54⊕((Q12×Int×List Int×List Int×List Int×(List (List Int))×Unit)⊕Empty)):=
 let(a,b,c,d,e,f,g,h,i,k,l,_):=x;cond (ltI l k) ((aL i l).bind λy1=>(Zq (a,y1,g,())).bind λr2=>cond (eqI y1 h) (some (.inl (a,b,c,d,e,f,g,h,i,k,(ap .i64 l 1),()))) ((ay c.length r2.1).bind λj3=>(c[j3]?).bind λy4=>cond (eqI y4 0) ((app e [y1]).bind λa5=>(gg ((a,c,d,b,a5,f,()),r2.1,y1,())).bind λr6=>(ay r6.1.2.2.1.length g).bind λj7=>(r6.1.2.2.1[j7]?).bind λy8=>(ay r6.1.2.2.1.length r2.1).bind λj9=>(r6.1.2.2.1[j9]?).bind λy10=>(ay r6.1.2.2.1.length g).bind λj11=>(r6.1.2.2.1[j11]?).bind λy12=>(ay (r6.1.2.2.1.set j11 (de y8 y10)).length r2.1).bind λj13=>((r6.1.2.2.1.set j11 (de y8 y10))[j13]?).bind λy14=>(ay r6.1.2.1.length g).bind λj15=>(r6.1.2.1[j15]?).bind λy16=>cond (geI y14 y16) ((dF r6.1.2.2.2.2.1.length (e.length:Nat) (r6.1.2.2.2.2.1.length:Nat)).bind λv17=>(Ze ((((r6.1.2.2.2.2.1.drop v17.1).take v17.2),()),())).bind λr18=>(app r6.1.2.2.2.2.2.1 [r18.1]).bind λa19=>(dF r6.1.2.2.2.2.1.length 0 (e.length:Nat)).bind λv20=>some (.inl (r6.1.1,r6.1.2.2.2.1,r6.1.2.1,(r6.1.2.2.1.set j11 (de y8 y10)),((r6.1.2.2.2.2.1.drop v20.1).take v20.2),a19,g,h,i,k,(ap .i64 l 1),()))) (some (.inl (r6.1.1,r6.1.2.2.2.1,r6.1.2.1,(r6.1.2.2.1.set j11 (de y8 y10)),r6.1.2.2.2.2.1,r6.1.2.2.2.2.2.1,g,h,i,k,(ap .i64 l 1),())))) ((ay c.length r2.1).bind λj21=>(c[j21]?).bind λy22=>(ay c.length g).bind λj23=>(c[j23]?).bind λy24=>cond (ltI y22 y24) ((app e [y1]).bind λa25=>(ay d.length g).bind λj26=>(d[j26]?).bind λy27=>(ay c.length r2.1).bind λj28=>(c[j28]?).bind λy29=>(ay d.length g).bind λj30=>(d[j30]?).bind λy31=>some (.inl (a,b,c,(d.set j30 (de y27 y29)),a25,f,g,h,i,k,(ap .i64 l 1),()))) (some (.inl (a,b,c,d,e,f,g,h,i,k,(ap .i64 l 1),())))))) (some (.inr (.inl (a,b,c,d,e,f,()))))
def ws(gg:Q22->Option (Q21×Unit)):=aa (fk gg)
def CN(gg:Q22->Option (Q21×Unit)):Ann:=⟨⟨[(0,.av (.ptr 0 0)),(1,.av (.val I)),(2,.av (.val I)),(42,.av (.val (.slice I))),(43,.av (.val I)),(44,.av (.val I))],[(0,.box [.val (.ptr k9),.own 100001,.own 100002,.val I,.own 100004,.own 100005]),(100001,.arr I),(100002,.arr I),(100004,.arr I),(100005,.arr (.slice I))],[0]⟩,[(.exit 0,⟨[(0,.av (.ptr 0 0))],[(0,.box [.val (.ptr k9),.own 100001,.own 100002,.val I,.own 100004,.own 100005]),(100001,.arr I),(100002,.arr I),(100004,.arr I),(100005,.arr (.slice I))],[0]⟩)],ws gg⟩
def yB(gg:Q22->Option (Q21×Unit))(x:Q22):Option (Q21×Unit):=
 let((a,b,c,d,e,f,_),g,h,_):=x;(ay b.length g).bind λj1=>(b[j1]?).bind λy2=>(ay c.length g).bind λj3=>(c[j3]?).bind λy4=>(Zr (a,g,())).bind λr5=>(ws gg (a,(ap .i64 d 1),(b.set j1 (ap .i64 d 1)),(c.set j3 (ap .i64 d 1)),e,f,g,h,r5.1,(r5.1.length:Nat),0,())).bind (A9 (λ(a_7,b_7,c_7,d_7,e_7,f_7,_)=>some ((a_7,c_7,d_7,b_7,e_7,f_7,()),())) (λ_=>none))
def Ia(gg:Q22->Option (Q21×Unit))(hh:Con.Holds Tryz.prog glob 72 ⟨[(.box [0,1,1,0,1,1],(.ptr pn)),(.rd,I),(.rd,I)],[],gg,false⟩):Fn:=⟨72,⟨[(.box [0,1,1,0,1,1],(.ptr pn)),(.rd,I),(.rd,I)],[],gg,false⟩,hh⟩
def Ic(gg:Q22->Option (Q21×Unit))(hh:Con.Holds Tryz.prog glob 72 ⟨[(.box [0,1,1,0,1,1],(.ptr pn)),(.rd,I),(.rd,I)],[],gg,false⟩):Fn:=mkI { cx [HZ,Ie,Ia gg hh,I4]with maps:=maps,inl:=GW Tryz.prog (cx []) Id } [(3,CN gg)] 72 Tryz.f72 [(.box [0,1,1,0,1,1],(.ptr pn)),(.rd,I),(.rd,I)] [] (yB gg) [lp 3 (CN gg) (fk gg)] seat_ok af rfl (by kernel_rfl) (λ_ _ h=>EV Gy (jJ seat_ok.order) E9 h)
def rt(n:Nat):Q22->Option (Q21×Unit):=Nat.rec (λ_=>none) (λ_ gg=>yB gg) n
theorem FC:∀ n,Con.Holds Tryz.prog glob 72 ⟨[(.box [0,1,1,0,1,1],(.ptr pn)),(.rd,I),(.rd,I)],[],(rt n),false⟩
 |0=>λ_ _ _ _ _ _ h=>by cases h
 |n+1=>(Ic (rt n) (FC n)).ok
def Zaf(x:Q22):Option (Q21×Unit):=rt (x.1.2.1.length+1) x
def HC:Fn:=⟨72,⟨[(.box [0,1,1,0,1,1],(.ptr pn)),(.rd,I),(.rd,I)],[],λx=>rt (x.1.2.1.length+1) x,false⟩,vp (ins:=[(.box [0,1,1,0,1,1],(.ptr pn)),(.rd,I),(.rd,I)]) (outs:=[]) (d:=false) rt FC (λx=>(x.1.2.1.length+1))⟩
def Zg(x:((List (List Int))×Unit×Unit)):Option Q7:=sortFC.fn x
def IL:Fn:=⟨73,sortFC,Ap glob⟩
def ny(x:Q32):Option (Q32⊕((Q12×Int×List Int×List Int×List Int×(List (List Int))×Unit)⊕Empty)):=
 let(a,b,c,d,e,f,g,h,_):=x;cond (ltI h g) ((ay c.length h).bind λj1=>(c[j1]?).bind λy2=>cond (eqI y2 0) ((Zaf ((a,c,d,b,e,f,()),h,(-1),())).bind λr3=>some (.inl (r3.1.1,r3.1.2.2.2.1,r3.1.2.1,r3.1.2.2.1,r3.1.2.2.2.2.1,r3.1.2.2.2.2.2.1,g,(ap .i64 h 1),()))) (some (.inl (a,b,c,d,e,f,g,(ap .i64 h 1),())))) (some (.inr (.inl (a,b,c,d,e,f,()))))
def v7:=aa ny
def Bd:Ann:=⟨sh [(3,.av (.ptr 3 0)),(11,.av (.val I)),(12,.av (.val I))] [(3,.box [.val (.ptr k9),.own 400001,.own 400002,.val I,.own 400004,.own 400005]),(400001,.arr I),(400002,.arr I),(400004,.arr I),(400005,.arr (.slice I))],[(.exit 0,sh [(3,.av (.ptr 3 0))] [(3,.box [.val (.ptr k9),.own 400001,.own 400002,.val I,.own 400004,.own 400005]),(400001,.arr I),(400002,.arr I),(400004,.arr I),(400005,.arr (.slice I))])],v7⟩
def Zcb(x:(Q6×Unit)):Option Q7:=
 let((a,b,_),_):=x;(Zbw ((a,b,()),())).bind λr1=>cond (!r1.1) (some ([],())) ((Zcj ((a,b,()),())).bind λr2=>(v7 (r2.1.1,r2.1.2.2.2.1,r2.1.2.1,r2.1.2.2.1,r2.1.2.2.2.2.1,r2.1.2.2.2.2.2.1,a,0,())).bind (A9 (λz4=>(Zg (z4.2.2.2.2.2.1,(),())).bind λr5=>some (r5.1,())) (λ_=>none)))
def If:Fn:=mkF { cx [t7,FJ,HC,IL]with maps:=maps } [(5,Bd)] 47 Tryz.f47 [(.rd,fj)] [(.tmp 2,true,yQ3)] Zcb [lp 5 Bd ny] seat_ok af rfl
def qr(x:Q55):Option (Q55⊕((Int×(List (List Int))×List Bool×(List (List Bool))×Unit)⊕Empty)):=
 let(a,b,c,d,e,f,g,h,i,_):=x;cond (ltI i h) ((aL g i).bind λy1=>(aL b y1).bind λy2=>(ay d.length y2.1).bind λj3=>(app (aJ d j3) [y2.2.1]).bind λa4=>(ay d.length y2.1).bind λj5=>if j3=j5 then(ay (d.set j5 a4).length y2.2.1).bind λj6=>(app (aJ (d.set j5 a4) j6) [y2.1]).bind λa7=>(ay (d.set j5 a4).length y2.2.1).bind λj8=>if j6=j8 then some (.inl (a,b,c,((d.set j5 a4).set j8 a7),e,f,g,h,(ap .i64 i 1),()))else none else none) (some (.inr (.inl (c,d,e,f,()))))
def DS:=aa qr
def AK:Ann:=⟨sh [(2,.av (.ptr 2 0)),(5,.av (.ptr 5 0)),(41,.av (.val (.slice I))),(42,.av (.val I)),(43,.av (.val I))] [(2,.box [.val I,.val (.slice yQ2)]),(5,.box [.val I,.ownd 600001,.own 600002,.ownd 600003,.nils]),(600001,.deep I),(600002,.arr .bool),(600003,.deep .bool)],[(.exit 2,sh [(5,.av (.ptr 5 0))] [(5,.box [.val I,.ownd 600001,.own 600002,.ownd 600003,.nils]),(600001,.deep I),(600002,.arr .bool),(600003,.deep .bool)])],DS⟩
def qw(x:Q55):Option (Q55⊕((Int×(List Q2)×Int×(List (List Int))×List Bool×(List (List Bool))×List Int×Unit)⊕Empty)):=
 let(a,b,c,d,e,f,g,h,i,_):=x;cond (ltI i h) ((bG .bool a a).bind λm1=>(ay f.length i).bind λj2=>some (.inl (a,b,c,d,e,(f.set j2 m1),g,h,(ap .i64 i 1),()))) (some (.inr (.inl (a,b,c,d,e,f,g,()))))
def u7:=aa qw
def BA:Ann:=⟨sh [(1,.av (.val (.slice I))),(2,.av (.ptr 2 0)),(5,.av (.ptr 5 0)),(27,.av (.val I)),(28,.av (.val I))] [(2,.box [.val I,.val (.slice yQ2)]),(5,.box [.val I,.ownd 600001,.own 600002,.ownd 600003,.nils]),(600001,.deep I),(600002,.arr .bool),(600003,.deep .bool)],[(.exit 0,sh [(1,.av (.val (.slice I))),(2,.av (.ptr 2 0)),(5,.av (.ptr 5 0))] [(2,.box [.val I,.val (.slice yQ2)]),(5,.box [.val I,.ownd 600001,.own 600002,.ownd 600003,.nils]),(600001,.deep I),(600002,.arr .bool),(600003,.deep .bool)])],u7⟩
def Zbc(x:(Q6×List Int×Unit)):Option (Q34×Unit):=
 let((a,b,_),c,_):=x;(bG (.slice I) a a).bind λm1=>(bG .bool a a).bind λm2=>(bG (.slice .bool) a a).bind λm3=>(u7 (a,b,a,m1,m2,m3,c,(m3.length:Nat),0,())).bind (A9 (λ(a_5,b_5,c_5,d_5,e_5,f_5,g_5,_)=>(DS (a_5,b_5,c_5,d_5,e_5,f_5,g_5,(g_5.length:Nat),0,())).bind (A9 (λz7=>some ((z7.1,z7.2.1,z7.2.2.1,z7.2.2.2.1,[],()),())) (λ_=>none))) (λ_=>none))
def Is:Fn:=mkF { cx []with deep:=[14,20],maps:=maps,light:=[11,12] } [(3,BA),(8,AK)] 48 Tryz.f48 [(.rd,fj),(.rd,(.slice I))] [(.tmp 4,true,(.ptr eA))] Zbc [lp 3 BA qw,lp 8 AK qr] seat_ok af rfl (d:=true)
def Zw(x:Q2):Option (Bool×Unit):=
 some ((neI x.1 x.2.1),())
def IJ:Fn:=mkF { cx []with maps:=maps } [] 105 Tryz.f105 [(.rd,I),(.rd,(.ptr I))] [(.tmp 3,true,.bool)] Zw [] seat_ok af rfl
def Zu(x:Q2):Option (Bool×Unit):=
 some ((eqI x.1 x.2.1),())
def IQ:Fn:=mkF { cx []with maps:=maps } [] 104 Tryz.f104 [(.rd,I),(.rd,(.ptr I))] [(.tmp 3,true,.bool)] Zu [] seat_ok af rfl
def Aw(x:(List Int×Int×Int×Unit)):Option ((List Int×Int×Int×Unit)⊕(Q1⊕Empty)):=
 let(a,b,c,_):=x;cond (ltI b c) ((ay a.length c).bind λj1=>(a[j1]?).bind λy2=>(ay a.length b).bind λj3=>(a[j3]?).bind λy4=>(ay a.length b).bind λj5=>(a[j5]?).bind λy6=>(ay (a.set j5 y2).length c).bind λj7=>((a.set j5 y2)[j7]?).bind λy8=>some (.inl (((a.set j5 y2).set j7 y4),(ap .i64 b 1),(dK .i64 c 1),()))) (some (.inr (.inl (a,()))))
def vR:=aa Aw
def Bf:Ann:=⟨⟨[(0,.av (.own 0)),(2,.av (.val I)),(3,.av (.val I))],[(0,.arr I)],[0]⟩,[(.exit 0,⟨[(0,.av (.own 0))],[(0,.arr I)],[0]⟩)],vR⟩
def Zam(x:Q1):Option Q1:=
 (vR (x.1,0,(dK .i64 (x.1.length:Nat) 1),())).bind (A9 (λz2=>some (z2.1,())) (λ_=>none))
def uJ:Fn:=mkF { cx []with maps:=maps } [(1,Bf)] 76 Tryz.f76 [(.upd,(.slice I))] [] Zam [lp 1 Bf Aw] seat_ok af rfl
def Zt(x:Q2):Option (Bool×Unit):=
 some ((neI x.1 x.2.1),())
def IU:Fn:=mkF { cx []with maps:=maps } [] 103 Tryz.f103 [(.rd,I),(.rd,(.ptr I))] [(.tmp 3,true,.bool)] Zt [] seat_ok af rfl
def AO(x:Q13):Option (Q13⊕(Q1⊕Empty)):=
 let(a,b,c,d,_):=x;cond (neI d c) ((ay a.length d).bind λj1=>(a[j1]?).bind λy2=>(app b [y2]).bind λa3=>some (.inl (a,a3,c,y2,()))) (some (.inr (.inl (b,()))))
def sr:=aa AO
def Cz:Ann:=⟨sh [(1,.av (.val I)),(11,.av (.own 11)),(15,.av (.val I)),(18,.av (.own 18))] [(11,.arr I),(18,.arr I)],[(.exit 6,sh [(18,.av (.own 18))] [(18,.arr I)])],sr⟩
def iN(x:Q63):Option (Q63⊕(Q1⊕(Q46⊕Empty))):=
 let(a,b,c,d,e,f,g,h,i,k,l,m,_):=x;cond (ltI m l) ((aL k m).bind λy1=>let t_0:=(Zu (y1,f.1,())).bind λr5=>cond r5.1 ((sr (a,[y1,i],d,i,())).bind (A9 (λz7=>(Zam (z7.1,())).bind λr8=>some (.inr (.inl (r8.1,())))) (λ_=>none))) ((Zt (y1,e.1,())).bind λr9=>cond r9.1 ((ay a.length y1).bind λj10=>(a[j10]?).bind λy11=>(app b [y1]).bind λa12=>some (.inl ((a.set j10 i),a12,c,d,e,f,g,h,i,k,l,(ap .i64 m 1),()))) (some (.inl (a,b,c,d,e,f,g,h,i,k,l,(ap .i64 m 1),()))));cond (eqI y1 d) (some (.inl (a,b,c,d,e,f,g,h,i,k,l,(ap .i64 m 1),()))) ((ay a.length y1).bind λj2=>(a[j2]?).bind λy3=>cond (geI y3 0) (some (.inl (a,b,c,d,e,f,g,h,i,k,l,(ap .i64 m 1),()))) (cond (eqI i d) ((Zw (y1,g.1,())).bind λr4=>cond (!r4.1) (some (.inl (a,b,c,d,e,f,g,h,i,k,l,(ap .i64 m 1),()))) t_0) t_0))) (some (.inr (.inr (.inl (a,b,c,d,e,f,g,h,())))))
def sP:=aa iN
def CQ:Ann:=⟨sh [(0,.av (.val (.ptr eA))),(1,.av (.val I)),(2,.av (.val (.clo 103 yQ9))),(3,.av (.val (.clo 104 yQ9))),(4,.av (.val (.clo 105 yQ9))),(11,.av (.own 11)),(13,.av (.own 13)),(14,.av (.val I)),(15,.av (.val I)),(51,.av (.val (.slice I))),(52,.av (.val I)),(53,.av (.val I))] [(11,.arr I),(13,.arr I)],[(.ret,sh [(10,.av (.own 10))] [(10,.arr I)]),(.exit 4,sh [(0,.av (.val (.ptr eA))),(1,.av (.val I)),(2,.av (.val (.clo 103 yQ9))),(3,.av (.val (.clo 104 yQ9))),(4,.av (.val (.clo 105 yQ9))),(11,.av (.own 11)),(13,.av (.own 13)),(14,.av (.val I))] [(11,.arr I),(13,.arr I)])],sP⟩
def pV(x:Q46):Option (Q46⊕(Q1⊕(Unit⊕Empty))):=
 let(a,b,c,d,e,f,g,h,_):=x;cond (ltI h (b.length:Nat)) ((ay b.length h).bind λj1=>(b[j1]?).bind λy2=>(aL c.2.1 y2).bind λy3=>(sP (a,b,c,d,e,f,g,h,y2,y3,(y3.length:Nat),0,())).bind (A9 (λz5=>some (.inr (.inl (z5.1,())))) (A9 (λ(a_6,b_6,c_6,d_6,e_6,f_6,g_6,h_6,_)=>some (.inl (a_6,b_6,c_6,d_6,e_6,f_6,g_6,(ap .i64 h_6 1),()))) (λ_=>none)))) (some (.inr (.inr (.inl ()))))
def Gf:=aa pV
def FW:Ann:=⟨sh [(0,.av (.val (.ptr eA))),(1,.av (.val I)),(2,.av (.val (.clo 103 yQ9))),(3,.av (.val (.clo 104 yQ9))),(4,.av (.val (.clo 105 yQ9))),(11,.av (.own 11)),(13,.av (.own 13)),(14,.av (.val I))] [(11,.arr I),(13,.arr I)],[(.ret,sh [(10,.av (.own 10))] [(10,.arr I)]),(.exit 2,sh [] [])],Gf⟩
def ur(x:Q41):Option (Q41⊕((List Int×Q34×Int×(Int×Unit)×(Int×Unit)×(Int×Unit)×Unit)⊕Empty)):=
 let(a,b,c,d,e,f,g,h,_):=x;cond (ltI h g) ((ay a.length h).bind λj1=>(a[j1]?).bind λy2=>some (.inl ((a.set j1 (-1)),b,c,d,e,f,g,(ap .i64 h 1),()))) (some (.inr (.inl (a,b,c,d,e,f,()))))
def Gc:=aa ur
def Fu:Ann:=⟨sh [(0,.av (.val (.ptr eA))),(1,.av (.val I)),(2,.av (.val (.clo 103 yQ9))),(3,.av (.val (.clo 104 yQ9))),(4,.av (.val (.clo 105 yQ9))),(11,.av (.own 11)),(25,.av (.val I)),(26,.av (.val I))] [(11,.arr I)],[(.exit 0,sh [(0,.av (.val (.ptr eA))),(1,.av (.val I)),(2,.av (.val (.clo 103 yQ9))),(3,.av (.val (.clo 104 yQ9))),(4,.av (.val (.clo 105 yQ9))),(11,.av (.own 11))] [(11,.arr I)])],Gc⟩
def Za(x:(Q34×Int×(Int×Unit)×(Int×Unit)×(Int×Unit)×Unit)):Option Q1:=
 let(a,b,c,d,e,_):=x;(bG I a.1 a.1).bind λm1=>(Gc (m1,a,b,c,d,e,(m1.length:Nat),0,())).bind (A9 (λ(a_3,b_3,c_3,d_3,e_3,f_3,_)=>(Gf (a_3,[c_3],b_3,c_3,d_3,e_3,f_3,0,())).bind (A9 (λz5=>some (z5.1,())) (A9 (λz6=>some ([],())) (λ_=>none)))) (λ_=>none))
def IS:Fn:=mkF { cx [uJ,IU,IQ,IJ]with maps:=maps } [(3,Fu),(9,FW),(13,CQ),(18,Cz)] 102 Tryz.f102 [(.rd,(.ptr eA)),(.rd,I),(.rd,(.clo 103 yQ9)),(.rd,(.clo 104 yQ9)),(.rd,(.clo 105 yQ9))] [(.tmp 10,true,(.slice I))] Za [lp 3 Fu ur,lp 9 FW pV,lp 13 CQ iN,lp 18 Cz AO] seat_ok af rfl
def Zai(x:(Q34×Int×Int×Unit)):Option Q1:=
 let(a,b,c,_):=x;(Za (a,b,(c,()),(c,()),(c,()),())).bind λr1=>some (r1.1,())
def HU:Fn:=mkF { cx [IS]with maps:=maps } [] 75 Tryz.f75 [(.rd,(.ptr eA)),(.rd,I),(.rd,I)] [(.tmp 6,true,(.slice I))] Zai [] seat_ok af rfl
def Zaz(x:Q1):Option Q1:=
 cond x.1.isEmpty (kF (some ([],())) ((app [] x.1).bind λa1=>some (a1,()))) ((app [] x.1).bind λa1=>some (a1,()))
def Zaz_h:Fn:=mkF { cx []with maps:=maps } [] 18 Tryz.f18 [(.rd,(.slice I))] [(.tmp 2,true,(.slice I))] Zaz [] seat_ok af rfl
def nM(x:Q62):Option (Q62⊕(Q34⊕Empty)):=
 let(a,b,c,d,e,f,g,h,i,_):=x;cond (ltI i h) ((aL g i).bind λy1=>(ay c.length y1).bind λj2=>(c[j2]?).bind λy3=>cond (gtI i 0) ((ay d.length y1).bind λj4=>(aL f (dK .i64 i 1)).bind λy5=>(aL f (dK .i64 i 1)).bind λy6=>(ay d.length y6).bind λj7=>(ay (aJ d j4).length y5).bind λj8=>(ay (aJ (d.set j4 ((aJ d j4).set j8 true)) j7).length y1).bind λj9=>some (.inl (a,b,(c.set j2 true),((d.set j4 ((aJ d j4).set j8 true)).set j7 ((aJ (d.set j4 ((aJ d j4).set j8 true)) j7).set j9 true)),e,f,g,h,(ap .i64 i 1),()))) (some (.inl (a,b,(c.set j2 true),d,e,f,g,h,(ap .i64 i 1),())))) (some (.inr (.inl (a,b,c,d,e,()))))
def uX:=aa nM
def CK:Ann:=⟨⟨[(0,.av (.ptr 0 0)),(1,.av (.val (.slice I))),(6,.av (.val (.slice I))),(7,.av (.val I)),(8,.av (.val I))],[(0,.box [.val I,.ownd 100001,.own 100002,.ownd 100003,.own 100004]),(100001,.deep I),(100002,.arr .bool),(100003,.deep .bool),(100004,.arr (.slice I))],[0]⟩,[(.exit 0,⟨[(0,.av (.ptr 0 0))],[(0,.box [.val I,.ownd 100001,.own 100002,.ownd 100003,.own 100004]),(100001,.deep I),(100002,.arr .bool),(100003,.deep .bool),(100004,.arr (.slice I))],[0]⟩)],uX⟩
def Zan(x:(Q34×List Int×Unit)):Option (Q34×Unit):=
 let((a,b,c,d,e,_),f,_):=x;(uX (a,b,c,d,e,f,f,(f.length:Nat),0,())).bind (A9 (λz2=>some ((z2.1,z2.2.1,z2.2.2.1,z2.2.2.2.1,z2.2.2.2.2.1,()),())) (λ_=>none))
def Fq:Fn:=mkF { cx []with maps:=maps } [(1,CK)] 77 Tryz.f77 [(.box [0,2,1,2,1],(.ptr eA)),(.rd,(.slice I))] [] Zan [lp 1 CK nM] seat_ok af rfl
def ph(x:(List Int×Int×Int×Int×Unit)):Option ((List Int×Int×Int×Int×Unit)⊕((Int×Unit)⊕(Unit⊕Empty))):=
 let(a,b,c,d,_):=x;cond (ltI d c) ((aL a d).bind λy1=>cond (eqI b y1) (some (.inr (.inl (d,())))) (some (.inl (a,b,c,(ap .i64 d 1),())))) (some (.inr (.inr (.inl ()))))
def vN:=aa ph
def AU:Ann:=⟨sh [(0,.av (.val (.slice I))),(1,.av (.val I)),(7,.av (.val I)),(8,.av (.val I))] [],[(.ret,sh [(4,.av (.val I))] []),(.exit 0,sh [] [])],vN⟩
def Zba(x:Q4):Option (Int×Unit):=
 (vN (x.1,x.2.1,(x.1.length:Nat),0,())).bind (A9 (λz2=>some (z2.1,())) (A9 (λz3=>some ((-1),())) (λ_=>none)))
def uQ:Fn:=mkF { cx []with maps:=maps } [(2,AU)] 34 Tryz.f34 [(.rd,(.slice I)),(.rd,I)] [(.tmp 4,true,I)] Zba [lp 2 AU ph] seat_ok af rfl
def Zae(x:Q4):Option (Bool×Unit):=
 (Zba (x.1,x.2.1,())).bind λr1=>some ((geI r1.1 0),())
def pM:Fn:=mkF { cx [uQ]with maps:=maps } [] 15 Tryz.f15 [(.rd,(.slice I)),(.rd,I)] [(.tmp 4,true,.bool)] Zae [] seat_ok af rfl
def lg(x:Q38):Option (Q38⊕(Q36⊕Empty)):=
 let(a,b,c,d,e,f,g,h,_):=x;cond (ltI h g) ((aL f h).bind λy1=>(aL e.2.2.1 y1).bind λy2=>cond y2 ((Zae (c,y1,())).bind λr3=>cond (!r3.1) ((app c [y1]).bind λa4=>some (.inl (a,b,a4,d,e,f,g,(ap .i64 h 1),()))) (some (.inl (a,b,c,d,e,f,g,(ap .i64 h 1),())))) ((ay a.length y1).bind λj5=>(a[j5]?).bind λy6=>cond (!y6) ((ay a.length y1).bind λj7=>(a[j7]?).bind λy8=>(app b [y1]).bind λa9=>some (.inl ((a.set j7 true),a9,c,d,e,f,g,(ap .i64 h 1),()))) (some (.inl (a,b,c,d,e,f,g,(ap .i64 h 1),()))))) (some (.inr (.inl (a,b,c,d,e,()))))
def Fy:=aa lg
def FU:Ann:=⟨⟨[(0,.av (.val (.ptr eA))),(2,.av (.own 2)),(6,.av (.ptr 6 0)),(7,.av (.ptr 7 0)),(8,.av (.own 8)),(43,.av (.val (.slice I))),(44,.av (.val I)),(45,.av (.val I))],[(2,.arr .bool),(6,.box [.nils,.nils]),(7,.box [.own 800000,.own 800001]),(8,.arr I),(800000,.arr I),(800001,.arr I)],[2]⟩,[(.exit 2,⟨[(0,.av (.val (.ptr eA))),(2,.av (.own 2)),(6,.av (.ptr 6 0)),(7,.av (.ptr 7 0)),(8,.av (.own 8))],[(2,.arr .bool),(6,.box [.nils,.nils]),(7,.box [.own 800000,.own 800001]),(8,.arr I),(800000,.arr I),(800001,.arr I)],[2]⟩)],Fy⟩
def tC(x:Q36):Option (Q36⊕((List Bool×List Int×List Int×Unit)⊕Empty)):=
 let(a,b,c,d,e,_):=x;cond (gtI (b.length:Nat) 0) ((ay b.length (dK .i64 (b.length:Nat) 1)).bind λj1=>(b[j1]?).bind λy2=>(dF b.length 0 (dK .i64 (b.length:Nat) 1)).bind λv3=>(app d [y2]).bind λa4=>(aL e.2.1 y2).bind λy5=>(Fy (a,((b.drop v3.1).take v3.2),c,a4,e,y5,(y5.length:Nat),0,())).bind (A9 (λz7=>some (.inl (z7.1,z7.2.1,z7.2.2.1,z7.2.2.2.1,z7.2.2.2.2.1,()))) (λ_=>none))) (some (.inr (.inl (a,c,d,()))))
def FA:=aa tC
def Ft:Ann:=⟨⟨[(0,.av (.val (.ptr eA))),(2,.av (.own 2)),(6,.av (.ptr 6 0)),(7,.av (.ptr 7 0)),(8,.av (.own 8))],[(2,.arr .bool),(6,.box [.nils,.nils]),(7,.box [.own 800000,.own 800001]),(8,.arr I),(800000,.arr I),(800001,.arr I)],[2]⟩,[(.exit 0,⟨[(2,.av (.own 2)),(6,.av (.ptr 6 0)),(7,.av (.ptr 7 0))],[(2,.arr .bool),(6,.box [.nils,.nils]),(7,.box [.own 800000,.own 800001]),(800000,.arr I),(800001,.arr I)],[2]⟩)],FA⟩
def Zy(x:(Q34×Int×List Bool×Unit)):Option (Q8×List Bool×Unit):=
 let(a,b,c,_):=x;(ay c.length b).bind λj1=>(c[j1]?).bind λy2=>(FA ((c.set j1 true),[b],[],[],a,())).bind (A9 (λz4=>some ((z4.2.1,z4.2.2.1,()),z4.1,())) (λ_=>none))
def Jf:Fn:=mkF { cx [pM]with maps:=maps } [(4,Ft),(9,FU)] 106 Tryz.f106 [(.rd,(.ptr eA)),(.rd,I),(.upd,(.slice .bool))] [(.cell 6 115,true,ma)] Zy [lp 4 Ft tC,lp 9 FU lg] seat_ok af rfl
def kp(x:Q69):Option (Q69⊕(Q64⊕Empty)):=
 let(a,b,c,d,e,f,g,h,i,k,l,m,n,_):=x;let t_0:=(ay e.length h).bind λj11=>(e[j11]?).bind λy12=>cond (!y12) ((ay c.length h).bind λj13=>(c[j13]?).bind λy14=>cond (!y14) ((Zy ((a,d,e,f,g,()),h,c,())).bind λr15=>(app b [(r15.1.1,r15.1.2.1,())]).bind λa16=>some (.inl (a,a16,r15.2.1,d,e,f,g,h,i,k,((l.toNat:Nat):Int),m,(ap .i64 n 1),()))) (some (.inl (a,b,c,d,e,f,g,h,i,k,((l.toNat:Nat):Int),m,(ap .i64 n 1),())))) (some (.inl (a,b,c,d,e,f,g,h,i,k,((l.toNat:Nat):Int),m,(ap .i64 n 1),())));cond (ltI n m) ((ay (aJ d l.toNat).length n).bind λj1=>((aJ d l.toNat)[j1]?).bind λy2=>(ay e.length h).bind λj3=>(e[j3]?).bind λy4=>cond y4 ((ay e.length y2).bind λj5=>(e[j5]?).bind λy6=>cond y6 (cond (ltI y2 h) ((ay f.length y2).bind λj7=>(ay (aJ f j7).length h).bind λj8=>((aJ f j7)[j8]?).bind λy9=>cond (!y9) ((app b [([y2,h],[],())]).bind λa10=>some (.inl (a,a10,c,d,e,f,g,h,i,k,((l.toNat:Nat):Int),m,(ap .i64 n 1),()))) t_0) t_0) t_0) t_0) (some (.inr (.inl (a,b,c,d,e,f,g,i,k,()))))
def Bx:=aa kp
def Fo:Ann:=⟨⟨[(0,.av (.ptr 0 0)),(3,.av (.own 3)),(4,.av (.own 4)),(5,.av (.val I)),(17,.av (.ownd 100001)),(18,.av (.val I)),(19,.av (.val I)),(24,.sub 100001),(25,.av (.val I)),(26,.av (.val I))],[(0,.box [.val I,.ownd 100001,.own 100002,.ownd 100003,.own 100004]),(3,.arr ma),(4,.arr .bool),(100001,.deep I),(100002,.arr .bool),(100003,.deep .bool),(100004,.arr (.slice I))],[0]⟩,[(.exit 2,⟨[(0,.av (.ptr 0 0)),(3,.av (.own 3)),(4,.av (.own 4)),(17,.av (.ownd 100001)),(18,.av (.val I)),(19,.av (.val I))],[(0,.box [.val I,.ownd 100001,.own 100002,.ownd 100003,.own 100004]),(3,.arr ma),(4,.arr .bool),(100001,.deep I),(100002,.arr .bool),(100003,.deep .bool),(100004,.arr (.slice I))],[0]⟩)],Bx⟩
def tB(x:Q64):Option (Q64⊕((Int×(List Q8)×(List (List Int))×List Bool×(List (List Bool))×(List (List Int))×Unit)⊕Empty)):=
 let(a,b,c,d,e,f,g,h,i,_):=x;cond (ltI i h) ((ay d.length i).bind λj1=>(Bx (a,b,c,d,e,f,g,i,h,i,((j1:Nat):Int),((aJ d j1).length:Nat),0,())).bind (A9 (λ(a_3,b_3,c_3,d_3,e_3,f_3,g_3,h_3,i_3,_)=>some (.inl (a_3,b_3,c_3,d_3,e_3,f_3,g_3,h_3,(ap .i64 i_3 1),()))) (λ_=>none))) (some (.inr (.inl (a,b,d,e,f,g,()))))
def BH:=aa tB
def Ga:Ann:=⟨⟨[(0,.av (.ptr 0 0)),(3,.av (.own 3)),(4,.av (.own 4)),(17,.av (.ownd 100001)),(18,.av (.val I)),(19,.av (.val I))],[(0,.box [.val I,.ownd 100001,.own 100002,.ownd 100003,.own 100004]),(3,.arr ma),(4,.arr .bool),(100001,.deep I),(100002,.arr .bool),(100003,.deep .bool),(100004,.arr (.slice I))],[0]⟩,[(.exit 0,⟨[(0,.av (.ptr 0 0)),(3,.av (.own 3))],[(0,.box [.val I,.ownd 100001,.own 100002,.ownd 100003,.own 100004]),(3,.arr ma),(100001,.deep I),(100002,.arr .bool),(100003,.deep .bool),(100004,.arr (.slice I))],[0]⟩)],BH⟩
def Zz(x:(Q34×Unit)):Option ((List Q8)×Q34×Unit):=
 let((a,b,c,d,e,_),_):=x;(bG .bool a a).bind λm1=>(BH (a,[],m1,b,c,d,e,(b.length:Nat),0,())).bind (A9 (λ(a_3,b_3,c_3,d_3,e_3,f_3,_)=>some (b_3,(a_3,c_3,d_3,e_3,f_3,()),())) (λ_=>none))
def Ja:Fn:=mkF { cx [Jf]with maps:=maps } [(4,Ga),(7,Fo)] 78 Tryz.f78 [(.box [0,2,1,2,1],(.ptr eA))] [(.tmp 2,true,(.slice ma))] Zz [lp 4 Ga tB,lp 7 Fo kp] seat_ok af rfl
def Zp(x:(Int×List Int×Unit)):Option (Bool×Unit):=
 (Zae (x.2.1,x.1,())).bind λr1=>some ((!r1.1),())
def IX:Fn:=mkF { cx [pM]with maps:=maps } [] 107 Tryz.f107 [(.rd,I),(.rd,(.ptr (.slice I)))] [(.tmp 3,true,.bool)] Zp [] seat_ok af rfl
def rE(x:Q10):Option (Q10⊕((Int×Unit)⊕(Unit⊕Empty))):=
 let(a,b,c,d,_):=x;cond (ltI d c) ((aL a d).bind λy1=>(Zp (y1,b.1,())).bind λr2=>cond r2.1 (some (.inr (.inl (d,())))) (some (.inl (a,b,c,(ap .i64 d 1),())))) (some (.inr (.inr (.inl ()))))
def Dn:=aa rE
def F6:Ann:=⟨sh [(0,.av (.val (.slice I))),(1,.av (.val (.clo 107 ud))),(7,.av (.val I)),(8,.av (.val I))] [],[(.ret,sh [(4,.av (.val I))] []),(.exit 0,sh [] [])],Dn⟩
def Zf(x:(List Int×Q1×Unit)):Option (Int×Unit):=
 (Dn (x.1,x.2.1,(x.1.length:Nat),0,())).bind (A9 (λz2=>some (z2.1,())) (A9 (λz3=>some ((-1),())) (λ_=>none)))
def IT:Fn:=mkF { cx [IX]with maps:=maps } [(2,F6)] 84 Tryz.f84 [(.rd,(.slice I)),(.rd,(.clo 107 ud))] [(.tmp 4,true,I)] Zf [lp 2 F6 rE] seat_ok af rfl
def Zc(x:(List Int×Q1×Unit)):Option (Bool×Unit):=
 (Zf (x.1,x.2.1,())).bind λr1=>some ((geI r1.1 0),())
def IR:Fn:=mkF { cx [IT]with maps:=maps } [] 64 Tryz.f64 [(.rd,(.slice I)),(.rd,(.clo 107 ud))] [(.tmp 4,true,.bool)] Zc [] seat_ok af rfl
def rJ(x:(List Int×List Int×List Int×(List (List Int))×Int×Int×Unit)):Option ((List Int×List Int×List Int×(List (List Int))×Int×Int×Unit)⊕(Q1⊕Empty)):=
 let(a,b,c,d,e,f,_):=x;cond (ltI f e) ((aL d f).bind λy1=>(Zc (a,(y1,()),())).bind λr2=>cond (!r2.1) ((app c [f]).bind λa3=>some (.inl (a,b,a3,d,e,(ap .i64 f 1),()))) (some (.inl (a,b,c,d,e,(ap .i64 f 1),())))) (some (.inr (.inl (c,()))))
def CY:=aa rJ
def FB:Ann:=⟨sh [(3,.av (.ptr 3 0)),(5,.av (.own 5)),(11,.av (.val yQ3)),(12,.av (.val I)),(13,.av (.val I))] [(3,.box [.val (.slice I),.val (.slice I)]),(5,.arr I)],[(.exit 0,sh [(5,.av (.own 5))] [(5,.arr I)])],CY⟩
def Zv(x:Q35):Option Q1:=
 let((_,_,_,_,a,_),(b,c,_),_):=x;(CY (b,c,[],a,(a.length:Nat),0,())).bind (A9 (λz2=>some (z2.1,())) (λ_=>none))
def Jd:Fn:=mkF { cx [IR]with maps:=maps } [(3,FB)] 79 Tryz.f79 [(.rd,(.ptr eA)),(.rd,ma)] [(.tmp 4,true,(.slice I))] Zv [lp 3 FB rJ] seat_ok af rfl
def Zaa(x:(Int×Q8×Unit)):Option (Bool×Unit):=
 (Zae (x.2.1.2.1,x.1,())).bind λr1=>some (r1.1,())
def Hp:Fn:=mkF { cx [pM]with maps:=maps } [] 108 Tryz.f108 [(.rd,I),(.rd,(.ptr ma))] [(.tmp 3,true,.bool)] Zaa [] seat_ok af rfl
def Zab(x:(Int×Q34×Q8×Unit)):Option (Bool×Unit):=
 (aL x.2.1.2.2.1 x.1).bind λy1=>cond y1 ((Zae (x.2.2.1.1,x.1,())).bind λr2=>some (r2.1,())) (some (false,()))
def H0:Fn:=mkF { cx [pM]with maps:=maps } [] 109 Tryz.f109 [(.rd,I),(.rd,(.ptr (.ptr eA))),(.rd,(.ptr ma))] [(.tmp 4,true,.bool)] Zab [] seat_ok af rfl
def DX(x:Q13):Option (Q13⊕(Q1⊕Empty)):=
 let(a,b,c,d,_):=x;cond (neI d c) ((ay a.length d).bind λj1=>(a[j1]?).bind λy2=>(app b [y2]).bind λa3=>some (.inl (a,a3,c,y2,()))) (some (.inr (.inl (b,()))))
def rX:=aa DX
def AW:Ann:=⟨sh [(1,.av (.val I)),(11,.av (.own 11)),(15,.av (.val I)),(18,.av (.own 18))] [(11,.arr I),(18,.arr I)],[(.exit 6,sh [(18,.av (.own 18))] [(18,.arr I)])],rX⟩
def iW(x:Q58):Option (Q58⊕(Q1⊕(Q39⊕Empty))):=
 let(a,b,c,d,e,f,g,h,i,k,l,m,_):=x;cond (ltI m l) ((aL k m).bind λy1=>let t_0:=(Zab (y1,f.1,f.2.1,())).bind λr5=>cond r5.1 ((rX (a,[y1,i],d,i,())).bind (A9 (λz7=>(Zam (z7.1,())).bind λr8=>some (.inr (.inl (r8.1,())))) (λ_=>none))) ((Zaa (y1,e.1,())).bind λr9=>cond r9.1 ((ay a.length y1).bind λj10=>(a[j10]?).bind λy11=>(app b [y1]).bind λa12=>some (.inl ((a.set j10 i),a12,c,d,e,f,g,h,i,k,l,(ap .i64 m 1),()))) (some (.inl (a,b,c,d,e,f,g,h,i,k,l,(ap .i64 m 1),()))));cond (eqI y1 d) (some (.inl (a,b,c,d,e,f,g,h,i,k,l,(ap .i64 m 1),()))) ((ay a.length y1).bind λj2=>(a[j2]?).bind λy3=>cond (geI y3 0) (some (.inl (a,b,c,d,e,f,g,h,i,k,l,(ap .i64 m 1),()))) (cond (eqI i d) ((Zaa (y1,g.1,())).bind λr4=>cond (!r4.1) (some (.inl (a,b,c,d,e,f,g,h,i,k,l,(ap .i64 m 1),()))) t_0) t_0))) (some (.inr (.inr (.inl (a,b,c,d,e,f,g,h,())))))
def sH:=aa iW
def Ae:Ann:=⟨sh [(0,.av (.val (.ptr eA))),(1,.av (.val I)),(2,.av (.val (.clo 108 ou))),(3,.av (.val (.clo 109 zh))),(4,.av (.val (.clo 108 ou))),(11,.av (.own 11)),(13,.av (.own 13)),(14,.av (.val I)),(15,.av (.val I)),(51,.av (.val (.slice I))),(52,.av (.val I)),(53,.av (.val I))] [(11,.arr I),(13,.arr I)],[(.ret,sh [(10,.av (.own 10))] [(10,.arr I)]),(.exit 4,sh [(0,.av (.val (.ptr eA))),(1,.av (.val I)),(2,.av (.val (.clo 108 ou))),(3,.av (.val (.clo 109 zh))),(4,.av (.val (.clo 108 ou))),(11,.av (.own 11)),(13,.av (.own 13)),(14,.av (.val I))] [(11,.arr I),(13,.arr I)])],sH⟩
def qn(x:Q39):Option (Q39⊕(Q1⊕(Unit⊕Empty))):=
 let(a,b,c,d,e,f,g,h,_):=x;cond (ltI h (b.length:Nat)) ((ay b.length h).bind λj1=>(b[j1]?).bind λy2=>(aL c.2.1 y2).bind λy3=>(sH (a,b,c,d,e,f,g,h,y2,y3,(y3.length:Nat),0,())).bind (A9 (λz5=>some (.inr (.inl (z5.1,())))) (A9 (λ(a_6,b_6,c_6,d_6,e_6,f_6,g_6,h_6,_)=>some (.inl (a_6,b_6,c_6,d_6,e_6,f_6,g_6,(ap .i64 h_6 1),()))) (λ_=>none)))) (some (.inr (.inr (.inl ()))))
def FX:=aa qn
def Fw:Ann:=⟨sh [(0,.av (.val (.ptr eA))),(1,.av (.val I)),(2,.av (.val (.clo 108 ou))),(3,.av (.val (.clo 109 zh))),(4,.av (.val (.clo 108 ou))),(11,.av (.own 11)),(13,.av (.own 13)),(14,.av (.val I))] [(11,.arr I),(13,.arr I)],[(.ret,sh [(10,.av (.own 10))] [(10,.arr I)]),(.exit 2,sh [] [])],FX⟩
def tL(x:Q37):Option (Q37⊕((List Int×Q34×Int×(Q8×Unit)×Q35×(Q8×Unit)×Unit)⊕Empty)):=
 let(a,b,c,d,e,f,g,h,_):=x;cond (ltI h g) ((ay a.length h).bind λj1=>(a[j1]?).bind λy2=>some (.inl ((a.set j1 (-1)),b,c,d,e,f,g,(ap .i64 h 1),()))) (some (.inr (.inl (a,b,c,d,e,f,()))))
def FH:=aa tL
def F3:Ann:=⟨sh [(0,.av (.val (.ptr eA))),(1,.av (.val I)),(2,.av (.val (.clo 108 ou))),(3,.av (.val (.clo 109 zh))),(4,.av (.val (.clo 108 ou))),(11,.av (.own 11)),(25,.av (.val I)),(26,.av (.val I))] [(11,.arr I)],[(.exit 0,sh [(0,.av (.val (.ptr eA))),(1,.av (.val I)),(2,.av (.val (.clo 108 ou))),(3,.av (.val (.clo 109 zh))),(4,.av (.val (.clo 108 ou))),(11,.av (.own 11))] [(11,.arr I)])],FH⟩
def Zb(x:(Q34×Int×(Q8×Unit)×Q35×(Q8×Unit)×Unit)):Option Q1:=
 let(a,b,c,d,e,_):=x;(bG I a.1 a.1).bind λm1=>(FH (m1,a,b,c,d,e,(m1.length:Nat),0,())).bind (A9 (λ(a_3,b_3,c_3,d_3,e_3,f_3,_)=>(FX (a_3,[c_3],b_3,c_3,d_3,e_3,f_3,0,())).bind (A9 (λz5=>some (z5.1,())) (A9 (λz6=>some ([],())) (λ_=>none)))) (λ_=>none))
def IZ:Fn:=mkF { cx [uJ,Hp,H0]with maps:=maps } [(3,F3),(9,Fw),(13,Ae),(18,AW)] 102 Tryz.f102 [(.rd,(.ptr eA)),(.rd,I),(.rd,(.clo 108 ou)),(.rd,(.clo 109 zh)),(.rd,(.clo 108 ou))] [(.tmp 10,true,(.slice I))] Zb [lp 3 F3 tL,lp 9 Fw qn,lp 13 Ae iW,lp 18 AW DX] seat_ok af rfl
def Zal(x:Q35):Option (List Int×Q34×Unit):=
 let((a,b,c,d,e,_),(f,g,_),_):=x;cond (eqI (g.length:Nat) 0) (some (f,(a,b,c,d,e,()),())) ((aL f 0).bind λy1=>(Zb ((a,b,c,d,e,()),y1,((f,g,()),()),((a,b,c,d,e,()),(f,g,()),()),((f,g,()),()),())).bind λr2=>some (r2.1,(a,b,c,d,e,()),()))
def HR:Fn:=mkF { cx [IZ]with maps:=maps } [] 81 Tryz.f81 [(.box [0,2,1,2,1],(.ptr eA)),(.rd,ma)] [(.tmp 4,false,(.slice I))] Zal [] seat_ok af rfl
def Zav(x:(Q34×Int×List Int×Unit)):Option (Q34×Unit):=
 let((a,b,c,d,e,_),f,g,_):=x;(ay e.length f).bind λj1=>(e[j1]?).bind λy2=>(aL g 0).bind λy3=>(Zba (y2,y3,())).bind λr4=>(iO y2 r4.1 (y2.length:Nat)).bind λy5=>(Zaz (y5,())).bind λr6=>(iO y2 0 r4.1).bind λy7=>(app r6.1 y7).bind λa8=>(aL g (dK .i64 (g.length:Nat) 1)).bind λy9=>(Zba (a8,y9,())).bind λr10=>(iO g 1 (dK .i64 (g.length:Nat) 1)).bind λy11=>(Zaz (y11,())).bind λr12=>(Zam (r12.1,())).bind λr13=>(dF a8.length 0 (ap .i64 r10.1 1)).bind λv14=>(Zaz (((a8.drop v14.1).take v14.2),())).bind λr15=>(app r15.1 r13.1).bind λa16=>(ay a8.length 0).bind λj17=>(a8[j17]?).bind λy18=>(app [y18] y11).bind λa19=>(dF a8.length r10.1 (a8.length:Nat)).bind λv20=>(app a19 ((a8.drop v20.1).take v20.2)).bind λa21=>(ay e.length f).bind λj22=>(e[j22]?).bind λy23=>(app (e.set j22 a16) [a21]).bind λa24=>(Zan ((a,b,c,d,a24,()),g,())).bind λr25=>some ((r25.1.1,r25.1.2.1,r25.1.2.2.1,r25.1.2.2.2.1,r25.1.2.2.2.2.1,()),())
def HP:Fn:=mkF { cx [Zaz_h,uQ,uJ,Fq]with maps:=maps } [] 80 Tryz.f80 [(.box [0,2,1,2,1],(.ptr eA)),(.rd,I),(.rd,(.slice I))] [] Zav [] seat_ok af rfl
def gr(x:Q68):Option (Q68⊕((Int×List Int×List Int×List Int×(List (List Int))×List Bool×(List (List Bool))×(List (List Int))×Unit)⊕Empty)):=
 let(a,b,c,d,e,f,g,h,i,k,l,_):=x;cond (ltI l k) ((ay e.length l).bind λj1=>(e[j1]?).bind λy2=>(Zv ((a,f,g,h,i,()),(y2.1,y2.2.1,()),())).bind λr3=>cond (eqI l 0) (some (.inl (a,y2.1,y2.2.1,r3.1,e,f,g,h,i,k,(ap .i64 l 1),()))) (cond (ltI (r3.1.length:Nat) (d.length:Nat)) (some (.inl (a,y2.1,y2.2.1,r3.1,e,f,g,h,i,k,(ap .i64 l 1),()))) (some (.inl (a,b,c,d,e,f,g,h,i,k,(ap .i64 l 1),()))))) (some (.inr (.inl (a,b,c,d,f,g,h,i,()))))
def sj:=aa gr
def xL:Ann:=⟨⟨[(0,.av (.ptr 0 0)),(10,.av (.ptr 10 0)),(11,.av (.own 11)),(46,.av (.own 46)),(47,.av (.val I)),(48,.av (.val I))],[(0,.box [.val I,.ownd 100001,.own 100002,.ownd 100003,.own 100004]),(10,.box [.val (.slice I),.val (.slice I)]),(11,.arr I),(46,.arr ma),(100001,.deep I),(100002,.arr .bool),(100003,.deep .bool),(100004,.arr (.slice I))],[0]⟩,[(.exit 2,⟨[(0,.av (.ptr 0 0)),(10,.av (.ptr 10 0)),(11,.av (.own 11))],[(0,.box [.val I,.ownd 100001,.own 100002,.ownd 100003,.own 100004]),(10,.box [.val (.slice I),.val (.slice I)]),(11,.arr I),(100001,.deep I),(100002,.arr .bool),(100003,.deep .bool),(100004,.arr (.slice I))],[0]⟩)],sj⟩
def nm(x:Q34):Option (Q34⊕((Int×(List (List Int))×List Bool×(List (List Bool))×(List (List Int))×Bool×Unit)⊕Empty)):=
 let(a,b,c,d,e,_):=x;(Zz ((a,b,c,d,e,()),())).bind λr1=>cond (eqI (r1.1.length:Nat) 0) (some (.inr (.inl (r1.2.1.1,r1.2.1.2.1,r1.2.1.2.2.1,r1.2.1.2.2.2.1,r1.2.1.2.2.2.2.1,true,())))) ((sj (r1.2.1.1,[],[],[],r1.1,r1.2.1.2.1,r1.2.1.2.2.1,r1.2.1.2.2.2.1,r1.2.1.2.2.2.2.1,(r1.1.length:Nat),0,())).bind (A9 (λ(a_3,b_3,c_3,d_3,e_3,f_3,g_3,h_3,_)=>cond (eqI (d_3.length:Nat) 0) (some (.inr (.inl (a_3,e_3,f_3,g_3,h_3,false,())))) ((aL d_3 0).bind λy4=>(Zal ((a_3,e_3,f_3,g_3,h_3,()),(b_3,c_3,()),())).bind λr5=>(Zav ((r5.2.1.1,r5.2.1.2.1,r5.2.1.2.2.1,r5.2.1.2.2.2.1,r5.2.1.2.2.2.2.1,()),y4,r5.1,())).bind λr6=>some (.inl (r6.1.1,r6.1.2.1,r6.1.2.2.1,r6.1.2.2.2.1,r6.1.2.2.2.2.1,())))) (λ_=>none)))
def vG:=aa nm
def AG:Ann:=⟨⟨[(0,.av (.ptr 0 0))],[(0,.box [.val I,.ownd 100001,.own 100002,.ownd 100003,.own 100004]),(100001,.deep I),(100002,.arr .bool),(100003,.deep .bool),(100004,.arr (.slice I))],[0]⟩,[(.ret,⟨[(0,.av (.ptr 0 0)),(6,.av (.val .bool))],[(0,.box [.val I,.ownd 100001,.own 100002,.ownd 100003,.own 100004]),(100001,.deep I),(100002,.arr .bool),(100003,.deep .bool),(100004,.arr (.slice I))],[0]⟩)],vG⟩
def Zac(x:(Q34×Int×Int×Unit)):Option (Bool×Q34×Unit):=
 let((a,b,c,d,e,_),f,g,_):=x;(Zai ((a,b,c,d,e,()),f,g,())).bind λr1=>cond (ltI (r1.1.length:Nat) 3) (some (false,(a,b,c,d,e,()),())) ((Zaz (r1.1,())).bind λr2=>(Zam (r2.1,())).bind λr3=>(Zaz (r1.1,())).bind λr4=>(aL r1.1 0).bind λy5=>(app r4.1 [y5]).bind λa6=>(Zan ((a,b,c,d,[r1.1,r3.1],()),a6,())).bind λr7=>(vG (r7.1.1,r7.1.2.1,r7.1.2.2.1,r7.1.2.2.2.1,r7.1.2.2.2.2.1,())).bind (A9 (λ(a_9,b_9,c_9,d_9,e_9,f_9,_)=>some (f_9,(a_9,b_9,c_9,d_9,e_9,()),())) (λ_=>none)))
def H2:Fn:=mkF { cx [Zaz_h,HU,uJ,Fq,Ja,Jd,HP,HR]with frz:=[22],maps:=maps,light:=[22],hold:=[(22,100001),(22,100002),(22,100003),(22,100004)],vars:=[0] } [(8,AG),(14,xL)] 49 Tryz.f49 [(.box [0,2,1,2,0],(.ptr eA)),(.rd,I),(.rd,I)] [(.tmp 6,true,.bool)] Zac [lp 8 AG nm,lp 14 xL gr] seat_ok af rfl
def nF(x:Q47):Option (Q47⊕(Q20⊕Empty)):=
 let(a,b,c,d,e,f,g,h,_):=x;cond (ltI h g) ((aL f h).bind λy1=>(ay a.length y1).bind λj2=>cond (eqI (b.length:Nat) 0) none ((aL b (n8 (dK .i64 (ap .i64 h (b.length:Nat)) 1) (b.length:Nat))).bind λy3=>cond (eqI (b.length:Nat) 0) none ((aL b (n8 (ap .i64 h 1) (b.length:Nat))).bind λy4=>(ay (aJ a j2).length y3).bind λj5=>some (.inl ((a.set j2 ((aJ a j2).set j5 y4)),b,c,d,e,f,g,(ap .i64 h 1),()))))) (some (.inr (.inl (a,c,d,e,()))))
def BB:=aa nF
def BU:Ann:=⟨sh [(3,.av (.ownd 3)),(6,.av (.val (.slice I))),(31,.av (.val yQ3)),(32,.av (.val I)),(33,.av (.val I)),(37,.av (.val (.slice I))),(38,.av (.val I)),(39,.av (.val I))] [(3,.deep I)],[(.exit 4,sh [(3,.av (.ownd 3)),(31,.av (.val yQ3)),(32,.av (.val I)),(33,.av (.val I))] [(3,.deep I)])],BB⟩
def uh(x:Q20):Option (Q20⊕(Q7⊕Empty)):=
 let(a,b,c,d,_):=x;cond (ltI d c) ((aL b d).bind λy1=>(BB (a,y1,b,c,d,y1,(y1.length:Nat),0,())).bind (A9 (λz3=>some (.inl (z3.1,z3.2.1,z3.2.2.1,(ap .i64 z3.2.2.2.1 1),()))) (λ_=>none))) (some (.inr (.inl (a,()))))
def Fv:=aa uh
def Fl:Ann:=⟨sh [(3,.av (.ownd 3)),(31,.av (.val yQ3)),(32,.av (.val I)),(33,.av (.val I))] [(3,.deep I)],[(.exit 2,sh [(3,.av (.ownd 3))] [(3,.deep I)])],Fv⟩
def t6(x:((List (List Int))×Q34×Int×Int×Unit)):Option (((List (List Int))×Q34×Int×Int×Unit)⊕(((List (List Int))×Q34×Unit)⊕Empty)):=
 let(a,b,c,d,_):=x;cond (ltI d c) ((bG I b.1 b.1).bind λm1=>(ay a.length d).bind λj2=>some (.inl ((a.set j2 m1),b,c,(ap .i64 d 1),()))) (some (.inr (.inl (a,b,()))))
def F7:=aa t6
def FK:Ann:=⟨sh [(0,.av (.val (.ptr eA))),(3,.av (.ownd 3)),(15,.av (.val I)),(16,.av (.val I))] [(3,.deep I)],[(.exit 0,sh [(0,.av (.val (.ptr eA))),(3,.av (.ownd 3))] [(3,.deep I)])],F7⟩
def Zx(x:(Q34×Unit)):Option Q7:=
 (bG (.slice I) x.1.1 x.1.1).bind λm1=>(F7 (m1,x.1,(m1.length:Nat),0,())).bind (A9 (λ(a_3,(_,_,_,_,b_3,_),_)=>(Fv (a_3,b_3,(b_3.length:Nat),0,())).bind (A9 (λz5=>some (z5.1,())) (λ_=>none))) (λ_=>none))
def IK:Fn:=mkF { cx []with deep:=[13],maps:=maps } [(3,FK),(8,Fl),(11,BU)] 50 Tryz.f50 [(.rd,(.ptr eA))] [(.tmp 2,true,yQ3)] Zx [lp 3 FK t6,lp 8 Fl uh,lp 11 BU nF] seat_ok af rfl (d:=true)
def lm(x:Q72):Option (Q72⊕(Q70⊕Empty)):=
 let(a,b,c,d,e,f,g,h,i,k,l,m,n,o,p,_):=x;cond (ltI p o) ((ay c.length h).bind λj1=>(ay d.length h).bind λj2=>(ay (aJ d j2).length i).bind λj3=>((aJ d j2)[j3]?).bind λy4=>(app (aJ c j1) [y4]).bind λa5=>(ay c.length h).bind λj6=>if j1=j6 then(ay e.length h).bind λj7=>(ay (aJ e j7).length i).bind λj8=>((aJ e j7)[j8]?).bind λy9=>some (.inl (a,b,(c.set j6 a5),d,e,f,g,h,y9,k,l,m,n,o,(ap .i64 p 1),()))else none) (some (.inr (.inl (a,b,c,d,e,f,g,k,l,m,n,()))))
def wz:=aa lm
def yh:Ann:=⟨sh [(1,.av (.ptr 1 0)),(4,.av (.ownd 4)),(5,.av (.ownd 5)),(10,.av (.ownd 10)),(11,.av (.val I)),(13,.av (.val I)),(20,.av (.own 20)),(21,.av (.val I)),(22,.av (.val I)),(91,.av (.ownd 91)),(92,.av (.val I)),(93,.av (.val I)),(105,.av (.val I)),(106,.av (.val I))] [(1,.box [.val I,.val (.slice yQ2)]),(4,.deep I),(5,.deep I),(10,.deep I),(20,.arr (.slice I)),(91,.deep I)],[(.exit 4,sh [(1,.av (.ptr 1 0)),(4,.av (.ownd 4)),(5,.av (.ownd 5)),(10,.av (.ownd 10)),(20,.av (.own 20)),(21,.av (.val I)),(22,.av (.val I)),(91,.av (.ownd 91)),(92,.av (.val I)),(93,.av (.val I))] [(1,.box [.val I,.val (.slice yQ2)]),(4,.deep I),(5,.deep I),(10,.deep I),(20,.arr (.slice I)),(91,.deep I)])],wz⟩
def jP(x:Q70):Option (Q70⊕(Q51⊕Empty)):=
 let(a,b,c,d,e,f,g,h,i,k,l,_):=x;cond (ltI l k) ((ay g.length l).bind λj1=>cond (eqI ((aJ g j1).length:Nat) 0) (some (.inl (a,b,c,d,e,f,g,h,i,k,(ap .i64 l 1),()))) ((ay (aJ g j1).length 0).bind λj2=>((aJ g j1)[j2]?).bind λy3=>(wz (a,b,c,d,e,f,g,l,y3,h,i,k,l,((aJ g j1).length:Nat),0,())).bind (A9 (λ(a_5,b_5,c_5,d_5,e_5,f_5,g_5,h_5,i_5,k_5,l_5,_)=>some (.inl (a_5,b_5,c_5,d_5,e_5,f_5,g_5,h_5,i_5,k_5,(ap .i64 l_5 1),()))) (λ_=>none)))) (some (.inr (.inl (a,b,c,d,f,h,i,()))))
def wD:=aa jP
def xS:Ann:=⟨sh [(1,.av (.ptr 1 0)),(4,.av (.ownd 4)),(5,.av (.ownd 5)),(10,.av (.ownd 10)),(20,.av (.own 20)),(21,.av (.val I)),(22,.av (.val I)),(91,.av (.ownd 91)),(92,.av (.val I)),(93,.av (.val I))] [(1,.box [.val I,.val (.slice yQ2)]),(4,.deep I),(5,.deep I),(10,.deep I),(20,.arr (.slice I)),(91,.deep I)],[(.exit 2,sh [(1,.av (.ptr 1 0)),(4,.av (.ownd 4)),(5,.av (.ownd 5)),(20,.av (.own 20)),(21,.av (.val I)),(22,.av (.val I))] [(1,.box [.val I,.val (.slice yQ2)]),(4,.deep I),(5,.deep I),(20,.arr (.slice I))])],wD⟩
def mg(x:Q51):Option (Q51⊕((Bool×Unit)⊕(Q7⊕Empty))):=
 let(a,b,c,d,e,f,g,_):=x;cond (ltI g f) ((ay e.length g).bind λj1=>(e[j1]?).bind λy2=>(aL y2 0).bind λy3=>(aL b y3).bind λy4=>cond (eqI (y2.length:Nat) 1) ((ay c.length y4.1).bind λj5=>(ay d.length y4.1).bind λj6=>(ay (aJ d j6).length y4.2.1).bind λj7=>((aJ d j6)[j7]?).bind λy8=>(app (aJ c j5) [y8]).bind λa9=>(ay c.length y4.1).bind λj10=>if j5=j10 then(ay (c.set j10 a9).length y4.2.1).bind λj11=>(ay d.length y4.2.1).bind λj12=>(ay (aJ d j12).length y4.1).bind λj13=>((aJ d j12)[j13]?).bind λy14=>(app (aJ (c.set j10 a9) j11) [y14]).bind λa15=>(ay (c.set j10 a9).length y4.2.1).bind λj16=>if j11=j16 then some (.inl (a,b,((c.set j10 a9).set j16 a15),d,e,f,(ap .i64 g 1),()))else none else none) ((Zbc ((a,b,()),y2,())).bind λr17=>(Zac ((r17.1.1,r17.1.2.1,r17.1.2.2.1,r17.1.2.2.2.1,r17.1.2.2.2.2.1,()),y4.1,y4.2.1,())).bind λr18=>cond (!r18.1) (some (.inr (.inl (false,())))) ((Zx ((r18.2.1.1,r18.2.1.2.1,r18.2.1.2.2.1,r18.2.1.2.2.2.1,r18.2.1.2.2.2.2.1,()),())).bind λr19=>(wD (a,b,c,d,r19.1,e,r18.2.1.2.1,f,g,(r18.2.1.2.1.length:Nat),0,())).bind (A9 (λ(a_21,b_21,c_21,d_21,e_21,f_21,g_21,_)=>some (.inl (a_21,b_21,c_21,d_21,e_21,f_21,(ap .i64 g_21 1),()))) (λ_=>none))))) (some (.inr (.inr (.inl (c,())))))
def Bt:=aa mg
def Cp:Ann:=⟨sh [(1,.av (.ptr 1 0)),(4,.av (.ownd 4)),(5,.av (.ownd 5)),(20,.av (.own 20)),(21,.av (.val I)),(22,.av (.val I))] [(1,.box [.val I,.val (.slice yQ2)]),(4,.deep I),(5,.deep I),(20,.arr (.slice I))],[(.ret,sh [(2,.av (.nils)),(3,.av (.val .bool))] []),(.exit 0,sh [(4,.av (.ownd 4))] [(4,.deep I)])],Bt⟩
def Zbf(x:(Q6×Unit)):Option ((List (List Int))×Bool×Unit):=
 let((a,b,_),_):=x;(bG (.slice I) a a).bind λm1=>(Zbx ((a,b,()),())).bind λr2=>(Zcb ((a,b,()),())).bind λr3=>(Bt (a,b,m1,r2.1,r3.1,(r3.1.length:Nat),0,())).bind (A9 (λz5=>some ([],z5.1,())) (A9 (λz6=>some (z6.1,true,())) (λ_=>none)))
def HH:Fn:=mkF { cx [FO,If,Is,H2,IK]with deep:=[16],maps:=maps,light:=[8,9] } [(4,Cp),(15,xS),(20,yh)] 33 Tryz.f33 [(.rd,fj)] [(.tmp 2,true,yQ3),(.tmp 3,true,.bool)] Zbf [lp 4 Cp mg,lp 15 xS jP,lp 20 yh lm] seat_ok af rfl (d:=true)
def Zca(x:(Q6×Unit)):Option Q15:=
 let((a,b,_),_):=x;let t_0:=(Zbf ((a,b,()),())).bind λr2=>cond (!r2.2.1) (some ((0,[],[],()),10,())) ((Zaw (b,())).bind λr3=>some ((a,r3.1,r2.1,()),0,()));(Zcc ((a,b,()),())).bind λr1=>cond (neI r1.1 0) (some ((0,[],[],()),r1.1,())) (cond (geI a 3) (cond (gtI (b.length:Nat) (dK .i64 (dl .i64 3 a) 6)) (some ((0,[],[],()),10,())) t_0) t_0)
def Fs:Fn:=mkF { cx [BR,Zaw_h,HH]with maps:=maps } [] 14 Tryz.f14 [(.rd,fj)] [(.cell 2 30,false,ec),(.tmp 3,true,I)] Zca [] seat_ok af rfl
def Zbo(x:(Q6×Unit)):Option (Bool×Unit):=
 (Zca ((x.1.1,x.1.2.1,()),())).bind λr1=>some ((eqI r1.2.1 0),())
def Hx:Fn:=mkF { cx [Fs]with maps:=maps } [] 31 Tryz.f31 [(.rd,fj)] [(.tmp 2,true,.bool)] Zbo [] seat_ok af rfl
def nn(x:Q26):Option (Q26⊕(Q1⊕Empty)):=
 let(a,b,c,d,e,f,g,h,_):=x;cond (ltI h g) ((aL f h).bind λy1=>(Zaw (e,())).bind λr2=>(app r2.1 [(y1.1,y1.2.1,())]).bind λa3=>(Zbo ((a,a3,()),())).bind λr4=>cond r4.1 ((app c [h]).bind λa5=>some (.inl (a,b,a5,a,a3,f,g,(ap .i64 h 1),()))) (some (.inl (a,b,c,d,e,f,g,(ap .i64 h 1),())))) (some (.inr (.inl (c,()))))
def BQ:=aa nn
def BO:Ann:=⟨sh [(1,.av (.ptr 1 0)),(5,.av (.own 5)),(6,.av (.ptr 6 0)),(19,.av (.val (.slice yQ2))),(20,.av (.val I)),(21,.av (.val I))] [(1,.box [.val I,.val (.slice yQ2)]),(5,.arr I),(6,.box [.val I,.own 700001]),(700001,.arr yQ2)],[(.exit 0,sh [(5,.av (.own 5))] [(5,.arr I)])],BQ⟩
def Zbk(x:(Q6×Unit)):Option Q4:=
 let((a,b,_),_):=x;(Zcc ((a,b,()),())).bind λr1=>cond (neI r1.1 0) (some ([],r1.1,())) ((BQ (a,b,[],a,[],b,(b.length:Nat),0,())).bind (A9 (λz3=>some (z3.1,0,())) (λ_=>none)))
def HF:Fn:=mkF { cx [BR,Zaw_h,Hx]with maps:=maps,light:=[9] } [(7,BO)] 12 Tryz.f12 [(.rd,fj)] [(.tmp 2,true,(.slice I)),(.tmp 3,true,I)] Zbk [lp 7 BO nn] seat_ok af rfl
def Jk:Con:={ ins:=[(.rd,fj)],outs:=[(true,(.slice I)),(true,I)],fn:=Zbk }
def jN(x:Q71):Option (Q71⊕(Q66⊕Empty)):=
 let(a,b,c,d,e,f,g,h,i,k,l,m,n,o,p,_):=x;cond (ltI p o) ((aL n p).bind λy1=>(ay e.length k).bind λj2=>(e[j2]?).bind λy3=>(Zq (a,y1,y3,())).bind λr4=>(ay d.length r4.1).bind λj5=>(d[j5]?).bind λy6=>cond (!y6) ((ay d.length r4.1).bind λj7=>(d[j7]?).bind λy8=>(app e [r4.1]).bind λa9=>some (.inl (a,b,c,(d.set j7 true),a9,f,g,h,i,k,l,m,n,o,(ap .i64 p 1),()))) (some (.inl (a,b,c,d,e,f,g,h,i,k,l,m,n,o,(ap .i64 p 1),())))) (some (.inr (.inl (a,b,c,d,e,f,g,h,i,k,l,m,()))))
def xk:=aa jN
def wV:Ann:=⟨sh [(3,.av (.ptr 3 0)),(4,.av (.own 4)),(5,.av (.own 5)),(7,.av (.own 7)),(8,.av (.val I)),(21,.av (.val I)),(22,.av (.val I)),(48,.av (.val (.slice I))),(49,.av (.val I)),(50,.av (.val I))] [(3,.box [.val (.ptr k9),.own 400001,.own 400002,.val I,.own 400004,.own 400005]),(4,.arr (.slice I)),(5,.arr .bool),(7,.arr I),(400001,.arr I),(400002,.arr I),(400004,.arr I),(400005,.arr (.slice I))],[(.exit 4,sh [(3,.av (.ptr 3 0)),(4,.av (.own 4)),(5,.av (.own 5)),(7,.av (.own 7)),(8,.av (.val I)),(21,.av (.val I)),(22,.av (.val I))] [(3,.box [.val (.ptr k9),.own 400001,.own 400002,.val I,.own 400004,.own 400005]),(4,.arr (.slice I)),(5,.arr .bool),(7,.arr I),(400001,.arr I),(400002,.arr I),(400004,.arr I),(400005,.arr (.slice I))])],xk⟩
def lI(x:Q66):Option (Q66⊕((Q12×Int×(List (List Int))×List Bool×List Int×List Int×List Int×List Int×(List (List Int))×Int×Int×Unit)⊕Empty)):=
 let(a,b,c,d,e,f,g,h,i,k,l,m,_):=x;cond (ltI k (e.length:Nat)) ((ay e.length k).bind λj1=>(e[j1]?).bind λy2=>(Zr (a,y2,())).bind λr3=>(xk (a,b,c,d,e,f,g,h,i,k,l,m,r3.1,(r3.1.length:Nat),0,())).bind (A9 (λ(a_5,b_5,c_5,d_5,e_5,f_5,g_5,h_5,i_5,k_5,l_5,m_5,_)=>some (.inl (a_5,b_5,c_5,d_5,e_5,f_5,g_5,h_5,i_5,(ap .i64 k_5 1),l_5,m_5,()))) (λ_=>none))) (some (.inr (.inl (a,b,c,d,e,f,g,h,i,l,m,()))))
def wB:=aa lI
def yb:Ann:=⟨sh [(3,.av (.ptr 3 0)),(4,.av (.own 4)),(5,.av (.own 5)),(7,.av (.own 7)),(8,.av (.val I)),(21,.av (.val I)),(22,.av (.val I))] [(3,.box [.val (.ptr k9),.own 400001,.own 400002,.val I,.own 400004,.own 400005]),(4,.arr (.slice I)),(5,.arr .bool),(7,.arr I),(400001,.arr I),(400002,.arr I),(400004,.arr I),(400005,.arr (.slice I))],[(.exit 2,sh [(3,.av (.ptr 3 0)),(4,.av (.own 4)),(5,.av (.own 5)),(7,.av (.own 7)),(21,.av (.val I)),(22,.av (.val I))] [(3,.box [.val (.ptr k9),.own 400001,.own 400002,.val I,.own 400004,.own 400005]),(4,.arr (.slice I)),(5,.arr .bool),(7,.arr I),(400001,.arr I),(400002,.arr I),(400004,.arr I),(400005,.arr (.slice I))])],wB⟩
def ow(x:Q61):Option (Q61⊕(Q7⊕Empty)):=
 let(a,b,c,d,e,f,g,h,i,k,_):=x;cond (ltI k i) ((ay d.length k).bind λj1=>(d[j1]?).bind λy2=>cond y2 (some (.inl (a,b,c,d,e,f,g,h,i,(ap .i64 k 1),()))) ((ay d.length k).bind λj3=>(d[j3]?).bind λy4=>(wB (a,b,c,(d.set j3 true),[k],e,f,g,h,0,i,k,())).bind (A9 (λ(a_6,b_6,c_6,d_6,e_6,f_6,g_6,h_6,i_6,k_6,l_6,_)=>(Zbb (e_6,())).bind λr7=>(app c_6 [r7.1]).bind λa8=>some (.inl (a_6,b_6,a8,d_6,f_6,g_6,h_6,i_6,k_6,(ap .i64 l_6 1),()))) (λ_=>none)))) (some (.inr (.inl (c,()))))
def DL:=aa ow
def Dk:Ann:=⟨sh [(3,.av (.ptr 3 0)),(4,.av (.own 4)),(5,.av (.own 5)),(21,.av (.val I)),(22,.av (.val I))] [(3,.box [.val (.ptr k9),.own 400001,.own 400002,.val I,.own 400004,.own 400005]),(4,.arr (.slice I)),(5,.arr .bool),(400001,.arr I),(400002,.arr I),(400004,.arr I),(400005,.arr (.slice I))],[(.exit 0,sh [(4,.av (.own 4))] [(4,.arr (.slice I))])],DL⟩
def Zax(x:(Q6×Unit)):Option Q7:=
 let((a,b,_),_):=x;(Zbw ((a,b,()),())).bind λr1=>cond (!r1.1) (some ([],())) ((Zcj ((a,b,()),())).bind λr2=>(bG .bool a a).bind λm3=>(DL (r2.1.1,r2.1.2.2.2.1,[],m3,r2.1.2.1,r2.1.2.2.1,r2.1.2.2.2.2.1,r2.1.2.2.2.2.2.1,a,0,())).bind (A9 (λz5=>some (z5.1,())) (λ_=>none)))
def IC:Fn:=mkF { cx [t7,FJ,HZ,Ie,wT]with maps:=maps } [(7,Dk),(13,yb),(16,wV)] 32 Tryz.f32 [(.rd,fj)] [(.tmp 2,true,yQ3)] Zax [lp 7 Dk ow,lp 13 yb lI,lp 16 wV jN] seat_ok af rfl
def Zbe(x:(Q6×Unit)):Option (Bool×Unit):=
 (Zax ((x.1.1,x.1.2.1,()),())).bind λr1=>some ((eqI (r1.1.length:Nat) 1),())
def H4:Fn:=mkF { cx [IC]with maps:=maps } [] 13 Tryz.f13 [(.rd,fj)] [(.tmp 2,true,.bool)] Zbe [] seat_ok af rfl
def Jj:Con:={ ins:=[(.rd,fj)],outs:=[(true,.bool)],fn:=Zbe }
def Zbu(x:(Q2×Int×Unit)):Option (Int×Unit):=
 cond (eqI x.2.1 0) (some (x.1.1,())) (some (x.1.2.1,()))
def Ai:Fn:=mkF { cx []with maps:=maps } [] 38 Tryz.f38 [(.rd,yQ2),(.rd,I)] [(.tmp 4,true,I)] Zbu [] seat_ok af rfl
def wX(x:Q65):Option (Q65⊕((Bool×Unit)⊕(Q48⊕Empty))):=
 let(a,b,c,d,e,f,g,h,i,k,l,m,_):=x;cond (ltI m l) ((aL k m).bind λy1=>cond (ltI y1 0) (some (.inr (.inl (false,())))) (cond (geI y1 (d.length:Nat)) (some (.inr (.inl (false,())))) ((ay d.length y1).bind λj2=>(d[j2]?).bind λy3=>cond y3 (some (.inr (.inl (false,())))) ((aL b (qP .i64 y1 2)).bind λy4=>(Zbu (y4,(n8 y1 2),())).bind λr5=>cond (neI r5.1 f) (some (.inr (.inl (false,())))) ((ay d.length y1).bind λj6=>(d[j6]?).bind λy7=>some (.inl (a,b,c,(d.set j6 true),(ap .i64 e 1),f,g,h,i,k,l,(ap .i64 m 1),()))))))) (some (.inr (.inr (.inl (a,b,c,d,e,g,h,i,())))))
def ya:=aa wX
def wR:Ann:=⟨sh [(1,.av (.ptr 1 0)),(5,.av (.own 5)),(6,.av (.val I)),(7,.av (.val I)),(80,.av (.val yQ3)),(81,.av (.val I)),(82,.av (.val I)),(87,.av (.val (.slice I))),(88,.av (.val I)),(89,.av (.val I))] [(1,.box [.val I,.val (.slice yQ2),.val yQ3]),(5,.arr .bool)],[(.ret,sh [(2,.av (.val .bool))] []),(.exit 4,sh [(1,.av (.ptr 1 0)),(5,.av (.own 5)),(6,.av (.val I)),(80,.av (.val yQ3)),(81,.av (.val I)),(82,.av (.val I))] [(1,.box [.val I,.val (.slice yQ2),.val yQ3]),(5,.arr .bool)])],ya⟩
def xv(x:Q48):Option (Q48⊕((Bool×Unit)⊕((List Bool×Int×Unit)⊕Empty))):=
 let(a,b,c,d,e,f,g,h,_):=x;cond (ltI h g) ((aL f h).bind λy1=>(ya (a,b,c,d,e,h,f,g,h,y1,(y1.length:Nat),0,())).bind (A9 (λz3=>some (.inr (.inl (z3.1,())))) (A9 (λ(a_4,b_4,c_4,d_4,e_4,f_4,g_4,h_4,_)=>some (.inl (a_4,b_4,c_4,d_4,e_4,f_4,g_4,(ap .i64 h_4 1),()))) (λ_=>none)))) (some (.inr (.inr (.inl (d,e,())))))
def wO:=aa xv
def wU:Ann:=⟨sh [(1,.av (.ptr 1 0)),(5,.av (.own 5)),(6,.av (.val I)),(80,.av (.val yQ3)),(81,.av (.val I)),(82,.av (.val I))] [(1,.box [.val I,.val (.slice yQ2),.val yQ3]),(5,.arr .bool)],[(.ret,sh [(2,.av (.val .bool))] []),(.exit 2,sh [(5,.av (.own 5)),(6,.av (.val I))] [(5,.arr .bool)])],wO⟩
def Dp(x:(Int×(List Q2)×(List (List Int))×(List Q2)×Int×Int×Unit)):Option ((Int×(List Q2)×(List (List Int))×(List Q2)×Int×Int×Unit)⊕((Bool×Unit)⊕(Q14⊕Empty))):=
 let(a,b,c,d,e,f,_):=x;cond (ltI f e) ((aL d f).bind λy1=>cond (ltI y1.1 0) (some (.inr (.inl (false,())))) (cond (geI y1.1 a) (some (.inr (.inl (false,())))) (cond (ltI y1.2.1 0) (some (.inr (.inl (false,())))) (cond (geI y1.2.1 a) (some (.inr (.inl (false,())))) (cond (eqI y1.1 y1.2.1) (some (.inr (.inl (false,())))) (some (.inl (a,b,c,d,e,(ap .i64 f 1),())))))))) (some (.inr (.inr (.inl (a,b,c,())))))
def BX:=aa Dp
def D8:Ann:=⟨sh [(1,.av (.ptr 1 0)),(38,.av (.val (.slice yQ2))),(39,.av (.val I)),(40,.av (.val I))] [(1,.box [.val I,.val (.slice yQ2),.val yQ3])],[(.ret,sh [(2,.av (.val .bool))] []),(.exit 0,sh [(1,.av (.ptr 1 0))] [(1,.box [.val I,.val (.slice yQ2),.val yQ3])])],BX⟩
def Zbh(x:(Q14×Unit)):Option (Bool×Unit):=
 let((a,b,c,_),_):=x;cond (ltI a 0) (some (false,())) ((aL [16384,32768] 0).bind λy1=>cond (gtI a y1) (some (false,())) ((aL [16384,32768] 1).bind λy2=>cond (gtI (b.length:Nat) y2) (some (false,())) (cond (neI (c.length:Nat) a) (some (false,())) ((BX (a,b,c,b,(b.length:Nat),0,())).bind (A9 (λz4=>some (z4.1,())) (A9 (λ(a_5,b_5,c_5,_)=>(bG .bool (dl .i64 2 (b_5.length:Nat)) (dl .i64 2 (b_5.length:Nat))).bind λm6=>(wO (a_5,b_5,c_5,m6,0,c_5,(c_5.length:Nat),0,())).bind (A9 (λz8=>some (z8.1,())) (A9 (λz9=>some ((eqI z9.2.1 (z9.1.length:Nat)),())) (λ_=>none)))) (λ_=>none)))))))
def qx:Fn:=mkF { cx [Ai]with maps:=maps } [(4,D8),(12,wU),(15,wR)] 24 Tryz.f24 [(.rd,ec)] [(.tmp 2,true,.bool)] Zbh [lp 4 D8 Dp,lp 12 wU xv,lp 15 wR wX] seat_ok af rfl
def Af(x:Q33):Option (Q33⊕(Q17⊕Empty)):=
 let(a,b,c,d,e,f,g,h,_):=x;cond (ltI h g) ((aL f h).bind λy1=>cond (eqI (b.length:Nat) 0) none ((aL b (n8 (ap .i64 h 1) (b.length:Nat))).bind λy2=>(ay a.length (Dv .i64 y1 1)).bind λj3=>(a[j3]?).bind λy4=>some (.inl ((a.set j3 y2),b,c,d,e,f,g,(ap .i64 h 1),())))) (some (.inr (.inl (a,c,d,e,()))))
def Ec:=aa Af
def As:Ann:=⟨sh [(3,.av (.own 3)),(5,.av (.val (.slice I))),(14,.av (.val yQ3)),(15,.av (.val I)),(16,.av (.val I)),(20,.av (.val (.slice I))),(21,.av (.val I)),(22,.av (.val I))] [(3,.arr I)],[(.exit 2,sh [(3,.av (.own 3)),(14,.av (.val yQ3)),(15,.av (.val I)),(16,.av (.val I))] [(3,.arr I)])],Ec⟩
def CT(x:Q17):Option (Q17⊕(Q1⊕Empty)):=
 let(a,b,c,d,_):=x;cond (ltI d c) ((aL b d).bind λy1=>(Ec (a,y1,b,c,d,y1,(y1.length:Nat),0,())).bind (A9 (λz3=>some (.inl (z3.1,z3.2.1,z3.2.2.1,(ap .i64 z3.2.2.2.1 1),()))) (λ_=>none))) (some (.inr (.inl (a,()))))
def Az:=aa CT
def Ch:Ann:=⟨sh [(3,.av (.own 3)),(14,.av (.val yQ3)),(15,.av (.val I)),(16,.av (.val I))] [(3,.arr I)],[(.exit 0,sh [(3,.av (.own 3))] [(3,.arr I)])],Az⟩
def Zbd(x:(Q14×Unit)):Option Q1:=
 let((_,a,b,_),_):=x;(bG I (dl .i64 2 (a.length:Nat)) (dl .i64 2 (a.length:Nat))).bind λm1=>(Az (m1,b,(b.length:Nat),0,())).bind (A9 (λz3=>some (z3.1,())) (λ_=>none))
def H8:Fn:=mkF { cx []with maps:=maps } [(3,Ch),(6,As)] 68 Tryz.f68 [(.rd,ec)] [(.tmp 2,true,(.slice I))] Zbd [lp 3 Ch CT,lp 6 As Af] seat_ok af rfl
def xJ(x:Q28):Option (Q28⊕((List Int×List Bool×(List (List Int))×List Int×Int×Int×Unit)⊕Empty)):=
 let(a,b,c,d,e,f,g,_):=x;(ay b.length e).bind λj1=>(b[j1]?).bind λy2=>cond (!y2) ((ay b.length e).bind λj3=>(b[j3]?).bind λy4=>(app d [e]).bind λa5=>(ay a.length e).bind λj6=>(a[j6]?).bind λy7=>some (.inl (a,(b.set j3 true),c,a5,y7,f,g,()))) (some (.inr (.inl (a,b,c,d,f,g,()))))
def xF:=aa xJ
def yE:Ann:=⟨sh [(3,.av (.own 3)),(4,.av (.own 4)),(5,.av (.own 5)),(7,.av (.own 7)),(8,.av (.val I)),(18,.av (.val I)),(19,.av (.val I))] [(3,.arr I),(4,.arr .bool),(5,.arr (.slice I)),(7,.arr I)],[(.exit 2,sh [(3,.av (.own 3)),(4,.av (.own 4)),(5,.av (.own 5)),(7,.av (.own 7)),(18,.av (.val I)),(19,.av (.val I))] [(3,.arr I),(4,.arr .bool),(5,.arr (.slice I)),(7,.arr I)])],xF⟩
def Cr(x:(List Int×List Bool×(List (List Int))×Int×Int×Unit)):Option ((List Int×List Bool×(List (List Int))×Int×Int×Unit)⊕(Q7⊕Empty)):=
 let(a,b,c,d,e,_):=x;cond (ltI e d) ((xF (a,b,c,[],e,d,e,())).bind (A9 (λ(a_2,b_2,c_2,d_2,e_2,f_2,_)=>cond (gtI (d_2.length:Nat) 0) ((app c_2 [d_2]).bind λa3=>some (.inl (a_2,b_2,a3,e_2,(ap .i64 f_2 1),()))) (some (.inl (a_2,b_2,c_2,e_2,(ap .i64 f_2 1),())))) (λ_=>none))) (some (.inr (.inl (c,()))))
def Dj:=aa Cr
def Ds:Ann:=⟨sh [(3,.av (.own 3)),(4,.av (.own 4)),(5,.av (.own 5)),(18,.av (.val I)),(19,.av (.val I))] [(3,.arr I),(4,.arr .bool),(5,.arr (.slice I))],[(.exit 0,sh [(5,.av (.own 5))] [(5,.arr (.slice I))])],Dj⟩
def Zbl(x:(Q14×Unit)):Option Q7:=
 let((a,b,c,_),_):=x;(Zbh ((a,b,c,()),())).bind λr1=>cond (!r1.1) (some ([],())) ((Zbd ((a,b,c,()),())).bind λr2=>(bG .bool (r2.1.length:Nat) (r2.1.length:Nat)).bind λm3=>(Dj (r2.1,m3,[],(r2.1.length:Nat),0,())).bind (A9 (λz5=>some (z5.1,())) (λ_=>none)))
def Bk:Fn:=mkF { cx [qx,H8]with maps:=maps } [(7,Ds),(11,yE)] 39 Tryz.f39 [(.rd,ec)] [(.tmp 2,true,yQ3)] Zbl [lp 7 Ds Cr,lp 11 yE xJ] seat_ok af rfl
def xZ(x:Q57):Option (Q57⊕(Q40⊕Empty)):=
 let(a,b,c,d,e,f,g,h,i,k,l,_):=x;cond (ltI l k) ((aL i l).bind λy1=>(aL b (qP .i64 y1 2)).bind λy2=>(Zbu (y2,(Dv .i64 (n8 y1 2) 1),())).bind λr3=>(ay d.length r3.1).bind λj4=>(d[j4]?).bind λy5=>cond (!y5) ((ay d.length r3.1).bind λj6=>(d[j6]?).bind λy7=>(app e [r3.1]).bind λa8=>some (.inl (a,b,c,(d.set j6 true),a8,f,g,h,i,k,(ap .i64 l 1),()))) (some (.inl (a,b,c,d,e,f,g,h,i,k,(ap .i64 l 1),())))) (some (.inr (.inl (a,b,c,d,e,f,g,h,()))))
def wL:=aa xZ
def wP:Ann:=⟨sh [(1,.av (.ptr 1 0)),(3,.av (.own 3)),(4,.av (.val I)),(6,.av (.own 6)),(14,.av (.val I)),(15,.av (.val I)),(40,.av (.val (.slice I))),(41,.av (.val I)),(42,.av (.val I))] [(1,.box [.val I,.val (.slice yQ2),.val yQ3]),(3,.arr .bool),(6,.arr I)],[(.exit 4,sh [(1,.av (.ptr 1 0)),(3,.av (.own 3)),(4,.av (.val I)),(6,.av (.own 6)),(14,.av (.val I)),(15,.av (.val I))] [(1,.box [.val I,.val (.slice yQ2),.val yQ3]),(3,.arr .bool),(6,.arr I)])],wL⟩
def xz(x:Q40):Option (Q40⊕(Q24⊕Empty)):=
 let(a,b,c,d,e,f,g,h,_):=x;cond (gtI (e.length:Nat) 0) ((ay e.length 0).bind λj1=>(e[j1]?).bind λy2=>(aL c y2).bind λy3=>(wL (a,b,c,d,e,f,g,h,y3,(y3.length:Nat),0,())).bind (A9 (λ(a_5,b_5,c_5,d_5,e_5,f_5,g_5,h_5,_)=>(dF e_5.length 1 (e_5.length:Nat)).bind λv6=>some (.inl (a_5,b_5,c_5,d_5,((e_5.drop v6.1).take v6.2),f_5,g_5,h_5,()))) (λ_=>none))) (some (.inr (.inl (a,b,c,d,f,g,h,()))))
def xp:=aa xz
def wM:Ann:=⟨sh [(1,.av (.ptr 1 0)),(3,.av (.own 3)),(4,.av (.val I)),(6,.av (.own 6)),(14,.av (.val I)),(15,.av (.val I))] [(1,.box [.val I,.val (.slice yQ2),.val yQ3]),(3,.arr .bool),(6,.arr I)],[(.exit 2,sh [(1,.av (.ptr 1 0)),(3,.av (.own 3)),(4,.av (.val I)),(14,.av (.val I)),(15,.av (.val I))] [(1,.box [.val I,.val (.slice yQ2),.val yQ3]),(3,.arr .bool)])],xp⟩
def Ab(x:Q24):Option (Q24⊕((Int×Unit)⊕Empty)):=
 let(a,b,c,d,e,f,g,_):=x;cond (ltI g f) ((ay d.length g).bind λj1=>(d[j1]?).bind λy2=>cond y2 (some (.inl (a,b,c,d,e,f,(ap .i64 g 1),()))) ((ay d.length g).bind λj3=>(d[j3]?).bind λy4=>(xp (a,b,c,(d.set j3 true),[g],(ap .i64 e 1),f,g,())).bind (A9 (λ(a_6,b_6,c_6,d_6,e_6,f_6,g_6,_)=>some (.inl (a_6,b_6,c_6,d_6,e_6,f_6,(ap .i64 g_6 1),()))) (λ_=>none)))) (some (.inr (.inl (e,()))))
def CV:=aa Ab
def BT:Ann:=⟨sh [(1,.av (.ptr 1 0)),(3,.av (.own 3)),(4,.av (.val I)),(14,.av (.val I)),(15,.av (.val I))] [(1,.box [.val I,.val (.slice yQ2),.val yQ3]),(3,.arr .bool)],[(.exit 0,sh [(4,.av (.val I))] [])],CV⟩
def Zag(x:(Q14×Unit)):Option (Int×Unit):=
 let((a,b,c,_),_):=x;(bG .bool a a).bind λm1=>(CV (a,b,c,m1,0,a,0,())).bind (A9 (λz3=>some (z3.1,())) (λ_=>none))
def HL:Fn:=mkF { cx [Ai]with maps:=maps } [(4,BT),(10,wM),(13,wP)] 40 Tryz.f40 [(.rd,ec)] [(.tmp 2,true,I)] Zag [lp 4 BT Ab,lp 10 wM xz,lp 13 wP xZ] seat_ok af rfl
def CZ(x:Q30):Option (Q30⊕((Int×(List Q2)×(List (List Int))×Int×Unit)⊕Empty)):=
 let(a,b,c,d,e,f,g,_):=x;cond (ltI g f) ((aL e g).bind λy1=>cond (eqI (y1.length:Nat) 0) (some (.inl (a,b,c,(ap .i64 d 1),e,f,(ap .i64 g 1),()))) (some (.inl (a,b,c,d,e,f,(ap .i64 g 1),())))) (some (.inr (.inl (a,b,c,d,()))))
def CJ:=aa CZ
def Aj:Ann:=⟨sh [(1,.av (.ptr 1 0)),(3,.av (.val I)),(13,.av (.val yQ3)),(14,.av (.val I)),(15,.av (.val I))] [(1,.box [.val I,.val (.slice yQ2),.val yQ3])],[(.exit 0,sh [(1,.av (.ptr 1 0)),(3,.av (.val I))] [(1,.box [.val I,.val (.slice yQ2),.val yQ3])])],CJ⟩
def Zbm(x:(Q14×Unit)):Option (Int×Unit):=
 let((a,b,c,_),_):=x;(Zbh ((a,b,c,()),())).bind λr1=>cond (!r1.1) (some ((-1),())) ((Zbl ((a,b,c,()),())).bind λr2=>(CJ (a,b,c,(r2.1.length:Nat),c,(c.length:Nat),0,())).bind (A9 (λz4=>(Zag ((z4.1,z4.2.1,z4.2.2.1,()),())).bind λr5=>some ((dK .i64 r5.1 (qP .i64 (ap .i64 (dK .i64 z4.1 (z4.2.1.length:Nat)) z4.2.2.2.1) 2)),())) (λ_=>none)))
def Fm:Fn:=mkF { cx [qx,Bk,HL]with maps:=maps } [(5,Aj)] 25 Tryz.f25 [(.rd,ec)] [(.tmp 2,true,I)] Zbm [lp 5 Aj CZ] seat_ok af rfl
def yu(x:Q52):Option (Q52⊕(Q23⊕Empty)):=
 let(a,b,c,d,e,f,g,h,i,_):=x;cond (ltI i h) ((aL g i).bind λy1=>(aL b (qP .i64 y1 2)).bind λy2=>(ay e.length f).bind λj3=>(e[j3]?).bind λy4=>(ay d.length (dK .i64 (ap .i64 y2.1 y2.2.1) y4)).bind λj5=>(d[j5]?).bind λy6=>cond (!y6) ((ay d.length (dK .i64 (ap .i64 y2.1 y2.2.1) y4)).bind λj7=>(d[j7]?).bind λy8=>(app e [(dK .i64 (ap .i64 y2.1 y2.2.1) y4)]).bind λa9=>some (.inl (a,b,c,(d.set j7 true),a9,f,g,h,(ap .i64 i 1),()))) (some (.inl (a,b,c,d,e,f,g,h,(ap .i64 i 1),())))) (some (.inr (.inl (a,b,c,d,e,f,()))))
def wN:=aa yu
def x5:Ann:=⟨sh [(1,.av (.ptr 1 0)),(3,.av (.own 3)),(4,.av (.own 4)),(5,.av (.val I)),(32,.av (.val (.slice I))),(33,.av (.val I)),(34,.av (.val I))] [(1,.box [.val I,.val (.slice yQ2),.val yQ3]),(3,.arr .bool),(4,.arr I)],[(.exit 2,sh [(1,.av (.ptr 1 0)),(3,.av (.own 3)),(4,.av (.own 4)),(5,.av (.val I))] [(1,.box [.val I,.val (.slice yQ2),.val yQ3]),(3,.arr .bool),(4,.arr I)])],wN⟩
def AL(x:Q23):Option (Q23⊕((Int×(List Q2)×(List (List Int))×List Int×Unit)⊕Empty)):=
 let(a,b,c,d,e,f,_):=x;cond (ltI f (e.length:Nat)) ((ay e.length f).bind λj1=>(e[j1]?).bind λy2=>(aL c y2).bind λy3=>(wN (a,b,c,d,e,f,y3,(y3.length:Nat),0,())).bind (A9 (λ(a_5,b_5,c_5,d_5,e_5,f_5,_)=>some (.inl (a_5,b_5,c_5,d_5,e_5,(ap .i64 f_5 1),()))) (λ_=>none))) (some (.inr (.inl (a,b,c,e,()))))
def C4:=aa AL
def Bc:Ann:=⟨sh [(1,.av (.ptr 1 0)),(3,.av (.own 3)),(4,.av (.own 4)),(5,.av (.val I))] [(1,.box [.val I,.val (.slice yQ2),.val yQ3]),(3,.arr .bool),(4,.arr I)],[(.exit 0,sh [(1,.av (.ptr 1 0)),(4,.av (.own 4))] [(1,.box [.val I,.val (.slice yQ2),.val yQ3]),(4,.arr I)])],C4⟩
def Zbj(x:(Q14×Unit)):Option (Bool×Unit):=
 let((a,b,c,_),_):=x;cond (eqI a 0) (some (false,())) ((bG .bool a a).bind λm1=>(ay m1.length 0).bind λj2=>(m1[j2]?).bind λy3=>(C4 (a,b,c,(m1.set j2 true),[0],0,())).bind (A9 (λz5=>some ((eqI (z5.2.2.2.1.length:Nat) z5.1),())) (λ_=>none)))
def HW:Fn:=mkF { cx []with maps:=maps } [(7,Bc),(10,x5)] 82 Tryz.f82 [(.rd,ec)] [(.tmp 2,true,.bool)] Zbj [lp 7 Bc AL,lp 10 x5 yu] seat_ok af rfl
def Zcm(x:(Q14×Unit)):Option (Int×Unit):=
 let((a,b,c,_),_):=x;(Zbh ((a,b,c,()),())).bind λr1=>cond (!r1.1) (some (13,())) ((Zbm ((a,b,c,()),())).bind λr2=>cond (neI r2.1 0) (some (13,())) ((Zbj ((a,b,c,()),())).bind λr3=>cond (!r3.1) (some (12,())) (some (0,()))))
def H6:Fn:=mkF { cx [qx,Fm,HW]with maps:=maps } [] 51 Tryz.f51 [(.rd,ec)] [(.tmp 2,true,I)] Zcm [] seat_ok af rfl
def C7(x:Q29):Option (Q29⊕(Q17⊕Empty)):=
 let(a,b,c,d,e,f,g,h,_):=x;cond (ltI h g) ((aL f h).bind λy1=>(ay a.length y1).bind λj2=>(a[j2]?).bind λy3=>some (.inl ((a.set j2 c),b,c,d,e,f,g,(ap .i64 h 1),()))) (some (.inr (.inl (a,b,d,e,()))))
def An:=aa C7
def BC:Ann:=⟨sh [(4,.av (.own 4)),(5,.av (.own 5)),(6,.av (.val I)),(17,.av (.own 5)),(18,.av (.val I)),(19,.av (.val I)),(24,.av (.val (.slice I))),(25,.av (.val I)),(26,.av (.val I))] [(4,.arr I),(5,.arr (.slice I))],[(.exit 2,sh [(4,.av (.own 4)),(5,.av (.own 5)),(17,.av (.own 5)),(18,.av (.val I)),(19,.av (.val I))] [(4,.arr I),(5,.arr (.slice I))])],An⟩
def D1(x:Q17):Option (Q17⊕((List Int×(List (List Int))×Unit)⊕Empty)):=
 let(a,b,c,d,_):=x;cond (ltI d c) ((ay b.length d).bind λj1=>(b[j1]?).bind λy2=>(An (a,b,d,c,d,y2,(y2.length:Nat),0,())).bind (A9 (λz4=>some (.inl (z4.1,z4.2.1,z4.2.2.1,(ap .i64 z4.2.2.2.1 1),()))) (λ_=>none))) (some (.inr (.inl (a,b,()))))
def Cf:=aa D1
def C8:Ann:=⟨sh [(4,.av (.own 4)),(5,.av (.own 5)),(17,.av (.own 5)),(18,.av (.val I)),(19,.av (.val I))] [(4,.arr I),(5,.arr (.slice I))],[(.exit 0,sh [(4,.av (.own 4)),(5,.av (.own 5))] [(4,.arr I),(5,.arr (.slice I))])],Cf⟩
def Zbz(x:(Q14×Unit)):Option Q4:=
 let((a,b,c,_),_):=x;(bG I (dl .i64 2 (b.length:Nat)) (dl .i64 2 (b.length:Nat))).bind λm1=>(Zbl ((a,b,c,()),())).bind λr2=>(Cf (m1,r2.1,(r2.1.length:Nat),0,())).bind (A9 (λz4=>some (z4.1,(iU 1 (z4.2.1.length:Nat)),())) (λ_=>none))
def Ip:Fn:=mkF { cx [Bk]with maps:=maps } [(4,C8),(7,BC)] 52 Tryz.f52 [(.rd,ec)] [(.tmp 2,true,(.slice I)),(.tmp 3,true,I)] Zbz [lp 4 C8 D1,lp 7 BC C7] seat_ok af rfl
def Zao(x:Q1):Option Q1:=compactC.fn x
def H9:Fn:=⟨83,compactC,vK glob⟩
def AF(x:(List Int×List Int×List Int×Int×Int×Unit)):Option ((List Int×List Int×List Int×Int×Int×Unit)⊕(Q1⊕Empty)):=
 let(a,b,c,d,e,_):=x;cond (ltI e d) ((aL c e).bind λy1=>(aL b y1).bind λy2=>(app a [y2]).bind λa3=>some (.inl (a3,b,c,d,(ap .i64 e 1),()))) (some (.inr (.inl (a,()))))
def Cu:=aa AF
def CD:Ann:=⟨sh [(1,.av (.val (.slice I))),(7,.av (.own 7)),(14,.av (.val (.slice I))),(15,.av (.val I)),(16,.av (.val I))] [(7,.arr I)],[(.exit 0,sh [(7,.av (.own 7))] [(7,.arr I)])],Cu⟩
def Zch(x:(Q14×List Int×Int×Unit)):Option Q1:=
 (aL x.1.2.2.1 x.2.2.1).bind λy1=>(Cu ([],x.2.1,y1,(y1.length:Nat),0,())).bind (A9 (λz3=>cond (eqI (z3.1.length:Nat) 0) ((Zbb ([0],())).bind λr4=>(Zao (r4.1,())).bind λr5=>some (r5.1,())) ((Zbb (z3.1,())).bind λr6=>(Zao (r6.1,())).bind λr7=>some (r7.1,()))) (λ_=>none))
def HE:Fn:=mkF { cx [wT,H9]with maps:=maps } [(3,CD)] 54 Tryz.f54 [(.rd,ec),(.rd,(.slice I)),(.rd,I)] [(.tmp 6,true,(.slice I))] Zch [lp 3 CD AF] seat_ok af rfl
def yH(x:Q56):Option (Q56⊕(Q50⊕Empty)):=
 let(a,b,c,d,e,f,g,h,i,k,l,_):=x;cond (leI i (ap .i64 (dl .i64 2 h) 1)) ((aL f (Dv .i64 i 1)).bind λy1=>(aL f i).bind λy2=>cond (eqI y2 g) ((ay d.length y1).bind λj3=>(d[j3]?).bind λy4=>cond (ltI y4 0) ((ay d.length g).bind λj5=>(d[j5]?).bind λy6=>(ay d.length y1).bind λj7=>(d[j7]?).bind λy8=>(app e [y1]).bind λa9=>some (.inl (a,b,c,(d.set j7 (ap .i64 y6 1)),a9,f,g,h,(ap .i64 i 1),k,l,()))) (some (.inl (a,b,c,d,e,f,g,h,(ap .i64 i 1),k,l,())))) (some (.inl (a,b,c,d,e,f,g,h,(ap .i64 i 1),k,l,())))) (some (.inr (.inl (a,b,c,d,e,f,g,k,l,()))))
def wF:=aa yH
def yD:Ann:=⟨sh [(1,.av (.val (.slice I))),(4,.av (.ptr 4 0)),(9,.av (.own 9)),(11,.av (.own 11)),(14,.av (.val I)),(15,.av (.val I)),(16,.av (.val I)),(51,.av (.val I)),(52,.av (.val I))] [(4,.box [.val I,.val (.slice yQ2),.val yQ3]),(9,.arr I),(11,.arr I)],[(.exit 8,sh [(1,.av (.val (.slice I))),(4,.av (.ptr 4 0)),(9,.av (.own 9)),(11,.av (.own 11)),(14,.av (.val I)),(51,.av (.val I)),(52,.av (.val I))] [(4,.box [.val I,.val (.slice yQ2),.val yQ3]),(9,.arr I),(11,.arr I)])],wF⟩
def x7(x:Q50):Option (Q50⊕(Q27⊕Empty)):=
 let(a,b,c,d,e,f,g,h,i,_):=x;cond (ltI i h) ((wF (a,b,c,d,e,f,g,i,(dl .i64 2 i),h,i,())).bind (A9 (λ(a_2,b_2,c_2,d_2,e_2,f_2,g_2,h_2,i_2,_)=>some (.inl (a_2,b_2,c_2,d_2,e_2,f_2,g_2,h_2,(ap .i64 i_2 1),()))) (λ_=>none))) (some (.inr (.inl (a,b,c,d,e,f,()))))
def xO:=aa x7
def yC:Ann:=⟨sh [(1,.av (.val (.slice I))),(4,.av (.ptr 4 0)),(9,.av (.own 9)),(11,.av (.own 11)),(14,.av (.val I)),(51,.av (.val I)),(52,.av (.val I))] [(4,.box [.val I,.val (.slice yQ2),.val yQ3]),(9,.arr I),(11,.arr I)],[(.exit 6,sh [(1,.av (.val (.slice I))),(4,.av (.ptr 4 0)),(9,.av (.own 9)),(11,.av (.own 11))] [(4,.box [.val I,.val (.slice yQ2),.val yQ3]),(9,.arr I),(11,.arr I)])],xO⟩
def xG(x:Q27):Option (Q27⊕(Q1⊕Empty)):=
 let(a,b,c,d,e,f,_):=x;cond (gtI (e.length:Nat) 0) ((ay e.length 0).bind λj1=>(e[j1]?).bind λy2=>(xO (a,b,c,d,e,f,y2,(b.length:Nat),0,())).bind (A9 (λ(a_4,b_4,c_4,d_4,e_4,f_4,_)=>(dF e_4.length 1 (e_4.length:Nat)).bind λv5=>some (.inl (a_4,b_4,c_4,d_4,((e_4.drop v5.1).take v5.2),f_4,()))) (λ_=>none))) (some (.inr (.inl (d,()))))
def yj:=aa xG
def wQ:Ann:=⟨sh [(1,.av (.val (.slice I))),(4,.av (.ptr 4 0)),(9,.av (.own 9)),(11,.av (.own 11))] [(4,.box [.val I,.val (.slice yQ2),.val yQ3]),(9,.arr I),(11,.arr I)],[(.exit 4,sh [(9,.av (.own 9))] [(9,.arr I)])],yj⟩
def CU(x:Q53):Option (Q53⊕(Q27⊕Empty)):=
 let(a,b,c,d,e,f,g,h,i,_):=x;cond (ltI i h) ((aL g i).bind λy1=>(ay d.length y1).bind λj2=>(d[j2]?).bind λy3=>some (.inl (a,b,c,(d.set j2 0),e,f,g,h,(ap .i64 i 1),()))) (some (.inr (.inl (a,b,c,d,e,f,()))))
def Cg:=aa CU
def DP:Ann:=⟨sh [(1,.av (.val (.slice I))),(4,.av (.ptr 4 0)),(9,.av (.own 9)),(11,.av (.own 11)),(31,.av (.val (.slice I))),(32,.av (.val I)),(33,.av (.val I))] [(4,.box [.val I,.val (.slice yQ2),.val yQ3]),(9,.arr I),(11,.arr I)],[(.exit 2,sh [(1,.av (.val (.slice I))),(4,.av (.ptr 4 0)),(9,.av (.own 9)),(11,.av (.own 11))] [(4,.box [.val I,.val (.slice yQ2),.val yQ3]),(9,.arr I),(11,.arr I)])],Cg⟩
def Cd(x:Q42):Option (Q42⊕(Q27⊕Empty)):=
 let(a,b,c,d,e,f,g,h,_):=x;cond (ltI h g) ((ay d.length h).bind λj1=>(d[j1]?).bind λy2=>some (.inl (a,b,c,(d.set j1 (-1)),e,f,g,(ap .i64 h 1),()))) (some (.inr (.inl (a,b,c,d,e,f,()))))
def Ef:=aa Cd
def CP:Ann:=⟨sh [(1,.av (.val (.slice I))),(3,.av (.val (.slice I))),(4,.av (.ptr 4 0)),(9,.av (.own 9)),(21,.av (.val I)),(22,.av (.val I))] [(4,.box [.val I,.val (.slice yQ2),.val yQ3]),(9,.arr I)],[(.exit 0,sh [(1,.av (.val (.slice I))),(3,.av (.val (.slice I))),(4,.av (.ptr 4 0)),(9,.av (.own 9))] [(4,.box [.val I,.val (.slice yQ2),.val yQ3]),(9,.arr I)])],Ef⟩
def Zbn(x:(Q14×List Int×Int×List Int×Unit)):Option Q1:=
 let((a,b,c,_),d,e,f,_):=x;(bG I e e).bind λm1=>(Ef (a,b,c,m1,d,f,(m1.length:Nat),0,())).bind (A9 (λ(a_3,b_3,c_3,d_3,e_3,f_3,_)=>(Zaz (f_3,())).bind λr4=>(Cg (a_3,b_3,c_3,d_3,r4.1,e_3,f_3,(f_3.length:Nat),0,())).bind (A9 (λ(a_6,b_6,c_6,d_6,e_6,f_6,_)=>(yj (a_6,b_6,c_6,d_6,e_6,f_6,())).bind (A9 (λz8=>some (z8.1,())) (λ_=>none))) (λ_=>none))) (λ_=>none))
def HO:Fn:=mkF { cx [Zaz_h]with maps:=maps } [(3,CP),(9,DP),(13,wQ),(17,yC),(20,yD)] 53 Tryz.f53 [(.rd,ec),(.rd,(.slice I)),(.rd,I),(.rd,(.slice I))] [(.tmp 8,true,(.slice I))] Zbn [lp 3 CP Cd,lp 9 DP CU,lp 13 wQ xG,lp 17 yC x7,lp 20 yD yH] seat_ok af rfl
def Zcf(x:(Int×Int×List Int×Unit)):Option (Int×Unit):=
 let(a,b,c,_):=x;(aL c a).bind λy1=>(aL c b).bind λy2=>some ((dK .i64 y1 y2),())
def ID:Fn:=mkF { cx []with maps:=maps } [] 56 Tryz.f56 [(.rd,I),(.rd,I),(.rd,(.ptr (.slice I)))] [(.tmp 5,true,I)] Zcf [] seat_ok af rfl
def FM(x:Q10):Option (Q10⊕((Int×Unit)⊕Empty)):=
 let(a,b,c,d,_):=x;cond (ltI d (a.length:Nat)) ((aL a d).bind λy1=>(Zcf (y1,c,b.1,())).bind λr2=>cond (ltI r2.1 0) ((aL a d).bind λy3=>some (.inl (a,b,y3,(ap .i64 d 1),()))) (some (.inl (a,b,c,(ap .i64 d 1),())))) (some (.inr (.inl (c,()))))
def F5:=aa FM
def FV:Ann:=⟨sh [(0,.av (.val (.slice I))),(1,.av (.val (.clo 56 ud))),(5,.av (.val I)),(6,.av (.val I))] [],[(.exit 0,sh [(5,.av (.val I))] [])],F5⟩
def Zl(x:(List Int×Q1×Unit)):Option (Int×Unit):=
 cond (ltI (x.1.length:Nat) 1) (none) ((aL x.1 0).bind λy1=>(F5 (x.1,x.2.1,y1,1,())).bind (A9 (λz3=>some (z3.1,())) (λ_=>none)))
def I0:Fn:=mkF { cx [ID]with maps:=maps } [(5,FV)] 55 Tryz.f55 [(.rd,(.slice I)),(.rd,(.clo 56 ud))] [(.tmp 4,true,I)] Zl [lp 5 FV FM] seat_ok af rfl
def Zcd(x:(Int×List Int×Int×Unit)):Option (Bool×Unit):=
 (aL x.2.1 x.1).bind λy1=>some ((neI y1 x.2.2.1),())
def F4:Fn:=mkF { cx []with maps:=maps } [] 58 Tryz.f58 [(.rd,I),(.rd,(.ptr (.slice I))),(.rd,(.ptr I))] [(.tmp 4,true,.bool)] Zcd [] seat_ok af rfl
def FT(x:Q11):Option (Q11⊕((Int×Unit)⊕(Unit⊕Empty))):=
 let(a,b,c,d,_):=x;cond (ltI d c) ((aL a d).bind λy1=>(Zcd (y1,b.1,b.2.1,())).bind λr2=>cond r2.1 (some (.inr (.inl (d,())))) (some (.inl (a,b,c,(ap .i64 d 1),())))) (some (.inr (.inr (.inl ()))))
def F8:=aa FT
def FE:Ann:=⟨sh [(0,.av (.val (.slice I))),(1,.av (.val (.clo 58 sS))),(7,.av (.val I)),(8,.av (.val I))] [],[(.ret,sh [(4,.av (.val I))] []),(.exit 0,sh [] [])],F8⟩
def Zk(x:Q5):Option (Int×Unit):=
 (F8 (x.1,x.2.1,(x.1.length:Nat),0,())).bind (A9 (λz2=>some (z2.1,())) (A9 (λz3=>some ((-1),())) (λ_=>none)))
def I9:Fn:=mkF { cx [F4]with maps:=maps } [(2,FE)] 84 Tryz.f84 [(.rd,(.slice I)),(.rd,(.clo 58 sS))] [(.tmp 4,true,I)] Zk [lp 2 FE FT] seat_ok af rfl
def FF(x:Q11):Option (Q11⊕(Q4⊕Empty)):=
 let(a,b,c,d,_):=x;cond (ltI d (a.length:Nat)) ((ay a.length d).bind λj1=>(a[j1]?).bind λy2=>(Zcd (y2,b.1,b.2.1,())).bind λr3=>cond (!r3.1) ((ay a.length c).bind λj4=>(a[j4]?).bind λy5=>some (.inl ((a.set j4 y2),b,(ap .i64 c 1),(ap .i64 d 1),()))) (some (.inl (a,b,c,(ap .i64 d 1),())))) (some (.inr (.inl (a,c,()))))
def FL:=aa FF
def Gb:Ann:=⟨sh [(0,.av (.own 0)),(1,.av (.val (.clo 58 sS))),(5,.av (.val I)),(6,.av (.val I))] [(0,.arr I)],[(.exit 0,sh [(0,.av (.own 0)),(5,.av (.val I))] [(0,.arr I)])],FL⟩
def Zj(x:Q5):Option Q1:=
 (Zk (x.1,x.2.1,())).bind λr1=>cond (eqI r1.1 (-1)) (some (x.1,())) ((FL (x.1,x.2.1,r1.1,(ap .i64 r1.1 1),())).bind (A9 (λz3=>(dF z3.1.length z3.2.1 (z3.1.length:Nat)).bind λv4=>cond (JK (v4.1+v4.2) z3.1.length&&JK 1 v4.2) ((dF (fw I z3.1 v4.1 v4.2).length 0 z3.2.1).bind λv5=>some ((((fw I z3.1 v4.1 v4.2).drop v5.1).take v5.2),())) none) (λ_=>none)))
def IY:Fn:=mkF { cx [F4,I9]with maps:=maps } [(5,Gb)] 57 Tryz.f57 [(.take,(.slice I)),(.rd,(.clo 58 sS))] [(.tmp 4,true,(.slice I))] Zj [lp 5 Gb FF] seat_ok af rfl
def DA(x:(List Int×List Int×List Int×Int×Int×Int×Int×Int×Unit)):Option ((List Int×List Int×List Int×Int×Int×Int×Int×Int×Unit)⊕(Q2⊕(Q19⊕Empty))):=
 let(a,b,c,d,e,f,g,h,_):=x;cond (leI f (ap .i64 (dl .i64 2 e) 1)) ((aL a f).bind λy1=>(aL a (Dv .i64 f 1)).bind λy2=>(Zae (c,y1,())).bind λr3=>cond r3.1 ((aL b y1).bind λy4=>(aL b y2).bind λy5=>cond ((eqI y4 d)&&((eqI y5 (dK .i64 d 1))&&true)) (some (.inr (.inl (e,y2,())))) (some (.inl (a,b,c,d,e,(ap .i64 f 1),g,h,())))) (some (.inl (a,b,c,d,e,(ap .i64 f 1),g,h,())))) (some (.inr (.inr (.inl (a,b,c,d,g,h,())))))
def AZ:=aa DA
def BL:Ann:=⟨sh [(1,.av (.val (.slice I))),(2,.av (.val (.slice I))),(3,.av (.val (.slice I))),(4,.av (.val I)),(12,.av (.val I)),(13,.av (.val I)),(18,.av (.val I)),(19,.av (.val I))] [],[(.ret,sh [(10,.av (.val I)),(11,.av (.val I))] []),(.exit 2,sh [(1,.av (.val (.slice I))),(2,.av (.val (.slice I))),(3,.av (.val (.slice I))),(4,.av (.val I)),(18,.av (.val I)),(19,.av (.val I))] [])],AZ⟩
def Bh(x:Q19):Option (Q19⊕(Q2⊕(Unit⊕Empty))):=
 let(a,b,c,d,e,f,_):=x;cond (ltI f e) ((AZ (a,b,c,d,f,(dl .i64 2 f),e,f,())).bind (A9 (λz2=>some (.inr (.inl (z2.1,z2.2.1,())))) (A9 (λ(a_3,b_3,c_3,d_3,e_3,f_3,_)=>some (.inl (a_3,b_3,c_3,d_3,e_3,(ap .i64 f_3 1),()))) (λ_=>none)))) (some (.inr (.inr (.inl ()))))
def Bq:=aa Bh
def Dd:Ann:=⟨sh [(1,.av (.val (.slice I))),(2,.av (.val (.slice I))),(3,.av (.val (.slice I))),(4,.av (.val I)),(18,.av (.val I)),(19,.av (.val I))] [],[(.ret,sh [(10,.av (.val I)),(11,.av (.val I))] []),(.exit 0,sh [] [])],Bq⟩
def Zcn(x:(Q14×List Int×List Int×List Int×Int×Unit)):Option Q2:=
 let((_,a,_),b,c,d,e,_):=x;(Bq (b,c,d,e,(a.length:Nat),0,())).bind (A9 (λz2=>some (z2.1,z2.2.1,())) (A9 (λz3=>some ((-1),0,())) (λ_=>none)))
def HV:Fn:=mkF { cx [pM]with maps:=maps } [(2,Dd),(5,BL)] 59 Tryz.f59 [(.rd,ec),(.rd,(.slice I)),(.rd,(.slice I)),(.rd,(.slice I)),(.rd,I)] [(.tmp 10,true,I),(.tmp 11,true,I)] Zcn [lp 2 Dd Bh,lp 5 BL DA] seat_ok af rfl
def wy(x:Q49):Option (Q49⊕(Q1⊕Empty)):=
 let(a,b,c,d,e,f,g,h,_):=x;cond (gtI f 0) ((Zcn ((a,b,c,()),d,h,e,f,())).bind λr1=>(app g [r1.1]).bind λa2=>some (.inl (a,b,c,d,[r1.2.1],(dK .i64 f 1),a2,h,()))) (some (.inr (.inl (g,()))))
def wW:=aa wy
def xh:Ann:=⟨sh [(3,.av (.ptr 3 0)),(9,.av (.own 9)),(11,.av (.ptr 11 0)),(12,.av (.own 12)),(13,.av (.ptr 13 0)),(14,.av (.own 14))] [(3,.box [.val I,.val (.slice yQ2),.val yQ3]),(9,.arr I),(11,.box [.own 1200000]),(12,.arr I),(13,.box [.val I]),(14,.arr I),(1200000,.arr I)],[(.exit 0,sh [(14,.av (.own 14))] [(14,.arr I)])],wW⟩
def Zcl(x:(Q14×Int×Int×Unit)):Option Q4:=
 let((a,b,c,_),d,e,_):=x;(Zcm ((a,b,c,()),())).bind λr1=>cond (neI r1.1 0) (some ([],r1.1,())) (cond (ltI d 0) (some ([],3,())) (cond (geI d a) (some ([],3,())) (cond (ltI e 0) (some ([],3,())) (cond (geI e a) (some ([],3,())) (cond (eqI d e) (some ([],0,())) ((Zbz ((a,b,c,()),())).bind λr2=>(Zch ((a,b,c,()),r2.1,e,())).bind λr3=>(Zbn ((a,b,c,()),r2.1,r2.2.1,r3.1,())).bind λr4=>(Zch ((a,b,c,()),r2.1,d,())).bind λr5=>(Zl (r5.1,(r4.1,()),())).bind λr6=>(ay r4.1.length r6.1).bind λj7=>(r4.1[j7]?).bind λy8=>(Zj (r5.1,(r4.1,y8,()),())).bind λr9=>(wW (a,b,c,r2.1,r9.1,y8,[],r4.1,())).bind (A9 (λz11=>some (z11.1,0,())) (λ_=>none))))))))
def Ig:Fn:=mkF { cx [H6,Ip,HO,HE,I0,IY,HV]with maps:=maps } [(14,xh)] 35 Tryz.f35 [(.rd,ec),(.rd,I),(.rd,I)] [(.tmp 6,true,(.slice I)),(.tmp 7,true,I)] Zcl [lp 14 xh wy] seat_ok af rfl
def Ci(x:Q31):Option (Q31⊕((Int×Int×(List Q2)×(List (List Int))×Unit)⊕Empty)):=
 let(a,b,c,d,e,f,g,_):=x;cond (ltI g f) ((aL e g).bind λy1=>(Zaz (y1,())).bind λr2=>(app d [r2.1]).bind λa3=>some (.inl (a,b,c,a3,e,f,(ap .i64 g 1),()))) (some (.inr (.inl (a,b,c,d,()))))
def Do:=aa Ci
def Cq:Ann:=⟨sh [(2,.av (.ptr 2 0)),(3,.av (.ptr 3 0)),(13,.av (.val yQ3)),(14,.av (.val I)),(15,.av (.val I))] [(2,.box [.val I,.nils,.nils]),(3,.box [.val I,.own 400001,.ownd 400002]),(400001,.arr yQ2),(400002,.deep I)],[(.exit 0,sh [(2,.av (.ptr 2 0)),(3,.av (.ptr 3 0))] [(2,.box [.val I,.nils,.nils]),(3,.box [.val I,.own 400001,.ownd 400002]),(400001,.arr yQ2),(400002,.deep I)])],Do⟩
def Zbp(x:(Q14×Unit)):Option (Q14×Unit):=
 let((a,b,c,_),_):=x;(Zaw (b,())).bind λr1=>(Do (0,a,r1.1,[],c,(c.length:Nat),0,())).bind (A9 (λz3=>some ((z3.2.1,z3.2.2.1,z3.2.2.2.1,()),())) (λ_=>none))
def Fp:Fn:=mkF { cx [Zaz_h,Zaw_h]with deep:=[23],maps:=maps } [(3,Cq)] 60 Tryz.f60 [(.rd,ec)] [(.cell 2 30,true,ec)] Zbp [lp 3 Cq Ci] seat_ok af rfl (d:=true)
def Zce(x:Q15):Option Q15:=
 let((a,b,c,_),d,_):=x;(Zbh ((a,b,c,()),())).bind λr1=>cond (!r1.1) (some ((0,[],[],()),13,())) (cond (ltI d 0) (some ((0,[],[],()),3,())) (cond (geI d (b.length:Nat)) (some ((0,[],[],()),3,())) (cond (geI a 16384) (some ((0,[],[],()),2,())) (cond (geI (b.length:Nat) 32768) (some ((0,[],[],()),2,())) ((Zbp ((a,b,c,()),())).bind λr2=>(aL b d).bind λy3=>(ay r2.1.2.1.length d).bind λj4=>(r2.1.2.1[j4]?).bind λy5=>(app (r2.1.2.1.set j4 (y5.1,a,y5.2.2)) [(a,y3.2.1,())]).bind λa6=>(ay r2.1.2.2.1.length y3.2.1).bind λj7=>(Zba ((aJ r2.1.2.2.1 j7),(ap .i64 (dl .i64 2 d) 1),())).bind λr8=>(ay (aJ r2.1.2.2.1 j7).length r8.1).bind λj9=>(app (r2.1.2.2.1.set j7 ((aJ r2.1.2.2.1 j7).set j9 (ap .i64 (dl .i64 2 (b.length:Nat)) 1))) [[(ap .i64 (dl .i64 2 d) 1),(dl .i64 2 (b.length:Nat))]]).bind λa10=>some (((ap .i64 r2.1.1 1),a6,a10,()),0,()))))))
def HT:Fn:=mkF { cx [qx,uQ,Fp]with deep:=[87],maps:=maps } [] 36 Tryz.f36 [(.rd,ec),(.rd,I)] [(.cell 4 30,true,ec),(.tmp 5,true,I)] Zce [] seat_ok af rfl (d:=true)
def Df(x:Q29):Option (Q29⊕(Q17⊕Empty)):=
 let(a,b,c,d,e,f,g,h,_):=x;cond (ltI h g) ((aL f h).bind λy1=>(ay a.length y1).bind λj2=>(a[j2]?).bind λy3=>some (.inl ((a.set j2 c),b,c,d,e,f,g,(ap .i64 h 1),()))) (some (.inr (.inl (a,b,d,e,()))))
def CR:=aa Df
def C6:Ann:=⟨sh [(3,.av (.own 3)),(4,.av (.val I)),(14,.av (.own 14)),(15,.av (.val I)),(16,.av (.val I)),(21,.av (.val (.slice I))),(22,.av (.val I)),(23,.av (.val I))] [(3,.arr I),(14,.arr (.slice I))],[(.exit 2,sh [(3,.av (.own 3)),(14,.av (.own 14)),(15,.av (.val I)),(16,.av (.val I))] [(3,.arr I),(14,.arr (.slice I))])],CR⟩
def CL(x:Q17):Option (Q17⊕(Q1⊕Empty)):=
 let(a,b,c,d,_):=x;cond (ltI d c) ((ay b.length d).bind λj1=>(b[j1]?).bind λy2=>(CR (a,b,d,c,d,y2,(y2.length:Nat),0,())).bind (A9 (λz4=>some (.inl (z4.1,z4.2.1,z4.2.2.1,(ap .i64 z4.2.2.2.1 1),()))) (λ_=>none))) (some (.inr (.inl (a,()))))
def BW:=aa CL
def AS:Ann:=⟨sh [(3,.av (.own 3)),(14,.av (.own 14)),(15,.av (.val I)),(16,.av (.val I))] [(3,.arr I),(14,.arr (.slice I))],[(.exit 0,sh [(3,.av (.own 3))] [(3,.arr I)])],BW⟩
def Zby(x:(Q14×Unit)):Option Q1:=
 let((a,b,c,_),_):=x;(bG I (dl .i64 2 (b.length:Nat)) (dl .i64 2 (b.length:Nat))).bind λm1=>(Zbl ((a,b,c,()),())).bind λr2=>(BW (m1,r2.1,(r2.1.length:Nat),0,())).bind (A9 (λz4=>some (z4.1,())) (λ_=>none))
def FY:Fn:=mkF { cx [Bk]with maps:=maps } [(3,AS),(6,C6)] 61 Tryz.f61 [(.rd,ec)] [(.tmp 2,true,(.slice I))] Zby [lp 3 AS CL,lp 6 C6 Df] seat_ok af rfl
def Zbg(x:(Int×List Int×Int×Unit)):Option (Bool×Unit):=
 (aL x.2.1 x.1).bind λy1=>(aL x.2.1 x.2.2.1).bind λy2=>some ((eqI y1 y2),())
def HD:Fn:=mkF { cx []with maps:=maps } [] 65 Tryz.f65 [(.rd,I),(.rd,(.ptr (.slice I))),(.rd,(.ptr I))] [(.tmp 4,true,.bool)] Zbg [] seat_ok af rfl
def FS(x:Q11):Option (Q11⊕((Int×Unit)⊕(Unit⊕Empty))):=
 let(a,b,c,d,_):=x;cond (ltI d c) ((aL a d).bind λy1=>(Zbg (y1,b.1,b.2.1,())).bind λr2=>cond r2.1 (some (.inr (.inl (d,())))) (some (.inl (a,b,c,(ap .i64 d 1),())))) (some (.inr (.inr (.inl ()))))
def FP:=aa FS
def FQ:Ann:=⟨sh [(0,.av (.val (.slice I))),(1,.av (.val (.clo 65 sS))),(7,.av (.val I)),(8,.av (.val I))] [],[(.ret,sh [(4,.av (.val I))] []),(.exit 0,sh [] [])],FP⟩
def Zi(x:Q5):Option (Int×Unit):=
 (FP (x.1,x.2.1,(x.1.length:Nat),0,())).bind (A9 (λz2=>some (z2.1,())) (A9 (λz3=>some ((-1),())) (λ_=>none)))
def I3:Fn:=mkF { cx [HD]with maps:=maps } [(2,FQ)] 84 Tryz.f84 [(.rd,(.slice I)),(.rd,(.clo 65 sS))] [(.tmp 4,true,I)] Zi [lp 2 FQ FS] seat_ok af rfl
def Zh(x:Q5):Option (Bool×Unit):=
 (Zi (x.1,x.2.1,())).bind λr1=>some ((geI r1.1 0),())
def IG:Fn:=mkF { cx [I3]with maps:=maps } [] 64 Tryz.f64 [(.rd,(.slice I)),(.rd,(.clo 65 sS))] [(.tmp 4,true,.bool)] Zh [] seat_ok af rfl
def Zbs(x:(Int×Q14×Int×List Int×Unit)):Option (Bool×Unit):=
 (aL x.2.1.2.2.1 x.2.2.1).bind λy1=>(Zh (y1,(x.2.2.2.1,x.1,()),())).bind λr2=>some (r2.1,())
def H5:Fn:=mkF { cx [IG]with maps:=maps } [] 63 Tryz.f63 [(.rd,I),(.rd,(.ptr ec)),(.rd,(.ptr I)),(.rd,(.ptr (.slice I)))] [(.tmp 5,true,.bool)] Zbs [] seat_ok af rfl
def FI(x:((Q14×Int×List Int×Unit)×Int×List Int×Int×Int×Unit)):Option (((Q14×Int×List Int×Unit)×Int×List Int×Int×Int×Unit)⊕((Int×Unit)⊕Empty)):=
 let(a,b,c,d,e,_):=x;cond (ltI e d) ((aL c e).bind λy1=>(Zbs (y1,a.1,a.2.1,a.2.2.1,())).bind λr2=>cond r2.1 (cond (ltI b 0) (some (.inl (a,y1,c,d,(ap .i64 e 1),()))) (cond (ltI y1 b) (some (.inl (a,y1,c,d,(ap .i64 e 1),()))) (some (.inl (a,b,c,d,(ap .i64 e 1),()))))) (some (.inl (a,b,c,d,(ap .i64 e 1),())))) (some (.inr (.inl (b,()))))
def FZ:=aa FI
def Fz:Ann:=⟨sh [(1,.av (.val (.clo 63 (.prod (.ptr ec) (.prod (.ptr I) ud))))),(5,.av (.val I)),(8,.av (.val (.slice I))),(9,.av (.val I)),(10,.av (.val I))] [],[(.exit 0,sh [(5,.av (.val I))] [])],FZ⟩
def Zm(x:(List Int×(Q14×Int×List Int×Unit)×Unit)):Option (Int×Unit):=
 (FZ (x.2.1,(-1),x.1,(x.1.length:Nat),0,())).bind (A9 (λz2=>some (z2.1,())) (λ_=>none))
def IV:Fn:=mkF { cx [H5]with maps:=maps } [(3,Fz)] 62 Tryz.f62 [(.rd,(.slice I)),(.rd,(.clo 63 (.prod (.ptr ec) (.prod (.ptr I) ud))))] [(.tmp 4,true,I)] Zm [lp 3 Fz FI] seat_ok af rfl
def Zbt(x:(Int×List Int×Int×Unit)):Option (Bool×Unit):=
 (aL x.2.1 x.1).bind λy1=>(aL x.2.1 x.2.2.1).bind λy2=>some ((eqI y1 y2),())
def HJ:Fn:=mkF { cx []with maps:=maps } [] 67 Tryz.f67 [(.rd,I),(.rd,(.ptr (.slice I))),(.rd,(.ptr I))] [(.tmp 4,true,.bool)] Zbt [] seat_ok af rfl
def Gg(x:(Q4×Int×List Int×Int×Int×Unit)):Option ((Q4×Int×List Int×Int×Int×Unit)⊕((Int×Unit)⊕Empty)):=
 let(a,b,c,d,e,_):=x;cond (ltI e d) ((aL c e).bind λy1=>(Zbt (y1,a.1,a.2.1,())).bind λr2=>cond r2.1 (cond (ltI b 0) (some (.inl (a,y1,c,d,(ap .i64 e 1),()))) (cond (ltI y1 b) (some (.inl (a,y1,c,d,(ap .i64 e 1),()))) (some (.inl (a,b,c,d,(ap .i64 e 1),()))))) (some (.inl (a,b,c,d,(ap .i64 e 1),())))) (some (.inr (.inl (b,()))))
def Gh:=aa Gg
def FR:Ann:=⟨sh [(1,.av (.val (.clo 67 sS))),(5,.av (.val I)),(8,.av (.val (.slice I))),(9,.av (.val I)),(10,.av (.val I))] [],[(.exit 0,sh [(5,.av (.val I))] [])],Gh⟩
def Zn(x:Q5):Option (Int×Unit):=
 (Gh (x.2.1,(-1),x.1,(x.1.length:Nat),0,())).bind (A9 (λz2=>some (z2.1,())) (λ_=>none))
def II:Fn:=mkF { cx [HJ]with maps:=maps } [(3,FR)] 62 Tryz.f62 [(.rd,(.slice I)),(.rd,(.clo 67 sS))] [(.tmp 4,true,I)] Zn [lp 3 FR Gg] seat_ok af rfl
def Zbr(x:Q15):Option (Int×Unit):=
 let((a,b,c,_),d,_):=x;(Zbh ((a,b,c,()),())).bind λr1=>cond (!r1.1) (some ((-1),())) (cond (ltI d 0) (some ((-1),())) (cond (geI d (dl .i64 2 (b.length:Nat))) (some ((-1),())) ((aL b (qP .i64 d 2)).bind λy2=>(Zbu (y2,(n8 d 2),())).bind λr3=>some (r3.1,()))))
def HA:Fn:=mkF { cx [qx,Ai]with maps:=maps } [] 85 Tryz.f85 [(.rd,ec),(.rd,I)] [(.tmp 4,true,I)] Zbr [] seat_ok af rfl
def Zau(x:(List Int×Int×List Int×Unit)):Option Q1:=insertC.fn x
def Hy:Fn:=⟨110,insertC,zu glob⟩
def Zbq(x:(List Int×Int×Int×Unit)):Option Q1:=
 (Zba (x.1,x.2.2.1,())).bind λr1=>(Zau (x.1,r1.1,[x.2.1],())).bind λr2=>some (r2.1,())
def HK:Fn:=mkF { cx [uQ,Hy]with maps:=maps } [] 86 Tryz.f86 [(.take,(.slice I)),(.rd,I),(.rd,I)] [(.tmp 6,true,(.slice I))] Zbq [] seat_ok af rfl
def Zci(x:(Q14×Int×Int×Unit)):Option Q15:=
 let((a,b,c,_),d,e,_):=x;(Zbh ((a,b,c,()),())).bind λr1=>cond (!r1.1) (some ((0,[],[],()),13,())) (cond (ltI (de d e) 0) (some ((0,[],[],()),3,())) (cond (geI (iU d e) (dl .i64 2 (b.length:Nat))) (some ((0,[],[],()),3,())) ((Zbr ((a,b,c,()),d,())).bind λr2=>(Zbr ((a,b,c,()),e,())).bind λr3=>cond (eqI r2.1 r3.1) (some ((0,[],[],()),8,())) ((Zby ((a,b,c,()),())).bind λr4=>(ay r4.1.length d).bind λj5=>(r4.1[j5]?).bind λy6=>(ay r4.1.length e).bind λj7=>(r4.1[j7]?).bind λy8=>cond (neI y6 y8) (some ((0,[],[],()),15,())) (cond (geI (b.length:Nat) 32768) (some ((0,[],[],()),2,())) ((Zbp ((a,b,c,()),())).bind λr9=>(app r9.1.2.1 [(r2.1,r3.1,())]).bind λa10=>(ay r9.1.2.2.1.length r2.1).bind λj11=>(Zbq ((aJ r9.1.2.2.1 j11),(dl .i64 2 (b.length:Nat)),d,())).bind λr12=>(ay r9.1.2.2.1.length r2.1).bind λj13=>if j11=j13 then(ay (r9.1.2.2.1.set j13 r12.1).length r3.1).bind λj14=>(Zbq ((aJ (r9.1.2.2.1.set j13 r12.1) j14),(ap .i64 (dl .i64 2 (b.length:Nat)) 1),e,())).bind λr15=>(ay (r9.1.2.2.1.set j13 r12.1).length r3.1).bind λj16=>if j14=j16 then some ((r9.1.1,a10,((r9.1.2.2.1.set j13 r12.1).set j16 r15.1),()),0,())else none else none))))))
def Hw:Fn:=mkF { cx [qx,Fp,FY,HA,HK]with maps:=maps,light:=[16,17] } [] 66 Tryz.f66 [(.rd,ec),(.rd,I),(.rd,I)] [(.cell 6 30,false,ec),(.tmp 7,true,I)] Zci [] seat_ok af rfl
def Zck(x:(Q14×Int×Int×Unit)):Option Q15:=
 let((a,b,c,_),d,e,_):=x;(Zby ((a,b,c,()),())).bind λr1=>(aL c d).bind λy2=>(Zm (y2,((a,b,c,()),e,r1.1,()),())).bind λr3=>cond (ltI r3.1 0) (some ((0,[],[],()),15,())) ((aL c e).bind λy4=>(Zn (y4,(r1.1,r3.1,()),())).bind λr5=>(Zci ((a,b,c,()),r3.1,r5.1,())).bind λr6=>some ((r6.1.1,r6.1.2.1,r6.1.2.2.1,()),r6.2.1,()))
def Iz:Fn:=mkF { IP [FY,Hw] [(18,IV),(30,II)]with maps:=maps } [] 37 Tryz.f37 [(.rd,ec),(.rd,I),(.rd,I)] [(.cell 6 30,false,ec),(.tmp 7,true,I)] Zck [] seat_ok uC rfl
def yd(x:Q43):Option (Q43⊕((Int×Int×Int×Unit)⊕((Int×List Int×Int×(List Q2)×(List (List Int))×List Int×Unit)⊕Empty))):=
 let(a,b,c,d,e,f,g,h,_):=x;cond (ltI h (f.length:Nat)) ((app g [(dl .i64 2 (d.length:Nat))]).bind λa1=>(ay f.length (dK .i64 h 1)).bind λj2=>(f[j2]?).bind λy3=>(ay f.length h).bind λj4=>(f[j4]?).bind λy5=>(Zck ((c,d,e,()),y3,y5,())).bind λr6=>cond (neI r6.2.1 0) (some (.inr (.inl (0,0,r6.2.1,())))) (some (.inl (a,b,r6.1.1,r6.1.2.1,r6.1.2.2.1,f,a1,(ap .i64 h 1),())))) (some (.inr (.inr (.inl (a,b,c,d,e,g,())))))
def xP:=aa yd
def yr:Ann:=⟨sh [(6,.av (.ptr 6 0)),(10,.av (.own 10)),(12,.av (.ptr 12 0)),(13,.av (.own 13)),(16,.av (.own 16)),(17,.av (.val I))] [(6,.box [.val I,.nils,.nils]),(10,.arr I),(12,.box [.val I,.val (.slice yQ2),.val yQ3]),(13,.arr I),(16,.arr I)],[(.ret,sh [(6,.av (.ptr 6 0)),(7,.av (.nils)),(8,.av (.val I)),(9,.av (.val I))] [(6,.box [.val I,.nils,.nils])]),(.exit 2,sh [(6,.av (.ptr 6 0)),(10,.av (.own 10)),(12,.av (.ptr 12 0)),(16,.av (.own 16))] [(6,.box [.val I,.nils,.nils]),(10,.arr I),(12,.box [.val I,.val (.slice yQ2),.val yQ3]),(16,.arr I)])],xP⟩
def BE(x:Q44):Option (Q44⊕((Int×Int×Int×Unit)⊕((Int×List Int×Int×(List Q2)×(List (List Int))×List Int×Int×Unit)⊕Empty))):=
 let(a,b,c,d,e,f,g,h,i,_):=x;cond (ltI i h) ((ay b.length i).bind λj1=>(b[j1]?).bind λy2=>(app f [c]).bind λa3=>(Zce ((c,d,e,()),y2,())).bind λr4=>cond (neI r4.2.1 0) (some (.inr (.inl (0,0,r4.2.1,())))) (some (.inl (a,b,r4.1.1,r4.1.2.1,r4.1.2.2.1,a3,g,h,(ap .i64 i 1),())))) (some (.inr (.inr (.inl (a,b,c,d,e,f,g,())))))
def Dh:=aa BE
def D2:Ann:=⟨sh [(2,.av (.val I)),(6,.av (.ptr 6 0)),(10,.av (.own 10)),(12,.av (.ptr 12 0)),(13,.av (.own 13)),(36,.av (.own 10)),(37,.av (.val I)),(38,.av (.val I))] [(6,.box [.val I,.nils,.nils]),(10,.arr I),(12,.box [.val I,.val (.slice yQ2),.val yQ3]),(13,.arr I)],[(.ret,sh [(6,.av (.ptr 6 0)),(7,.av (.nils)),(8,.av (.val I)),(9,.av (.val I))] [(6,.box [.val I,.nils,.nils])]),(.exit 0,sh [(2,.av (.val I)),(6,.av (.ptr 6 0)),(10,.av (.own 10)),(12,.av (.ptr 12 0)),(13,.av (.own 13))] [(6,.box [.val I,.nils,.nils]),(10,.arr I),(12,.box [.val I,.val (.slice yQ2),.val yQ3]),(13,.arr I)])],Dh⟩
def Zcg(x:(Q14×Int×Int×Unit)):Option (Q14×List Int×Int×Int×Unit):=
 let((a,b,c,_),d,e,_):=x;(Zcl ((a,b,c,()),d,e,())).bind λr1=>cond (neI r1.2.1 0) (some ((0,[],[],()),[],0,r1.2.1,())) (cond (eqI d e) (some ((0,[],[],()),[],0,8,())) ((Dh (0,r1.1,a,b,c,[d],e,(r1.1.length:Nat),0,())).bind (A9 (λz3=>some ((z3.1,[],[],()),[],z3.2.1,z3.2.2.1,())) (A9 (λ(a_4,b_4,c_4,d_4,e_4,f_4,g_4,_)=>(app f_4 [g_4]).bind λa5=>(xP (a_4,b_4,c_4,d_4,e_4,a5,[],1,())).bind (A9 (λz7=>some ((z7.1,[],[],()),[],z7.2.1,z7.2.2.1,())) (A9 (λ(_,a_8,b_8,c_8,d_8,e_8,_)=>some ((b_8,c_8,d_8,()),e_8,(a_8.length:Nat),0,())) (λ_=>none)))) (λ_=>none)))))
def Fx:Fn:=mkF { cx [Ig,HT,Iz]with maps:=maps } [(9,D2),(19,yr)] 16 Tryz.f16 [(.rd,ec),(.rd,I),(.rd,I)] [(.cell 6 30,false,ec),(.tmp 7,false,(.slice I)),(.tmp 8,true,I),(.tmp 9,true,I)] Zcg [lp 9 D2 BE,lp 19 yr yd] seat_ok af rfl
def Bo(x:Q45):Option (Q45⊕(((List (List Int))×List Int×Int×Int×Int×Int×Int×Unit)⊕Empty)):=
 let(a,b,c,d,e,f,g,h,i,k,_):=x;cond (ltI k i) ((aL h k).bind λy1=>cond (eqI y1 (dl .i64 2 c)) ((app b [(dl .i64 2 c),(dl .i64 2 d)]).bind λa2=>some (.inl (a,a2,c,d,e,f,g,h,i,(ap .i64 k 1),()))) (cond (eqI y1 (ap .i64 (dl .i64 2 c) 1)) ((app b [(ap .i64 (dl .i64 2 d) 1),(ap .i64 (dl .i64 2 c) 1)]).bind λa3=>some (.inl (a,a3,c,d,e,f,g,h,i,(ap .i64 k 1),()))) ((app b [y1]).bind λa4=>some (.inl (a,a4,c,d,e,f,g,h,i,(ap .i64 k 1),()))))) (some (.inr (.inl (a,b,c,d,e,f,g,()))))
def Cx:=aa Bo
def BI:Ann:=⟨⟨[(0,.av (.own 0)),(1,.av (.val I)),(2,.av (.val I)),(6,.av (.val I)),(8,.av (.own 8)),(11,.av (.own 0)),(12,.av (.val I)),(13,.av (.val I)),(18,.av (.val (.slice I))),(19,.av (.val I)),(20,.av (.val I))],[(0,.arr (.slice I)),(8,.arr I)],[0]⟩,[(.exit 2,⟨[(0,.av (.own 0)),(1,.av (.val I)),(2,.av (.val I)),(6,.av (.val I)),(8,.av (.own 8)),(11,.av (.own 0)),(12,.av (.val I)),(13,.av (.val I))],[(0,.arr (.slice I)),(8,.arr I)],[0]⟩)],Cx⟩
def Dc(x:((List (List Int))×Int×Int×Int×Int×Unit)):Option (((List (List Int))×Int×Int×Int×Int×Unit)⊕(Q7⊕Empty)):=
 let(a,b,c,d,e,_):=x;cond (ltI e d) ((ay a.length e).bind λj1=>(a[j1]?).bind λy2=>(Cx (a,[],b,c,e,d,e,y2,(y2.length:Nat),0,())).bind (A9 (λ(a_4,b_4,c_4,d_4,e_4,f_4,g_4,_)=>(ay a_4.length e_4).bind λj5=>(a_4[j5]?).bind λy6=>some (.inl ((a_4.set j5 b_4),c_4,d_4,f_4,(ap .i64 g_4 1),()))) (λ_=>none))) (some (.inr (.inl (a,()))))
def Cy:=aa Dc
def Ei:Ann:=⟨⟨[(0,.av (.own 0)),(1,.av (.val I)),(2,.av (.val I)),(11,.av (.own 0)),(12,.av (.val I)),(13,.av (.val I))],[(0,.arr (.slice I))],[0]⟩,[(.exit 0,⟨[(0,.av (.own 0))],[(0,.arr (.slice I))],[0]⟩)],Cy⟩
def Zat(x:((List (List Int))×Int×Int×Unit)):Option Q7:=
 (Cy (x.1,x.2.1,x.2.2.1,(x.1.length:Nat),0,())).bind (A9 (λz2=>some (z2.1,())) (λ_=>none))
def Ij:Fn:=mkF { cx []with maps:=maps } [(1,Ei),(5,BI)] 17 Tryz.f17 [(.upd,yQ3),(.rd,I),(.rd,I)] [] Zat [lp 1 Ei Dc,lp 5 BI Bo] seat_ok af rfl
def xC(x:Q75):Option (Q75⊕(Q73⊕Empty)):=
 let(a,b,c,d,e,f,g,h,i,k,l,m,n,o,p,q,s,t,u,w,w0,w1,w2,w3,w4,_):=x;cond (ltI w (m.length:Nat)) (cond (!((df I .bool w o).getD (bk .bool))) ((aL m w).bind λy1=>cond (eqI y1.1 u) ((Zat (k,t,w,())).bind λr2=>some (.inl (a,b,c,d,e,f,g,h,i,r2.1,l,m,n,o,p,q,s,t,u,(ap .i64 w 1),w0,w1,w2,w3,w4,()))) (some (.inl (a,b,c,d,e,f,g,h,i,k,l,m,n,o,p,q,s,t,u,(ap .i64 w 1),w0,w1,w2,w3,w4,())))) (some (.inl (a,b,c,d,e,f,g,h,i,k,l,m,n,o,p,q,s,t,u,(ap .i64 w 1),w0,w1,w2,w3,w4,())))) (some (.inr (.inl (a,b,c,d,e,f,g,h,i,k,l,m,n,o,p,q,s,w0,w1,w2,w3,w4,()))))
def yx:=aa xC
def yo:Ann:=⟨sh [(1,.av (.ptr 1 0)),(2,.av (.ptr 2 0)),(5,.av (.own 5)),(7,.av (.ptr 7 0)),(11,.av (.val I)),(13,.av (.ptr 13 0)),(14,.av (.val (.slice I))),(17,.av (.ownm 17)),(20,.av (.val I)),(21,.av (.val I)),(22,.av (.val I)),(23,.av (.val I)),(86,.av (.val (.slice yQ2))),(87,.av (.val I)),(88,.av (.val I)),(134,.av (.val I)),(135,.av (.val I))] [(1,.box [.val I,.val (.slice yQ2)]),(2,.box [.val I,.nils,.nils,.val I,.nils]),(5,.arr I),(7,.box [.val I,.val (.slice yQ2),.val yQ3,.val I,.own 800004]),(800004,.arr (.slice I)),(13,.box [.val I,.val (.slice yQ2),.val yQ3]),(17,.map I .bool)],[(.exit 8,sh [(1,.av (.ptr 1 0)),(2,.av (.ptr 2 0)),(5,.av (.own 5)),(7,.av (.ptr 7 0)),(11,.av (.val I)),(13,.av (.ptr 13 0)),(14,.av (.val (.slice I))),(17,.av (.ownm 17)),(20,.av (.val I)),(86,.av (.val (.slice yQ2))),(87,.av (.val I)),(88,.av (.val I)),(134,.av (.val I)),(135,.av (.val I))] [(1,.box [.val I,.val (.slice yQ2)]),(2,.box [.val I,.nils,.nils,.val I,.nils]),(5,.arr I),(7,.box [.val I,.val (.slice yQ2),.val yQ3,.val I,.own 800004]),(800004,.arr (.slice I)),(13,.box [.val I,.val (.slice yQ2),.val yQ3]),(17,.map I .bool)])],yx⟩
def xy(x:Q73):Option (Q73⊕((Int×(List Q2)×Int×Int×List Int×Int×(List Q2)×(List (List Int))×Int×(List (List Int))×Int×(List Q2)×(List (List Int))×Int×List Int×(List Q2)×Int×Int×Unit)⊕Empty)):=
 let(a,b,c,d,e,f,g,h,i,k,l,m,n,o,p,q,s,t,u,w,w0,w1,_):=x;cond (ltI w1 w0) ((aL m w1).bind λy1=>cond (ltI y1.2.1 f) (some (.inl (a,b,c,d,e,f,g,h,i,k,l,m,n,o,p,q,s,t,u,w,w0,(ap .i64 w1 1),()))) ((yx (a,b,c,d,e,f,g,h,i,k,l,m,n,o,p,q,s,w1,y1.2.1,s,t,u,w,w0,w1,())).bind (A9 (λ(a_3,b_3,c_3,d_3,e_3,f_3,g_3,h_3,i_3,k_3,l_3,m_3,n_3,o_3,p_3,q_3,s_3,t_3,u_3,w_3,w0_3,w1_3,_)=>some (.inl (a_3,b_3,c_3,d_3,e_3,f_3,g_3,h_3,i_3,k_3,l_3,m_3,n_3,o_3,p_3,q_3,s_3,t_3,u_3,w_3,w0_3,(ap .i64 w1_3 1),()))) (λ_=>none)))) (some (.inr (.inl (a,b,c,d,e,f,g,h,i,k,l,m,n,p,q,t,u,w,()))))
def wE:=aa xy
def yp:Ann:=⟨sh [(1,.av (.ptr 1 0)),(2,.av (.ptr 2 0)),(5,.av (.own 5)),(7,.av (.ptr 7 0)),(11,.av (.val I)),(13,.av (.ptr 13 0)),(14,.av (.val (.slice I))),(17,.av (.ownm 17)),(20,.av (.val I)),(86,.av (.val (.slice yQ2))),(87,.av (.val I)),(88,.av (.val I)),(134,.av (.val I)),(135,.av (.val I))] [(1,.box [.val I,.val (.slice yQ2)]),(2,.box [.val I,.nils,.nils,.val I,.nils]),(5,.arr I),(7,.box [.val I,.val (.slice yQ2),.val yQ3,.val I,.own 800004]),(800004,.arr (.slice I)),(13,.box [.val I,.val (.slice yQ2),.val yQ3]),(17,.map I .bool)],[(.exit 6,sh [(1,.av (.ptr 1 0)),(2,.av (.ptr 2 0)),(5,.av (.own 5)),(7,.av (.ptr 7 0)),(11,.av (.val I)),(13,.av (.ptr 13 0)),(14,.av (.val (.slice I))),(86,.av (.val (.slice yQ2))),(87,.av (.val I)),(88,.av (.val I))] [(1,.box [.val I,.val (.slice yQ2)]),(2,.box [.val I,.nils,.nils,.val I,.nils]),(5,.arr I),(7,.box [.val I,.val (.slice yQ2),.val yQ3,.val I,.own 800004]),(800004,.arr (.slice I)),(13,.box [.val I,.val (.slice yQ2),.val yQ3])])],wE⟩
def yF(x:Q74):Option (Q74⊕((Int×(List Q2)×Int×Int×List Int×Int×(List Q2)×(List (List Int))×Int×(List (List Int))×Int×(List Q2)×(List (List Int))×Q3×Int×List Int×(List Q2)×Int×Int×Unit)⊕Empty)):=
 let(a,b,c,d,e,f,g,h,i,k,l,m,n,o,p,q,s,t,u,w,w0,w1,_):=x;cond (ltI w1 w0) ((aL w w1).bind λy1=>some (.inl (a,b,c,d,e,f,g,h,i,k,l,m,n,(iV I .bool (qP .i64 y1 2) true o),p,q,s,t,u,w,w0,(ap .i64 w1 1),()))) (some (.inr (.inl (a,b,c,d,e,f,g,h,i,k,l,m,n,o,p,q,s,t,u,()))))
def xM:=aa yF
def yl:Ann:=⟨sh [(1,.av (.ptr 1 0)),(2,.av (.ptr 2 0)),(5,.av (.own 5)),(7,.av (.ptr 7 0)),(11,.av (.val I)),(13,.av (.ptr 13 0)),(14,.av (.val (.slice I))),(17,.av (.ownm 17)),(86,.av (.val (.slice yQ2))),(87,.av (.val I)),(88,.av (.val I)),(120,.av (.val (.slice I))),(121,.av (.val I)),(122,.av (.val I))] [(1,.box [.val I,.val (.slice yQ2)]),(2,.box [.val I,.nils,.nils,.val I,.nils]),(5,.arr I),(7,.box [.val I,.val (.slice yQ2),.val yQ3,.val I,.own 800004]),(800004,.arr (.slice I)),(13,.box [.val I,.val (.slice yQ2),.val yQ3]),(17,.map I .bool)],[(.exit 4,sh [(1,.av (.ptr 1 0)),(2,.av (.ptr 2 0)),(5,.av (.own 5)),(7,.av (.ptr 7 0)),(11,.av (.val I)),(13,.av (.ptr 13 0)),(14,.av (.val (.slice I))),(17,.av (.ownm 17)),(86,.av (.val (.slice yQ2))),(87,.av (.val I)),(88,.av (.val I))] [(1,.box [.val I,.val (.slice yQ2)]),(2,.box [.val I,.nils,.nils,.val I,.nils]),(5,.arr I),(7,.box [.val I,.val (.slice yQ2),.val yQ3,.val I,.own 800004]),(800004,.arr (.slice I)),(13,.box [.val I,.val (.slice yQ2),.val yQ3]),(17,.map I .bool)])],xM⟩
def wC(x:Q67):Option (Q67⊕((Int×Int×Int×Int×Unit)⊕((Int×(List Q2)×Int×Int×Int×(List Q2)×(List (List Int))×Int×(List (List Int))×Unit)⊕Empty))):=
 let(a,b,c,d,e,f,g,h,i,k,l,m,n,_):=x;cond (ltI n m) ((aL l n).bind λy1=>(Zae (e,n,())).bind λr2=>cond r2.1 (some (.inl (a,b,c,d,e,f,g,h,i,k,l,m,(ap .i64 n 1),()))) ((Zcg ((f,g,h,()),y1.1,y1.2.1,())).bind λr3=>cond (neI r3.2.2.2.1 0) (some (.inr (.inl (0,0,0,2,())))) (cond (gtI (dK .i64 r3.1.1 a) 256) (some (.inr (.inl (0,0,0,2,())))) ((xM (a,b,c,d,e,f,g,h,i,k,r3.1.1,r3.1.2.1,r3.1.2.2.1,[],n,r3.2.1,l,m,n,r3.2.1,(r3.2.1.length:Nat),0,())).bind (A9 (λ(a_5,b_5,c_5,d_5,e_5,f_5,g_5,h_5,i_5,k_5,l_5,m_5,n_5,o_5,p_5,q_5,s_5,t_5,u_5,_)=>(wE (a_5,b_5,c_5,d_5,e_5,f_5,g_5,h_5,i_5,k_5,l_5,m_5,n_5,o_5,p_5,q_5,(g_5.length:Nat),s_5,t_5,u_5,(g_5.length:Nat),0,())).bind (A9 (λ(a_7,b_7,c_7,d_7,e_7,_,_,_,f_7,g_7,h_7,i_7,k_7,l_7,m_7,n_7,o_7,p_7,_)=>(Zaz (m_7,())).bind λr8=>(ay g_7.length l_7).bind λj9=>(g_7[j9]?).bind λy10=>some (.inl (a_7,b_7,c_7,d_7,e_7,h_7,i_7,k_7,f_7,(g_7.set j9 r8.1),n_7,o_7,(ap .i64 p_7 1),()))) (λ_=>none))) (λ_=>none)))))) (some (.inr (.inr (.inl (a,b,c,d,f,g,h,i,k,())))))
def yI:=aa wC
def w6:Ann:=⟨sh [(1,.av (.ptr 1 0)),(2,.av (.ptr 2 0)),(5,.av (.own 5)),(7,.av (.ptr 7 0)),(86,.av (.val (.slice yQ2))),(87,.av (.val I)),(88,.av (.val I))] [(1,.box [.val I,.val (.slice yQ2)]),(2,.box [.val I,.nils,.nils,.val I,.nils]),(5,.arr I),(7,.box [.val I,.val (.slice yQ2),.val yQ3,.val I,.own 800004]),(800004,.arr (.slice I))],[(.ret,sh [(2,.av (.ptr 2 0)),(3,.av (.val I)),(4,.av (.val I))] [(2,.box [.val I,.nils,.nils,.val I,.nils])]),(.exit 2,sh [(1,.av (.ptr 1 0)),(2,.av (.ptr 2 0)),(7,.av (.ptr 7 0))] [(1,.box [.val I,.val (.slice yQ2)]),(2,.box [.val I,.nils,.nils,.val I,.nils]),(7,.box [.val I,.val (.slice yQ2),.val yQ3,.val I,.own 800004]),(800004,.arr (.slice I))])],yI⟩
def Dm(x:Q59):Option (Q59⊕((Int×(List Q2)×Int×Int×List Int×Int×Int×Int×(List (List Int))×(List Q2)×Unit)⊕Empty)):=
 let(a,b,c,d,e,f,g,h,i,k,l,m,_):=x;cond (ltI m l) ((ay e.length m).bind λj1=>(e[j1]?).bind λy2=>(aL b y2).bind λy3=>(app k [y3]).bind λa4=>(ay i.length y2).bind λj5=>(i[j5]?).bind λy6=>some (.inl (a,b,c,d,e,f,g,h,(i.set j5 [(dl .i64 2 m)]),a4,l,(ap .i64 m 1),()))) (some (.inr (.inl (a,b,c,d,e,f,g,h,i,k,()))))
def AR:=aa Dm
def AC:Ann:=⟨sh [(1,.av (.ptr 1 0)),(2,.av (.ptr 2 0)),(5,.av (.own 5)),(7,.av (.ptr 7 0)),(8,.av (.ptr 8 0)),(50,.av (.own 5)),(51,.av (.val I)),(52,.av (.val I))] [(1,.box [.val I,.val (.slice yQ2)]),(2,.box [.val I,.nils,.nils,.val I,.nils]),(5,.arr I),(7,.box [.val I,.nils,.nils,.val I,.own 800004]),(8,.box [.val I,.own 900001]),(800004,.arr (.slice I)),(900001,.arr yQ2)],[(.exit 0,sh [(1,.av (.ptr 1 0)),(2,.av (.ptr 2 0)),(5,.av (.own 5)),(7,.av (.ptr 7 0)),(8,.av (.ptr 8 0))] [(1,.box [.val I,.val (.slice yQ2)]),(2,.box [.val I,.nils,.nils,.val I,.nils]),(5,.arr I),(7,.box [.val I,.nils,.nils,.val I,.own 800004]),(8,.box [.val I,.own 900001]),(800004,.arr (.slice I)),(900001,.arr yQ2)])],AR⟩
def Zbv(x:(Q6×Unit)):Option ((Q14×Int×(List (List Int))×Unit)×Int×Int×Unit):=
 let((a,b,_),_):=x;(Zbk ((a,b,()),())).bind λr1=>let t_1:=(bG (.slice I) (b.length:Nat) (b.length:Nat)).bind λm10=>(AR (a,b,0,0,r1.1,0,a,a,m10,[],(r1.1.length:Nat),0,())).bind (A9 (λ(a_12,b_12,c_12,d_12,e_12,_,f_12,g_12,h_12,i_12,_)=>(Zca ((g_12,i_12,()),())).bind λr13=>cond (neI r13.2.1 0) (some (((0,[],[],()),0,[],()),0,r13.2.1,())) ((yI (a_12,b_12,c_12,d_12,e_12,r13.1.1,r13.1.2.1,r13.1.2.2.1,f_12,h_12,b_12,(b_12.length:Nat),0,())).bind (A9 (λz15=>some (((z15.1,[],[],()),z15.2.1,[],()),z15.2.2.1,z15.2.2.2.1,())) (A9 (λ(a_16,_,_,_,b_16,c_16,d_16,e_16,f_16,_)=>some (((b_16,c_16,d_16,()),e_16,f_16,()),(dK .i64 b_16 a_16),0,())) (λ_=>none))))) (λ_=>none));let t_0:=cond (neI r1.2.1 0) (some (((0,[],[],()),0,[],()),0,r1.2.1,())) t_1;cond (eqI r1.2.1 0) ((Zbe ((a,b,()),())).bind λr2=>cond (!r2.1) (cond (neI 12 0) (some (((0,[],[],()),0,[],()),0,12,())) t_1) t_0) t_0
def It:Fn:=mkF { cx [HF,H4,Fs,pM,Fx,Ij,Zaz_h]with maps:=maps,light:=[45],vars:=[2] } [(9,AC),(18,w6),(26,yl),(32,yp),(37,yo)] 6 Tryz.f6 [(.rd,fj)] [(.cell 2 32,false,(.prod ec (.prod I yQ4))),(.tmp 3,true,I),(.tmp 4,true,I)] Zbv [lp 9 AC Dm,lp 18 w6 wC,lp 26 yl yF,lp 32 yp xy,lp 37 yo xC] seat_ok af rfl
def Jg:Con:={ ins:=[(.rd,fj)],outs:=[(false,(.prod ec (.prod I yQ4))),(true,I),(true,I)],fn:=Zbv }
end
end Go.Vm

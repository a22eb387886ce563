/-
 The functions that the law reaches, as functions on values, and the proofs that the machine computes them.
-/
import Derived.Test.YtgdkanecejfeiaaGreatDoorSVmPack
import Derived.Test.YtgdkanecejfeiaaGreatDoorSXG
import Derived.Test.YtgdkanecejfeiaaGreatDoorSSA
import Derived.Test.YtgdkanecejfeiaaGreatDoorSSA
import Derived.Test.YtgdkanecejfeiaaGreatDoorSSA
import Derived.Test.YtgdkanecejfeiaaGreatDoorProg
import Derived.KernelRfl
open Sum renaming elim→K8
set_option linter.unusedVariables false
set_option linter.unusedSimpArgs false
namespace Go.Vm
open Go.Proofs
abbrev I:Ty:=.int .i64
abbrev yQ1:Ty:=.prod I .unit
abbrev yQ2:Ty:=.prod I yQ1
abbrev yQ3:Ty:=.slice (.slice I)
abbrev yQ4:Ty:=.prod yQ3 .unit
abbrev yQ5:Ty:=.slice (.slice .bool)
abbrev yQ6:Ty:=.prod (.slice yQ2) yQ4
abbrev yQ7:Ty:=.prod I yQ6
abbrev yQ8:Ty:=.prod (.slice I) .unit
abbrev yQ9:Ty:=.prod yQ2 (.prod yQ2 .unit)
abbrev Q1:=List Int×Unit
abbrev Q2:=Int×Int×Unit
abbrev Q3:=List Int×Int×Unit
abbrev Q4:=(List (List Int))×Unit
abbrev Q5:=(List Q2)×(List (List Int))×Unit
abbrev Q6:=Int×(List Q2)×(List (List Int))×Unit
abbrev Q7:=Q6×List Int×Unit
abbrev Q8:=List Int×(List (List Int))×Int×Int×Unit
abbrev Q9:=Int×(List Q2)×(List (List Int))×Int×Unit
abbrev Q10:=Int×(List Q2)×(List (List Int))×List Int×Unit
abbrev Q11:=Int×(List Q2)×(List (List Int))×List Int×Int×Unit
abbrev Q12:=Int×(List Q2)×(List (List Int))×Int×Int×Int×Unit
abbrev Q13:=Int×(List Q2)×(List (List Int))×List Bool×List Int×Int×Unit
abbrev Q14:=Int×(List Q2)×(List (List Int))×List Bool×Int×Int×Int×Unit
abbrev Q15:=List Int×List Int×List Bool×Int×Int×Int×Int×Int×Int×Unit
abbrev Q16:=Int×(List Q2)×(List (List Int))×(List (List Bool))×List Int×Unit
abbrev Q17:=List Int×List Bool×(List (List Int))×List Int×Int×Int×Int×Unit
abbrev Q18:=Int×(List Q2)×(List (List Int))×List Int×List Int×Int×Int×Unit
abbrev Q19:=Int×(List Q2)×(List (List Int))×List Int×Int×List Int×Int×Unit
abbrev Q20:=Int×(List Q2)×(List (List Int))×List Int×List Bool×Int×Int×Unit
abbrev Q21:=Int×(List Q2)×(List (List Int))×Int×(List (List Int))×Int×Int×Unit
abbrev Q22:=(List (List Bool))×(List Q2)×(List (List Int))×List Int×Int×Int×Unit
abbrev Q23:=Int×(List Q2)×(List (List Int))×(List Q2)×(List (List Int))×Int×Unit
abbrev Q24:=List Int×List Int×(List (List Int))×Int×Int×List Int×Int×Int×Unit
abbrev Q25:=(List Q2)×(List (List Int))×List Int×Int×List Int×Int×Int×Int×Unit
abbrev Q26:=Int×(List Q2)×(List (List Int))×List Bool×List Int×Int×Int×Int×Unit
abbrev Q27:=Int×(List Q2)×(List (List Int))×List Int×List Bool×Int×Int×Int×Unit
abbrev Q28:=Int×(List Q2)×(List (List Int))×(List (List Bool))×List Int×Int×Int×Unit
abbrev Q29:=(List (List Bool))×(List Q2)×(List (List Int))×List Int×List Int×Int×Int×Unit
abbrev Q30:=Int×(List Q2)×(List (List Int))×(List Q2)×(List (List Int))×List Int×Int×Unit
abbrev Q31:=Int×(List Q2)×(List (List Int))×List Bool×Int×(List (List Int))×Int×Int×Unit
abbrev Q32:=Int×(List Q2)×(List (List Int))×List Bool×List Int×Int×List Int×Int×Int×Unit
abbrev Q33:=Int×(List Q2)×(List (List Int))×(List (List Bool))×List Int×(List Q2)×Int×Int×Unit
abbrev Q34:=Int×(List Q2)×(List (List Int))×List Int×Int×List Int×Int×Int×Int×Int×Int×Unit
abbrev Q35:=Int×(List Q2)×(List (List Int))×List Bool×List Int×Int×Int×Int×List Int×Int×Int×Unit
abbrev Q36:=Int×(List Q2)×(List (List Int))×List Int×Int×List Int×Int×Int×Int×Int×Int×Int×Unit
abbrev Q37:=Int×(List Q2)×(List (List Int))×List Bool×(List (List Int))×List Int×List Int×Int×Int×Unit
abbrev Q38:=(List (List Bool))×(List Q2)×(List (List Int))×List Int×Int×Int×Int×List Int×Int×Int×Unit
abbrev Q39:=Int×(List Q2)×(List (List Int))×(List Q2)×(List (List Int))×List Int×List Int×Int×Int×Int×Int×Unit
abbrev Q40:=Int×(List Q2)×(List (List Int))×List Bool×Int×Int×(List (List Int))×Int×Int×List Int×Int×Int×Unit
abbrev Q41:=(List (List Bool))×(List Q2)×(List (List Int))×List Int×Int×Int×Int×List Int×Int×Int×Int×Int×Int×Int×Unit
abbrev Q42:=(List (List Bool))×(List Q2)×(List (List Int))×List Int×Int×Int×Int×Int×List Int×Int×Int×Int×Int×Int×Int×Int×Int×Int×Unit
noncomputable section
def tab:Tab:=[(2,I),(3,I),(4,.bool),(5,(.int .u8)),(6,(.int .u8)),(7,(.prod I (.prod I (.prod .bool (.prod (.int .u8) .unit))))),(8,(.prod I (.prod I (.prod .bool (.prod (.int .u8) .unit))))),(9,.str),(10,.str),(11,.str),(12,(.int .u64)),(13,(.prod .str (.prod (.int .u64) .unit))),(14,(.prod .str (.prod (.int .u64) .unit))),(21,(.int .i32)),(22,(.slice yQ2)),(23,yQ3),(24,yQ7),(25,yQ7),(26,(.slice I)),(29,(.slice yQ2)),(30,I),(36,(.prod I (.prod (.slice yQ2) .unit))),(37,(.prod I (.prod (.slice yQ2) .unit))),(38,yQ2),(39,yQ2),(40,yQ2),(41,yQ2),(43,yQ5),(44,(.slice .bool)),(49,yQ6),(50,yQ6),(64,yQ9),(65,yQ9),(106,yQ9),(107,yQ9),(120,(.prod I (.prod yQ3 (.prod (.slice .bool) (.prod yQ5 yQ4))))),(121,(.prod I (.prod yQ3 (.prod (.slice .bool) (.prod yQ5 yQ4))))),(122,yQ6),(123,yQ6),(126,(.int .u64)),(131,(.prod yQ7 (.prod (.slice I) yQ8))),(132,(.prod yQ7 (.prod (.slice I) yQ8))),(135,(.arr 2 I)),(142,(.slice (.prod (.slice I) yQ8))),(144,(.prod (.slice I) yQ8)),(145,(.prod (.slice I) yQ8)),(149,I),(157,(.int .u32)),(159,(.int .u64)),(172,(.int .u64)),(196,(.int .u8)),(197,(.int .u8)),(200,(.int .i32)),(201,(.int .i32))]
def eqs:List Nat:=[39]
def maps:List (Nat×Ty×Ty):=[(137,yQ2,.bool)]
def glob:List (Nat×(Σ t:Ty,t.den)):=[(0,⟨(.arr 2 I),[16384,32768]⟩)]
theorem aD:SeatOK Tryz.prog tab eqs:=⟨by kernel_rfl,by kernel_rfl,by kernel_rfl⟩
abbrev Fn:=FnC Tryz.prog glob
def cx (l:List Fn):Ctx:={ tab:=tab,con:=BI l,glob:=glob,eqs:=eqs }
set_option maxRecDepth 100000
def xP (x:Q9):Option (Q9⊕((Bool×Unit)⊕(Unit⊕Empty))) :=
 let (a,b,c,d,_):=x; cond (ltI d (c.length:Nat)) ((aL c d).bind fun y1=>cond (gtI (y1.length:Nat) 80) (some (.inr (.inl (false,())))) (some (.inl (a,b,c,(aC .i64 d 1),())))) (some (.inr (.inr (.inl ()))))
def ED:=aa xP
def H7:Ann:=⟨sh [(1,.av (.ptr 1 0)),(3,.av (.val I))] [(1,.box [.val I,.val (.slice yQ2),.val yQ3])],[(.ret,sh [(2,.av (.val .bool))] []),(.exit 0,sh [] [])],ED⟩
def Zz (x:(Q6×Unit)):Option (Bool×Unit) :=
 let ((a,b,c,_),_):=x; cond (gtI a 10) (some (false,())) (cond (gtI (b.length:Nat) 40) (some (false,())) (cond (gtI (c.length:Nat) 10) (some (false,())) ((ED (a,b,c,0,())).bind (K8 (fun z2=>some (z2.1,())) (K8 (fun z3=>some (true,())) (fun _=>none))))))
def Kq:Fn:=mkF { cx [] with maps:=maps } [(4,H7)] 5 Tryz.f5 [(.rd,yQ7)] [(.tmp 2,true,.bool)] Zz [lp 4 H7 xP] aD aj rfl
def Zac (x:Unit):Option (Bool×Unit):=Rx.trueCon.fn x
def Jm:Fn:=⟨6,Rx.trueCon,Rx.awake37 rfl⟩
def Zav (x:(Q2×Int×Unit)):Option (Int×Unit) :=
 cond (eqI x.2.1 0) (some (x.1.1,())) (some (x.1.2.1,()))
def B9:Fn:=mkF { cx [] with maps:=maps } [] 110 Tryz.f110 [(.rd,yQ2),(.rd,I)] [(.tmp 4,true,I)] Zav [] aD aj rfl
def n7 (x:Q40):Option (Q40⊕((Bool×Unit)⊕(Q31⊕Empty))) :=
 let (a,b,c,d,e,f,g,h,i,k,l,m,_):=x; cond (ltI m l) ((aL k m).bind fun y1=>cond (ltI y1 0) (some (.inr (.inl (false,())))) (cond (geI y1 (d.length:Nat)) (some (.inr (.inl (false,())))) ((aQ d.length y1).bind fun j2=>(d[j2]?).bind fun y3=>cond y3 (some (.inr (.inl (false,())))) ((aL b (i7 .i64 y1 2)).bind fun y4=>(Zav (y4,(kO y1 2),())).bind fun r5=>cond (neI r5.1 f) (some (.inr (.inl (false,())))) ((aQ d.length y1).bind fun j6=>(d[j6]?).bind fun y7=>some (.inl (a,b,c,(d.set j6 true),(aC .i64 e 1),f,g,h,i,k,l,(aC .i64 m 1),()))))))) (some (.inr (.inr (.inl (a,b,c,d,e,g,h,i,())))))
def v9:=aa n7
def BM:Ann:=⟨sh [(1,.av (.ptr 1 0)),(5,.av (.own 5)),(6,.av (.val I)),(7,.av (.val I)),(80,.av (.val yQ3)),(81,.av (.val I)),(82,.av (.val I)),(87,.av (.val (.slice I))),(88,.av (.val I)),(89,.av (.val I))] [(1,.box [.val I,.val (.slice yQ2),.val yQ3]),(5,.arr .bool)],[(.ret,sh [(2,.av (.val .bool))] []),(.exit 4,sh [(1,.av (.ptr 1 0)),(5,.av (.own 5)),(6,.av (.val I)),(80,.av (.val yQ3)),(81,.av (.val I)),(82,.av (.val I))] [(1,.box [.val I,.val (.slice yQ2),.val yQ3]),(5,.arr .bool)])],v9⟩
def nP (x:Q31):Option (Q31⊕((Bool×Unit)⊕((List Bool×Int×Unit)⊕Empty))) :=
 let (a,b,c,d,e,f,g,h,_):=x; cond (ltI h g) ((aL f h).bind fun y1=>(v9 (a,b,c,d,e,h,f,g,h,y1,(y1.length:Nat),0,())).bind (K8 (fun z3=>some (.inr (.inl (z3.1,())))) (K8 (fun (a_4,b_4,c_4,d_4,e_4,f_4,g_4,h_4,_)=>some (.inl (a_4,b_4,c_4,d_4,e_4,f_4,g_4,(aC .i64 h_4 1),()))) (fun _=>none)))) (some (.inr (.inr (.inl (d,e,())))))
def uO:=aa nP
def BZ:Ann:=⟨sh [(1,.av (.ptr 1 0)),(5,.av (.own 5)),(6,.av (.val I)),(80,.av (.val yQ3)),(81,.av (.val I)),(82,.av (.val I))] [(1,.box [.val I,.val (.slice yQ2),.val yQ3]),(5,.arr .bool)],[(.ret,sh [(2,.av (.val .bool))] []),(.exit 2,sh [(5,.av (.own 5)),(6,.av (.val I))] [(5,.arr .bool)])],uO⟩
def sW (x:(Int×(List Q2)×(List (List Int))×(List Q2)×Int×Int×Unit)):Option ((Int×(List Q2)×(List (List Int))×(List Q2)×Int×Int×Unit)⊕((Bool×Unit)⊕(Q6⊕Empty))) :=
 let (a,b,c,d,e,f,_):=x; cond (ltI f e) ((aL d f).bind fun y1=>cond (ltI y1.1 0) (some (.inr (.inl (false,())))) (cond (geI y1.1 a) (some (.inr (.inl (false,())))) (cond (ltI y1.2.1 0) (some (.inr (.inl (false,())))) (cond (geI y1.2.1 a) (some (.inr (.inl (false,())))) (cond (eqI y1.1 y1.2.1) (some (.inr (.inl (false,())))) (some (.inl (a,b,c,d,e,(aC .i64 f 1),())))))))) (some (.inr (.inr (.inl (a,b,c,())))))
def zp:=aa sW
def Fb:Ann:=⟨sh [(1,.av (.ptr 1 0)),(38,.av (.val (.slice yQ2))),(39,.av (.val I)),(40,.av (.val I))] [(1,.box [.val I,.val (.slice yQ2),.val yQ3])],[(.ret,sh [(2,.av (.val .bool))] []),(.exit 0,sh [(1,.av (.ptr 1 0))] [(1,.box [.val I,.val (.slice yQ2),.val yQ3])])],zp⟩
def Zao (x:(Q6×Unit)):Option (Bool×Unit) :=
 let ((a,b,c,_),_):=x; cond (ltI a 0) (some (false,())) ((aL [16384,32768] 0).bind fun y1=>cond (gtI a y1) (some (false,())) ((aL [16384,32768] 1).bind fun y2=>cond (gtI (b.length:Nat) y2) (some (false,())) (cond (neI (c.length:Nat) a) (some (false,())) ((zp (a,b,c,b,(b.length:Nat),0,())).bind (K8 (fun z4=>some (z4.1,())) (K8 (fun (a_5,b_5,c_5,_)=>(eV .bool (jS .i64 2 (b_5.length:Nat)) (jS .i64 2 (b_5.length:Nat))).bind fun m6=>(uO (a_5,b_5,c_5,m6,0,c_5,(c_5.length:Nat),0,())).bind (K8 (fun z8=>some (z8.1,())) (K8 (fun z9=>some ((eqI z9.2.1 (z9.1.length:Nat)),())) (fun _=>none)))) (fun _=>none)))))))
def wV:Fn:=mkF { cx [B9] with maps:=maps } [(4,Fb),(12,BZ),(15,BM)] 78 Tryz.f78 [(.rd,yQ7)] [(.tmp 2,true,.bool)] Zao [lp 4 Fb sW,lp 12 BZ nP,lp 15 BM n7] aD aj rfl
def qR (x:Q24):Option (Q24⊕(Q8⊕Empty)) :=
 let (a,b,c,d,e,f,g,h,_):=x; cond (ltI h g) ((aL f h).bind fun y1=>cond (eqI (b.length:Nat) 0) none ((aL b (kO (aC .i64 h 1) (b.length:Nat))).bind fun y2=>(aQ a.length (s6 .i64 y1 1)).bind fun j3=>(a[j3]?).bind fun y4=>some (.inl ((a.set j3 y2),b,c,d,e,f,g,(aC .i64 h 1),())))) (some (.inr (.inl (a,c,d,e,()))))
def Az:=aa qR
def EA:Ann:=⟨sh [(3,.av (.own 3)),(5,.av (.val (.slice I))),(14,.av (.val yQ3)),(15,.av (.val I)),(16,.av (.val I)),(20,.av (.val (.slice I))),(21,.av (.val I)),(22,.av (.val I))] [(3,.arr I)],[(.exit 2,sh [(3,.av (.own 3)),(14,.av (.val yQ3)),(15,.av (.val I)),(16,.av (.val I))] [(3,.arr I)])],Az⟩
def sb (x:Q8):Option (Q8⊕(Q1⊕Empty)) :=
 let (a,b,c,d,_):=x; cond (ltI d c) ((aL b d).bind fun y1=>(Az (a,y1,b,c,d,y1,(y1.length:Nat),0,())).bind (K8 (fun z3=>some (.inl (z3.1,z3.2.1,z3.2.2.1,(aC .i64 z3.2.2.2.1 1),()))) (fun _=>none))) (some (.inr (.inl (a,()))))
def uX:=aa sb
def FI:Ann:=⟨sh [(3,.av (.own 3)),(14,.av (.val yQ3)),(15,.av (.val I)),(16,.av (.val I))] [(3,.arr I)],[(.exit 0,sh [(3,.av (.own 3))] [(3,.arr I)])],uX⟩
def Zam (x:(Q6×Unit)):Option Q1 :=
 let ((_,a,b,_),_):=x; (eV I (jS .i64 2 (a.length:Nat)) (jS .i64 2 (a.length:Nat))).bind fun m1=>(uX (m1,b,(b.length:Nat),0,())).bind (K8 (fun z3=>some (z3.1,())) (fun _=>none))
def JL:Fn:=mkF { cx [] with maps:=maps } [(3,FI),(6,EA)] 82 Tryz.f82 [(.rd,yQ7)] [(.tmp 2,true,(.slice I))] Zam [lp 3 FI sb,lp 6 EA qR] aD aj rfl
def oa (x:Q17):Option (Q17⊕((List Int×List Bool×(List (List Int))×List Int×Int×Int×Unit)⊕Empty)) :=
 let (a,b,c,d,e,f,g,_):=x; (aQ b.length e).bind fun j1=>(b[j1]?).bind fun y2=>cond (!y2) ((aQ b.length e).bind fun j3=>(b[j3]?).bind fun y4=>(app d [e]).bind fun a5=>(aQ a.length e).bind fun j6=>(a[j6]?).bind fun y7=>some (.inl (a,(b.set j3 true),c,a5,y7,f,g,()))) (some (.inr (.inl (a,b,c,d,f,g,()))))
def va:=aa oa
def Bd:Ann:=⟨sh [(3,.av (.own 3)),(4,.av (.own 4)),(5,.av (.own 5)),(7,.av (.own 7)),(8,.av (.val I)),(18,.av (.val I)),(19,.av (.val I))] [(3,.arr I),(4,.arr .bool),(5,.arr (.slice I)),(7,.arr I)],[(.exit 2,sh [(3,.av (.own 3)),(4,.av (.own 4)),(5,.av (.own 5)),(7,.av (.own 7)),(18,.av (.val I)),(19,.av (.val I))] [(3,.arr I),(4,.arr .bool),(5,.arr (.slice I)),(7,.arr I)])],va⟩
def rG (x:(List Int×List Bool×(List (List Int))×Int×Int×Unit)):Option ((List Int×List Bool×(List (List Int))×Int×Int×Unit)⊕(Q4⊕Empty)) :=
 let (a,b,c,d,e,_):=x; cond (ltI e d) ((va (a,b,c,[],e,d,e,())).bind (K8 (fun (a_2,b_2,c_2,d_2,e_2,f_2,_)=>cond (gtI (d_2.length:Nat) 0) ((app c_2 [d_2]).bind fun a3=>some (.inl (a_2,b_2,a3,e_2,(aC .i64 f_2 1),()))) (some (.inl (a_2,b_2,c_2,e_2,(aC .i64 f_2 1),())))) (fun _=>none))) (some (.inr (.inl (c,()))))
def AD:=aa rG
def EH:Ann:=⟨sh [(3,.av (.own 3)),(4,.av (.own 4)),(5,.av (.own 5)),(18,.av (.val I)),(19,.av (.val I))] [(3,.arr I),(4,.arr .bool),(5,.arr (.slice I))],[(.exit 0,sh [(5,.av (.own 5))] [(5,.arr (.slice I))])],AD⟩
def Zaq (x:(Q6×Unit)):Option Q4 :=
 let ((a,b,c,_),_):=x; (Zao ((a,b,c,()),())).bind fun r1=>cond (!r1.1) (some ([],())) ((Zam ((a,b,c,()),())).bind fun r2=>(eV .bool (r2.1.length:Nat) (r2.1.length:Nat)).bind fun m3=>(AD (r2.1,m3,[],(r2.1.length:Nat),0,())).bind (K8 (fun z5=>some (z5.1,())) (fun _=>none)))
def HT:Fn:=mkF { cx [wV,JL] with maps:=maps } [(7,EH),(11,Bd)] 44 Tryz.f44 [(.rd,yQ7)] [(.tmp 2,true,yQ3)] Zaq [lp 7 EH rG,lp 11 Bd oa] aD aj rfl
def qO (x:Q35):Option (Q35⊕(Q26⊕Empty)) :=
 let (a,b,c,d,e,f,g,h,i,k,l,_):=x; cond (ltI l k) ((aL i l).bind fun y1=>(aL b (i7 .i64 y1 2)).bind fun y2=>(Zav (y2,(s6 .i64 (kO y1 2) 1),())).bind fun r3=>(aQ d.length r3.1).bind fun j4=>(d[j4]?).bind fun y5=>cond (!y5) ((aQ d.length r3.1).bind fun j6=>(d[j6]?).bind fun y7=>(app e [r3.1]).bind fun a8=>some (.inl (a,b,c,(d.set j6 true),a8,f,g,h,i,k,(aC .i64 l 1),()))) (some (.inl (a,b,c,d,e,f,g,h,i,k,(aC .i64 l 1),())))) (some (.inr (.inl (a,b,c,d,e,f,g,h,()))))
def AF:=aa qO
def E9:Ann:=⟨sh [(1,.av (.ptr 1 0)),(3,.av (.own 3)),(4,.av (.val I)),(6,.av (.own 6)),(14,.av (.val I)),(15,.av (.val I)),(40,.av (.val (.slice I))),(41,.av (.val I)),(42,.av (.val I))] [(1,.box [.val I,.val (.slice yQ2),.val yQ3]),(3,.arr .bool),(6,.arr I)],[(.exit 4,sh [(1,.av (.ptr 1 0)),(3,.av (.own 3)),(4,.av (.val I)),(6,.av (.own 6)),(14,.av (.val I)),(15,.av (.val I))] [(1,.box [.val I,.val (.slice yQ2),.val yQ3]),(3,.arr .bool),(6,.arr I)])],AF⟩
def rF (x:Q26):Option (Q26⊕(Q14⊕Empty)) :=
 let (a,b,c,d,e,f,g,h,_):=x; cond (gtI (e.length:Nat) 0) ((aQ e.length 0).bind fun j1=>(e[j1]?).bind fun y2=>(aL c y2).bind fun y3=>(AF (a,b,c,d,e,f,g,h,y3,(y3.length:Nat),0,())).bind (K8 (fun (a_5,b_5,c_5,d_5,e_5,f_5,g_5,h_5,_)=>(kN e_5.length 1 (e_5.length:Nat)).bind fun v6=>some (.inl (a_5,b_5,c_5,d_5,((e_5.drop v6.1).take v6.2),f_5,g_5,h_5,()))) (fun _=>none))) (some (.inr (.inl (a,b,c,d,f,g,h,()))))
def AI:=aa rF
def EZ:Ann:=⟨sh [(1,.av (.ptr 1 0)),(3,.av (.own 3)),(4,.av (.val I)),(6,.av (.own 6)),(14,.av (.val I)),(15,.av (.val I))] [(1,.box [.val I,.val (.slice yQ2),.val yQ3]),(3,.arr .bool),(6,.arr I)],[(.exit 2,sh [(1,.av (.ptr 1 0)),(3,.av (.own 3)),(4,.av (.val I)),(14,.av (.val I)),(15,.av (.val I))] [(1,.box [.val I,.val (.slice yQ2),.val yQ3]),(3,.arr .bool)])],AI⟩
def rK (x:Q14):Option (Q14⊕((Int×Unit)⊕Empty)) :=
 let (a,b,c,d,e,f,g,_):=x; cond (ltI g f) ((aQ d.length g).bind fun j1=>(d[j1]?).bind fun y2=>cond y2 (some (.inl (a,b,c,d,e,f,(aC .i64 g 1),()))) ((aQ d.length g).bind fun j3=>(d[j3]?).bind fun y4=>(AI (a,b,c,(d.set j3 true),[g],(aC .i64 e 1),f,g,())).bind (K8 (fun (a_6,b_6,c_6,d_6,e_6,f_6,g_6,_)=>some (.inl (a_6,b_6,c_6,d_6,e_6,f_6,(aC .i64 g_6 1),()))) (fun _=>none)))) (some (.inr (.inl (e,()))))
def A9:=aa rK
def HK:Ann:=⟨sh [(1,.av (.ptr 1 0)),(3,.av (.own 3)),(4,.av (.val I)),(14,.av (.val I)),(15,.av (.val I))] [(1,.box [.val I,.val (.slice yQ2),.val yQ3]),(3,.arr .bool)],[(.exit 0,sh [(4,.av (.val I))] [])],A9⟩
def Zk (x:(Q6×Unit)):Option (Int×Unit) :=
 let ((a,b,c,_),_):=x; (eV .bool a a).bind fun m1=>(A9 (a,b,c,m1,0,a,0,())).bind (K8 (fun z3=>some (z3.1,())) (fun _=>none))
def KW:Fn:=mkF { cx [B9] with maps:=maps } [(4,HK),(10,EZ),(13,E9)] 111 Tryz.f111 [(.rd,yQ7)] [(.tmp 2,true,I)] Zk [lp 4 HK rK,lp 10 EZ rF,lp 13 E9 qO] aD aj rfl
def re (x:Q21):Option (Q21⊕(Q9⊕Empty)) :=
 let (a,b,c,d,e,f,g,_):=x; cond (ltI g f) ((aL e g).bind fun y1=>cond (eqI (y1.length:Nat) 0) (some (.inl (a,b,c,(aC .i64 d 1),e,f,(aC .i64 g 1),()))) (some (.inl (a,b,c,d,e,f,(aC .i64 g 1),())))) (some (.inr (.inl (a,b,c,d,()))))
def zU:=aa re
def EV:Ann:=⟨sh [(1,.av (.ptr 1 0)),(3,.av (.val I)),(13,.av (.val yQ3)),(14,.av (.val I)),(15,.av (.val I))] [(1,.box [.val I,.val (.slice yQ2),.val yQ3])],[(.exit 0,sh [(1,.av (.ptr 1 0)),(3,.av (.val I))] [(1,.box [.val I,.val (.slice yQ2),.val yQ3])])],zU⟩
def Zar (x:(Q6×Unit)):Option (Int×Unit) :=
 let ((a,b,c,_),_):=x; (Zao ((a,b,c,()),())).bind fun r1=>cond (!r1.1) (some ((-1),())) ((Zaq ((a,b,c,()),())).bind fun r2=>(zU (a,b,c,(r2.1.length:Nat),c,(c.length:Nat),0,())).bind (K8 (fun z4=>(Zk ((z4.1,z4.2.1,z4.2.2.1,()),())).bind fun r5=>some ((cQ .i64 r5.1 (i7 .i64 (aC .i64 (cQ .i64 z4.1 (z4.2.1.length:Nat)) z4.2.2.2.1) 2)),())) (fun _=>none)))
def I4:Fn:=mkF { cx [HT,wV,KW] with maps:=maps } [(5,EV)] 79 Tryz.f79 [(.rd,yQ7)] [(.tmp 2,true,I)] Zar [lp 5 EV re] aD aj rfl
def sq (x:Q32):Option (Q32⊕(Q13⊕Empty)) :=
 let (a,b,c,d,e,f,g,h,i,_):=x; cond (ltI i h) ((aL g i).bind fun y1=>(aL b (i7 .i64 y1 2)).bind fun y2=>(aQ e.length f).bind fun j3=>(e[j3]?).bind fun y4=>(aQ d.length (cQ .i64 (aC .i64 y2.1 y2.2.1) y4)).bind fun j5=>(d[j5]?).bind fun y6=>cond (!y6) ((aQ d.length (cQ .i64 (aC .i64 y2.1 y2.2.1) y4)).bind fun j7=>(d[j7]?).bind fun y8=>(app e [(cQ .i64 (aC .i64 y2.1 y2.2.1) y4)]).bind fun a9=>some (.inl (a,b,c,(d.set j7 true),a9,f,g,h,(aC .i64 i 1),()))) (some (.inl (a,b,c,d,e,f,g,h,(aC .i64 i 1),())))) (some (.inr (.inl (a,b,c,d,e,f,()))))
def zJ:=aa sq
def Fw:Ann:=⟨sh [(1,.av (.ptr 1 0)),(3,.av (.own 3)),(4,.av (.own 4)),(5,.av (.val I)),(32,.av (.val (.slice I))),(33,.av (.val I)),(34,.av (.val I))] [(1,.box [.val I,.val (.slice yQ2),.val yQ3]),(3,.arr .bool),(4,.arr I)],[(.exit 2,sh [(1,.av (.ptr 1 0)),(3,.av (.own 3)),(4,.av (.own 4)),(5,.av (.val I))] [(1,.box [.val I,.val (.slice yQ2),.val yQ3]),(3,.arr .bool),(4,.arr I)])],zJ⟩
def wd (x:Q13):Option (Q13⊕(Q10⊕Empty)) :=
 let (a,b,c,d,e,f,_):=x; cond (ltI f (e.length:Nat)) ((aQ e.length f).bind fun j1=>(e[j1]?).bind fun y2=>(aL c y2).bind fun y3=>(zJ (a,b,c,d,e,f,y3,(y3.length:Nat),0,())).bind (K8 (fun (a_5,b_5,c_5,d_5,e_5,f_5,_)=>some (.inl (a_5,b_5,c_5,d_5,e_5,(aC .i64 f_5 1),()))) (fun _=>none))) (some (.inr (.inl (a,b,c,e,()))))
def Ej:=aa wd
def H0:Ann:=⟨sh [(1,.av (.ptr 1 0)),(3,.av (.own 3)),(4,.av (.own 4)),(5,.av (.val I))] [(1,.box [.val I,.val (.slice yQ2),.val yQ3]),(3,.arr .bool),(4,.arr I)],[(.exit 0,sh [(1,.av (.ptr 1 0)),(4,.av (.own 4))] [(1,.box [.val I,.val (.slice yQ2),.val yQ3]),(4,.arr I)])],Ej⟩
def Zh (x:(Q6×Unit)):Option (Bool×Unit) :=
 let ((a,b,c,_),_):=x; cond (eqI a 0) (some (false,())) ((eV .bool a a).bind fun m1=>(aQ m1.length 0).bind fun j2=>(m1[j2]?).bind fun y3=>(Ej (a,b,c,(m1.set j2 true),[0],0,())).bind (K8 (fun z5=>some ((eqI (z5.2.2.2.1.length:Nat) z5.1),())) (fun _=>none)))
def Kg:Fn:=mkF { cx [] with maps:=maps } [(7,H0),(10,Fw)] 80 Tryz.f80 [(.rd,yQ7)] [(.tmp 2,true,.bool)] Zh [lp 7 H0 wd,lp 10 Fw sq] aD aj rfl
def tT (x:((List (Q2×Bool))×(List Q2)×Int×Int×Unit)):Option (((List (Q2×Bool))×(List Q2)×Int×Int×Unit)⊕((Bool×Unit)⊕(Unit⊕Empty))) :=
 let (a,b,c,d,_):=x; cond (ltI d c) ((aL b d).bind fun y1=>cond ((dm yQ2 .bool ((kr y1.1 y1.2.1),(maxI y1.1 y1.2.1),()) a).getD (az .bool)) (some (.inr (.inl (false,())))) (some (.inl ((gF yQ2 .bool ((kr y1.1 y1.2.1),(maxI y1.1 y1.2.1),()) true a),b,c,(aC .i64 d 1),())))) (some (.inr (.inr (.inl ()))))
def Do:=aa tT
def Hq:Ann:=⟨sh [(3,.av (.ownm 3)),(8,.av (.val (.slice yQ2))),(9,.av (.val I)),(10,.av (.val I))] [(3,.map yQ2 .bool)],[(.ret,sh [(2,.av (.val .bool))] []),(.exit 0,sh [] [])],Do⟩
def Zo (x:(Q6×Unit)):Option (Bool×Unit) :=
 (Do ([],x.1.2.1,(x.1.2.1.length:Nat),0,())).bind (K8 (fun z2=>some (z2.1,())) (K8 (fun z3=>some (true,())) (fun _=>none)))
def KE:Fn:=mkF { cx [] with maps:=maps } [(3,Hq)] 81 Tryz.f81 [(.rd,yQ7)] [(.tmp 2,true,.bool)] Zo [lp 3 Hq tT] aD aj rfl
def Zaa (x:(Q6×Unit)):Option (Int×Unit) :=
 let ((a,b,c,_),_):=x; (Zao ((a,b,c,()),())).bind fun r1=>cond (!r1.1) (some (13,())) ((Zar ((a,b,c,()),())).bind fun r2=>cond (neI r2.1 0) (some (13,())) ((Zh ((a,b,c,()),())).bind fun r3=>cond (!r3.1) (some (12,())) ((Zo ((a,b,c,()),())).bind fun r4=>cond (!r4.1) (some (6,())) (cond (ltI a 3) (some (1,())) (some (0,()))))))
def J3:Fn:=mkF { cx [wV,I4,Kg,KE] with maps:=maps } [] 43 Tryz.f43 [(.rd,yQ7)] [(.tmp 2,true,I)] Zaa [] aD aj rfl
def xh (x:((List (List Int))×Int×Int×Unit)):Option (((List (List Int))×Int×Int×Unit)⊕((Bool×Unit)⊕(Unit⊕Empty))) :=
 let (a,b,c,_):=x; cond (ltI c b) ((aQ a.length c).bind fun j1=>(a[j1]?).bind fun y2=>cond (neI (y2.length:Nat) 3) (some (.inr (.inl (false,())))) (some (.inl (a,b,(aC .i64 c 1),())))) (some (.inr (.inr (.inl ()))))
def Fm:=aa xh
def Hn:Ann:=⟨sh [(9,.av (.own 9)),(10,.av (.val I)),(11,.av (.val I))] [(9,.arr (.slice I))],[(.ret,sh [(2,.av (.val .bool))] []),(.exit 0,sh [] [])],Fm⟩
def Zc (x:(Q6×Unit)):Option (Bool×Unit) :=
 let ((a,b,c,_),_):=x; (Zaa ((a,b,c,()),())).bind fun r1=>cond (neI r1.1 0) (some (false,())) ((Zaq ((a,b,c,()),())).bind fun r2=>(Fm (r2.1,(r2.1.length:Nat),0,())).bind (K8 (fun z4=>some (z4.1,())) (K8 (fun z5=>some (true,())) (fun _=>none))))
def JG:Fn:=mkF { cx [J3,HT] with maps:=maps } [(4,Hn)] 15 Tryz.f15 [(.rd,yQ7)] [(.tmp 2,true,.bool)] Zc [lp 4 Hn xh] aD aj rfl
def Zau (x:(Q6×Int×Unit)):Option (Int×Unit) :=
 let ((a,b,c,_),d,_):=x; (Zao ((a,b,c,()),())).bind fun r1=>cond (!r1.1) (some ((-1),())) (cond (ltI d 0) (some ((-1),())) (cond (geI d (jS .i64 2 (b.length:Nat))) (some ((-1),())) ((aL b (i7 .i64 d 2)).bind fun y2=>(Zav (y2,(kO d 2),())).bind fun r3=>some (r3.1,()))))
def EI:Fn:=mkF { cx [wV,B9] with maps:=maps } [] 83 Tryz.f83 [(.rd,yQ7),(.rd,I)] [(.tmp 4,true,I)] Zau [] aD aj rfl
def qW (x:(List Int×Int×Int×Int×Unit)):Option ((List Int×Int×Int×Int×Unit)⊕((Int×Unit)⊕(Unit⊕Empty))) :=
 let (a,b,c,d,_):=x; cond (ltI d c) ((aL a d).bind fun y1=>cond (eqI b y1) (some (.inr (.inl (d,())))) (some (.inl (a,b,c,(aC .i64 d 1),())))) (some (.inr (.inr (.inl ()))))
def yC:=aa qW
def Dr:Ann:=⟨sh [(0,.av (.val (.slice I))),(1,.av (.val I)),(7,.av (.val I)),(8,.av (.val I))] [],[(.ret,sh [(4,.av (.val I))] []),(.exit 0,sh [] [])],yC⟩
def Zai (x:Q3):Option (Int×Unit) :=
 (yC (x.1,x.2.1,(x.1.length:Nat),0,())).bind (K8 (fun z2=>some (z2.1,())) (K8 (fun z3=>some ((-1),())) (fun _=>none)))
def HF:Fn:=mkF { cx [] with maps:=maps } [(2,Dr)] 71 Tryz.f71 [(.rd,(.slice I)),(.rd,I)] [(.tmp 4,true,I)] Zai [lp 2 Dr qW] aD aj rfl
def Zat (x:(Q6×Int×Unit)):Option (Int×Unit) :=
 let ((a,b,c,_),d,_):=x; (Zao ((a,b,c,()),())).bind fun r1=>cond (!r1.1) (some ((-1),())) (cond (ltI d 0) (some ((-1),())) (cond (geI d (jS .i64 2 (b.length:Nat))) (some ((-1),())) ((aL b (i7 .i64 d 2)).bind fun y2=>(Zav (y2,(s6 .i64 (kO d 2) 1),())).bind fun r3=>(aL c r3.1).bind fun y4=>(Zai (y4,(s6 .i64 d 1),())).bind fun r5=>cond (eqI (y4.length:Nat) 0) none ((aL y4 (kO (aC .i64 r5.1 1) (y4.length:Nat))).bind fun y6=>some (y6,())))))
def JR:Fn:=mkF { cx [HF,wV,B9] with maps:=maps } [] 112 Tryz.f112 [(.rd,yQ7),(.rd,I)] [(.tmp 4,true,I)] Zat [] aD aj rfl
def Zaw (x:(Q6×Unit)):Option (Int×Unit) :=
 let ((a,b,c,_),_):=x; (Zat ((a,b,c,()),0,())).bind fun r1=>(Zat ((a,b,c,()),r1.1,())).bind fun r2=>(Zau ((a,b,c,()),r2.1,())).bind fun r3=>some (r3.1,())
def JU:Fn:=mkF { cx [EI,JR] with maps:=maps } [] 84 Tryz.f84 [(.rd,yQ7)] [(.tmp 2,true,I)] Zaw [] aD aj rfl
def Zal (x:Q1):Option Q1 :=
 cond x.1.isEmpty (ya (some ([],())) ((app [] x.1).bind fun a1=>some (a1,()))) ((app [] x.1).bind fun a1=>some (a1,()))
def Hz:Fn:=mkF { cx [] with maps:=maps } [] 85 Tryz.f85 [(.rd,(.slice I))] [(.tmp 2,true,(.slice I))] Zal [] aD aj rfl
def su (x:Q18):Option (Q18⊕(Q1⊕Empty)) :=
 let (a,b,c,d,e,f,g,_):=x; cond (ltI g f) ((aL e g).bind fun y1=>(Zau ((a,b,c,()),(s6 .i64 y1 1),())).bind fun r2=>(app d [r2.1]).bind fun a3=>some (.inl (a,b,c,a3,e,f,(aC .i64 g 1),()))) (some (.inr (.inl (d,()))))
def zD:=aa su
def D3:Ann:=⟨sh [(2,.av (.ptr 2 0)),(5,.av (.own 5)),(12,.av (.val (.slice I))),(13,.av (.val I)),(14,.av (.val I))] [(2,.box [.val I,.val (.slice yQ2),.val yQ3]),(5,.arr I)],[(.exit 0,sh [(5,.av (.own 5))] [(5,.arr I)])],zD⟩
def Zaz (x:(Q6×Int×Unit)):Option Q1 :=
 let ((a,b,c,_),d,_):=x; (aL c d).bind fun y1=>(zD (a,b,c,[],y1,(y1.length:Nat),0,())).bind (K8 (fun z3=>some (z3.1,())) (fun _=>none))
def Jc:Fn:=mkF { cx [EI] with maps:=maps } [(3,D3)] 113 Tryz.f113 [(.rd,yQ7),(.rd,I)] [(.tmp 4,true,(.slice I))] Zaz [lp 3 D3 su] aD aj rfl
def sa (x:Q15):Option (Q15⊕((Bool×Unit)⊕((List Int×Int×Int×Int×Int×Unit)⊕Empty))) :=
 let (a,b,c,d,e,f,g,h,i,_):=x; cond (ltI i h) ((aQ a.length i).bind fun j1=>(a[j1]?).bind fun y2=>(aL c y2).bind fun y3=>cond (!y3) (some (.inl (a,b,c,d,e,f,g,h,(aC .i64 i 1),()))) ((Zai (b,y2,())).bind fun r4=>cond (ltI r4.1 0) (some (.inr (.inl (false,())))) (cond (ltI e 0) (some (.inl (a,b,c,d,r4.1,(maxI f r4.1),(aC .i64 g 1),h,(aC .i64 i 1),()))) (cond (ltI r4.1 e) (some (.inl (a,b,c,d,r4.1,(maxI f r4.1),(aC .i64 g 1),h,(aC .i64 i 1),()))) (some (.inl (a,b,c,d,e,(maxI f r4.1),(aC .i64 g 1),h,(aC .i64 i 1),()))))))) (some (.inr (.inr (.inl (b,d,e,f,g,())))))
def zW:=aa sa
def Fe:Ann:=⟨sh [(1,.av (.val (.slice I))),(2,.av (.val (.slice .bool))),(3,.av (.val I)),(10,.av (.val I)),(11,.av (.val I)),(12,.av (.val I)),(19,.av (.own 19)),(20,.av (.val I)),(21,.av (.val I))] [(19,.arr I)],[(.ret,sh [(8,.av (.nils)),(9,.av (.val .bool))] []),(.exit 0,sh [(1,.av (.val (.slice I))),(3,.av (.val I)),(10,.av (.val I)),(11,.av (.val I)),(12,.av (.val I))] [])],zW⟩
def Zax (x:(Q6×List Int×List Bool×Int×Unit)):Option (List Int×Bool×Unit) :=
 let ((a,b,c,_),d,e,f,_):=x; (Zaz ((a,b,c,()),f,())).bind fun r1=>(zW (r1.1,d,e,f,(-1),(-1),0,(r1.1.length:Nat),0,())).bind (K8 (fun z3=>some ([],z3.1,())) (K8 (fun (a_4,b_4,c_4,d_4,e_4,_)=>cond (ltI e_4 2) (some ([],false,())) (cond (neI (cQ .i64 d_4 c_4) (cQ .i64 e_4 1)) (some ([],false,())) ((cF a_4 0 (aC .i64 c_4 1)).bind fun y5=>(Zal (y5,())).bind fun r6=>(app r6.1 [b_4]).bind fun a7=>(cF a_4 d_4 (a_4.length:Nat)).bind fun y8=>(app a7 y8).bind fun a9=>some (a9,true,())))) (fun _=>none)))
def Jq:Fn:=mkF { cx [HF,Hz,Jc] with maps:=maps } [(3,Fe)] 86 Tryz.f86 [(.rd,yQ7),(.rd,(.slice I)),(.rd,(.slice .bool)),(.rd,I)] [(.tmp 8,true,(.slice I)),(.tmp 9,true,.bool)] Zax [lp 3 Fe sa] aD aj rfl
def oR (x:Q37):Option (Q37⊕((Bool×Unit)⊕(Q4⊕Empty))) :=
 let (a,b,c,d,e,f,g,h,i,_):=x; cond (ltI i h) ((aL g i).bind fun y1=>cond (ltI y1 0) (some (.inr (.inl (false,())))) (cond (geI y1 a) (some (.inr (.inl (false,())))) ((aQ d.length y1).bind fun j2=>(d[j2]?).bind fun y3=>cond y3 (some (.inr (.inl (false,())))) ((Zax ((a,b,c,()),f,d,y1,())).bind fun r4=>cond (!r4.2.1) (some (.inr (.inl (false,())))) ((aQ d.length y1).bind fun j5=>(d[j5]?).bind fun y6=>(app e [r4.1]).bind fun a7=>some (.inl (a,b,c,(d.set j5 true),a7,r4.1,g,h,(aC .i64 i 1),()))))))) (some (.inr (.inr (.inl (e,())))))
def vV:=aa oR
def EQ:Ann:=⟨sh [(2,.av (.ptr 2 0)),(6,.av (.own 6)),(7,.av (.val (.slice I))),(8,.av (.own 8)),(69,.av (.val (.slice I))),(70,.av (.val I)),(71,.av (.val I))] [(2,.box [.val I,.val (.slice yQ2),.val yQ3]),(6,.arr .bool),(8,.arr (.slice I))],[(.ret,sh [(4,.av (.nils)),(5,.av (.val .bool))] []),(.exit 0,sh [(8,.av (.own 8))] [(8,.arr (.slice I))])],vV⟩
def Zas (x:Q7):Option ((List (List Int))×Bool×Unit) :=
 let ((a,b,c,_),d,_):=x; (Zc ((a,b,c,()),())).bind fun r1=>cond (!r1.1) (some ([],false,())) (cond (neI (d.length:Nat) a) (some ([],false,())) ((aL d 0).bind fun y2=>(Zau ((a,b,c,()),0,())).bind fun r3=>cond (neI y2 r3.1) (some ([],false,())) ((aL d 1).bind fun y4=>(Zau ((a,b,c,()),1,())).bind fun r5=>cond (neI y4 r5.1) (some ([],false,())) ((aL d (cQ .i64 a 1)).bind fun y6=>(Zaw ((a,b,c,()),())).bind fun r7=>cond (neI y6 r7.1) (some ([],false,())) ((eV .bool a a).bind fun m8=>(aL d 0).bind fun y9=>(aL d 1).bind fun y10=>(aQ m8.length y9).bind fun j11=>(m8[j11]?).bind fun y12=>(aQ (m8.set j11 true).length y10).bind fun j13=>((m8.set j11 true)[j13]?).bind fun y14=>(cF d 0 2).bind fun y15=>(Zal (y15,())).bind fun r16=>(cF d 2 (d.length:Nat)).bind fun y17=>(vV (a,b,c,((m8.set j11 true).set j13 true),[r16.1],r16.1,y17,(y17.length:Nat),0,())).bind (K8 (fun z19=>some ([],z19.1,())) (K8 (fun z20=>some (z20.1,true,())) (fun _=>none))))))))
def J7:Fn:=mkF { cx [JG,EI,JU,Hz,Jq] with maps:=maps } [(8,EQ)] 45 Tryz.f45 [(.rd,yQ7),(.rd,(.slice I))] [(.tmp 4,true,yQ3),(.tmp 5,true,.bool)] Zas [lp 8 EQ oR] aD aj rfl
def Zay (x:Q7):Option (Bool×Unit) :=
 (Zas ((x.1.1,x.1.2.1,x.1.2.2.1,()),x.2.1,())).bind fun r1=>some (r1.2.1,())
def Ju:Fn:=mkF { cx [J7] with maps:=maps } [] 16 Tryz.f16 [(.rd,yQ7),(.rd,(.slice I))] [(.tmp 4,true,.bool)] Zay [] aD aj rfl
def Zak (x:(Int×(List (List Bool))×Int×Unit)):Option (Bool×Unit) :=
 (aL x.2.1 x.2.2.1).bind fun y1=>(aL y1 x.1).bind fun y2=>some (y2,())
def J8:Fn:=mkF { cx [] with maps:=maps } [] 18 Tryz.f18 [(.rd,I),(.rd,(.ptr yQ5)),(.rd,(.ptr I))] [(.tmp 4,true,.bool)] Zak [] aD aj rfl
def xe (x:(List Int×((List (List Bool))×Int×Unit)×Int×Int×Unit)):Option ((List Int×((List (List Bool))×Int×Unit)×Int×Int×Unit)⊕((Int×Unit)⊕(Unit⊕Empty))) :=
 let (a,b,c,d,_):=x; cond (ltI d c) ((aL a d).bind fun y1=>(Zak (y1,b.1,b.2.1,())).bind fun r2=>cond r2.1 (some (.inr (.inl (d,())))) (some (.inl (a,b,c,(aC .i64 d 1),())))) (some (.inr (.inr (.inl ()))))
def Em:=aa xe
def HL:Ann:=⟨sh [(0,.av (.val (.slice I))),(1,.av (.val (.clo 18 (.prod (.ptr yQ5) (.prod (.ptr I) .unit))))),(7,.av (.val I)),(8,.av (.val I))] [],[(.ret,sh [(4,.av (.val I))] []),(.exit 0,sh [] [])],Em⟩
def Za (x:(List Int×((List (List Bool))×Int×Unit)×Unit)):Option (Int×Unit) :=
 (Em (x.1,x.2.1,(x.1.length:Nat),0,())).bind (K8 (fun z2=>some (z2.1,())) (K8 (fun z3=>some ((-1),())) (fun _=>none)))
def Kr:Fn:=mkF { cx [J8] with maps:=maps } [(2,HL)] 17 Tryz.f17 [(.rd,(.slice I)),(.rd,(.clo 18 (.prod (.ptr yQ5) (.prod (.ptr I) .unit))))] [(.tmp 4,true,I)] Za [lp 2 HL xe] aD aj rfl
def Zm (x:(List Int×Int×Int×List Int×Unit)):Option Q1:=replaceC.fn x
def Kj:Fn:=⟨19,replaceC,yN Dj⟩
def nE (x:((List Q2)×Int×Int×Unit)):Option (((List Q2)×Int×Int×Unit)⊕(((List Q2)×Unit)⊕Empty)) :=
 let (a,b,c,_):=x; cond (ltI c b) ((aQ a.length c).bind fun j1=>(a[j1]?).bind fun y2=>(aQ a.length c).bind fun j3=>(a[j3]?).bind fun y4=>some (.inl ((a.set j3 (y4.1,(cQ .i64 0 y2.2.1),y4.2.2)),b,(aC .i64 c 1),()))) (some (.inr (.inl (a,()))))
def uP:=aa nE
def A0:Ann:=⟨sh [(10,.av (.own 10)),(241,.av (.val I)),(242,.av (.val I))] [(10,.arr yQ2)],[(.exit 14,sh [(10,.av (.own 10))] [(10,.arr yQ2)])],uP⟩
def n8 (x:Q42):Option (Q42⊕(Q41⊕Empty)) :=
 let (a,b,c,d,e,f,g,h,i,k,l,m,n,o,p,q,s,t,_):=x; cond (ltI t s) ((aQ (aZ c q.toNat).length t).bind fun j1=>((aZ c q.toNat)[j1]?).bind fun y2=>(aQ b.length y2).bind fun j3=>(b[j3]?).bind fun y4=>(aQ b.length y2).bind fun j5=>(b[j5]?).bind fun y6=>some (.inl (a,(b.set j5 ((aC .i64 y4.1 h),y6.2)),c,d,e,f,g,h,i,k,l,((m.toNat:Nat):Int),((n.toNat:Nat):Int),o,p,((q.toNat:Nat):Int),s,(aC .i64 t 1),()))) (some (.inr (.inl (a,b,c,d,e,f,g,i,k,l,((m.toNat:Nat):Int),((n.toNat:Nat):Int),o,p,()))))
def qs:=aa n8
def Bz:Ann:=⟨sh [(6,.av (.ptr 6 0)),(10,.av (.own 10)),(11,.av (.ownd 11)),(13,.av (.own 13)),(15,.av (.ptr 15 0)),(16,.av (.val I)),(17,.av (.val I)),(20,.av (.val I)),(112,.av (.val (.slice I))),(113,.av (.val I)),(114,.av (.val I)),(145,.view 13),(146,.av (.val I)),(147,.av (.val I)),(173,.sub 11),(174,.av (.val I)),(175,.av (.val I))] [(6,.box [.ownd 700000]),(700000,.deep .bool),(10,.arr yQ2),(11,.deep I),(13,.arr I),(15,.box [.val I])],[(.exit 12,sh [(6,.av (.ptr 6 0)),(10,.av (.own 10)),(11,.av (.ownd 11)),(13,.av (.own 13)),(15,.av (.ptr 15 0)),(16,.av (.val I)),(17,.av (.val I)),(112,.av (.val (.slice I))),(113,.av (.val I)),(114,.av (.val I)),(145,.view 13),(146,.av (.val I)),(147,.av (.val I))] [(6,.box [.ownd 700000]),(700000,.deep .bool),(10,.arr yQ2),(11,.deep I),(13,.arr I),(15,.box [.val I])])],qs⟩
def nW (x:Q41):Option (Q41⊕(Q38⊕Empty)) :=
  let t_0:=K8 (fun (a_5,b_5,c_5,d_5,e_5,f_5,g_5,h_5,i_5,k_5,l_5,m_5,n_5,o_5,_)=>some (.inl (a_5,b_5,c_5,d_5,e_5,f_5,g_5,h_5,i_5,k_5,((l_5.toNat:Nat):Int),((m_5.toNat:Nat):Int),n_5,(aC .i64 o_5 1),()))) (fun _=>none);let (a,b,c,d,e,f,g,h,i,k,l,m,n,o,_):=x; cond (ltI o n) ((aQ m.toNat o).bind fun j1=>(d[(l.toNat+j1)]?).bind fun y2=>cond (geI (aC .i64 (aC .i64 f 1) o) g) ((aQ c.length y2).bind fun j3=>(qs (a,b,c,d,e,f,g,2,h,i,k,((l.toNat:Nat):Int),((m.toNat:Nat):Int),n,o,((j3:Nat):Int),((aZ c j3).length:Nat),0,())).bind t_0) ((aQ c.length e).bind fun j6=>(aQ c.length y2).bind fun j7=>(app (aZ c j6) (aZ c j7)).bind fun a8=>(aQ c.length e).bind fun j9=>if j6=j9 then (aQ (c.set j9 a8).length y2).bind fun j10=>(qs (a,b,(c.set j9 a8),d,e,f,g,1,h,i,k,((l.toNat:Nat):Int),((m.toNat:Nat):Int),n,o,((j10:Nat):Int),((aZ (c.set j9 a8) j10).length:Nat),0,())).bind t_0 else none)) (some (.inr (.inl (a,b,c,d,e,f,g,h,i,k,()))))
def vT:=aa nW
def B0:Ann:=⟨sh [(6,.av (.ptr 6 0)),(10,.av (.own 10)),(11,.av (.ownd 11)),(13,.av (.own 13)),(15,.av (.ptr 15 0)),(16,.av (.val I)),(17,.av (.val I)),(112,.av (.val (.slice I))),(113,.av (.val I)),(114,.av (.val I)),(145,.view 13),(146,.av (.val I)),(147,.av (.val I))] [(6,.box [.ownd 700000]),(700000,.deep .bool),(10,.arr yQ2),(11,.deep I),(13,.arr I),(15,.box [.val I])],[(.exit 10,sh [(6,.av (.ptr 6 0)),(10,.av (.own 10)),(11,.av (.ownd 11)),(13,.av (.own 13)),(15,.av (.ptr 15 0)),(16,.av (.val I)),(17,.av (.val I)),(112,.av (.val (.slice I))),(113,.av (.val I)),(114,.av (.val I))] [(6,.box [.ownd 700000]),(700000,.deep .bool),(10,.arr yQ2),(11,.deep I),(13,.arr I),(15,.box [.val I])])],vT⟩
def qb (x:Q38):Option (Q38⊕(Q38⊕Empty)) :=
 let (a,b,c,d,e,f,g,h,i,k,_):=x; cond (ltI (aC .i64 g 1) (d.length:Nat)) ((aQ a.length e).bind fun j1=>(aQ d.length (aC .i64 g 1)).bind fun j2=>(d[j2]?).bind fun y3=>(aQ (aZ a j1).length y3).bind fun j4=>((aZ a j1)[j4]?).bind fun y5=>cond y5 (some (.inl (a,b,c,d,e,f,(aC .i64 g 1),h,i,k,()))) (some (.inr (.inl (a,b,c,d,e,f,g,h,i,k,()))))) (some (.inr (.inl (a,b,c,d,e,f,g,h,i,k,()))))
def qy:=aa qb
def BJ:Ann:=⟨sh [(6,.av (.ptr 6 0)),(10,.av (.own 10)),(11,.av (.ownd 11)),(13,.av (.own 13)),(15,.av (.ptr 15 0)),(16,.av (.val I)),(17,.av (.val I)),(112,.av (.val (.slice I))),(113,.av (.val I)),(114,.av (.val I))] [(6,.box [.ownd 700000]),(700000,.deep .bool),(10,.arr yQ2),(11,.deep I),(13,.arr I),(15,.box [.val I])],[(.exit 8,sh [(6,.av (.ptr 6 0)),(10,.av (.own 10)),(11,.av (.ownd 11)),(13,.av (.own 13)),(15,.av (.ptr 15 0)),(16,.av (.val I)),(17,.av (.val I)),(112,.av (.val (.slice I))),(113,.av (.val I)),(114,.av (.val I))] [(6,.box [.ownd 700000]),(700000,.deep .bool),(10,.arr yQ2),(11,.deep I),(13,.arr I),(15,.box [.val I])])],qy⟩
def od (x:Q29):Option (Q29⊕(((List Q2)×Unit)⊕Empty)) :=
 let (a,b,c,d,e,f,g,_):=x; cond (ltI g f) ((aL e g).bind fun y1=>(Za (d,(a,y1,()),())).bind fun r2=>(qy (a,b,c,d,y1,r2.1,r2.1,e,f,g,())).bind (K8 (fun (a_4,b_4,c_4,d_4,e_4,f_4,g_4,h_4,i_4,k_4,_)=>(kN d_4.length (aC .i64 f_4 1) (d_4.length:Nat)).bind fun v5=>(vT (a_4,b_4,c_4,d_4,e_4,f_4,g_4,h_4,i_4,k_4,((v5.1:Nat):Int),((v5.2:Nat):Int),(v5.2:Nat),0,())).bind (K8 (fun (a_7,b_7,c_7,d_7,e_7,f_7,g_7,h_7,i_7,k_7,_)=>(aQ d_7.length f_7).bind fun j8=>(d_7[j8]?).bind fun y9=>(aQ b_7.length y9).bind fun j10=>(b_7[j10]?).bind fun y11=>(aQ d_7.length g_7).bind fun j12=>(d_7[j12]?).bind fun y13=>(aQ b_7.length y13).bind fun j14=>(b_7[j14]?).bind fun y15=>(aQ b_7.length e_7).bind fun j16=>(b_7[j16]?).bind fun y17=>(Zm (d_7,(aC .i64 f_7 1),g_7,[e_7],())).bind fun r18=>some (.inl (a_7,(b_7.set j16 ((i7 .i64 (cQ .i64 (aC .i64 (aC .i64 y11.1 y15.1) y15.2.1) y11.2.1) 2),(i7 .i64 (aC .i64 (aC .i64 (cQ .i64 y15.1 y11.1) y15.2.1) y11.2.1) 2),())),c_7,r18.1,h_7,i_7,(aC .i64 k_7 1),()))) (fun _=>none))) (fun _=>none))) (some (.inr (.inl (b,()))))
def uT:=aa od
def BK:Ann:=⟨sh [(6,.av (.ptr 6 0)),(10,.av (.own 10)),(11,.av (.ownd 11)),(13,.av (.own 13)),(112,.av (.val (.slice I))),(113,.av (.val I)),(114,.av (.val I))] [(6,.box [.ownd 700000]),(700000,.deep .bool),(10,.arr yQ2),(11,.deep I),(13,.arr I)],[(.exit 6,sh [(10,.av (.own 10))] [(10,.arr yQ2)])],uT⟩
def nK (x:Q22):Option (Q22⊕(((List (List Bool))×(List Q2)×(List (List Int))×List Int×Unit)⊕Empty)) :=
 let (a,b,c,d,e,f,_):=x; cond (ltI f e) ((aQ c.length f).bind fun j1=>some (.inl (a,b,(c.set j1 [f]),d,e,(aC .i64 f 1),()))) (some (.inr (.inl (a,b,c,d,()))))
def qm:=aa nK
def Cb:Ann:=⟨sh [(1,.av (.val (.slice I))),(6,.av (.ptr 6 0)),(10,.av (.own 10)),(11,.av (.ownd 11)),(91,.av (.val I)),(92,.av (.val I))] [(6,.box [.ownd 700000]),(700000,.deep .bool),(10,.arr yQ2),(11,.deep I)],[(.exit 4,sh [(1,.av (.val (.slice I))),(6,.av (.ptr 6 0)),(10,.av (.own 10)),(11,.av (.ownd 11))] [(6,.box [.ownd 700000]),(700000,.deep .bool),(10,.arr yQ2),(11,.deep I)])],qm⟩
def ny (x:Q33):Option (Q33⊕(Q16⊕Empty)) :=
 let (a,b,c,d,e,f,g,h,_):=x; cond (ltI h g) ((aL f h).bind fun y1=>(aQ d.length y1.1).bind fun j2=>(aQ d.length y1.2.1).bind fun j3=>(aQ (aZ d j2).length y1.2.1).bind fun j4=>(aQ (aZ (d.set j2 ((aZ d j2).set j4 true)) j3).length y1.1).bind fun j5=>some (.inl (a,b,c,((d.set j2 ((aZ d j2).set j4 true)).set j3 ((aZ (d.set j2 ((aZ d j2).set j4 true)) j3).set j5 true)),e,f,g,(aC .i64 h 1),()))) (some (.inr (.inl (a,b,c,d,e,()))))
def vD:=aa ny
def AV:Ann:=⟨sh [(1,.av (.val (.slice I))),(2,.av (.ptr 2 0)),(6,.av (.ptr 6 0)),(49,.av (.val (.slice yQ2))),(50,.av (.val I)),(51,.av (.val I))] [(2,.box [.val I,.val (.slice yQ2),.val yQ3]),(6,.box [.ownd 700000]),(700000,.deep .bool)],[(.exit 2,sh [(1,.av (.val (.slice I))),(2,.av (.ptr 2 0)),(6,.av (.ptr 6 0))] [(2,.box [.val I,.val (.slice yQ2),.val yQ3]),(6,.box [.ownd 700000]),(700000,.deep .bool)])],vD⟩
def sk (x:Q28):Option (Q28⊕(Q16⊕Empty)) :=
 let (a,b,c,d,e,f,g,_):=x; cond (ltI g f) ((eV .bool a a).bind fun m1=>(aQ d.length g).bind fun j2=>some (.inl (a,b,c,(d.set j2 m1),e,f,(aC .i64 g 1),()))) (some (.inr (.inl (a,b,c,d,e,()))))
def vm:=aa sk
def D9:Ann:=⟨sh [(1,.av (.val (.slice I))),(2,.av (.ptr 2 0)),(6,.av (.ptr 6 0)),(37,.av (.val I)),(38,.av (.val I))] [(2,.box [.val I,.val (.slice yQ2),.val yQ3]),(6,.box [.ownd 700000]),(700000,.deep .bool)],[(.exit 0,sh [(1,.av (.val (.slice I))),(2,.av (.ptr 2 0)),(6,.av (.ptr 6 0))] [(2,.box [.val I,.val (.slice yQ2),.val yQ3]),(6,.box [.ownd 700000]),(700000,.deep .bool)])],vm⟩
def Zap (x:Q7):Option ((List Q2)×Int×Unit) :=
 let ((a,b,c,_),d,_):=x; (Zc ((a,b,c,()),())).bind fun r1=>cond (!r1.1) (some ([],13,())) ((Zay ((a,b,c,()),d,())).bind fun r2=>cond (!r2.1) (some ([],1,())) ((eV (.slice .bool) a a).bind fun m3=>(vm (a,b,c,m3,d,(m3.length:Nat),0,())).bind (K8 (fun (a_5,b_5,c_5,d_5,e_5,_)=>(vD (a_5,b_5,c_5,d_5,e_5,b_5,(b_5.length:Nat),0,())).bind (K8 (fun (a_7,_,_,b_7,c_7,_)=>(eV yQ2 a_7 a_7).bind fun m8=>(aL c_7 1).bind fun y9=>(aL c_7 2).bind fun y10=>(aQ m8.length y9).bind fun j11=>(m8[j11]?).bind fun y12=>(aQ (m8.set j11 (2,0,())).length y10).bind fun j13=>((m8.set j11 (2,0,()))[j13]?).bind fun y14=>(eV (.slice I) a_7 a_7).bind fun m15=>(qm (b_7,((m8.set j11 (2,0,())).set j13 (1,1,())),m15,c_7,(m15.length:Nat),0,())).bind (K8 (fun (a_17,b_17,c_17,d_17,_)=>(aL d_17 0).bind fun y18=>(aL d_17 2).bind fun y19=>(aL d_17 1).bind fun y20=>(cF d_17 3 (d_17.length:Nat)).bind fun y21=>(uT (a_17,b_17,c_17,[y18,y19,y20],y21,(y21.length:Nat),0,())).bind (K8 (fun z23=>(uP (z23.1,(z23.1.length:Nat),0,())).bind (K8 (fun z25=>some (z25.1,0,())) (fun _=>none))) (fun _=>none))) (fun _=>none))) (fun _=>none))) (fun _=>none))))
def JE:Fn:=mkF { cx [JG,Ju,Kr,Kj] with deep:=[35,89],maps:=maps,light:=[14,38] } [(7,D9),(12,AV),(20,Cb),(26,BK),(30,BJ),(33,B0),(40,Bz),(50,A0)] 7 Tryz.f7 [(.rd,yQ7),(.rd,(.slice I))] [(.tmp 4,true,(.slice yQ2)),(.tmp 5,true,I)] Zap [lp 7 D9 sk,lp 12 AV ny,lp 20 Cb nK,lp 26 BK od,lp 30 BJ qb,lp 33 B0 nW,lp 40 Bz n8,lp 50 A0 nE] aD aj rfl (d:=true)
def x6 (x:Q11):Option (Q11⊕(Q1⊕Empty)) :=
 let (a,b,c,d,e,_):=x; cond (ltI e (b.length:Nat)) ((aL b e).bind fun y1=>(aL b e).bind fun y2=>(app d [y1.1,y2.2.1]).bind fun a3=>some (.inl (a,b,c,a3,(aC .i64 e 1),()))) (some (.inr (.inl (d,()))))
def E7:=aa x6
def HX:Ann:=⟨sh [(1,.av (.ptr 1 0)),(3,.av (.own 3)),(4,.av (.val I))] [(1,.box [.val I,.val (.slice yQ2),.val yQ3]),(3,.arr I)],[(.exit 0,sh [(3,.av (.own 3))] [(3,.arr I)])],E7⟩
def Zs (x:(Q6×Unit)):Option Q1 :=
 (E7 (x.1.1,x.1.2.1,x.1.2.2.1,[],0,())).bind (K8 (fun z2=>some (z2.1,())) (fun _=>none))
def Jh:Fn:=mkF { cx [] with maps:=maps } [(3,HX)] 90 Tryz.f90 [(.rd,yQ7)] [(.tmp 2,true,(.slice I))] Zs [lp 3 HX x6] aD aj rfl
def ru (x:Q27):Option (Q27⊕((Bool×Unit)⊕(Q20⊕Empty))) :=
 let (a,b,c,d,e,f,g,h,_):=x; (aL c g).bind fun y1=>cond (ltI h (y1.length:Nat)) ((aL c g).bind fun y2=>(aL y2 h).bind fun y3=>cond (ltI y3 0) (some (.inr (.inl (false,())))) (cond (geI y3 (d.length:Nat)) (some (.inr (.inl (false,())))) ((aQ e.length y3).bind fun j4=>(e[j4]?).bind fun y5=>cond y5 (some (.inr (.inl (false,())))) ((aQ d.length y3).bind fun j6=>(d[j6]?).bind fun y7=>cond (neI y7 g) (some (.inr (.inl (false,())))) ((aQ e.length y3).bind fun j8=>(e[j8]?).bind fun y9=>some (.inl (a,b,c,d,(e.set j8 true),(aC .i64 f 1),g,(aC .i64 h 1),()))))))) (some (.inr (.inr (.inl (a,b,c,d,e,f,g,())))))
def zP:=aa ru
def EP:Ann:=⟨sh [(1,.av (.ptr 1 0)),(5,.av (.own 5)),(6,.av (.own 6)),(7,.av (.val I)),(8,.av (.val I)),(9,.av (.val I))] [(1,.box [.val I,.val (.slice yQ2),.val yQ3]),(5,.arr I),(6,.arr .bool)],[(.ret,sh [(2,.av (.val .bool))] []),(.exit 4,sh [(1,.av (.ptr 1 0)),(5,.av (.own 5)),(6,.av (.own 6)),(7,.av (.val I)),(8,.av (.val I))] [(1,.box [.val I,.val (.slice yQ2),.val yQ3]),(5,.arr I),(6,.arr .bool)])],zP⟩
def rZ (x:Q20):Option (Q20⊕((Bool×Unit)⊕(Q3⊕Empty))) :=
 let (a,b,c,d,e,f,g,_):=x; cond (ltI g a) ((zP (a,b,c,d,e,f,g,0,())).bind (K8 (fun z2=>some (.inr (.inl (z2.1,())))) (K8 (fun (a_3,b_3,c_3,d_3,e_3,f_3,g_3,_)=>some (.inl (a_3,b_3,c_3,d_3,e_3,f_3,(aC .i64 g_3 1),()))) (fun _=>none)))) (some (.inr (.inr (.inl (d,f,())))))
def Aa:=aa rZ
def FK:Ann:=⟨sh [(1,.av (.ptr 1 0)),(5,.av (.own 5)),(6,.av (.own 6)),(7,.av (.val I)),(8,.av (.val I))] [(1,.box [.val I,.val (.slice yQ2),.val yQ3]),(5,.arr I),(6,.arr .bool)],[(.ret,sh [(2,.av (.val .bool))] []),(.exit 2,sh [(5,.av (.own 5)),(7,.av (.val I))] [(5,.arr I)])],Aa⟩
def yp (x:Q9):Option (Q9⊕((Bool×Unit)⊕(Q6⊕Empty))) :=
 let (a,b,c,d,_):=x; cond (ltI d (b.length:Nat)) ((aL b d).bind fun y1=>cond (ltI y1.1 0) (some (.inr (.inl (false,())))) (cond (geI y1.1 a) (some (.inr (.inl (false,())))) (cond (ltI y1.2.1 0) (some (.inr (.inl (false,())))) (cond (geI y1.2.1 a) (some (.inr (.inl (false,())))) (cond (eqI y1.1 y1.2.1) (some (.inr (.inl (false,())))) (some (.inl (a,b,c,(aC .i64 d 1),())))))))) (some (.inr (.inr (.inl (a,b,c,())))))
def EB:=aa yp
def Hm:Ann:=⟨sh [(1,.av (.ptr 1 0)),(3,.av (.val I))] [(1,.box [.val I,.val (.slice yQ2),.val yQ3])],[(.ret,sh [(2,.av (.val .bool))] []),(.exit 0,sh [(1,.av (.ptr 1 0))] [(1,.box [.val I,.val (.slice yQ2),.val yQ3])])],EB⟩
def Zt (x:(Q6×Unit)):Option (Bool×Unit) :=
 let ((a,b,c,_),_):=x; cond (ltI a 0) (some (false,())) (cond (gtI a 16384) (some (false,())) (cond (gtI (b.length:Nat) 32768) (some (false,())) (cond (neI (c.length:Nat) a) (some (false,())) ((EB (a,b,c,0,())).bind (K8 (fun z2=>some (z2.1,())) (K8 (fun (a_3,b_3,c_3,_)=>(Zs ((a_3,b_3,c_3,()),())).bind fun r4=>(eV .bool (r4.1.length:Nat) (r4.1.length:Nat)).bind fun m5=>(Aa (a_3,b_3,c_3,r4.1,m5,0,0,())).bind (K8 (fun z7=>some (z7.1,())) (K8 (fun z8=>some ((eqI z8.2.1 (z8.1.length:Nat)),())) (fun _=>none)))) (fun _=>none)))))))
def GB:Fn:=mkF { cx [Jh] with maps:=maps } [(4,Hm),(13,FK),(16,EP)] 54 Tryz.f54 [(.rd,yQ7)] [(.tmp 2,true,.bool)] Zt [lp 4 Hm yp,lp 13 FK rZ,lp 16 EP ru] aD aj rfl
def xI (x:Q19):Option (Q19⊕(Q11⊕Empty)) :=
 let (a,b,c,d,e,f,g,_):=x; cond (ltI g (f.length:Nat)) ((aL f g).bind fun y1=>cond (eqI (f.length:Nat) 0) none ((aL f (kO (aC .i64 g 1) (f.length:Nat))).bind fun y2=>(aQ d.length y1).bind fun j3=>(d[j3]?).bind fun y4=>some (.inl (a,b,c,(d.set j3 y2),e,f,(aC .i64 g 1),())))) (some (.inr (.inl (a,b,c,d,e,()))))
def DF:=aa xI
def HV:Ann:=⟨sh [(1,.av (.ptr 1 0)),(3,.av (.own 3)),(4,.av (.val I)),(5,.av (.val (.slice I))),(6,.av (.val I))] [(1,.box [.val I,.val (.slice yQ2),.val yQ3]),(3,.arr I)],[(.exit 2,sh [(1,.av (.ptr 1 0)),(3,.av (.own 3)),(4,.av (.val I))] [(1,.box [.val I,.val (.slice yQ2),.val yQ3]),(3,.arr I)])],DF⟩
def yb (x:Q11):Option (Q11⊕(Q1⊕Empty)) :=
 let (a,b,c,d,e,_):=x; cond (ltI e a) ((aL c e).bind fun y1=>(DF (a,b,c,d,e,y1,0,())).bind (K8 (fun z3=>some (.inl (z3.1,z3.2.1,z3.2.2.1,z3.2.2.2.1,(aC .i64 z3.2.2.2.2.1 1),()))) (fun _=>none))) (some (.inr (.inl (d,()))))
def Br:=aa yb
def HY:Ann:=⟨sh [(1,.av (.ptr 1 0)),(3,.av (.own 3)),(4,.av (.val I))] [(1,.box [.val I,.val (.slice yQ2),.val yQ3]),(3,.arr I)],[(.exit 0,sh [(3,.av (.own 3))] [(3,.arr I)])],Br⟩
def Zr (x:(Q6×Unit)):Option Q1 :=
 let ((a,b,c,_),_):=x; (eV I (jS .i64 2 (b.length:Nat)) (jS .i64 2 (b.length:Nat))).bind fun m1=>(Br (a,b,c,m1,0,())).bind (K8 (fun z3=>some (z3.1,())) (fun _=>none))
def Jf:Fn:=mkF { cx [] with maps:=maps } [(3,HY),(7,HV)] 55 Tryz.f55 [(.rd,yQ7)] [(.tmp 2,true,(.slice I))] Zr [lp 3 HY yb,lp 7 HV xI] aD aj rfl
def Zy (x:(Int×Unit)):Option (Int×Unit) :=
 cond (eqI (kO x.1 2) 0) (some ((aC .i64 x.1 1),())) (some ((cQ .i64 x.1 1),()))
def J9:Fn:=mkF { cx [] with maps:=maps } [] 56 Tryz.f56 [(.rd,I)] [(.tmp 2,true,I)] Zy [] aD aj rfl
def rP (x:((List (List Int))×List Int×List Bool×List Int×Int×Int×Unit)):Option (((List (List Int))×List Int×List Bool×List Int×Int×Int×Unit)⊕(((List (List Int))×List Int×List Bool×List Int×Int×Unit)⊕Empty)) :=
 let (a,b,c,d,e,f,_):=x; (aQ c.length f).bind fun j1=>(c[j1]?).bind fun y2=>cond (!y2) ((aQ c.length f).bind fun j3=>(c[j3]?).bind fun y4=>(app d [f]).bind fun a5=>(Zy (f,())).bind fun r6=>(aQ b.length r6.1).bind fun j7=>(b[j7]?).bind fun y8=>some (.inl (a,b,(c.set j3 true),a5,e,y8,()))) (some (.inr (.inl (a,b,c,d,e,()))))
def zm:=aa rP
def Ef:Ann:=⟨sh [(3,.av (.own 3)),(4,.av (.own 4)),(5,.av (.own 5)),(6,.av (.val I)),(7,.av (.own 7)),(8,.av (.val I))] [(3,.arr (.slice I)),(4,.arr I),(5,.arr .bool),(7,.arr I)],[(.exit 2,sh [(3,.av (.own 3)),(4,.av (.own 4)),(5,.av (.own 5)),(6,.av (.val I)),(7,.av (.own 7))] [(3,.arr (.slice I)),(4,.arr I),(5,.arr .bool),(7,.arr I)])],zm⟩
def xJ (x:((List (List Int))×List Int×List Bool×Int×Unit)):Option (((List (List Int))×List Int×List Bool×Int×Unit)⊕(Q4⊕Empty)) :=
 let (a,b,c,d,_):=x; cond (ltI d (b.length:Nat)) ((aQ c.length d).bind fun j1=>(c[j1]?).bind fun y2=>cond y2 (some (.inl (a,b,c,(aC .i64 d 1),()))) ((zm (a,b,c,[],d,d,())).bind (K8 (fun z4=>(app z4.1 [z4.2.2.2.1]).bind fun a5=>some (.inl (a5,z4.2.1,z4.2.2.1,(aC .i64 z4.2.2.2.2.1 1),()))) (fun _=>none)))) (some (.inr (.inl (a,()))))
def DA:=aa xJ
def H4:Ann:=⟨sh [(3,.av (.own 3)),(4,.av (.own 4)),(5,.av (.own 5)),(6,.av (.val I))] [(3,.arr (.slice I)),(4,.arr I),(5,.arr .bool)],[(.exit 0,sh [(3,.av (.own 3))] [(3,.arr (.slice I))])],DA⟩
def Zx (x:(Q6×Unit)):Option Q4 :=
 let ((a,b,c,_),_):=x; (Zt ((a,b,c,()),())).bind fun r1=>cond (!r1.1) (some ([],())) ((Zr ((a,b,c,()),())).bind fun r2=>(eV .bool (r2.1.length:Nat) (r2.1.length:Nat)).bind fun m3=>(DA ([],r2.1,m3,0,())).bind (K8 (fun z5=>some (z5.1,())) (fun _=>none)))
def Jz:Fn:=mkF { cx [GB,Jf,J9] with maps:=maps } [(7,H4),(12,Ef)] 24 Tryz.f24 [(.rd,yQ7)] [(.tmp 2,true,yQ3)] Zx [lp 7 H4 xJ,lp 12 Ef rP] aD aj rfl
def rL (x:Q3):Option (Q3⊕((Int×Unit)⊕Empty)) :=
 let (a,b,_):=x; (aL a b).bind fun y1=>cond (neI y1 b) ((aL a b).bind fun y2=>some (.inl (a,y2,()))) (some (.inr (.inl (b,()))))
def zG:=aa rL
def DD:Ann:=⟨sh [(0,.av (.val (.slice I))),(1,.av (.val I))] [],[(.exit 0,sh [(1,.av (.val I))] [])],zG⟩
def Zad (x:Q3):Option (Int×Unit) :=
 (zG (x.1,x.2.1,())).bind (K8 (fun z2=>some (z2.1,())) (fun _=>none))
def JN:Fn:=mkF { cx [] with maps:=maps } [(1,DD)] 88 Tryz.f88 [(.rd,(.slice I)),(.rd,I)] [(.tmp 4,true,I)] Zad [lp 1 DD rL] aD aj rfl
def wI (x:(Int×(List Q2)×(List (List Int))×List Int×Int×Int×Unit)):Option ((Int×(List Q2)×(List (List Int))×List Int×Int×Int×Unit)⊕((Int×Unit)⊕Empty)) :=
 let (a,b,c,d,e,f,_):=x; cond (ltI f (b.length:Nat)) ((aL b f).bind fun y1=>(Zad (d,y1.1,())).bind fun r2=>(aL b f).bind fun y3=>(Zad (d,y3.2.1,())).bind fun r4=>cond (neI r2.1 r4.1) ((aQ d.length (maxI r2.1 r4.1)).bind fun j5=>(d[j5]?).bind fun y6=>some (.inl (a,b,c,(d.set j5 (kr r2.1 r4.1)),(cQ .i64 e 1),(aC .i64 f 1),()))) (some (.inl (a,b,c,d,e,(aC .i64 f 1),())))) (some (.inr (.inl (e,()))))
def Fi:=aa wI
def HU:Ann:=⟨sh [(1,.av (.ptr 1 0)),(3,.av (.own 3)),(5,.av (.val I)),(6,.av (.val I))] [(1,.box [.val I,.val (.slice yQ2),.val yQ3]),(3,.arr I)],[(.exit 2,sh [(5,.av (.val I))] [])],Fi⟩
def pp (x:Q11):Option (Q11⊕(Q10⊕Empty)) :=
 let (a,b,c,d,e,_):=x; cond (ltI e a) ((app d [e]).bind fun a1=>some (.inl (a,b,c,a1,(aC .i64 e 1),()))) (some (.inr (.inl (a,b,c,d,()))))
def ub:=aa pp
def Hu:Ann:=⟨sh [(1,.av (.ptr 1 0)),(3,.av (.own 3)),(4,.av (.val I))] [(1,.box [.val I,.val (.slice yQ2),.val yQ3]),(3,.arr I)],[(.exit 0,sh [(1,.av (.ptr 1 0)),(3,.av (.own 3))] [(1,.box [.val I,.val (.slice yQ2),.val yQ3]),(3,.arr I)])],ub⟩
def Zf (x:(Q6×Unit)):Option (Int×Unit) :=
 (ub (x.1.1,x.1.2.1,x.1.2.2.1,[],0,())).bind (K8 (fun z2=>(Fi (z2.1,z2.2.1,z2.2.2.1,z2.2.2.2.1,z2.1,0,())).bind (K8 (fun z4=>some (z4.1,())) (fun _=>none))) (fun _=>none))
def Jv:Fn:=mkF { cx [JN] with maps:=maps } [(3,Hu),(8,HU)] 52 Tryz.f52 [(.rd,yQ7)] [(.tmp 2,true,I)] Zf [lp 3 Hu pp,lp 8 HU wI] aD aj rfl
def wn (x:(Int×(List Q2)×(List (List Int))×Int×Int×Unit)):Option ((Int×(List Q2)×(List (List Int))×Int×Int×Unit)⊕(Q9⊕Empty)) :=
 let (a,b,c,d,e,_):=x; cond (ltI e a) ((aL c e).bind fun y1=>cond (eqI (y1.length:Nat) 0) (some (.inl (a,b,c,(aC .i64 d 1),(aC .i64 e 1),()))) (some (.inl (a,b,c,d,(aC .i64 e 1),())))) (some (.inr (.inl (a,b,c,d,()))))
def Fo:=aa wn
def Hh:Ann:=⟨sh [(1,.av (.ptr 1 0)),(3,.av (.val I)),(4,.av (.val I))] [(1,.box [.val I,.val (.slice yQ2),.val yQ3])],[(.exit 0,sh [(1,.av (.ptr 1 0)),(3,.av (.val I))] [(1,.box [.val I,.val (.slice yQ2),.val yQ3])])],Fo⟩
def Zu (x:(Q6×Unit)):Option (Int×Unit) :=
 let ((a,b,c,_),_):=x; (Zt ((a,b,c,()),())).bind fun r1=>cond (!r1.1) (some ((-1),())) ((Zx ((a,b,c,()),())).bind fun r2=>(Fo (a,b,c,(r2.1.length:Nat),0,())).bind (K8 (fun z4=>(Zf ((z4.1,z4.2.1,z4.2.2.1,()),())).bind fun r5=>some ((cQ .i64 r5.1 (i7 .i64 (aC .i64 (cQ .i64 z4.1 (z4.2.1.length:Nat)) z4.2.2.2.1) 2)),())) (fun _=>none)))
def KR:Fn:=mkF { cx [Jz,Jv,GB] with maps:=maps } [(5,Hh)] 51 Tryz.f51 [(.rd,yQ7)] [(.tmp 2,true,I)] Zu [lp 5 Hh wn] aD aj rfl
def xX (x:Q12):Option (Q12⊕((Bool×Unit)⊕(Unit⊕Empty))) :=
 let (a,b,c,d,e,f,_):=x; cond (ltI f (b.length:Nat)) ((aL b f).bind fun y1=>let t_0:=cond (eqI y1.1 e) (cond (eqI y1.2.1 d) (some (.inr (.inl (true,())))) (some (.inl (a,b,c,d,e,(aC .i64 f 1),())))) (some (.inl (a,b,c,d,e,(aC .i64 f 1),()))); cond (eqI y1.1 d) (cond (eqI y1.2.1 e) (some (.inr (.inl (true,())))) t_0) t_0) (some (.inr (.inr (.inl ()))))
def DR:=aa xX
def HI:Ann:=⟨sh [(1,.av (.val I)),(2,.av (.val I)),(3,.av (.ptr 3 0)),(7,.av (.val I))] [(3,.box [.val I,.val (.slice yQ2),.val yQ3])],[(.ret,sh [(6,.av (.val .bool))] []),(.exit 0,sh [] [])],DR⟩
def Zp (x:(Q6×Int×Int×Unit)):Option (Bool×Unit) :=
 let ((a,b,c,_),d,e,_):=x; (DR (a,b,c,d,e,0,())).bind (K8 (fun z2=>some (z2.1,())) (K8 (fun z3=>some (false,())) (fun _=>none)))
def Kp:Fn:=mkF { cx [] with maps:=maps } [(2,HI)] 89 Tryz.f89 [(.rd,yQ7),(.rd,I),(.rd,I)] [(.tmp 6,true,.bool)] Zp [lp 2 HI xX] aD aj rfl
def xu (x:Q9):Option (Q9⊕((Bool×Unit)⊕(Unit⊕Empty))) :=
 let (a,b,c,d,_):=x; cond (ltI d (b.length:Nat)) ((cF b 0 d).bind fun y1=>(aL b d).bind fun y2=>(aL b d).bind fun y3=>(Zp ((a,y1,c,()),y2.1,y3.2.1,())).bind fun r4=>cond r4.1 (some (.inr (.inl (false,())))) (some (.inl (a,b,c,(aC .i64 d 1),())))) (some (.inr (.inr (.inl ()))))
def D7:=aa xu
def HJ:Ann:=⟨sh [(1,.av (.ptr 1 0)),(3,.av (.val I))] [(1,.box [.val I,.val (.slice yQ2),.val yQ3])],[(.ret,sh [(2,.av (.val .bool))] []),(.exit 0,sh [] [])],D7⟩
def Zn (x:(Q6×Unit)):Option (Bool×Unit) :=
 (D7 (x.1.1,x.1.2.1,x.1.2.2.1,0,())).bind (K8 (fun z2=>some (z2.1,())) (K8 (fun z3=>some (true,())) (fun _=>none)))
def KL:Fn:=mkF { cx [Kp] with maps:=maps } [(2,HJ)] 53 Tryz.f53 [(.rd,yQ7)] [(.tmp 2,true,.bool)] Zn [lp 2 HJ xu] aD aj rfl
def Zw (x:(Q6×Unit)):Option (Int×Unit) :=
 let ((a,b,c,_),_):=x; (Zu ((a,b,c,()),())).bind fun r1=>cond (neI r1.1 0) (some (13,())) ((Zf ((a,b,c,()),())).bind fun r2=>cond (neI r2.1 1) (some (12,())) ((Zn ((a,b,c,()),())).bind fun r3=>cond (!r3.1) (some (6,())) (cond (ltI a 3) (some (1,())) (some (0,())))))
def Kt:Fn:=mkF { cx [KR,Jv,KL] with maps:=maps } [] 23 Tryz.f23 [(.rd,yQ7)] [(.tmp 2,true,I)] Zw [] aD aj rfl
def xL (x:((List (List Int))×Int×Unit)):Option (((List (List Int))×Int×Unit)⊕((Bool×Unit)⊕(Unit⊕Empty))) :=
 let (a,b,_):=x; cond (ltI b (a.length:Nat)) ((aQ a.length b).bind fun j1=>(a[j1]?).bind fun y2=>cond (neI (y2.length:Nat) 3) (some (.inr (.inl (false,())))) (some (.inl (a,(aC .i64 b 1),())))) (some (.inr (.inr (.inl ()))))
def EJ:=aa xL
def Hv:Ann:=⟨sh [(3,.av (.own 3)),(4,.av (.val I))] [(3,.arr (.slice I))],[(.ret,sh [(2,.av (.val .bool))] []),(.exit 0,sh [] [])],EJ⟩
def Zd (x:(Q6×Unit)):Option (Bool×Unit) :=
 let ((a,b,c,_),_):=x; (Zw ((a,b,c,()),())).bind fun r1=>cond (neI r1.1 0) (some (false,())) ((Zx ((a,b,c,()),())).bind fun r2=>(EJ (r2.1,0,())).bind (K8 (fun z4=>some (z4.1,())) (K8 (fun z5=>some (true,())) (fun _=>none))))
def Ih:Fn:=mkF { cx [Kt,Jz] with maps:=maps } [(5,Hv)] 10 Tryz.f10 [(.rd,yQ7)] [(.tmp 2,true,.bool)] Zd [lp 5 Hv xL] aD aj rfl
def qE (x:(List Int×Int×Int×Unit)):Option ((List Int×Int×Int×Unit)⊕((Bool×Unit)⊕(Unit⊕Empty))) :=
 let (a,b,c,_):=x; cond (ltI c (a.length:Nat)) ((aL a c).bind fun y1=>cond (eqI y1 b) (some (.inr (.inl (true,())))) (some (.inl (a,b,(aC .i64 c 1),())))) (some (.inr (.inr (.inl ()))))
def zH:=aa qE
def Eh:Ann:=⟨sh [(0,.av (.val (.slice I))),(1,.av (.val I)),(5,.av (.val I))] [],[(.ret,sh [(4,.av (.val .bool))] []),(.exit 0,sh [] [])],zH⟩
def Zan (x:Q3):Option (Bool×Unit) :=
 (zH (x.1,x.2.1,0,())).bind (K8 (fun z2=>some (z2.1,())) (K8 (fun z3=>some (false,())) (fun _=>none)))
def JP:Fn:=mkF { cx [] with maps:=maps } [(2,Eh)] 25 Tryz.f25 [(.rd,(.slice I)),(.rd,I)] [(.tmp 4,true,.bool)] Zan [lp 2 Eh qE] aD aj rfl
def Zaf (x:(Q6×Int×Unit)):Option (Int×Unit) :=
 let ((a,b,c,_),d,_):=x; (Zt ((a,b,c,()),())).bind fun r1=>cond (!r1.1) (some ((-1),())) (cond (ltI d 0) (some ((-1),())) (cond (geI d (jS .i64 2 (b.length:Nat))) (some ((-1),())) ((Zr ((a,b,c,()),())).bind fun r2=>(Zy (d,())).bind fun r3=>(aQ r2.1.length r3.1).bind fun j4=>(r2.1[j4]?).bind fun y5=>some (y5,()))))
def JF:Fn:=mkF { cx [GB,Jf,J9] with maps:=maps } [] 57 Tryz.f57 [(.rd,yQ7),(.rd,I)] [(.tmp 4,true,I)] Zaf [] aD aj rfl
def Zah (x:(Q6×Int×Unit)):Option (Int×Unit) :=
 let ((a,b,c,_),d,_):=x; (Zt ((a,b,c,()),())).bind fun r1=>cond (!r1.1) (some ((-1),())) (cond (ltI d 0) (some ((-1),())) (cond (geI d (jS .i64 2 (b.length:Nat))) (some ((-1),())) ((Zs ((a,b,c,()),())).bind fun r2=>(aQ r2.1.length d).bind fun j3=>(r2.1[j3]?).bind fun y4=>some (y4,()))))
def Jd:Fn:=mkF { cx [GB,Jh] with maps:=maps } [] 58 Tryz.f58 [(.rd,yQ7),(.rd,I)] [(.tmp 4,true,I)] Zah [] aD aj rfl
def Zaj (x:(Q6×Unit)):Option (Int×Int×Int×Unit) :=
 let ((a,b,c,_),_):=x; (Zaf ((a,b,c,()),0,())).bind fun r1=>(Zah ((a,b,c,()),0,())).bind fun r2=>(Zah ((a,b,c,()),1,())).bind fun r3=>(Zah ((a,b,c,()),(s6 .i64 r1.1 1),())).bind fun r4=>some (r2.1,r3.1,r4.1,())
def J6:Fn:=mkF { cx [JF,Jd] with maps:=maps } [] 26 Tryz.f26 [(.rd,yQ7)] [(.tmp 2,true,I),(.tmp 3,true,I),(.tmp 4,true,I)] Zaj [] aD aj rfl
def wG (x:Q12):Option (Q12⊕((Bool×Unit)⊕(Unit⊕Empty))) :=
 let (a,b,c,d,e,f,_):=x; let t_0:=(aL b f).bind fun y3=>cond (eqI y3.1 e) ((aL b f).bind fun y4=>cond (eqI y4.2.1 d) (some (.inr (.inl (true,())))) (some (.inl (a,b,c,d,e,(aC .i64 f 1),())))) (some (.inl (a,b,c,d,e,(aC .i64 f 1),()))); cond (ltI f (b.length:Nat)) ((aL b f).bind fun y1=>cond (eqI y1.1 d) ((aL b f).bind fun y2=>cond (eqI y2.2.1 e) (some (.inr (.inl (true,())))) t_0) t_0) (some (.inr (.inr (.inl ()))))
def FW:=aa wG
def HC:Ann:=⟨sh [(1,.av (.val I)),(2,.av (.val I)),(3,.av (.ptr 3 0)),(7,.av (.val I))] [(3,.box [.val I,.val (.slice yQ2),.val yQ3])],[(.ret,sh [(6,.av (.val .bool))] []),(.exit 0,sh [] [])],FW⟩
def Zq (x:(Q6×Int×Int×Unit)):Option (Bool×Unit) :=
 let ((a,b,c,_),d,e,_):=x; (FW (a,b,c,d,e,0,())).bind (K8 (fun z2=>some (z2.1,())) (K8 (fun z3=>some (false,())) (fun _=>none)))
def KM:Fn:=mkF { cx [] with maps:=maps } [(2,HC)] 91 Tryz.f91 [(.rd,yQ7),(.rd,I),(.rd,I)] [(.tmp 6,true,.bool)] Zq [lp 2 HC wG] aD aj rfl
def nL (x:Q36):Option (Q36⊕((List Int×Int×Int×Int×Int×Int×Unit)⊕Empty)) :=
 let (a,b,c,d,e,f,g,h,i,k,l,m,_):=x; cond (ltI m e) ((aL d m).bind fun y1=>(Zq ((a,b,c,()),y1,g,())).bind fun r2=>cond r2.1 (some (.inl (a,b,c,d,e,f,g,h,i,k,(aC .i64 l 1),(aC .i64 m 1),()))) (some (.inl (a,b,c,d,e,f,g,h,i,k,l,(aC .i64 m 1),())))) (some (.inr (.inl (f,g,h,i,k,l,()))))
def vI:=aa nL
def BH:Ann:=⟨sh [(1,.av (.val (.slice I))),(2,.av (.val I)),(3,.av (.val (.slice I))),(4,.av (.ptr 4 0)),(10,.av (.val I)),(11,.av (.val I)),(12,.av (.val I)),(13,.av (.val I)),(15,.av (.val I)),(16,.av (.val I))] [(4,.box [.val I,.val (.slice yQ2),.val yQ3])],[(.exit 2,sh [(3,.av (.val (.slice I))),(10,.av (.val I)),(11,.av (.val I)),(12,.av (.val I)),(13,.av (.val I)),(15,.av (.val I))] [])],vI⟩
def rE (x:Q34):Option (Q34⊕((Int×(List Q2)×(List (List Int))×List Int×Int×List Int×Int×Int×Int×Int×Unit)⊕Empty)) :=
 let (a,b,c,d,e,f,g,h,i,k,l,_):=x; cond (ltI l (f.length:Nat)) ((aL f l).bind fun y1=>(Zq ((a,b,c,()),y1,g,())).bind fun r2=>cond r2.1 (cond (ltI h 0) (some (.inl (a,b,c,d,e,f,g,l,l,(aC .i64 k 1),(aC .i64 l 1),()))) (some (.inl (a,b,c,d,e,f,g,h,l,(aC .i64 k 1),(aC .i64 l 1),())))) (some (.inl (a,b,c,d,e,f,g,h,i,k,(aC .i64 l 1),())))) (some (.inr (.inl (a,b,c,d,e,f,g,h,i,k,()))))
def zI:=aa rE
def Fd:Ann:=⟨sh [(1,.av (.val (.slice I))),(2,.av (.val I)),(3,.av (.val (.slice I))),(4,.av (.ptr 4 0)),(10,.av (.val I)),(11,.av (.val I)),(12,.av (.val I)),(13,.av (.val I)),(14,.av (.val I))] [(4,.box [.val I,.val (.slice yQ2),.val yQ3])],[(.exit 0,sh [(1,.av (.val (.slice I))),(2,.av (.val I)),(3,.av (.val (.slice I))),(4,.av (.ptr 4 0)),(10,.av (.val I)),(11,.av (.val I)),(12,.av (.val I)),(13,.av (.val I))] [(4,.box [.val I,.val (.slice yQ2),.val yQ3])])],zI⟩
def Zag (x:(Q6×List Int×Int×List Int×Unit)):Option (List Int×Bool×Unit) :=
 let ((a,b,c,_),d,e,f,_):=x; (aL d e).bind fun y1=>(zI (a,b,c,d,e,f,y1,(-1),(-1),0,0,())).bind (K8 (fun (a_3,b_3,c_3,d_3,e_3,f_3,g_3,h_3,i_3,k_3,_)=>(vI (a_3,b_3,c_3,d_3,e_3,f_3,g_3,h_3,i_3,k_3,0,0,())).bind (K8 (fun (a_5,b_5,c_5,d_5,e_5,f_5,_)=>cond (ltI e_5 2) (some ([],false,())) (cond (neI f_5 e_5) (some ([],false,())) (cond (neI (aC .i64 (cQ .i64 d_5 c_5) 1) e_5) (some ([],false,())) ((cF a_5 0 (aC .i64 c_5 1)).bind fun y6=>(app [] y6).bind fun a7=>(app a7 [b_5]).bind fun a8=>(cF a_5 d_5 (a_5.length:Nat)).bind fun y9=>(app a8 y9).bind fun a10=>some (a10,true,()))))) (fun _=>none))) (fun _=>none))
def Jx:Fn:=mkF { cx [KM] with maps:=maps } [(4,Fd),(13,BH)] 59 Tryz.f59 [(.rd,yQ7),(.rd,(.slice I)),(.rd,I),(.rd,(.slice I))] [(.tmp 8,true,(.slice I)),(.tmp 9,true,.bool)] Zag [lp 4 Fd rE,lp 13 BH nL] aD aj rfl
def wR (x:Q18):Option (Q18⊕((Bool×Unit)⊕(Q1⊕Empty))) :=
 let (a,b,c,d,e,f,g,_):=x; cond (ltI g f) ((Zag ((a,b,c,()),e,g,d,())).bind fun r1=>cond (!r1.2.1) (some (.inr (.inl (false,())))) (some (.inl (a,b,c,r1.1,e,f,(aC .i64 g 1),())))) (some (.inr (.inr (.inl (d,())))))
def Dl:=aa wR
def Hg:Ann:=⟨sh [(1,.av (.val (.slice I))),(2,.av (.val I)),(3,.av (.ptr 3 0)),(8,.av (.own 8)),(9,.av (.val I))] [(3,.box [.val I,.val (.slice yQ2),.val yQ3]),(8,.arr I)],[(.ret,sh [(6,.av (.nils)),(7,.av (.val .bool))] []),(.exit 0,sh [(8,.av (.own 8))] [(8,.arr I)])],Dl⟩
def Zi (x:(Q6×List Int×Int×Unit)):Option (List Int×Bool×Unit) :=
 let ((a,b,c,_),d,e,_):=x; (aL d 0).bind fun y1=>(aL d 1).bind fun y2=>(Dl (a,b,c,[y1,y2],d,e,2,())).bind (K8 (fun z4=>some ([],z4.1,())) (K8 (fun z5=>some (z5.1,true,())) (fun _=>none)))
def JH:Fn:=mkF { cx [Jx] with maps:=maps } [(3,Hg)] 27 Tryz.f27 [(.rd,yQ7),(.rd,(.slice I)),(.rd,I)] [(.tmp 6,true,(.slice I)),(.tmp 7,true,.bool)] Zi [lp 3 Hg wR] aD aj rfl
def rg (x:Q11):Option (Q11⊕((Bool×Unit)⊕(Q10⊕Empty))) :=
 let (a,b,c,d,e,_):=x; cond (ltI e (d.length:Nat)) ((aL d e).bind fun y1=>cond (ltI y1 0) (some (.inr (.inl (false,())))) ((aL d e).bind fun y2=>cond (geI y2 a) (some (.inr (.inl (false,())))) ((cF d 0 e).bind fun y3=>(aL d e).bind fun y4=>(Zan (y3,y4,())).bind fun r5=>cond r5.1 (some (.inr (.inl (false,())))) (some (.inl (a,b,c,d,(aC .i64 e 1),())))))) (some (.inr (.inr (.inl (a,b,c,d,())))))
def so:=aa rg
def FB:Ann:=⟨sh [(1,.av (.val (.slice I))),(2,.av (.ptr 2 0)),(5,.av (.val I))] [(2,.box [.val I,.val (.slice yQ2),.val yQ3])],[(.ret,sh [(4,.av (.val .bool))] []),(.exit 0,sh [(1,.av (.val (.slice I))),(2,.av (.ptr 2 0))] [(2,.box [.val I,.val (.slice yQ2),.val yQ3])])],so⟩
def Zab (x:Q7):Option (Bool×Unit) :=
 let ((a,b,c,_),d,_):=x; (Zd ((a,b,c,()),())).bind fun r1=>cond (!r1.1) (some (false,())) (cond (neI (d.length:Nat) a) (some (false,())) ((so (a,b,c,d,0,())).bind (K8 (fun z3=>some (z3.1,())) (K8 (fun (a_4,b_4,c_4,d_4,_)=>(Zaj ((a_4,b_4,c_4,()),())).bind fun r5=>(aL d_4 0).bind fun y6=>cond (neI y6 r5.1) (some (false,())) ((aL d_4 1).bind fun y7=>cond (neI y7 r5.2.1) (some (false,())) ((aL d_4 (cQ .i64 a_4 1)).bind fun y8=>cond (neI y8 r5.2.2.1) (some (false,())) ((Zi ((a_4,b_4,c_4,()),d_4,a_4,())).bind fun r9=>some (r9.2.1,()))))) (fun _=>none)))))
def H5:Fn:=mkF { cx [Ih,JP,J6,JH] with maps:=maps } [(4,FB)] 11 Tryz.f11 [(.rd,yQ7),(.rd,(.slice I))] [(.tmp 4,true,.bool)] Zab [lp 4 FB rg] aD aj rfl
def Zj (x:(Q6×List Int×Int×Unit)):Option Q3 :=
 let ((a,b,c,_),d,e,_):=x; (Zd ((a,b,c,()),())).bind fun r1=>cond (!r1.1) (some ([],13,())) ((Zab ((a,b,c,()),d,())).bind fun r2=>cond (!r2.1) (some ([],1,())) (cond (ltI e 2) (some ([],3,())) (cond (gtI e a) (some ([],3,())) ((Zi ((a,b,c,()),d,e,())).bind fun r3=>some (r3.1,0,())))))
def Ky:Fn:=mkF { cx [Ih,H5,JH] with maps:=maps } [] 20 Tryz.f20 [(.rd,yQ7),(.rd,(.slice I)),(.rd,I)] [(.tmp 6,true,(.slice I)),(.tmp 7,true,I)] Zj [] aD aj rfl
def wT (x:Q12):Option (Q12⊕((Bool×Unit)⊕(Unit⊕Empty))) :=
 let (a,b,c,d,e,f,_):=x; cond (ltI f (b.length:Nat)) ((aL b f).bind fun y1=>let t_0:=cond (eqI y1.1 e) (cond (eqI y1.2.1 d) (some (.inr (.inl (true,())))) (some (.inl (a,b,c,d,e,(aC .i64 f 1),())))) (some (.inl (a,b,c,d,e,(aC .i64 f 1),()))); cond (eqI y1.1 d) (cond (eqI y1.2.1 e) (some (.inr (.inl (true,())))) t_0) t_0) (some (.inr (.inr (.inl ()))))
def Et:=aa wT
def HE:Ann:=⟨sh [(1,.av (.val I)),(2,.av (.val I)),(3,.av (.ptr 3 0)),(7,.av (.val I))] [(3,.box [.val I,.val (.slice yQ2),.val yQ3])],[(.ret,sh [(6,.av (.val .bool))] []),(.exit 0,sh [] [])],Et⟩
def Zl (x:(Q6×Int×Int×Unit)):Option (Bool×Unit) :=
 let ((a,b,c,_),d,e,_):=x; (Et (a,b,c,d,e,0,())).bind (K8 (fun z2=>some (z2.1,())) (K8 (fun z3=>some (false,())) (fun _=>none)))
def Ku:Fn:=mkF { cx [] with maps:=maps } [(2,HE)] 21 Tryz.f21 [(.rd,yQ7),(.rd,I),(.rd,I)] [(.tmp 6,true,.bool)] Zl [lp 2 HE wT] aD aj rfl
def wP (x:((List Q2)×(List (List Int))×Int×Int×Int×Unit)):Option (((List Q2)×(List (List Int))×Int×Int×Int×Unit)⊕(Q5⊕Empty)) :=
 let (a,b,c,d,e,_):=x; (aQ b.length c).bind fun j1=>cond (ltI e ((aZ b j1).length:Nat)) ((aQ b.length c).bind fun j2=>(aQ (aZ b j2).length e).bind fun j3=>((aZ b j2)[j3]?).bind fun y4=>(aQ a.length y4).bind fun j5=>(a[j5]?).bind fun y6=>(aQ a.length y4).bind fun j7=>(a[j7]?).bind fun y8=>some (.inl ((a.set j7 ((aC .i64 y6.1 d),y8.2)),b,c,d,(aC .i64 e 1),()))) (some (.inr (.inl (a,b,()))))
def DM:=aa wP
def HP:Ann:=⟨⟨[(0,.av (.ptr 0 0)),(1,.av (.val I)),(2,.av (.val I)),(6,.av (.val I))],[(0,.box [.own 100000,.ownd 100001]),(100000,.arr yQ2),(100001,.deep I)],[0]⟩,[(.exit 0,⟨[(0,.av (.ptr 0 0))],[(0,.box [.own 100000,.ownd 100001]),(100000,.arr yQ2),(100001,.deep I)],[0]⟩)],DM⟩
def Ze (x:(Q5×Int×Int×Unit)):Option (Q5×Unit) :=
 (DM (x.1.1,x.1.2.1,x.2.1,x.2.2.1,0,())).bind (K8 (fun z2=>some ((z2.1,z2.2.1,()),())) (fun _=>none))
def KO:Fn:=mkF { cx [] with maps:=maps } [(1,HP)] 50 Tryz.f50 [(.box [1,2],(.ptr yQ6)),(.rd,I),(.rd,I)] [] Ze [lp 1 HP wP] aD aj rfl
def w7 (x:Q25):Option (Q25⊕(((List Q2)×(List (List Int))×List Int×Int×List Int×Int×Int×Unit)⊕Empty)) :=
 let (a,b,c,d,e,f,g,h,_):=x; cond (ltI h (e.length:Nat)) (cond (ltI h g) ((aL e h).bind fun y1=>(Ze ((a,b,()),y1,1,())).bind fun r2=>(aL e h).bind fun y3=>(aQ r2.1.2.1.length y3).bind fun j4=>(app c (aZ r2.1.2.1 j4)).bind fun a5=>some (.inl (r2.1.1,r2.1.2.1,a5,d,e,f,g,(aC .i64 h 1),()))) ((aL e h).bind fun y6=>(Ze ((a,b,()),y6,2,())).bind fun r7=>some (.inl (r7.1.1,r7.1.2.1,c,d,e,f,g,(aC .i64 h 1),())))) (some (.inr (.inl (a,b,c,d,e,f,g,()))))
def Fq:=aa w7
def HW:Ann:=⟨⟨[(0,.av (.ptr 0 0)),(1,.av (.val I)),(2,.av (.val (.slice I))),(3,.av (.val I)),(4,.av (.val I)),(10,.av (.own 10)),(11,.av (.val I))],[(0,.box [.own 100000,.ownd 100001]),(100000,.arr yQ2),(100001,.deep I),(10,.arr I)],[0]⟩,[(.exit 0,⟨[(0,.av (.ptr 0 0)),(1,.av (.val I)),(2,.av (.val (.slice I))),(3,.av (.val I)),(4,.av (.val I)),(10,.av (.own 10))],[(0,.box [.own 100000,.ownd 100001]),(100000,.arr yQ2),(100001,.deep I),(10,.arr I)],[0]⟩)],Fq⟩
def Zg (x:(Q5×Int×List Int×Int×Int×Unit)):Option (Q5×Unit) :=
 let ((a,b,_),c,d,e,f,_):=x; (Fq (a,b,[c],c,d,e,f,(aC .i64 e 1),())).bind (K8 (fun (a_2,b_2,c_2,d_2,e_2,f_2,g_2,_)=>(aL e_2 f_2).bind fun y3=>(aQ a_2.length y3).bind fun j4=>(a_2[j4]?).bind fun y5=>(aL e_2 g_2).bind fun y6=>(aQ a_2.length y6).bind fun j7=>(a_2[j7]?).bind fun y8=>(aQ a_2.length d_2).bind fun j9=>(a_2[j9]?).bind fun y10=>(aQ b_2.length d_2).bind fun j11=>some (((a_2.set j9 ((i7 .i64 (cQ .i64 (aC .i64 (aC .i64 y5.1 y8.1) y8.2.1) y5.2.1) 2),(i7 .i64 (aC .i64 (aC .i64 (cQ .i64 y8.1 y5.1) y8.2.1) y5.2.1) 2),())),(b_2.set j11 c_2),()),())) (fun _=>none))
def KP:Fn:=mkF { cx [KO] with maps:=maps } [(2,HW)] 22 Tryz.f22 [(.box [1,2],(.ptr yQ6)),(.rd,I),(.rd,(.slice I)),(.rd,I),(.rd,I)] [] Zg [lp 2 HW w7] aD aj rfl
def sJ (x:Q23):Option (Q23⊕(Q5⊕Empty)) :=
 let (a,b,c,d,e,f,_):=x; cond (ltI f a) ((aQ d.length f).bind fun j1=>(d[j1]?).bind fun y2=>(aQ d.length f).bind fun j3=>(d[j3]?).bind fun y4=>some (.inl (a,b,c,(d.set j3 (y4.1,(cQ .i64 0 y2.2.1),y4.2.2)),e,(aC .i64 f 1),()))) (some (.inr (.inl (d,e,()))))
def zr:=aa sJ
def EY:Ann:=⟨sh [(2,.av (.ptr 2 0)),(6,.av (.ptr 6 0)),(14,.av (.val I))] [(2,.box [.val I,.val (.slice yQ2),.val yQ3]),(6,.box [.own 700000,.ownd 700001]),(700000,.arr yQ2),(700001,.deep I)],[(.exit 6,sh [(6,.av (.ptr 6 0))] [(6,.box [.own 700000,.ownd 700001]),(700000,.arr yQ2),(700001,.deep I)])],zr⟩
def sS (x:Q39):Option (Q39⊕((Int×(List Q2)×(List (List Int))×(List Q2)×(List (List Int))×List Int×List Int×Int×Int×Int×Unit)⊕Empty)) :=
 let (a,b,c,d,e,f,g,h,i,k,l,_):=x; cond (ltI l (f.length:Nat)) ((aL g (cQ .i64 h 1)).bind fun y1=>(aQ f.length l).bind fun j2=>(f[j2]?).bind fun y3=>(Zl ((a,b,c,()),y1,y3,())).bind fun r4=>cond (!r4.1) (some (.inl (a,b,c,d,e,f,g,h,i,k,(aC .i64 l 1),()))) (cond (ltI i 0) (some (.inl (a,b,c,d,e,f,g,h,l,l,(aC .i64 l 1),()))) (some (.inl (a,b,c,d,e,f,g,h,i,l,(aC .i64 l 1),()))))) (some (.inr (.inl (a,b,c,d,e,f,g,h,i,k,()))))
def As:=aa sS
def Fx:Ann:=⟨sh [(1,.av (.val (.slice I))),(2,.av (.ptr 2 0)),(6,.av (.ptr 6 0)),(8,.av (.val I)),(9,.av (.own 9)),(11,.av (.val I)),(12,.av (.val I)),(13,.av (.val I))] [(2,.box [.val I,.val (.slice yQ2),.val yQ3]),(6,.box [.own 700000,.ownd 700001]),(700000,.arr yQ2),(700001,.deep I),(9,.arr I)],[(.exit 4,sh [(1,.av (.val (.slice I))),(2,.av (.ptr 2 0)),(6,.av (.ptr 6 0)),(8,.av (.val I)),(9,.av (.own 9)),(11,.av (.val I)),(12,.av (.val I))] [(2,.box [.val I,.val (.slice yQ2),.val yQ3]),(6,.box [.own 700000,.ownd 700001]),(700000,.arr yQ2),(700001,.deep I),(9,.arr I)])],As⟩
def sK (x:Q30):Option (Q30⊕((Int×(List Q2)×(List (List Int))×(List Q2)×(List (List Int))×Unit)⊕Empty)) :=
 let (a,b,c,d,e,f,g,_):=x; cond (leI g a) ((Zj ((a,b,c,()),f,(cQ .i64 g 1),())).bind fun r1=>(As (a,b,c,d,e,r1.1,f,g,(-1),(-1),0,())).bind (K8 (fun (a_3,b_3,c_3,d_3,e_3,f_3,g_3,h_3,i_3,k_3,_)=>(aL g_3 (cQ .i64 h_3 1)).bind fun y4=>(Zg ((d_3,e_3,()),y4,f_3,i_3,k_3,())).bind fun r5=>some (.inl (a_3,b_3,c_3,r5.1.1,r5.1.2.1,g_3,(aC .i64 h_3 1),()))) (fun _=>none))) (some (.inr (.inl (a,b,c,d,e,()))))
def AJ:=aa sK
def DI:Ann:=⟨sh [(1,.av (.val (.slice I))),(2,.av (.ptr 2 0)),(6,.av (.ptr 6 0)),(8,.av (.val I))] [(2,.box [.val I,.val (.slice yQ2),.val yQ3]),(6,.box [.own 700000,.ownd 700001]),(700000,.arr yQ2),(700001,.deep I)],[(.exit 2,sh [(2,.av (.ptr 2 0)),(6,.av (.ptr 6 0))] [(2,.box [.val I,.val (.slice yQ2),.val yQ3]),(6,.box [.own 700000,.ownd 700001]),(700000,.arr yQ2),(700001,.deep I)])],AJ⟩
def xp (x:Q30):Option (Q30⊕((Int×(List Q2)×(List (List Int))×(List Q2)×(List (List Int))×List Int×Unit)⊕Empty)) :=
 let (a,b,c,d,e,f,g,_):=x; cond (ltI g a) ((app e [[g]]).bind fun a1=>some (.inl (a,b,c,d,a1,f,(aC .i64 g 1),()))) (some (.inr (.inl (a,b,c,d,e,f,()))))
def DJ:=aa xp
def Hk:Ann:=⟨sh [(1,.av (.val (.slice I))),(2,.av (.ptr 2 0)),(6,.av (.ptr 6 0)),(7,.av (.val I))] [(2,.box [.val I,.val (.slice yQ2),.val yQ3]),(6,.box [.own 700000,.ownd 700001]),(700000,.arr yQ2),(700001,.deep I)],[(.exit 0,sh [(1,.av (.val (.slice I))),(2,.av (.ptr 2 0)),(6,.av (.ptr 6 0))] [(2,.box [.val I,.val (.slice yQ2),.val yQ3]),(6,.box [.own 700000,.ownd 700001]),(700000,.arr yQ2),(700001,.deep I)])],DJ⟩
def Zv (x:Q7):Option ((List Q2)×Int×Unit) :=
 let ((a,b,c,_),d,_):=x; (Zd ((a,b,c,()),())).bind fun r1=>cond (!r1.1) (some ([],13,())) ((Zab ((a,b,c,()),d,())).bind fun r2=>cond (!r2.1) (some ([],1,())) ((eV yQ2 a a).bind fun m3=>(DJ (a,b,c,m3,[],d,0,())).bind (K8 (fun (a_5,b_5,c_5,d_5,e_5,f_5,_)=>(aL f_5 1).bind fun y6=>(aQ d_5.length y6).bind fun j7=>(d_5[j7]?).bind fun y8=>(aL f_5 2).bind fun y9=>(aQ (d_5.set j7 (2,0,())).length y9).bind fun j10=>((d_5.set j7 (2,0,()))[j10]?).bind fun y11=>(AJ (a_5,b_5,c_5,((d_5.set j7 (2,0,())).set j10 (1,1,())),e_5,f_5,4,())).bind (K8 (fun z13=>(zr (z13.1,z13.2.1,z13.2.2.1,z13.2.2.2.1,z13.2.2.2.2.1,0,())).bind (K8 (fun z15=>some (z15.1,0,())) (fun _=>none))) (fun _=>none))) (fun _=>none))))
def KH:Fn:=mkF { cx [Ih,H5,Ky,Ku,KP] with deep:=[40],maps:=maps } [(7,Hk),(13,DI),(18,Fx),(26,EY)] 8 Tryz.f8 [(.rd,yQ7),(.rd,(.slice I))] [(.tmp 4,true,(.slice yQ2)),(.tmp 5,true,I)] Zv [lp 7 Hk xp,lp 13 DI sK,lp 18 Fx sS,lp 26 EY sJ] aD aj rfl (d:=true)
def vF (x:((List Q2)×(List Q2)×Int×Unit)):Option (((List Q2)×(List Q2)×Int×Unit)⊕((Bool×Unit)⊕(Unit⊕Empty))) :=
 let (a,b,c,_):=x; cond (ltI c (a.length:Nat)) ((aL a c).bind fun y1=>(aL b c).bind fun y2=>cond (!((eqI y1.1 y2.1) && ((eqI y1.2.1 y2.2.1) && true))) (some (.inr (.inl (false,())))) (some (.inl (a,b,(aC .i64 c 1),())))) (some (.inr (.inr (.inl ()))))
def Am:=aa vF
def DT:Ann:=⟨sh [(0,.av (.val (.slice yQ2))),(1,.av (.val (.slice yQ2))),(5,.av (.val I))] [],[(.ret,sh [(4,.av (.val .bool))] []),(.exit 0,sh [] [])],Am⟩
def Zae (x:((List Q2)×(List Q2)×Unit)):Option (Bool×Unit) :=
 cond (neI (x.1.length:Nat) (x.2.1.length:Nat)) (some (false,())) ((Am (x.1,x.2.1,0,())).bind (K8 (fun z2=>some (z2.1,())) (K8 (fun z3=>some (true,())) (fun _=>none))))
def J1:Fn:=mkF { cx [] with maps:=maps } [(4,DT)] 9 Tryz.f9 [(.rd,(.slice yQ2)),(.rd,(.slice yQ2))] [(.tmp 4,true,.bool)] Zae [lp 4 DT vF] aD aj rfl
def Zb (x:Q7):Option (Bool×Unit) :=
 let ((a,b,c,_),d,_):=x; (Zz ((a,b,c,()),())).bind fun r1=>cond (!r1.1) ((Zac ()).bind fun r2=>some (r2.1,())) (cond (gtI (d.length:Nat) 20) ((Zac ()).bind fun r3=>some (r3.1,())) ((Zap ((a,b,c,()),d,())).bind fun r4=>(Zv ((a,b,c,()),d,())).bind fun r5=>(Zae (r4.1,r5.1,())).bind fun r6=>cond r6.1 (cond (eqI r4.2.1 r5.2.1) ((Zac ()).bind fun r7=>some (r7.1,())) (some (false,()))) (some (false,()))))
def Zb_h:Fn:=mkF { cx [Kq,Jm,JE,KH,J1] with maps:=maps } [] 3 Tryz.f3 [(.rd,yQ7),(.rd,(.slice I))] [(.tmp 4,true,.bool)] Zb [] aD aj rfl
def Zb_c:Con:={ ins:=[(.rd,yQ7),(.rd,(.slice I))],outs:=[(true,.bool)],fn:=Zb }
theorem FY:Con.Holds Tryz.prog glob 3 Zb_c:=Zb_h.ok
end
end Go.Vm

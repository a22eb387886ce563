/-
 The functions that the law reaches, as functions on values, and the proofs that the machine computes them.
-/
import Derived.Test.YtbedeedclaafjaaGreatDoorVmPack
import Derived.Test.YtbedeedclaafjaaGreatDoorSA
import Derived.Test.YtbedeedclaafjaaGreatDoorRxRun58
import Derived.Test.YtbedeedclaafjaaGreatDoorProg
import Derived.KernelRfl
set_option linter.unusedVariables false
set_option linter.unusedSimpArgs false
namespace Go.Vm
open Go.Proofs
abbrev I : Ty:=.int .i64
abbrev yQ1 : Ty:=.prod I .unit
abbrev yQ2 : Ty:=.prod I yQ1
abbrev yQ3 : Ty:=.prod I yQ2
abbrev yQ4 : Ty:=.prod I yQ3
abbrev yQ5 : Ty:=.prod .str yQ1
abbrev yQ6 : Ty:=.prod .str yQ2
abbrev yQ7 : Ty:=.prod I yQ6
abbrev yQ8 : Ty:=.prod I yQ7
abbrev yQ9 : Ty:=.prod I yQ8
abbrev dN : Ty:=.prod I yQ9
abbrev H7 : Ty:=.prod yQ2 .unit
abbrev ph : Ty:=.prod yQ2 H7
abbrev qt : Ty:=.slice (.slice I)
abbrev DM : Ty:=.prod qt .unit
abbrev Em : Ty:=.prod .bool .unit
abbrev HG : Ty:=.prod I Em
abbrev Ic : Ty:=.prod I HG
abbrev qp : Ty:=.prod I Ic
abbrev iM : Ty:=.slice (.slice yQ2)
abbrev CM : Ty:=.prod (.int .u8) .unit
abbrev uG : Ty:=.prod (.slice I) .unit
abbrev Ag : Ty:=.prod I uG
abbrev HU : Ty:=.prod I Ag
abbrev HR : Ty:=.prod yQ4 HU
abbrev CT : Ty:=.prod (.slice I) uG
abbrev zu : Ty:=.prod (.ptr yQ5) .unit
abbrev Ia : Ty:=.prod (.slice yQ4) HR
abbrev HT : Ty:=.prod iM Ia
abbrev H5 : Ty:=.prod (.slice yQ4) HT
abbrev ll : Ty:=.prod (.slice yQ4) H5
abbrev nM : Ty:=.prod (.slice yQ2) DM
abbrev HD : Ty:=.prod (.slice yQ5) .unit
abbrev HZ : Ty:=.prod I HD
abbrev ID : Ty:=.prod I HZ
abbrev HX : Ty:=.prod I ID
abbrev Ip : Ty:=.prod .str HX
abbrev dQ : Ty:=.prod .str Ip
abbrev Iu : Ty:=.prod (.slice dN) HD
abbrev H9 : Ty:=.prod (.slice dQ) Iu
abbrev HY : Ty:=.prod .bool H9
abbrev dR : Ty:=.prod .str HY
abbrev v5 : Ty:=.prod (.slice yQ2) .unit
abbrev zz : Ty:=.prod (.slice yQ4) .unit
abbrev BG : Ty:=.prod I (.prod yQ4 .unit)
abbrev GO : Ty:=.prod (.prod I yQ4) (.prod (.slice yQ4) (.prod (.slice (.slice BG)) v5))
abbrev HJ : Ty:=.prod I (.prod qt (.prod (.slice .bool) (.prod (.slice (.slice .bool)) DM)))
abbrev Hl : Ty:=.prod (.slice (.slice yQ4)) (.prod qt (.prod (.slice I) (.prod (.slice I) HG)))
abbrev Q1:=Int×Int×Unit
abbrev Q2:=Q1×Q1×Unit
abbrev Q3:=ByteArray×Unit
abbrev Q4:=ByteArray×Int×Unit
abbrev Q5:=Int×Int×Int×Int×Unit
abbrev Q6:=(List Q5)×Int×Int×Unit
abbrev Q7:=(List Q4)×(Q4×Unit)×Unit
abbrev Q8:=(List Q1)×(List Q1)×Int×Int×Unit
abbrev Q9:=(List Q4)×(Q4×Unit)×Int×Int×Unit
abbrev Q10:=(List Q5)×Int×(List Q5)×Int×Int×Unit
abbrev Q11:=Int×Int×Int×Int×ByteArray×Int×Int×Unit
abbrev Q12:=ByteArray×ByteArray×Int×Int×Int×(List Q4)×Unit
abbrev Q13:=ByteArray×Bool×(List Q12)×(List Q11)×(List Q4)×Unit
abbrev Q14:=Q13×Int×Unit
abbrev Q15:=ByteArray×Bool×(List Q12)×(List Q11)×(List Q4)×Int×Unit
abbrev Q16:=ByteArray×Bool×(List Q12)×(List Q11)×(List Q4)×Int×Int×Unit
abbrev Q17:=ByteArray×Bool×(List Q12)×(List Q11)×(List Q4)×List Int×Int×Unit
abbrev Q18:=ByteArray×Bool×(List Q12)×(List Q11)×(List Q4)×ByteArray×Int×Unit
abbrev Q19:=ByteArray×Bool×(List Q12)×(List Q11)×(List Q4)×(List Q11)×Int×Int×Unit
abbrev Q20:=(List Q5)×(List Q5)×(List (List Q1))×(List Q5)×Q5×Int×Int×List Int×Unit
abbrev Q21:=Q13×Q20×Unit
abbrev Q22:=ByteArray×Bool×(List Q12)×(List Q11)×(List Q4)×ByteArray×Int×Int×Int×Unit
abbrev Q23:=Int×Int×Int×Int×(List Q5)×Int×(List Q5)×Int×Int×(List Q5)×Int×Int×Unit
abbrev Q24:=(List Q5)×(List Q5)×(List (List Q1))×(List Q5)×Int×Int×Int×Int×Int×Int×List Int×Unit
abbrev Q25:=(List Q5)×(List Q5)×(List (List Q1))×(List Q5)×Int×Int×Int×Int×Int×Int×List Int×Int×Unit
abbrev Q26:=(List Q5)×(List Q5)×(List (List Q1))×(List Q5)×Int×Int×Int×Int×Int×Int×List Int×Int×Int×Unit
abbrev Q27:=(List Q5)×(List Q5)×(List (List Q1))×(List Q5)×Int×Int×Int×Int×Int×Int×List Int×Int×Int×Int×Unit
abbrev Q28:=ByteArray×Bool×(List Q12)×(List Q11)×(List Q4)×ByteArray×ByteArray×Int×Int×Int×(List Q4)×Int×Int×Unit
abbrev Q29:=(List Q5)×(List Q5)×(List (List Q1))×(List Q5)×Int×Int×Int×Int×Int×Int×List Int×(List (List Q1))×Int×Int×Unit
abbrev Q30:=(List Q5)×(List Q5)×(List (List Q1))×(List Q5)×Int×Int×Int×Int×Int×Int×List Int×Int×(List (List Q1))×Int×Int×Unit
abbrev Q31:=(List Q5)×(List Q5)×(List (List Q1))×(List Q5)×Int×Int×Int×Int×Int×Int×List Int×Int×(List Q1)×(List (List Q1))×Int×Int×(List (List Q1))×Int×Int×Unit
noncomputable section
def tab : Tab:=[(2,I),(3,I),(4,.bool),(5,(.int .u8)),(6,(.int .u8)),(7,(.prod I (.prod I (.prod .bool CM)))),(8,(.prod I (.prod I (.prod .bool CM)))),(9,.str),(10,.str),(11,.str),(12,(.int .u64)),(13,(.prod .str (.prod (.int .u64) .unit))),(14,(.prod .str (.prod (.int .u64) .unit))),(21,(.int .i32)),(22,(.slice dQ)),(23,(.slice dN)),(24,(.slice yQ5)),(25,dR),(26,dR),(27,(.slice yQ4)),(28,iM),(29,yQ4),(30,yQ4),(31,(.slice I)),(32,ll),(33,ll),(39,(.slice yQ5)),(40,dQ),(41,dQ),(42,yQ5),(43,yQ5),(44,dN),(45,dN),(46,yQ5),(47,yQ5),(48,(.slice yQ2)),(49,(.prod I yQ4)),(50,(.prod I yQ4)),(51,I),(54,(.slice .str)),(63,(.prod dR (.prod (.prod I yQ4) (.prod ll .unit)))),(64,(.prod dR (.prod (.prod I yQ4) (.prod ll .unit)))),(74,yQ2),(75,yQ2),(87,(.int .u64)),(98,ph),(99,ph),(111,qt),(112,(.slice yQ2)),(113,(.prod I (.prod qt nM))),(114,(.prod I (.prod qt nM))),(124,(.prod I v5)),(125,(.prod I v5)),(142,(.slice BG)),(143,BG),(144,BG),(149,(.slice (.slice BG))),(150,(.prod dR GO)),(151,(.prod dR GO)),(155,(.slice (.slice yQ4))),(162,(.arr 256 .bool)),(163,(.arr 256 .bool)),(170,(.slice yQ4)),(171,(.prod I zz)),(172,(.prod I zz)),(175,yQ2),(176,yQ2),(177,yQ4),(178,yQ4),(184,ph),(185,ph),(192,(.slice (.int .u8))),(198,(.slice yQ2)),(200,yQ2),(201,yQ2),(202,(.prod (.prod I v5) uG)),(203,(.prod (.prod I v5) uG)),(213,(.prod I nM)),(214,(.prod I nM)),(215,(.prod (.prod I nM) (.prod I DM))),(216,(.prod (.prod I nM) (.prod I DM))),(219,(.prod (.prod I nM) (.prod (.slice I) (.prod (.slice .str) yQ1)))),(220,(.prod (.prod I nM) (.prod (.slice I) (.prod (.slice .str) yQ1)))),(237,(.int .u64)),(240,(.slice .bool)),(256,Hl),(257,Hl),(259,(.arr 24 (.int .u8))),(332,(.prod qt (.prod (.slice I) Ag))),(333,(.prod qt (.prod (.slice I) Ag))),(334,(.slice yQ2)),(335,v5),(336,v5),(338,yQ2),(339,yQ2),(342,yQ4),(343,yQ4),(344,(.slice yQ4)),(355,(.arr 20 (.int .u64))),(356,(.int .u32)),(357,(.arr 65 (.int .u8))),(361,(.arr 8 I)),(362,(.arr 8 (.arr 8 I))),(363,(.prod I (.prod (.arr 8 (.arr 8 I)) uG))),(364,(.prod I (.prod (.arr 8 (.arr 8 I)) uG))),(368,(.slice yQ3)),(370,yQ3),(371,yQ3),(373,(.prod (.prod I zz) uG)),(374,(.prod (.prod I zz) uG)),(375,(.slice (.prod I (.prod I (.prod qp Em))))),(378,qp),(379,qp),(380,(.prod I (.prod I (.prod qp Em)))),(381,(.prod I (.prod I (.prod qp Em)))),(398,(.slice yQ4)),(399,(.prod (.slice I) zz)),(400,(.prod (.slice I) zz)),(414,(.arr 2 I)),(415,(.arr 2 (.arr 2 I))),(421,(.slice (.slice .bool))),(422,HJ),(423,HJ),(424,nM),(425,nM),(430,(.prod (.prod I nM) CT)),(431,(.prod (.prod I nM) CT)),(453,(.slice (.slice qp))),(455,(.slice qp)),(479,yQ4),(480,yQ4),(482,(.slice (.prod I (.prod I qp)))),(488,(.prod I (.prod I qp))),(489,(.prod I (.prod I qp))),(508,(.slice CT)),(510,CT),(511,CT),(515,I),(526,(.arr 91 I)),(528,(.arr 32 (.int .u8))),(529,(.arr 64 (.int .u8))),(530,(.arr 256 (.int .u8))),(531,(.prod (.int .u8) CM)),(532,(.prod (.int .u8) CM)),(533,(.arr 16 (.prod (.int .u8) CM))),(534,(.slice Ag)),(536,Ag),(537,Ag),(541,(.prod qt (.prod (.slice I) (.prod (.slice I) yQ1)))),(542,(.prod qt (.prod (.slice I) (.prod (.slice I) yQ1)))),(551,(.int .u64)),(585,(.int .u8)),(586,(.int .u8)),(588,(.int .i32)),(589,(.int .i32))]
def eqs : List Nat:=[75]
def glob : List (Nat×(Σ t : Ty,t.den)):=[(1,⟨(.arr 2 I),[16384,32768]⟩),(3,⟨(.arr 64 (.int .u8)),[0,1,56,2,57,49,28,3,61,58,42,50,38,29,17,4,62,47,59,36,45,43,51,22,53,39,33,30,24,18,12,5,63,55,48,27,60,41,37,16,46,35,44,21,52,32,23,11,54,26,40,15,34,20,31,10,25,14,19,9,13,8,7,6]⟩)]
theorem af : SeatOK Tryz.prog tab eqs:=⟨by kernel_rfl,by kernel_rfl,by kernel_rfl⟩
abbrev Fn:=FnC Tryz.prog glob
def cx (l : List Fn) : Ctx:={ tab:=tab,con:=ym l,glob:=glob,eqs:=eqs }
set_option maxRecDepth 100000
def lU (x : Q15) : Option (Q15⊕((Bool×Unit)⊕(Unit⊕Empty))) :=
 let (a,b,c,d,e,f,_):=x; cond (ltI f (e.length : Nat)) ((aV e f).bind fun y1=>cond (gtI (y1.1.size : Nat) 40) (some (.inr (.inl (false,())))) (some (.inl (a,b,c,d,e,(bj .i64 f 1),())))) (some (.inr (.inr (.inl ()))))
def sj:=ai lU
def yW : Ann:=⟨sh [(3,.av (.ptr 3 0)),(11,.av (.val I))] [(3,.box [.val .str,.val .bool,.val (.slice dQ),.val (.slice dN),.val (.slice yQ5)])],[(.ret,sh [(6,.av (.val .bool))] []),(.exit 6,sh [] [])],sj⟩
def l9 (x : Q15) : Option (Q15⊕((Bool×Unit)⊕(Q13⊕Empty))) :=
 let (a,b,c,d,e,f,_):=x; cond (ltI f (d.length : Nat)) ((aV d f).bind fun y1=>cond (gtI (y1.2.2.2.2.1.size : Nat) 80) (some (.inr (.inl (false,())))) ((aV d f).bind fun y2=>cond (gtI y2.2.2.2.2.2.2.1 4) (some (.inr (.inl (false,())))) (some (.inl (a,b,c,d,e,(bj .i64 f 1),()))))) (some (.inr (.inr (.inl (a,b,c,d,e,())))))
def sb:=ai l9
def yz : Ann:=⟨sh [(3,.av (.ptr 3 0)),(10,.av (.val I))] [(3,.box [.val .str,.val .bool,.val (.slice dQ),.val (.slice dN),.val (.slice yQ5)])],[(.ret,sh [(6,.av (.val .bool))] []),(.exit 4,sh [(3,.av (.ptr 3 0))] [(3,.box [.val .str,.val .bool,.val (.slice dQ),.val (.slice dN),.val (.slice yQ5)])])],sb⟩
def lJ (x : Q28) : Option (Q28⊕((Bool×Unit)⊕(Q15⊕Empty))) :=
 let (a,b,c,d,e,f,g,h,i,k,l,m,n,_):=x; cond (ltI n (l.length : Nat)) ((aV l n).bind fun y1=>cond (gtI (y1.1.size : Nat) 40) (some (.inr (.inl (false,())))) (some (.inl (a,b,c,d,e,f,g,h,i,k,l,m,(bj .i64 n 1),())))) (some (.inr (.inr (.inl (a,b,c,d,e,m,())))))
def su:=ai lJ
def yT : Ann:=⟨sh [(3,.av (.ptr 3 0)),(7,.av (.val I)),(8,.av (.ptr 8 0)),(9,.av (.val I))] [(3,.box [.val .str,.val .bool,.val (.slice dQ),.val (.slice dN),.val (.slice yQ5)]),(8,.box [.val .str,.val .str,.val I,.val I,.val I,.val (.slice yQ5)])],[(.ret,sh [(6,.av (.val .bool))] []),(.exit 2,sh [(3,.av (.ptr 3 0)),(7,.av (.val I))] [(3,.box [.val .str,.val .bool,.val (.slice dQ),.val (.slice dN),.val (.slice yQ5)])])],su⟩
def qe (x : Q15) : Option (Q15⊕((Bool×Unit)⊕(Q13⊕Empty))) :=
 let (a,b,c,d,e,f,_):=x; cond (ltI f (c.length : Nat)) ((aV c f).bind fun y1=>cond (gtI (y1.1.size : Nat) 40) (some (.inr (.inl (false,())))) (cond (gtI (y1.2.1.size : Nat) 80) (some (.inr (.inl (false,())))) (cond (gtI (y1.2.2.2.2.2.1.length : Nat) 9) (some (.inr (.inl (false,())))) ((su (a,b,c,d,e,y1.1,y1.2.1,y1.2.2.1,y1.2.2.2.1,y1.2.2.2.2.1,y1.2.2.2.2.2.1,f,0,())).bind (Sum.elim (fun z3=>some (.inr (.inl (z3.1,())))) (Sum.elim (fun (a_4,b_4,c_4,d_4,e_4,f_4,_)=>some (.inl (a_4,b_4,c_4,d_4,e_4,(bj .i64 f_4 1),()))) (fun _=>none))))))) (some (.inr (.inr (.inl (a,b,c,d,e,())))))
def wd:=ai qe
def BK : Ann:=⟨sh [(3,.av (.ptr 3 0)),(7,.av (.val I))] [(3,.box [.val .str,.val .bool,.val (.slice dQ),.val (.slice dN),.val (.slice yQ5)])],[(.ret,sh [(6,.av (.val .bool))] []),(.exit 0,sh [(3,.av (.ptr 3 0))] [(3,.box [.val .str,.val .bool,.val (.slice dQ),.val (.slice dN),.val (.slice yQ5)])])],wd⟩
def Zap (x : (Q13×Int×Int×Unit)) : Option (Bool×Unit) :=
 let ((a,b,c,d,e,_),f,g,_):=x; cond (gtI (c.length : Nat) f) (some (false,())) (cond (gtI (d.length : Nat) g) (some (false,())) (cond (gtI (e.length : Nat) 6) (some (false,())) (cond (gtI (a.size : Nat) 40) (some (false,())) ((wd (a,b,c,d,e,0,())).bind (Sum.elim (fun z2=>some (z2.1,())) (Sum.elim (fun z3=>(sb (z3.1,z3.2.1,z3.2.2.1,z3.2.2.2.1,z3.2.2.2.2.1,0,())).bind (Sum.elim (fun z5=>some (z5.1,())) (Sum.elim (fun z6=>(sj (z6.1,z6.2.1,z6.2.2.1,z6.2.2.2.1,z6.2.2.2.2.1,0,())).bind (Sum.elim (fun z8=>some (z8.1,())) (Sum.elim (fun z9=>some (true,())) (fun _=>none)))) (fun _=>none)))) (fun _=>none)))))))
def Hj : Fn:=mkF (cx []) [(4,BK),(10,yT),(15,yz),(20,yW)] 4 Tryz.f4 [(.rd,dR),(.rd,I),(.rd,I)] [(.tmp 6,true,.bool)] Zap [lp 4 BK qe,lp 10 yT lJ,lp 15 yz l9,lp 20 yW lU] af ab rfl
def Zx (x : Unit) : Option (Bool×Unit):=Rx.trueCon.fn x
def H3 : Fn:=⟨6,Rx.trueCon,Rx.lives58 rfl rfl⟩
def pV (x : Q25) : Option (Q25⊕((Bool×Unit)⊕(Q24⊕Empty))) :=
 let (a,b,c,d,e,f,g,h,i,k,l,m,_):=x; cond (ltI m (c.length : Nat)) (cond (ltI m 21) ((aV c m).bind fun y1=>cond (gtI (y1.length : Nat) 30) (some (.inr (.inl (false,())))) (some (.inl (a,b,c,d,e,f,g,h,i,k,l,(bj .i64 m 1),())))) (some (.inr (.inr (.inl (a,b,c,d,e,f,g,h,i,k,l,())))))) (some (.inr (.inr (.inl (a,b,c,d,e,f,g,h,i,k,l,())))))
def wv:=ai pV
def AR : Ann:=⟨sh [(1,.av (.ptr 1 0)),(3,.av (.val I))] [(1,.box [.val (.slice yQ4),.val (.slice yQ4),.val iM,.val (.slice yQ4),.val I,.val I,.val I,.val I,.val I,.val I,.val (.slice I)])],[(.ret,sh [(2,.av (.val .bool))] []),(.exit 0,sh [(1,.av (.ptr 1 0))] [(1,.box [.val (.slice yQ4),.val (.slice yQ4),.val iM,.val (.slice yQ4),.val I,.val I,.val I,.val I,.val I,.val I,.val (.slice I)])])],wv⟩
def Zan (x : (Q20×Unit)) : Option (Bool×Unit) :=
 let ((a,b,c,d,(e,f,g,h,_),i,k,l,_),_):=x; (wv (a,b,c,d,e,f,g,h,i,k,l,0,())).bind (Sum.elim (fun z2=>some (z2.1,())) (Sum.elim (fun z3=>cond (leI (z3.1.length : Nat) 20) (cond (leI (z3.2.1.length : Nat) 20) (cond (leI (z3.2.2.2.1.length : Nat) 20) (cond (leI (z3.2.2.1.length : Nat) 20) (some ((leI (z3.2.2.2.2.2.2.2.2.2.2.1.length : Nat) 20),())) (some (false,()))) (some (false,()))) (some (false,()))) (some (false,()))) (fun _=>none)))
def HE : Fn:=mkF (cx []) [(2,AR)] 5 Tryz.f5 [(.rd,ll)] [(.tmp 2,true,.bool)] Zan [lp 2 AR pV] af ab rfl
def Zbf (x : (Int×Unit)) : Option (Bool×Unit) :=
 let (a,_):=x; cond (geI a 97) (cond (leI a 122) (some (true,())) (cond (geI a 65) (cond (leI a 90) (some (true,())) (some ((eqI a 95),()))) (some ((eqI a 95),())))) (cond (geI a 65) (cond (leI a 90) (some (true,())) (some ((eqI a 95),()))) (some ((eqI a 95),())))
def HF : Fn:=mkF (cx []) [] 145 Tryz.f145 [(.rd,(.int .u8))] [(.tmp 2,true,.bool)] Zbf [] af ab rfl
def Zbm (x : (Int×Unit)) : Option (Bool×Unit) :=
 cond (geI x.1 48) (some ((leI x.1 57),())) (some (false,()))
def GC : Fn:=mkF (cx []) [] 146 Tryz.f146 [(.rd,(.int .u8))] [(.tmp 2,true,.bool)] Zbm [] af ab rfl
def sX (x : Q4) : Option (Q4⊕((Int×Unit)⊕Empty)) :=
 let (a,b,_):=x; cond (ltI b (a.size : Nat)) ((aV a.data.toList b).bind fun c1=>(Zbf ((c1.toNat : Int),())).bind fun r2=>cond r2.1 (some (.inl (a,(bj .i64 b 1),()))) (cond (gtI b 0) ((aV a.data.toList b).bind fun c3=>(Zbm ((c3.toNat : Int),())).bind fun r4=>cond r4.1 (some (.inl (a,(bj .i64 b 1),()))) (some (.inr (.inl (b,()))))) (some (.inr (.inl (b,())))))) (some (.inr (.inl (b,()))))
def wt:=ai sX
def Cu : Ann:=⟨sh [(0,.av (.val .str)),(3,.av (.val I))] [],[(.exit 0,sh [(3,.av (.val I))] [])],wt⟩
def Zbw (x : Q3) : Option (Int×Unit) :=
 (wt (x.1,0,())).bind (Sum.elim (fun z2=>some (z2.1,())) (fun _=>none))
def GA : Fn:=mkF (cx [HF,GC]) [(2,Cu)] 80 Tryz.f80 [(.rd,.str)] [(.tmp 2,true,I)] Zbw [lp 2 Cu sX] af ab rfl
def Zao (x : Q3) : Option (Bool×Unit) :=
 let (a,_):=x; cond (eqS a (ByteArray.mk #[100,105,103,114,97,112,104])) (cond (eqS a (ByteArray.mk #[100,105,103,114,97,112,104])) (some (true,())) (some (false,()))) (cond (eqS a (ByteArray.mk #[103,114,97,112,104])) (cond (eqS a (ByteArray.mk #[103,114,97,112,104])) (some (true,())) (some (false,()))) (cond (eqS a (ByteArray.mk #[110,111,100,101])) (cond (eqS a (ByteArray.mk #[110,111,100,101])) (some (true,())) (some (false,()))) (cond (eqS a (ByteArray.mk #[101,100,103,101])) (cond (eqS a (ByteArray.mk #[101,100,103,101])) (some (true,())) (some (false,()))) (cond (eqS a (ByteArray.mk #[115,101,116])) (cond (eqS a (ByteArray.mk #[115,101,116])) (some (true,())) (some (false,()))) (cond (eqS a (ByteArray.mk #[99,108,117,115,116,101,114])) (some (true,())) (some (false,())))))))
def Hu : Fn:=mkF (cx []) [] 81 Tryz.f81 [(.rd,.str)] [(.tmp 2,true,.bool)] Zao [] af ab rfl
def Zbc (x : Q3) : Option (Bool×Unit) :=
 cond (neS x.1 (ByteArray.mk #[])) (cond (leI (x.1.size : Nat) 16) ((Zbw (x.1,())).bind fun r1=>cond (eqI r1.1 (x.1.size : Nat)) ((Zao (x.1,())).bind fun r2=>some ((!r2.1),())) (some (false,()))) (some (false,()))) (some (false,()))
def yA : Fn:=mkF (cx [GA,Hu]) [] 39 Tryz.f39 [(.rd,.str)] [(.tmp 2,true,.bool)] Zbc [] af ab rfl
def Zbe (x : (Q12×ByteArray×Unit)) : Option (Bool×Unit) :=
 some ((eqS x.1.1 x.2.1),())
def GU : Fn:=mkF (cx []) [] 148 Tryz.f148 [(.rd,dQ),(.rd,(.ptr .str))] [(.tmp 3,true,.bool)] Zbe [] af ab rfl
def xU (x : ((List Q12)×Q3×Int×Int×Unit)) : Option (((List Q12)×Q3×Int×Int×Unit)⊕((Int×Unit)⊕(Unit⊕Empty))) :=
 let (a,b,c,d,_):=x; cond (ltI d c) ((aV a d).bind fun y1=>(Zbe (y1,b.1,())).bind fun r2=>cond r2.1 (some (.inr (.inl (d,())))) (some (.inl (a,b,c,(bj .i64 d 1),())))) (some (.inr (.inr (.inl ()))))
def C5:=ai xU
def E8 : Ann:=⟨sh [(0,.av (.val (.slice dQ))),(1,.av (.val (.clo 148 (.prod (.ptr .str) .unit)))),(7,.av (.val I)),(8,.av (.val I))] [],[(.ret,sh [(4,.av (.val I))] []),(.exit 0,sh [] [])],C5⟩
def Zh (x : ((List Q12)×Q3×Unit)) : Option (Int×Unit) :=
 (C5 (x.1,x.2.1,(x.1.length : Nat),0,())).bind (Sum.elim (fun z2=>some (z2.1,())) (Sum.elim (fun z3=>some ((-1),())) (fun _=>none)))
def IE : Fn:=mkF (cx [GU]) [(2,E8)] 147 Tryz.f147 [(.rd,(.slice dQ)),(.rd,(.clo 148 (.prod (.ptr .str) .unit)))] [(.tmp 4,true,I)] Zh [lp 2 E8 xU] af ab rfl
def Zbp (x : (Q13×ByteArray×Unit)) : Option (Int×Unit) :=
 (Zh (x.1.2.2.1,(x.2.1,()),())).bind fun r1=>some (r1.1,())
def Fv : Fn:=mkF (cx [IE]) [] 82 Tryz.f82 [(.rd,dR),(.rd,.str)] [(.tmp 4,true,I)] Zbp [] af ab rfl
def sR (x : (List Int×Int×Int×Unit)) : Option ((List Int×Int×Int×Unit)⊕((Int×Unit)⊕(Unit⊕Empty))) :=
 let (a,b,c,_):=x; cond (ltI c b) ((kb a.length c).bind fun j1=>(a[j1]?).bind fun y2=>cond (ltI y2 32) (some (.inr (.inl (7,())))) (cond (gtI y2 126) (some (.inr (.inl (7,())))) (some (.inl (a,b,(bj .i64 c 1),()))))) (some (.inr (.inr (.inl ()))))
def xz:=ai sR
def Bb : Ann:=⟨sh [(9,.av (.own 9)),(10,.av (.val I)),(11,.av (.val I))] [(9,.arr (.int .u8))],[(.ret,sh [(2,.av (.val I))] []),(.exit 0,sh [] [])],xz⟩
def Zbk (x : Q3) : Option (Int×Unit) :=
 cond (gtI (x.1.size : Nat) 32) (some (2,())) ((xz ((bQ x.1),((bQ x.1).length : Nat),0,())).bind (Sum.elim (fun z2=>some (z2.1,())) (Sum.elim (fun z3=>some (0,())) (fun _=>none))))
def EX : Fn:=mkF (cx []) [(4,Bb)] 83 Tryz.f83 [(.rd,.str)] [(.tmp 2,true,I)] Zbk [lp 4 Bb sR] af ab rfl
def Zbn (x : (Int×Unit)) : Option (Bool×Unit) :=
 cond (geI x.1 1) (some ((leI x.1 1048576),())) (some (false,()))
def G9 : Fn:=mkF (cx []) [] 84 Tryz.f84 [(.rd,I)] [(.tmp 2,true,.bool)] Zbn [] af ab rfl
def Zaz (x : (Q4×Q4×Unit)) : Option (Bool×Unit) :=
 some ((eqS x.1.1 x.2.1.1),())
def Hg : Fn:=mkF (cx []) [] 150 Tryz.f150 [(.rd,yQ5),(.rd,(.ptr yQ5))] [(.tmp 3,true,.bool)] Zaz [] af ab rfl
def zh (x : Q9) : Option (Q9⊕((Int×Unit)⊕(Unit⊕Empty))) :=
 let (a,b,c,d,_):=x; cond (ltI d c) ((aV a d).bind fun y1=>(Zaz (y1,b.1,())).bind fun r2=>cond r2.1 (some (.inr (.inl (d,())))) (some (.inl (a,b,c,(bj .i64 d 1),())))) (some (.inr (.inr (.inl ()))))
def Dy:=ai zh
def Fi : Ann:=⟨sh [(0,.av (.val (.slice yQ5))),(1,.av (.val (.clo 150 zu))),(7,.av (.val I)),(8,.av (.val I))] [],[(.ret,sh [(4,.av (.val I))] []),(.exit 0,sh [] [])],Dy⟩
def Zg (x : Q7) : Option (Int×Unit) :=
 (Dy (x.1,x.2.1,(x.1.length : Nat),0,())).bind (Sum.elim (fun z2=>some (z2.1,())) (Sum.elim (fun z3=>some ((-1),())) (fun _=>none)))
def HN : Fn:=mkF (cx [Hg]) [(2,Fi)] 221 Tryz.f221 [(.rd,(.slice yQ5)),(.rd,(.clo 150 zu))] [(.tmp 4,true,I)] Zg [lp 2 Fi zh] af ab rfl
def Zd (x : Q7) : Option (Bool×Unit) :=
 (Zg (x.1,x.2.1,())).bind fun r1=>some ((geI r1.1 0),())
def Ix : Fn:=mkF (cx [HN]) [] 149 Tryz.f149 [(.rd,(.slice yQ5)),(.rd,(.clo 150 zu))] [(.tmp 4,true,.bool)] Zd [] af ab rfl
def tD (x : ((List Q4)×(List Q4)×Int×Int×Unit)) : Option (((List Q4)×(List Q4)×Int×Int×Unit)⊕((Int×Unit)⊕(Unit⊕Empty))) :=
 let (a,b,c,d,_):=x; cond (ltI d c) ((aV b d).bind fun y1=>(Zbc (y1.1,())).bind fun r2=>cond (!r2.1) (some (.inr (.inl (5,())))) ((js a 0 d).bind fun y3=>(Zd (y3,((y1.1,y1.2.1,()),()),())).bind fun r4=>cond r4.1 (some (.inr (.inl (6,())))) (cond (ltI y1.2.1 0) (some (.inr (.inl (7,())))) (cond (gtI y1.2.1 3) (some (.inr (.inl (7,())))) (some (.inl (a,b,c,(bj .i64 d 1),()))))))) (some (.inr (.inr (.inl ()))))
def wI:=ai tD
def Cq : Ann:=⟨sh [(0,.av (.val (.slice yQ5))),(8,.av (.val (.slice yQ5))),(9,.av (.val I)),(10,.av (.val I))] [],[(.ret,sh [(2,.av (.val I))] []),(.exit 0,sh [] [])],wI⟩
def Zbi (x : ((List Q4)×Unit)) : Option (Int×Unit) :=
 cond (gtI (x.1.length : Nat) 8) (some (2,())) ((wI (x.1,x.1,(x.1.length : Nat),0,())).bind (Sum.elim (fun z2=>some (z2.1,())) (Sum.elim (fun z3=>some (0,())) (fun _=>none))))
def G8 : Fn:=mkF (cx [yA,Ix]) [(4,Cq)] 85 Tryz.f85 [(.rd,(.slice yQ5))] [(.tmp 2,true,I)] Zbi [lp 4 Cq tD] af ab rfl
def Zbt (x : Q14) : Option (Int×Unit) :=
 let ((a,b,c,d,e,_),f,_):=x; (aV c f).bind fun y1=>(Zbc (y1.1,())).bind fun r2=>cond (!r2.1) (some (5,())) ((Zbp ((a,b,c,d,e,()),y1.1,())).bind fun r3=>cond (ltI r3.1 f) (some (6,())) ((Zbk (y1.2.1,())).bind fun r4=>cond (neI r4.1 0) (some (r4.1,())) ((Zbn (y1.2.2.1,())).bind fun r5=>cond (!r5.1) (some (3,())) ((Zbn (y1.2.2.2.1,())).bind fun r6=>cond (!r6.1) (some (3,())) (cond (ltI y1.2.2.2.2.1 (-1)) (some (3,())) (cond (geI y1.2.2.2.2.1 (e.length : Nat)) (some (3,())) ((Zbi (y1.2.2.2.2.2.1,())).bind fun r7=>some (r7.1,()))))))))
def G4 : Fn:=mkF (cx [yA,Fv,EX,G9,G8]) [] 40 Tryz.f40 [(.rd,dR),(.rd,I)] [(.tmp 4,true,I)] Zbt [] af ab rfl
def Zar (x : (Q4×Q4×Unit)) : Option (Bool×Unit) :=
 some ((eqS x.1.1 x.2.1.1),())
def Hr : Fn:=mkF (cx []) [] 87 Tryz.f87 [(.rd,yQ5),(.rd,(.ptr yQ5))] [(.tmp 3,true,.bool)] Zar [] af ab rfl
def x5 (x : Q9) : Option (Q9⊕((Int×Unit)⊕(Unit⊕Empty))) :=
 let (a,b,c,d,_):=x; cond (ltI d c) ((aV a d).bind fun y1=>(Zar (y1,b.1,())).bind fun r2=>cond r2.1 (some (.inr (.inl (d,())))) (some (.inl (a,b,c,(bj .i64 d 1),())))) (some (.inr (.inr (.inl ()))))
def C8:=ai x5
def ET : Ann:=⟨sh [(0,.av (.val (.slice yQ5))),(1,.av (.val (.clo 87 zu))),(7,.av (.val I)),(8,.av (.val I))] [],[(.ret,sh [(4,.av (.val I))] []),(.exit 0,sh [] [])],C8⟩
def Zb (x : Q7) : Option (Int×Unit) :=
 (C8 (x.1,x.2.1,(x.1.length : Nat),0,())).bind (Sum.elim (fun z2=>some (z2.1,())) (Sum.elim (fun z3=>some ((-1),())) (fun _=>none)))
def H6 : Fn:=mkF (cx [Hr]) [(2,ET)] 151 Tryz.f151 [(.rd,(.slice yQ5)),(.rd,(.clo 87 zu))] [(.tmp 4,true,I)] Zb [lp 2 ET x5] af ab rfl
def Za (x : Q7) : Option (Bool×Unit) :=
 (Zb (x.1,x.2.1,())).bind fun r1=>some ((geI r1.1 0),())
def Ir : Fn:=mkF (cx [H6]) [] 86 Tryz.f86 [(.rd,(.slice yQ5)),(.rd,(.clo 87 zu))] [(.tmp 4,true,.bool)] Za [] af ab rfl
def sV (x : Q17) : Option (Q17⊕((List Int×Unit)⊕Empty)) :=
 let (a,b,c,d,e,f,g,_):=x; cond (geI g 0) ((app f [g]).bind fun a1=>(aV e g).bind fun y2=>some (.inl (a,b,c,d,e,a1,y2.2.1,()))) (some (.inr (.inl (f,()))))
def xG:=ai sV
def Dr : Ann:=⟨sh [(1,.av (.val I)),(2,.av (.ptr 2 0)),(5,.av (.own 5))] [(2,.box [.val .str,.val .bool,.val (.slice dQ),.val (.slice dN),.val (.slice yQ5)]),(5,.arr I)],[(.exit 0,sh [(5,.av (.own 5))] [(5,.arr I)])],xG⟩
def Zbd (x : Q14) : Option (List Int×Unit) :=
 let ((a,b,c,d,e,_),f,_):=x; (xG (a,b,c,d,e,[],f,())).bind (Sum.elim (fun z2=>some (z2.1,())) (fun _=>none))
def Gp : Fn:=mkF (cx []) [(2,Dr)] 152 Tryz.f152 [(.rd,dR),(.rd,I)] [(.tmp 4,true,(.slice I))] Zbd [lp 2 Dr sV] af ab rfl
def Zbh (x : Q14) : Option (Int×Unit) :=
 let ((a,b,c,d,e,_),f,_):=x; (Zbd ((a,b,c,d,e,()),f,())).bind fun r1=>some ((r1.1.length : Nat),())
def GV : Fn:=mkF (cx [Gp]) [] 88 Tryz.f88 [(.rd,dR),(.rd,I)] [(.tmp 4,true,I)] Zbh [] af ab rfl
def Zay (x : Q14) : Option (Int×Unit) :=
 let ((a,b,c,d,e,_),f,_):=x; (aV e f).bind fun y1=>(Zbc (y1.1,())).bind fun r2=>cond (!r2.1) (some (5,())) ((Zbp ((a,b,c,d,e,()),y1.1,())).bind fun r3=>cond (geI r3.1 0) (some (6,())) ((js e 0 f).bind fun y4=>(Za (y4,((y1.1,y1.2.1,()),()),())).bind fun r5=>cond r5.1 (some (6,())) (cond (ltI y1.2.1 (-1)) (some (3,())) (cond (geI y1.2.1 f) (some (3,())) ((Zbh ((a,b,c,d,e,()),f,())).bind fun r6=>cond (gtI r6.1 6) (some (2,())) (some (0,())))))))
def G5 : Fn:=mkF (cx [yA,Fv,Ir,GV]) [] 41 Tryz.f41 [(.rd,dR),(.rd,I)] [(.tmp 4,true,I)] Zay [] af ab rfl
def Zbr (x : (Q13×Q11×Unit)) : Option (Int×Unit) :=
 let ((_,_,a,_),(b,c,d,e,f,g,h,_),_):=x; cond (ltI (jw b c) 0) (some (3,())) (cond (geI (maxI b c) (a.length : Nat)) (some (3,())) (cond (ltI (jw d e) (-1)) (some (3,())) ((aV a b).bind fun y1=>cond (geI d (y1.2.2.2.2.2.1.length : Nat)) (some (3,())) ((aV a c).bind fun y2=>cond (geI e (y2.2.2.2.2.2.1.length : Nat)) (some (3,())) ((Zbk (f,())).bind fun r3=>cond (neI r3.1 0) (some (r3.1,())) (cond (ltI g 1) (some (7,())) (cond (gtI g 1000) (some (7,())) (cond (ltI h 1) (some (7,())) (cond (gtI h 64) (some (7,())) (some (0,())))))))))))
def GE : Fn:=mkF (cx [EX]) [] 42 Tryz.f42 [(.rd,dR),(.rd,dN)] [(.tmp 4,true,I)] Zbr [] af ab rfl
def om (x : Q19) : Option (Q19⊕((Int×Unit)⊕(Unit⊕Empty))) :=
 let (a,b,c,d,e,f,g,h,_):=x; cond (ltI h g) ((aV f h).bind fun y1=>(Zbr ((a,b,c,d,e,()),(y1.1,y1.2.1,y1.2.2.1,y1.2.2.2.1,y1.2.2.2.2.1,y1.2.2.2.2.2.1,y1.2.2.2.2.2.2.1,()),())).bind fun r2=>cond (neI r2.1 0) (some (.inr (.inl (r2.1,())))) (some (.inl (a,b,c,d,e,f,g,(bj .i64 h 1),())))) (some (.inr (.inr (.inl ()))))
def tg:=ai om
def yy : Ann:=⟨sh [(1,.av (.ptr 1 0)),(57,.av (.val (.slice dN))),(58,.av (.val I)),(59,.av (.val I))] [(1,.box [.val .str,.val .bool,.val (.slice dQ),.val (.slice dN),.val (.slice yQ5)])],[(.ret,sh [(2,.av (.val I))] []),(.exit 4,sh [] [])],tg⟩
def og (x : Q16) : Option (Q16⊕((Int×Unit)⊕(Q13⊕Empty))) :=
 let (a,b,c,d,e,f,g,_):=x; cond (ltI g f) ((Zay ((a,b,c,d,e,()),g,())).bind fun r1=>cond (neI r1.1 0) (some (.inr (.inl (r1.1,())))) (some (.inl (a,b,c,d,e,f,(bj .i64 g 1),())))) (some (.inr (.inr (.inl (a,b,c,d,e,())))))
def sE:=ai og
def yu : Ann:=⟨sh [(1,.av (.ptr 1 0)),(45,.av (.val I)),(46,.av (.val I))] [(1,.box [.val .str,.val .bool,.val (.slice dQ),.val (.slice dN),.val (.slice yQ5)])],[(.ret,sh [(2,.av (.val I))] []),(.exit 2,sh [(1,.av (.ptr 1 0))] [(1,.box [.val .str,.val .bool,.val (.slice dQ),.val (.slice dN),.val (.slice yQ5)])])],sE⟩
def sF (x : Q16) : Option (Q16⊕((Int×Unit)⊕(Q13⊕Empty))) :=
 let (a,b,c,d,e,f,g,_):=x; cond (ltI g f) ((Zbt ((a,b,c,d,e,()),g,())).bind fun r1=>cond (neI r1.1 0) (some (.inr (.inl (r1.1,())))) (some (.inl (a,b,c,d,e,f,(bj .i64 g 1),())))) (some (.inr (.inr (.inl (a,b,c,d,e,())))))
def wU:=ai sF
def Bp : Ann:=⟨sh [(1,.av (.ptr 1 0)),(32,.av (.val I)),(33,.av (.val I))] [(1,.box [.val .str,.val .bool,.val (.slice dQ),.val (.slice dN),.val (.slice yQ5)])],[(.ret,sh [(2,.av (.val I))] []),(.exit 0,sh [(1,.av (.ptr 1 0))] [(1,.box [.val .str,.val .bool,.val (.slice dQ),.val (.slice dN),.val (.slice yQ5)])])],wU⟩
def Zbg (x : (Q13×Unit)) : Option (Int×Unit) :=
 let ((a,b,c,d,e,_),_):=x; cond (gtI (c.length : Nat) 64) (some (2,())) (cond (gtI (d.length : Nat) 256) (some (2,())) (cond (gtI (e.length : Nat) 16) (some (2,())) ((Zbc (a,())).bind fun r1=>cond (!r1.1) (some (5,())) ((wU (a,b,c,d,e,(c.length : Nat),0,())).bind (Sum.elim (fun z3=>some (z3.1,())) (Sum.elim (fun (a_4,b_4,c_4,d_4,e_4,_)=>(sE (a_4,b_4,c_4,d_4,e_4,(e_4.length : Nat),0,())).bind (Sum.elim (fun z6=>some (z6.1,())) (Sum.elim (fun (a_7,b_7,c_7,d_7,e_7,_)=>(tg (a_7,b_7,c_7,d_7,e_7,d_7,(d_7.length : Nat),0,())).bind (Sum.elim (fun z9=>some (z9.1,())) (Sum.elim (fun z10=>some (0,())) (fun _=>none)))) (fun _=>none)))) (fun _=>none)))))))
def Ht : Fn:=mkF (cx [yA,G4,G5,GE]) [(6,Bp),(13,yu),(20,yy)] 20 Tryz.f20 [(.rd,dR)] [(.tmp 2,true,I)] Zbg [lp 6 Bp sF,lp 13 yu og,lp 20 yy om] af ab rfl
def tN (x : ((List Q1)×Int×Unit)) : Option (((List Q1)×Int×Unit)⊕((Bool×Unit)⊕(Unit⊕Empty))) :=
 let (a,b,_):=x; cond (ltI b (a.length : Nat)) ((aV a (cv .i64 b 1)).bind fun y1=>(aV a b).bind fun y2=>cond ((eqI y1.1 y2.1) && ((eqI y1.2.1 y2.2.1) && true)) (some (.inr (.inl (false,())))) (some (.inl (a,(bj .i64 b 1),())))) (some (.inr (.inr (.inl ()))))
def w9:=ai tN
def CN : Ann:=⟨sh [(0,.av (.val (.slice yQ2))),(3,.av (.val I))] [],[(.ret,sh [(2,.av (.val .bool))] []),(.exit 0,sh [] [])],w9⟩
def Zba (x : ((List Q1)×Unit)) : Option (Bool×Unit) :=
 (w9 (x.1,1,())).bind (Sum.elim (fun z2=>some (z2.1,())) (Sum.elim (fun z3=>some (true,())) (fun _=>none)))
def Gz : Fn:=mkF (cx []) [(2,CN)] 67 Tryz.f67 [(.rd,(.slice yQ2))] [(.tmp 2,true,.bool)] Zba [lp 2 CN tN] af ab rfl
def Zbq (x : (Q1×Unit)) : Option (Bool×Unit) :=
 let ((a,b,_),_):=x; cond (geI a (-268435456)) (cond (leI a 268435456) (cond (geI b (-268435456)) (some ((leI b 268435456),())) (some (false,()))) (some (false,()))) (some (false,()))
def Cs : Fn:=mkF (cx []) [] 113 Tryz.f113 [(.rd,yQ2)] [(.tmp 2,true,.bool)] Zbq [] af ab rfl
def Zbb (x : (Q1×Unit)) : Option (Bool×Unit) :=
 (Zbq ((x.1.1,x.1.2.1,()),())).bind fun r1=>some ((!r1.1),())
def HC : Fn:=mkF (cx [Cs]) [] 135 Tryz.f135 [(.rd,yQ2)] [(.tmp 2,true,.bool)] Zbb [] af ab rfl
def yQ (x : ((List Q1)×Unit×Int×Int×Unit)) : Option (((List Q1)×Unit×Int×Int×Unit)⊕((Int×Unit)⊕(Unit⊕Empty))) :=
 let (a,b,c,d,_):=x; cond (ltI d c) ((aV a d).bind fun y1=>(Zbb (y1,())).bind fun r2=>cond r2.1 (some (.inr (.inl (d,())))) (some (.inl (a,b,c,(bj .i64 d 1),())))) (some (.inr (.inr (.inl ()))))
def Cf:=ai yQ
def EH : Ann:=⟨sh [(0,.av (.val (.slice yQ2))),(1,.av (.val (.clo 135 .unit))),(7,.av (.val I)),(8,.av (.val I))] [],[(.ret,sh [(4,.av (.val I))] []),(.exit 0,sh [] [])],Cf⟩
def Zf (x : ((List Q1)×Unit×Unit)) : Option (Int×Unit) :=
 (Cf (x.1,x.2.1,(x.1.length : Nat),0,())).bind (Sum.elim (fun z2=>some (z2.1,())) (Sum.elim (fun z3=>some ((-1),())) (fun _=>none)))
def Ii : Fn:=mkF (cx [HC]) [(2,EH)] 217 Tryz.f217 [(.rd,(.slice yQ2)),(.rd,(.clo 135 .unit))] [(.tmp 4,true,I)] Zf [lp 2 EH yQ] af ab rfl
def Zc (x : ((List Q1)×Unit×Unit)) : Option (Bool×Unit) :=
 (Zf (x.1,x.2.1,())).bind fun r1=>some ((geI r1.1 0),())
def Iw : Fn:=mkF (cx [Ii]) [] 134 Tryz.f134 [(.rd,(.slice yQ2)),(.rd,(.clo 135 .unit))] [(.tmp 4,true,.bool)] Zc [] af ab rfl
def Zbl (x : ((List Q1)×Unit)) : Option (Bool×Unit) :=
 cond (geI (x.1.length : Nat) 1) (cond (leI (x.1.length : Nat) 512) ((Zc (x.1,(),())).bind fun r1=>some ((!r1.1),())) (some (false,()))) (some (false,()))
def GT : Fn:=mkF (cx [Iw]) [] 68 Tryz.f68 [(.rd,(.slice yQ2))] [(.tmp 2,true,.bool)] Zbl [] af ab rfl
def Zbu (x : ((List Q1)×Unit)) : Option (Bool×Unit) :=
 (Zba (x.1,())).bind fun r1=>cond r1.1 ((Zbl (x.1,())).bind fun r2=>some (r2.1,())) (some (false,()))
def Zbu_h : Fn:=mkF (cx [Gz,GT]) [] 29 Tryz.f29 [(.rd,(.slice yQ2))] [(.tmp 2,true,.bool)] Zbu [] af ab rfl
def Zbx (x : (Q5×Unit)) : Option (Bool×Unit) :=
 let ((a,b,c,d,_),_):=x; (Zbq ((a,b,()),())).bind fun r1=>cond r1.1 ((Zbq ((c,d,()),())).bind fun r2=>cond r2.1 (cond (leI a c) (some ((leI b d),())) (some (false,()))) (some (false,()))) (some (false,()))
def Fp : Fn:=mkF (cx [Cs]) [] 51 Tryz.f51 [(.rd,yQ4)] [(.tmp 2,true,.bool)] Zbx [] af ab rfl
def Zax (x : (Q5×Unit)) : Option (Bool×Unit) :=
 let ((a,b,c,d,_),_):=x; (Zbx ((a,b,c,d,()),())).bind fun r1=>some ((!r1.1),())
def Ha : Fn:=mkF (cx [Fp]) [] 69 Tryz.f69 [(.rd,yQ4)] [(.tmp 2,true,.bool)] Zax [] af ab rfl
def yb (x : ((List Q5)×Unit×Int×Int×Unit)) : Option (((List Q5)×Unit×Int×Int×Unit)⊕((Int×Unit)⊕(Unit⊕Empty))) :=
 let (a,b,c,d,_):=x; cond (ltI d c) ((aV a d).bind fun y1=>(Zax (y1,())).bind fun r2=>cond r2.1 (some (.inr (.inl (d,())))) (some (.inl (a,b,c,(bj .i64 d 1),())))) (some (.inr (.inr (.inl ()))))
def Bd:=ai yb
def Fk : Ann:=⟨sh [(0,.av (.val (.slice yQ4))),(1,.av (.val (.clo 69 .unit))),(7,.av (.val I)),(8,.av (.val I))] [],[(.ret,sh [(4,.av (.val I))] []),(.exit 0,sh [] [])],Bd⟩
def Zi (x : ((List Q5)×Unit×Unit)) : Option (Int×Unit) :=
 (Bd (x.1,x.2.1,(x.1.length : Nat),0,())).bind (Sum.elim (fun z2=>some (z2.1,())) (Sum.elim (fun z3=>some ((-1),())) (fun _=>none)))
def IG : Fn:=mkF (cx [Ha]) [(2,Fk)] 114 Tryz.f114 [(.rd,(.slice yQ4)),(.rd,(.clo 69 .unit))] [(.tmp 4,true,I)] Zi [lp 2 Fk yb] af ab rfl
def Ze (x : ((List Q5)×Unit×Unit)) : Option (Bool×Unit) :=
 (Zi (x.1,x.2.1,())).bind fun r1=>some ((geI r1.1 0),())
def Ik : Fn:=mkF (cx [IG]) [] 53 Tryz.f53 [(.rd,(.slice yQ4)),(.rd,(.clo 69 .unit))] [(.tmp 4,true,.bool)] Ze [] af ab rfl
def Zbo (x : ((List Q5)×Unit)) : Option (Bool×Unit) :=
 (Ze (x.1,(),())).bind fun r1=>some ((!r1.1),())
def Hw : Fn:=mkF (cx [Ik]) [] 30 Tryz.f30 [(.rd,(.slice yQ4))] [(.tmp 2,true,.bool)] Zbo [] af ab rfl
def sq (x : Q29) : Option (Q29⊕((Bool×Unit)⊕(Q24⊕Empty))) :=
 let (a,b,c,d,e,f,g,h,i,k,l,m,n,o,_):=x; cond (ltI o n) ((aV m o).bind fun y1=>(Zbu (y1,())).bind fun r2=>cond (!r2.1) (some (.inr (.inl (false,())))) (some (.inl (a,b,c,d,e,f,g,h,i,k,l,m,n,(bj .i64 o 1),())))) (some (.inr (.inr (.inl (a,b,c,d,e,f,g,h,i,k,l,())))))
def xI:=ai sq
def Dw : Ann:=⟨sh [(3,.av (.ptr 3 0)),(47,.av (.val iM)),(48,.av (.val I)),(49,.av (.val I))] [(3,.box [.val (.slice yQ4),.val (.slice yQ4),.val iM,.val (.slice yQ4),.val I,.val I,.val I,.val I,.val I,.val I,.val (.slice I)])],[(.ret,sh [(4,.av (.val .bool))] []),(.exit 0,sh [(3,.av (.ptr 3 0))] [(3,.box [.val (.slice yQ4),.val (.slice yQ4),.val iM,.val (.slice yQ4),.val I,.val I,.val I,.val I,.val I,.val I,.val (.slice I)])])],xI⟩
def Zbs (x : Q21) : Option (Bool×Unit) :=
 let ((a,b,c,d,e,_),(f,g,h,i,(k,l,m,n,_),o,p,q,_),_):=x; (Zbg ((a,b,c,d,e,()),())).bind fun r1=>cond (neI r1.1 0) (some (false,())) (cond (neI (f.length : Nat) (c.length : Nat)) (some (false,())) (cond (neI (g.length : Nat) (e.length : Nat)) (some (false,())) (cond (neI (h.length : Nat) (d.length : Nat)) (some (false,())) (cond (neI (i.length : Nat) (d.length : Nat)) (some (false,())) ((xI (f,g,h,i,k,l,m,n,o,p,q,h,(h.length : Nat),0,())).bind (Sum.elim (fun z3=>some (z3.1,())) (Sum.elim (fun z4=>(Zbo (z4.1,())).bind fun r5=>cond r5.1 ((Zbo (z4.2.1,())).bind fun r6=>cond r6.1 ((Zbo (z4.2.2.2.1,())).bind fun r7=>some (r7.1,())) (some (false,()))) (some (false,()))) (fun _=>none))))))))
def EY : Fn:=mkF (cx [Ht,Zbu_h,Hw]) [(4,Dw)] 14 Tryz.f14 [(.rd,dR),(.rd,ll)] [(.tmp 4,true,.bool)] Zbs [lp 4 Dw sq] af ab rfl
def Zai (x : ((List Q5)×Unit)) : Option ((List Q5)×Unit) :=
 cond x.1.isEmpty (uh (some ([],())) ((app [] x.1).bind fun a1=>some (a1,()))) ((app [] x.1).bind fun a1=>some (a1,()))
def GX : Fn:=mkF (cx []) [] 31 Tryz.f31 [(.rd,(.slice yQ4))] [(.tmp 2,true,(.slice yQ4))] Zai [] af ab rfl
def Zbj (x : (Q5×Q5×Unit)) : Option (Bool×Unit) :=
 let ((a,b,c,d,_),(e,f,g,h,_),_):=x; (Zbx ((a,b,c,d,()),())).bind fun r1=>cond r1.1 ((Zbx ((e,f,g,h,()),())).bind fun r2=>cond r2.1 (cond (ltI (maxI a e) (jw c g)) (some ((ltI (maxI b f) (jw d h)),())) (some (false,()))) (some (false,()))) (some (false,()))
def Hi : Fn:=mkF (cx [Fp]) [] 32 Tryz.f32 [(.rd,yQ4),(.rd,yQ4)] [(.tmp 4,true,.bool)] Zbj [] af ab rfl
def oW (x : Q23) : Option (Q23⊕(Q10⊕Empty)) :=
 let (a,b,c,d,e,f,g,h,i,k,l,m,_):=x; cond (ltI m l) ((aV k m).bind fun y1=>(Zbj ((a,b,c,d,()),(y1.1,y1.2.1,y1.2.2.1,y1.2.2.2.1,()),())).bind fun r2=>cond r2.1 (some (.inl (a,b,c,d,e,(bj .i64 f 1),g,h,i,k,l,(bj .i64 m 1),()))) (some (.inl (a,b,c,d,e,f,g,h,i,k,l,(bj .i64 m 1),())))) (some (.inr (.inl (e,f,g,h,i,()))))
def wx:=ai oW
def AP : Ann:=⟨sh [(3,.av (.val (.slice yQ4))),(4,.av (.val I)),(6,.av (.ptr 6 0)),(15,.av (.val (.slice yQ4))),(16,.av (.val I)),(17,.av (.val I)),(24,.av (.val (.slice yQ4))),(25,.av (.val I)),(26,.av (.val I))] [(6,.box [.val I,.val I,.val I,.val I])],[(.exit 2,sh [(3,.av (.val (.slice yQ4))),(4,.av (.val I)),(15,.av (.val (.slice yQ4))),(16,.av (.val I)),(17,.av (.val I))] [])],wx⟩
def qc (x : Q10) : Option (Q10⊕((Int×Unit)⊕Empty)) :=
 let (a,b,c,d,e,_):=x; cond (ltI e d) ((aV c e).bind fun y1=>(js a 0 e).bind fun y2=>(wx (y1.1,y1.2.1,y1.2.2.1,y1.2.2.2.1,a,b,c,d,e,y2,(y2.length : Nat),0,())).bind (Sum.elim (fun z4=>some (.inl (z4.1,z4.2.1,z4.2.2.1,z4.2.2.2.1,(bj .i64 z4.2.2.2.2.1 1),()))) (fun _=>none))) (some (.inr (.inl (b,()))))
def xE:=ai qc
def Bu : Ann:=⟨sh [(3,.av (.val (.slice yQ4))),(4,.av (.val I)),(15,.av (.val (.slice yQ4))),(16,.av (.val I)),(17,.av (.val I))] [],[(.exit 0,sh [(4,.av (.val I))] [])],xE⟩
def Zaw (x : (Q20×Unit)) : Option (Int×Unit) :=
 (Zai (x.1.1,())).bind fun r1=>(app r1.1 x.1.2.2.2.1).bind fun a2=>(xE (a2,0,a2,(a2.length : Nat),0,())).bind (Sum.elim (fun z4=>some (z4.1,())) (fun _=>none))
def HH : Fn:=mkF (cx [GX,Hi]) [(4,Bu),(7,AP)] 15 Tryz.f15 [(.rd,ll)] [(.tmp 2,true,I)] Zaw [lp 4 Bu qc,lp 7 AP oW] af ab rfl
def Zav (x : Q21) : Option (Int×Unit) :=
 let ((a,b,c,d,e,_),(f,g,h,i,(k,l,m,n,_),o,p,q,_),_):=x; (Zbs ((a,b,c,d,e,()),(f,g,h,i,(k,l,m,n,()),o,p,q,()),())).bind fun r1=>cond (!r1.1) (some ((-1),())) ((Zaw ((f,g,h,i,(k,l,m,n,()),o,p,q,()),())).bind fun r2=>some (r2.1,()))
def GI : Fn:=mkF (cx [EY,HH]) [] 7 Tryz.f7 [(.rd,dR),(.rd,ll)] [(.tmp 4,true,I)] Zav [] af ab rfl
def Zq (x : (Int×Unit)) : Option (Bool×Unit) :=
 let (a,_):=x; cond (geI a 97) (cond (leI a 122) (some (true,())) (cond (geI a 65) (cond (leI a 90) (some (true,())) (some ((eqI a 95),()))) (some ((eqI a 95),())))) (cond (geI a 65) (cond (leI a 90) (some (true,())) (some ((eqI a 95),()))) (some ((eqI a 95),())))
def Ij : Fn:=mkF (cx []) [] 218 Tryz.f218 [(.rd,(.int .u8))] [(.tmp 2,true,.bool)] Zq [] af ab rfl
def Zw (x : (Int×Unit)) : Option (Bool×Unit) :=
 cond (geI x.1 48) (some ((leI x.1 57),())) (some (false,()))
def HW : Fn:=mkF (cx []) [] 219 Tryz.f219 [(.rd,(.int .u8))] [(.tmp 2,true,.bool)] Zw [] af ab rfl
def CL (x : Q4) : Option (Q4⊕((Int×Unit)⊕Empty)) :=
 let (a,b,_):=x; cond (ltI b (a.size : Nat)) ((aV a.data.toList b).bind fun c1=>(Zq ((c1.toNat : Int),())).bind fun r2=>cond r2.1 (some (.inl (a,(bj .i64 b 1),()))) (cond (gtI b 0) ((aV a.data.toList b).bind fun c3=>(Zw ((c3.toNat : Int),())).bind fun r4=>cond r4.1 (some (.inl (a,(bj .i64 b 1),()))) (some (.inr (.inl (b,()))))) (some (.inr (.inl (b,())))))) (some (.inr (.inl (b,()))))
def Bj:=ai CL
def Bg : Ann:=⟨sh [(0,.av (.val .str)),(3,.av (.val I))] [],[(.exit 0,sh [(3,.av (.val I))] [])],Bj⟩
def Zak (x : Q3) : Option (Int×Unit) :=
 (Bj (x.1,0,())).bind (Sum.elim (fun z2=>some (z2.1,())) (fun _=>none))
def Hc : Fn:=mkF (cx [Ij,HW]) [(2,Bg)] 136 Tryz.f136 [(.rd,.str)] [(.tmp 2,true,I)] Zak [lp 2 Bg CL] af ab rfl
def Zm (x : Q3) : Option (Bool×Unit) :=
 let (a,_):=x; cond (eqS a (ByteArray.mk #[100,105,103,114,97,112,104])) (cond (eqS a (ByteArray.mk #[100,105,103,114,97,112,104])) (some (true,())) (some (false,()))) (cond (eqS a (ByteArray.mk #[103,114,97,112,104])) (cond (eqS a (ByteArray.mk #[103,114,97,112,104])) (some (true,())) (some (false,()))) (cond (eqS a (ByteArray.mk #[110,111,100,101])) (cond (eqS a (ByteArray.mk #[110,111,100,101])) (some (true,())) (some (false,()))) (cond (eqS a (ByteArray.mk #[101,100,103,101])) (cond (eqS a (ByteArray.mk #[101,100,103,101])) (some (true,())) (some (false,()))) (cond (eqS a (ByteArray.mk #[115,101,116])) (cond (eqS a (ByteArray.mk #[115,101,116])) (some (true,())) (some (false,()))) (cond (eqS a (ByteArray.mk #[99,108,117,115,116,101,114])) (some (true,())) (some (false,())))))))
def IB : Fn:=mkF (cx []) [] 137 Tryz.f137 [(.rd,.str)] [(.tmp 2,true,.bool)] Zm [] af ab rfl
def Zr (x : Q3) : Option (Bool×Unit) :=
 cond (neS x.1 (ByteArray.mk #[])) ((Zak (x.1,())).bind fun r1=>cond (eqI r1.1 (x.1.size : Nat)) (cond (leI (x.1.size : Nat) 16) ((Zm (x.1,())).bind fun r2=>some ((!r2.1),())) (some (false,()))) (some (false,()))) (some (false,()))
def D6 : Fn:=mkF (cx [Hc,IB]) [] 70 Tryz.f70 [(.rd,.str)] [(.tmp 2,true,.bool)] Zr [] af ab rfl
def rZ (x : Q18) : Option (Q18⊕((Int×Unit)⊕(Unit⊕Empty))) :=
 let (a,b,c,d,e,f,g,_):=x; cond (ltI g (c.length : Nat)) ((aV c g).bind fun y1=>cond (eqS y1.1 f) (some (.inr (.inl (g,())))) (some (.inl (a,b,c,d,e,f,(bj .i64 g 1),())))) (some (.inr (.inr (.inl ()))))
def wE:=ai rZ
def BU : Ann:=⟨sh [(1,.av (.val .str)),(2,.av (.ptr 2 0)),(5,.av (.val I))] [(2,.box [.val .str,.val .bool,.val (.slice dQ),.val (.slice dN),.val (.slice yQ5)])],[(.ret,sh [(4,.av (.val I))] []),(.exit 0,sh [] [])],wE⟩
def Zam (x : (Q13×ByteArray×Unit)) : Option (Int×Unit) :=
 let ((a,b,c,d,e,_),f,_):=x; (wE (a,b,c,d,e,f,0,())).bind (Sum.elim (fun z2=>some (z2.1,())) (Sum.elim (fun z3=>some ((-1),())) (fun _=>none)))
def E3 : Fn:=mkF (cx []) [(2,BU)] 138 Tryz.f138 [(.rd,dR),(.rd,.str)] [(.tmp 4,true,I)] Zam [lp 2 BU rZ] af ab rfl
def xW (x : Q4) : Option (Q4⊕((Bool×Unit)⊕(Unit⊕Empty))) :=
 let (a,b,_):=x; cond (ltI b (a.size : Nat)) ((aV a.data.toList b).bind fun c1=>cond (ltI (c1.toNat : Int) 32) (some (.inr (.inl (false,())))) ((aV a.data.toList b).bind fun c2=>cond (gtI (c2.toNat : Int) 126) (some (.inr (.inl (false,())))) (some (.inl (a,(bj .i64 b 1),()))))) (some (.inr (.inr (.inl ()))))
def CY:=ai xW
def Fh : Ann:=⟨sh [(0,.av (.val .str)),(3,.av (.val I))] [],[(.ret,sh [(2,.av (.val .bool))] []),(.exit 0,sh [] [])],CY⟩
def Zt (x : Q3) : Option (Bool×Unit) :=
 (CY (x.1,0,())).bind (Sum.elim (fun z2=>some (z2.1,())) (Sum.elim (fun z3=>some (true,())) (fun _=>none)))
def HL : Fn:=mkF (cx []) [(2,Fh)] 139 Tryz.f139 [(.rd,.str)] [(.tmp 2,true,.bool)] Zt [lp 2 Fh xW] af ab rfl
def yl (x : ((List Q4)×Int×Int×Unit)) : Option (((List Q4)×Int×Int×Unit)⊕((Int×Unit)⊕(((List Q4)×Int×Unit)⊕Empty))) :=
 let (a,b,c,_):=x; cond (ltI c b) ((aV a c).bind fun y1=>(aV a b).bind fun y2=>cond (eqS y1.1 y2.1) (some (.inr (.inl (6,())))) (some (.inl (a,b,(bj .i64 c 1),())))) (some (.inr (.inr (.inl (a,b,())))))
def yK:=ai yl
def Fb : Ann:=⟨sh [(0,.av (.val (.slice yQ5))),(3,.av (.val I)),(4,.av (.val I))] [],[(.ret,sh [(2,.av (.val I))] []),(.exit 2,sh [(0,.av (.val (.slice yQ5))),(3,.av (.val I))] [])],yK⟩
def yf (x : ((List Q4)×Int×Unit)) : Option (((List Q4)×Int×Unit)⊕((Int×Unit)⊕(Unit⊕Empty))) :=
 let (a,b,_):=x; cond (ltI b (a.length : Nat)) ((aV a b).bind fun y1=>(Zr (y1.1,())).bind fun r2=>cond (!r2.1) (some (.inr (.inl (5,())))) ((yK (a,b,0,())).bind (Sum.elim (fun z4=>some (.inr (.inl (z4.1,())))) (Sum.elim (fun z5=>(aV z5.1 z5.2.1).bind fun y6=>cond (ltI y6.2.1 0) (some (.inr (.inl (7,())))) ((aV z5.1 z5.2.1).bind fun y7=>cond (gtI y7.2.1 3) (some (.inr (.inl (7,())))) (some (.inl (z5.1,(bj .i64 z5.2.1 1),()))))) (fun _=>none))))) (some (.inr (.inr (.inl ()))))
def Dh:=ai yf
def Ff : Ann:=⟨sh [(0,.av (.val (.slice yQ5))),(3,.av (.val I))] [],[(.ret,sh [(2,.av (.val I))] []),(.exit 0,sh [] [])],Dh⟩
def Zu (x : ((List Q4)×Unit)) : Option (Int×Unit) :=
 (Dh (x.1,0,())).bind (Sum.elim (fun z2=>some (z2.1,())) (Sum.elim (fun z3=>some (0,())) (fun _=>none)))
def H8 : Fn:=mkF (cx [D6]) [(2,Ff),(7,Fb)] 140 Tryz.f140 [(.rd,(.slice yQ5))] [(.tmp 2,true,I)] Zu [lp 2 Ff yf,lp 7 Fb yl] af ab rfl
def Zah (x : Q14) : Option (Int×Unit) :=
 let ((a,b,c,d,e,_),f,_):=x; (aV c f).bind fun y1=>(Zr (y1.1,())).bind fun r2=>cond (!r2.1) (some (5,())) ((Zam ((a,b,c,d,e,()),y1.1,())).bind fun r3=>cond (neI r3.1 f) (some (6,())) (cond (gtI (y1.2.1.size : Nat) 32) (some (2,())) ((Zt (y1.2.1,())).bind fun r4=>cond (!r4.1) (some (7,())) (cond (ltI y1.2.2.1 1) (some (3,())) (cond (gtI y1.2.2.1 1048576) (some (3,())) (cond (ltI y1.2.2.2.1 1) (some (3,())) (cond (gtI y1.2.2.2.1 1048576) (some (3,())) (cond (ltI y1.2.2.2.2.1 (-1)) (some (3,())) (cond (geI y1.2.2.2.2.1 (e.length : Nat)) (some (3,())) (cond (gtI (y1.2.2.2.2.2.1.length : Nat) 8) (some (2,())) ((Zu (y1.2.2.2.2.2.1,())).bind fun r5=>some (r5.1,()))))))))))))
def Gq : Fn:=mkF (cx [D6,E3,HL,H8]) [] 71 Tryz.f71 [(.rd,dR),(.rd,I)] [(.tmp 4,true,I)] Zah [] af ab rfl
def yo (x : Q16) : Option (Q16⊕((Int×Unit)⊕Empty)) :=
 let (a,b,c,d,e,f,g,_):=x; cond (geI f 0) ((aV e f).bind fun y1=>some (.inl (a,b,c,d,e,y1.2.1,(bj .i64 g 1),()))) (some (.inr (.inl (g,()))))
def BT:=ai yo
def Fd : Ann:=⟨sh [(1,.av (.val I)),(2,.av (.ptr 2 0)),(5,.av (.val I))] [(2,.box [.val .str,.val .bool,.val (.slice dQ),.val (.slice dN),.val (.slice yQ5)])],[(.exit 0,sh [(5,.av (.val I))] [])],BT⟩
def Zz (x : Q14) : Option (Int×Unit) :=
 let ((a,b,c,d,e,_),f,_):=x; (BT (a,b,c,d,e,f,0,())).bind (Sum.elim (fun z2=>some (z2.1,())) (fun _=>none))
def H4 : Fn:=mkF (cx []) [(2,Fd)] 141 Tryz.f141 [(.rd,dR),(.rd,I)] [(.tmp 4,true,I)] Zz [lp 2 Fd yo] af ab rfl
def yD (x : Q22) : Option (Q22⊕((Int×Unit)⊕((ByteArray×Bool×(List Q12)×(List Q11)×(List Q4)×ByteArray×Int×Int×Unit)⊕Empty))) :=
 let (a,b,c,d,e,f,g,h,i,_):=x; cond (ltI i h) ((aV e i).bind fun y1=>cond (eqS y1.1 f) (some (.inr (.inl (6,())))) (some (.inl (a,b,c,d,e,f,g,h,(bj .i64 i 1),())))) (some (.inr (.inr (.inl (a,b,c,d,e,f,g,h,())))))
def zl:=ai yD
def Fu : Ann:=⟨sh [(1,.av (.val I)),(2,.av (.ptr 2 0)),(5,.av (.ptr 5 0)),(6,.av (.val I))] [(2,.box [.val .str,.val .bool,.val (.slice dQ),.val (.slice dN),.val (.slice yQ5)]),(5,.box [.val .str,.val I])],[(.ret,sh [(4,.av (.val I))] []),(.exit 0,sh [(1,.av (.val I)),(2,.av (.ptr 2 0)),(5,.av (.ptr 5 0))] [(2,.box [.val .str,.val .bool,.val (.slice dQ),.val (.slice dN),.val (.slice yQ5)]),(5,.box [.val .str,.val I])])],zl⟩
def Zo (x : Q14) : Option (Int×Unit) :=
 let ((a,b,c,d,e,_),f,_):=x; (aV e f).bind fun y1=>(Zr (y1.1,())).bind fun r2=>cond (!r2.1) (some (5,())) ((zl (a,b,c,d,e,y1.1,y1.2.1,f,0,())).bind (Sum.elim (fun z4=>some (z4.1,())) (Sum.elim (fun (a_5,b_5,c_5,d_5,e_5,f_5,g_5,h_5,_)=>(Zam ((a_5,b_5,c_5,d_5,e_5,()),f_5,())).bind fun r6=>cond (geI r6.1 0) (some (6,())) (cond (ltI g_5 (-1)) (some (3,())) (cond (geI g_5 h_5) (some (3,())) ((Zz ((a_5,b_5,c_5,d_5,e_5,()),h_5,())).bind fun r7=>cond (gtI r7.1 6) (some (2,())) (some (0,())))))) (fun _=>none))))
def Id : Fn:=mkF (cx [D6,E3,H4]) [(5,Fu)] 72 Tryz.f72 [(.rd,dR),(.rd,I)] [(.tmp 4,true,I)] Zo [lp 5 Fu yD] af ab rfl
def Zaj (x : (Q13×Q11×Unit)) : Option (Int×Unit) :=
 let ((_,_,a,_),(b,c,d,e,f,g,h,_),_):=x; cond (ltI b 0) (some (3,())) (cond (geI b (a.length : Nat)) (some (3,())) (cond (ltI c 0) (some (3,())) (cond (geI c (a.length : Nat)) (some (3,())) (cond (ltI d (-1)) (some (3,())) ((aV a b).bind fun y1=>cond (geI d (y1.2.2.2.2.2.1.length : Nat)) (some (3,())) (cond (ltI e (-1)) (some (3,())) ((aV a c).bind fun y2=>cond (geI e (y2.2.2.2.2.2.1.length : Nat)) (some (3,())) (cond (gtI (f.size : Nat) 32) (some (2,())) ((Zt (f,())).bind fun r3=>cond (!r3.1) (some (7,())) (cond (ltI g 1) (some (7,())) (cond (gtI g 1000) (some (7,())) (cond (ltI h 1) (some (7,())) (cond (gtI h 64) (some (7,())) (some (0,())))))))))))))))
def Hh : Fn:=mkF (cx [HL]) [] 73 Tryz.f73 [(.rd,dR),(.rd,dN)] [(.tmp 4,true,I)] Zaj [] af ab rfl
def od (x : Q15) : Option (Q15⊕((Int×Unit)⊕(Unit⊕Empty))) :=
 let (a,b,c,d,e,f,_):=x; cond (ltI f (d.length : Nat)) ((aV d f).bind fun y1=>(Zaj ((a,b,c,d,e,()),y1,())).bind fun r2=>cond (neI r2.1 0) (some (.inr (.inl (r2.1,())))) (some (.inl (a,b,c,d,e,(bj .i64 f 1),())))) (some (.inr (.inr (.inl ()))))
def sO:=ai od
def zd : Ann:=⟨sh [(1,.av (.ptr 1 0)),(7,.av (.val I))] [(1,.box [.val .str,.val .bool,.val (.slice dQ),.val (.slice dN),.val (.slice yQ5)])],[(.ret,sh [(2,.av (.val I))] []),(.exit 4,sh [] [])],sO⟩
def nQ (x : Q15) : Option (Q15⊕((Int×Unit)⊕(Q13⊕Empty))) :=
 let (a,b,c,d,e,f,_):=x; cond (ltI f (e.length : Nat)) ((Zo ((a,b,c,d,e,()),f,())).bind fun r1=>cond (neI r1.1 0) (some (.inr (.inl (r1.1,())))) (some (.inl (a,b,c,d,e,(bj .i64 f 1),())))) (some (.inr (.inr (.inl (a,b,c,d,e,())))))
def tF:=ai nQ
def zg : Ann:=⟨sh [(1,.av (.ptr 1 0)),(5,.av (.val I))] [(1,.box [.val .str,.val .bool,.val (.slice dQ),.val (.slice dN),.val (.slice yQ5)])],[(.ret,sh [(2,.av (.val I))] []),(.exit 2,sh [(1,.av (.ptr 1 0))] [(1,.box [.val .str,.val .bool,.val (.slice dQ),.val (.slice dN),.val (.slice yQ5)])])],tF⟩
def tw (x : Q15) : Option (Q15⊕((Int×Unit)⊕(Q13⊕Empty))) :=
 let (a,b,c,d,e,f,_):=x; cond (ltI f (c.length : Nat)) ((Zah ((a,b,c,d,e,()),f,())).bind fun r1=>cond (neI r1.1 0) (some (.inr (.inl (r1.1,())))) (some (.inl (a,b,c,d,e,(bj .i64 f 1),())))) (some (.inr (.inr (.inl (a,b,c,d,e,())))))
def xg:=ai tw
def Bk : Ann:=⟨sh [(1,.av (.ptr 1 0)),(3,.av (.val I))] [(1,.box [.val .str,.val .bool,.val (.slice dQ),.val (.slice dN),.val (.slice yQ5)])],[(.ret,sh [(2,.av (.val I))] []),(.exit 0,sh [(1,.av (.ptr 1 0))] [(1,.box [.val .str,.val .bool,.val (.slice dQ),.val (.slice dN),.val (.slice yQ5)])])],xg⟩
def Zac (x : (Q13×Unit)) : Option (Int×Unit) :=
 let ((a,b,c,d,e,_),_):=x; cond (gtI (c.length : Nat) 64) (some (2,())) (cond (gtI (d.length : Nat) 256) (some (2,())) (cond (gtI (e.length : Nat) 16) (some (2,())) ((Zr (a,())).bind fun r1=>cond (!r1.1) (some (5,())) ((xg (a,b,c,d,e,0,())).bind (Sum.elim (fun z3=>some (z3.1,())) (Sum.elim (fun z4=>(tF (z4.1,z4.2.1,z4.2.2.1,z4.2.2.2.1,z4.2.2.2.2.1,0,())).bind (Sum.elim (fun z6=>some (z6.1,())) (Sum.elim (fun z7=>(sO (z7.1,z7.2.1,z7.2.2.1,z7.2.2.2.1,z7.2.2.2.2.1,0,())).bind (Sum.elim (fun z9=>some (z9.1,())) (Sum.elim (fun z10=>some (0,())) (fun _=>none)))) (fun _=>none)))) (fun _=>none)))))))
def Hx : Fn:=mkF (cx [D6,Gq,Id,Hh]) [(6,Bk),(12,zg),(18,zd)] 33 Tryz.f33 [(.rd,dR)] [(.tmp 2,true,I)] Zac [lp 6 Bk tw,lp 12 zg nQ,lp 18 zd od] af ab rfl
def Zv (x : (Q1×Unit)) : Option (Bool×Unit) :=
 let ((a,b,_),_):=x; cond (geI a (-268435456)) (cond (leI a 268435456) (cond (geI b (-268435456)) (some ((leI b 268435456),())) (some (false,()))) (some (false,()))) (some (false,()))
def Iv : Fn:=mkF (cx []) [] 75 Tryz.f75 [(.rd,yQ2)] [(.tmp 2,true,.bool)] Zv [] af ab rfl
def Zad (x : (Q5×Unit)) : Option (Bool×Unit) :=
 let ((a,b,c,d,_),_):=x; (Zv ((a,b,()),())).bind fun r1=>cond r1.1 ((Zv ((c,d,()),())).bind fun r2=>cond r2.1 (cond (leI a c) (some ((leI b d),())) (some (false,()))) (some (false,()))) (some (false,()))
def Fa : Fn:=mkF (cx [Iv]) [] 36 Tryz.f36 [(.rd,yQ4)] [(.tmp 2,true,.bool)] Zad [] af ab rfl
def o6 (x : Q6) : Option (Q6⊕((Bool×Unit)⊕(((List Q5)×Int×Unit)⊕Empty))) :=
 let (a,b,c,_):=x; cond (ltI c (a.length : Nat)) ((aV a c).bind fun y1=>(Zad (y1,())).bind fun r2=>cond (!r2.1) (some (.inr (.inl (false,())))) (some (.inl (a,b,(bj .i64 c 1),())))) (some (.inr (.inr (.inl (a,b,())))))
def v6:=ai o6
def Ce : Ann:=⟨sh [(0,.av (.val (.slice yQ4))),(1,.av (.val I)),(5,.av (.val I))] [],[(.ret,sh [(4,.av (.val .bool))] []),(.exit 0,sh [(0,.av (.val (.slice yQ4))),(1,.av (.val I))] [])],v6⟩
def Zab (x : ((List Q5)×Int×Unit)) : Option (Bool×Unit) :=
 (v6 (x.1,x.2.1,0,())).bind (Sum.elim (fun z2=>some (z2.1,())) (Sum.elim (fun z3=>some ((eqI (z3.1.length : Nat) z3.2.1),())) (fun _=>none)))
def Gy : Fn:=mkF (cx [Fa]) [(2,Ce)] 34 Tryz.f34 [(.rd,(.slice yQ4)),(.rd,I)] [(.tmp 4,true,.bool)] Zab [lp 2 Ce o6] af ab rfl
def Zae (x : (Q1×Unit)) : Option (Bool×Unit) :=
 let ((a,b,_),_):=x; cond (geI a (-268435456)) (cond (leI a 268435456) (cond (geI b (-268435456)) (some ((leI b 268435456),())) (some (false,()))) (some (false,()))) (some (false,()))
def Hk : Fn:=mkF (cx []) [] 74 Tryz.f74 [(.rd,yQ2)] [(.tmp 2,true,.bool)] Zae [] af ab rfl
def yg (x : ((List Q1)×Int×Unit)) : Option (((List Q1)×Int×Unit)⊕((Bool×Unit)⊕(Unit⊕Empty))) :=
 let (a,b,_):=x; cond (ltI b (a.length : Nat)) ((aV a b).bind fun y1=>(Zae (y1,())).bind fun r2=>cond (!r2.1) (some (.inr (.inl (false,())))) (cond (gtI b 0) ((aV a b).bind fun y3=>(aV a (cv .i64 b 1)).bind fun y4=>cond ((eqI y3.1 y4.1) && ((eqI y3.2.1 y4.2.1) && true)) (some (.inr (.inl (false,())))) (some (.inl (a,(bj .i64 b 1),())))) (some (.inl (a,(bj .i64 b 1),()))))) (some (.inr (.inr (.inl ()))))
def CC:=ai yg
def E0 : Ann:=⟨sh [(0,.av (.val (.slice yQ2))),(3,.av (.val I))] [],[(.ret,sh [(2,.av (.val .bool))] []),(.exit 0,sh [] [])],CC⟩
def Zy (x : ((List Q1)×Unit)) : Option (Bool×Unit) :=
 cond (ltI (x.1.length : Nat) 1) (some (false,())) (cond (gtI (x.1.length : Nat) 512) (some (false,())) ((CC (x.1,0,())).bind (Sum.elim (fun z2=>some (z2.1,())) (Sum.elim (fun z3=>some (true,())) (fun _=>none)))))
def GF : Fn:=mkF (cx [Hk]) [(4,E0)] 35 Tryz.f35 [(.rd,(.slice yQ2))] [(.tmp 2,true,.bool)] Zy [lp 4 E0 yg] af ab rfl
def rY (x : Q25) : Option (Q25⊕((Bool×Unit)⊕(Unit⊕Empty))) :=
 let (a,b,c,d,e,f,g,h,i,k,l,m,_):=x; cond (ltI m (c.length : Nat)) ((aV c m).bind fun y1=>(Zy (y1,())).bind fun r2=>cond (!r2.1) (some (.inr (.inl (false,())))) (some (.inl (a,b,c,d,e,f,g,h,i,k,l,(bj .i64 m 1),())))) (some (.inr (.inr (.inl ()))))
def wc:=ai rY
def BH : Ann:=⟨sh [(3,.av (.ptr 3 0)),(5,.av (.val I))] [(3,.box [.val (.slice yQ4),.val (.slice yQ4),.val iM,.val (.slice yQ4),.val I,.val I,.val I,.val I,.val I,.val I,.val (.slice I)])],[(.ret,sh [(4,.av (.val .bool))] []),(.exit 0,sh [] [])],wc⟩
def Zag (x : Q21) : Option (Bool×Unit) :=
 let ((a,b,c,d,e,_),(f,g,h,i,(k,l,m,n,_),o,p,q,_),_):=x; (Zac ((a,b,c,d,e,()),())).bind fun r1=>cond (neI r1.1 0) (some (false,())) ((Zab (f,(c.length : Nat),())).bind fun r2=>cond (!r2.1) (some (false,())) ((Zab (g,(e.length : Nat),())).bind fun r3=>cond (!r3.1) (some (false,())) ((Zab (i,(d.length : Nat),())).bind fun r4=>cond (!r4.1) (some (false,())) (cond (neI (h.length : Nat) (d.length : Nat)) (some (false,())) ((wc (f,g,h,i,k,l,m,n,o,p,q,0,())).bind (Sum.elim (fun z6=>some (z6.1,())) (Sum.elim (fun z7=>some (true,())) (fun _=>none))))))))
def EZ : Fn:=mkF (cx [Hx,Gy,GF]) [(4,BH)] 16 Tryz.f16 [(.rd,dR),(.rd,ll)] [(.tmp 4,true,.bool)] Zag [lp 4 BH rY] af ab rfl
def Zp (x : (Q5×Q5×Unit)) : Option (Bool×Unit) :=
 let ((a,b,c,d,_),(e,f,g,h,_),_):=x; (Zad ((a,b,c,d,()),())).bind fun r1=>cond r1.1 ((Zad ((e,f,g,h,()),())).bind fun r2=>cond r2.1 (cond (ltI (maxI a e) (jw c g)) (some ((ltI (maxI b f) (jw d h)),())) (some (false,()))) (some (false,()))) (some (false,()))
def HQ : Fn:=mkF (cx [Fa]) [] 17 Tryz.f17 [(.rd,yQ4),(.rd,yQ4)] [(.tmp 4,true,.bool)] Zp [] af ab rfl
def oU (x : ((List Q5)×Int×Int×Int×Unit)) : Option (((List Q5)×Int×Int×Int×Unit)⊕(Q6⊕Empty)) :=
 let (a,b,c,d,_):=x; cond (ltI d c) ((kb a.length c).bind fun j1=>(a[j1]?).bind fun y2=>(kb a.length d).bind fun j3=>(a[j3]?).bind fun y4=>(Zp (y2,y4,())).bind fun r5=>cond r5.1 (some (.inl (a,(bj .i64 b 1),c,(bj .i64 d 1),()))) (some (.inl (a,b,c,(bj .i64 d 1),())))) (some (.inr (.inl (a,b,c,()))))
def wA:=ai oU
def Dc : Ann:=⟨sh [(5,.av (.own 5)),(6,.av (.val I)),(7,.av (.val I)),(8,.av (.val I))] [(5,.arr yQ4)],[(.exit 2,sh [(5,.av (.own 5)),(6,.av (.val I)),(7,.av (.val I))] [(5,.arr yQ4)])],wA⟩
def ud (x : Q6) : Option (Q6⊕((Int×Unit)⊕Empty)) :=
 let (a,b,c,_):=x; cond (ltI c (a.length : Nat)) ((wA (a,b,c,0,())).bind (Sum.elim (fun z2=>some (.inl (z2.1,z2.2.1,(bj .i64 z2.2.2.1 1),()))) (fun _=>none))) (some (.inr (.inl (b,()))))
def ya:=ai ud
def EL : Ann:=⟨sh [(5,.av (.own 5)),(6,.av (.val I)),(7,.av (.val I))] [(5,.arr yQ4)],[(.exit 0,sh [(6,.av (.val I))] [])],ya⟩
def Zn (x : Q21) : Option (Int×Unit) :=
 let ((a,b,c,d,e,_),(f,g,h,i,(k,l,m,n,_),o,p,q,_),_):=x; (Zag ((a,b,c,d,e,()),(f,g,h,i,(k,l,m,n,()),o,p,q,()),())).bind fun r1=>cond (!r1.1) (some ((-1),())) ((app [] f).bind fun a2=>(app a2 i).bind fun a3=>(ya (a3,0,0,())).bind (Sum.elim (fun z5=>some (z5.1,())) (fun _=>none)))
def IF : Fn:=mkF (cx [EZ,HQ]) [(8,EL),(11,Dc)] 8 Tryz.f8 [(.rd,dR),(.rd,ll)] [(.tmp 4,true,I)] Zn [lp 8 EL ud,lp 11 Dc oU] af ab rfl
def Zby (x : (Q2×Unit)) : Option (Q2×Bool×Unit) :=
 let (((a,b,_),(c,d,_),_),_):=x; (Zbq ((a,b,()),())).bind fun r1=>cond r1.1 ((Zbq ((c,d,()),())).bind fun r2=>some (((a,b,()),(c,d,()),()),r2.1,())) (some (((a,b,()),(c,d,()),()),false,()))
def GS : Fn:=mkF (cx [Cs]) [] 143 Tryz.f143 [(.rd,ph)] [(.cell 2 185,true,ph),(.tmp 3,true,.bool)] Zby [] af ab rfl
def Zas (x : (Q2×Q1×Unit)) : Option (Int×Unit) :=
 let (((a,b,_),(c,d,_),_),(e,f,_),_):=x; cond (gtI (cv .i64 (gj .i64 (cv .i64 c a) (cv .i64 f b)) (gj .i64 (cv .i64 d b) (cv .i64 e a))) 0) (some (1,())) (cond (ltI (cv .i64 (gj .i64 (cv .i64 c a) (cv .i64 f b)) (gj .i64 (cv .i64 d b) (cv .i64 e a))) 0) (some ((-1),())) (some (0,())))
def GZ : Fn:=mkF (cx []) [] 220 Tryz.f220 [(.rd,ph),(.rd,yQ2)] [(.tmp 4,true,I)] Zas [] af ab rfl
def Zaf (x : (Q2×Q2×Unit)) : Option (Bool×Unit) :=
 let (((a,b,_),(c,d,_),_),((e,f,_),(g,h,_),_),_):=x; (Zas (((a,b,()),(c,d,()),()),(e,f,()),())).bind fun r1=>(Zas (((a,b,()),(c,d,()),()),(g,h,()),())).bind fun r2=>some ((ltI (gj .i64 r1.1 r2.1) 0),())
def Gx : Fn:=mkF (cx [GZ]) [] 144 Tryz.f144 [(.rd,ph),(.rd,ph)] [(.tmp 4,true,.bool)] Zaf [] af ab rfl
def Zbv (x : (Q2×Q2×Unit)) : Option (Bool×Unit) :=
 let (((a,b,_),(c,d,_),_),((e,f,_),(g,h,_),_),_):=x; (Zby (((a,b,()),(c,d,()),()),())).bind fun r1=>(Zby (((e,f,()),(g,h,()),()),())).bind fun r2=>cond r1.2.1 (cond r2.2.1 ((Zaf (((r1.1.1.1,r1.1.1.2.1,()),(r1.1.2.1.1,r1.1.2.1.2.1,()),()),((r2.1.1.1,r2.1.1.2.1,()),(r2.1.2.1.1,r2.1.2.1.2.1,()),()),())).bind fun r3=>cond r3.1 ((Zaf (((r2.1.1.1,r2.1.1.2.1,()),(r2.1.2.1.1,r2.1.2.1.2.1,()),()),((r1.1.1.1,r1.1.1.2.1,()),(r1.1.2.1.1,r1.1.2.1.2.1,()),()),())).bind fun r4=>some (r4.1,())) (some (false,()))) (some (false,()))) (some (false,()))
def Zbv_h : Fn:=mkF (cx [GS,Gx]) [] 77 Tryz.f77 [(.rd,ph),(.rd,ph)] [(.tmp 4,true,.bool)] Zbv [] af ab rfl
def Zau (x : ((List Q1)×(List Q1)×Unit)) : Option (Int×Unit):=(na Zbu Zbv).fn x
def GD : Fn:=⟨37,(na Zbu Zbv),A1 Zbu_h.ok Zbv_h.ok⟩
def oL (x : Q31) : Option (Q31⊕(Q30⊕Empty)) :=
 let (a,b,c,d,e,f,g,h,i,k,l,m,n,o,p,q,s,t,u,_):=x; cond (ltI u t) ((aV s u).bind fun y1=>(Zau (y1,n,())).bind fun r2=>some (.inl (a,b,c,d,e,f,g,h,i,k,l,(bj .i64 m r2.1),n,o,p,q,s,t,(bj .i64 u 1),()))) (some (.inr (.inl (a,b,c,d,e,f,g,h,i,k,l,m,o,p,q,()))))
def wg:=ai oL
def AZ : Ann:=⟨sh [(1,.av (.ptr 1 0)),(3,.av (.val I)),(5,.av (.val (.slice yQ2))),(9,.av (.val iM)),(10,.av (.val I)),(11,.av (.val I)),(19,.av (.val iM)),(20,.av (.val I)),(21,.av (.val I))] [(1,.box [.val (.slice yQ4),.val (.slice yQ4),.val iM,.val (.slice yQ4),.val I,.val I,.val I,.val I,.val I,.val I,.val (.slice I)])],[(.exit 2,sh [(1,.av (.ptr 1 0)),(3,.av (.val I)),(9,.av (.val iM)),(10,.av (.val I)),(11,.av (.val I))] [(1,.box [.val (.slice yQ4),.val (.slice yQ4),.val iM,.val (.slice yQ4),.val I,.val I,.val I,.val I,.val I,.val I,.val (.slice I)])])],wg⟩
def pQ (x : Q30) : Option (Q30⊕((Int×Unit)⊕Empty)) :=
 let (a,b,c,d,e,f,g,h,i,k,l,m,n,o,p,_):=x; cond (ltI p o) ((aV n p).bind fun y1=>(js c 0 p).bind fun y2=>(wg (a,b,c,d,e,f,g,h,i,k,l,m,y1,n,o,p,y2,(y2.length : Nat),0,())).bind (Sum.elim (fun (a_4,b_4,c_4,d_4,e_4,f_4,g_4,h_4,i_4,k_4,l_4,m_4,n_4,o_4,p_4,_)=>some (.inl (a_4,b_4,c_4,d_4,e_4,f_4,g_4,h_4,i_4,k_4,l_4,m_4,n_4,o_4,(bj .i64 p_4 1),()))) (fun _=>none))) (some (.inr (.inl (m,()))))
def vX:=ai pQ
def BE : Ann:=⟨sh [(1,.av (.ptr 1 0)),(3,.av (.val I)),(9,.av (.val iM)),(10,.av (.val I)),(11,.av (.val I))] [(1,.box [.val (.slice yQ4),.val (.slice yQ4),.val iM,.val (.slice yQ4),.val I,.val I,.val I,.val I,.val I,.val I,.val (.slice I)])],[(.exit 0,sh [(3,.av (.val I))] [])],vX⟩
def Zat (x : (Q20×Unit)) : Option (Int×Unit) :=
 let ((a,b,c,d,(e,f,g,h,_),i,k,l,_),_):=x; (vX (a,b,c,d,e,f,g,h,i,k,l,0,c,(c.length : Nat),0,())).bind (Sum.elim (fun z2=>some (z2.1,())) (fun _=>none))
def Hn : Fn:=mkF (cx [GD]) [(3,BE),(6,AZ)] 18 Tryz.f18 [(.rd,ll)] [(.tmp 2,true,I)] Zat [lp 3 BE pQ,lp 6 AZ oL] af ab rfl
def Zaq (x : Q21) : Option (Int×Unit) :=
 let ((a,b,c,d,e,_),(f,g,h,i,(k,l,m,n,_),o,p,q,_),_):=x; (Zbs ((a,b,c,d,e,()),(f,g,h,i,(k,l,m,n,()),o,p,q,()),())).bind fun r1=>cond (!r1.1) (some ((-1),())) ((Zat ((f,g,h,i,(k,l,m,n,()),o,p,q,()),())).bind fun r2=>some (r2.1,()))
def GP : Fn:=mkF (cx [EY,Hn]) [] 9 Tryz.f9 [(.rd,dR),(.rd,ll)] [(.tmp 4,true,I)] Zaq [] af ab rfl
def Zs (x : (Q1×Q1×Q1×Unit)) : Option (Int×Unit) :=
 let ((a,b,_),(c,d,_),(e,f,_),_):=x; some ((cv .i64 (gj .i64 (cv .i64 c a) (cv .i64 f b)) (gj .i64 (cv .i64 d b) (cv .i64 e a))),())
def Ib : Fn:=mkF (cx []) [] 79 Tryz.f79 [(.rd,yQ2),(.rd,yQ2),(.rd,yQ2)] [(.tmp 6,true,I)] Zs [] af ab rfl
def Zal (x : (Int×Unit)) : Option (Int×Unit) :=
 cond (ltI x.1 0) (some ((-1),())) (cond (gtI x.1 0) (some (1,())) (some (0,())))
def HI : Fn:=mkF (cx []) [] 78 Tryz.f78 [(.rd,I)] [(.tmp 2,true,I)] Zal [] af ab rfl
def Zaa (x : (Q1×Q1×Q1×Q1×Unit)) : Option (Bool×Unit) :=
 let ((a,b,_),(c,d,_),(e,f,_),(g,h,_),_):=x; (Zs ((a,b,()),(c,d,()),(e,f,()),())).bind fun r1=>(Zal (r1.1,())).bind fun r2=>(Zs ((a,b,()),(c,d,()),(g,h,()),())).bind fun r3=>(Zal (r3.1,())).bind fun r4=>cond (ltI (gj .i64 r2.1 r4.1) 0) ((Zs ((e,f,()),(g,h,()),(a,b,()),())).bind fun r5=>(Zal (r5.1,())).bind fun r6=>(Zs ((e,f,()),(g,h,()),(c,d,()),())).bind fun r7=>(Zal (r7.1,())).bind fun r8=>some ((ltI (gj .i64 r6.1 r8.1) 0),())) (some (false,()))
def Ho : Fn:=mkF (cx [HI,Ib]) [] 38 Tryz.f38 [(.rd,yQ2),(.rd,yQ2),(.rd,yQ2),(.rd,yQ2)] [(.tmp 8,true,.bool)] Zaa [] af ab rfl
def vk (x : ((List Q1)×(List Q1)×Int×Int×Int×Unit)) : Option (((List Q1)×(List Q1)×Int×Int×Int×Unit)⊕(Q8⊕Empty)) :=
 let (a,b,c,d,e,_):=x; cond (ltI e (b.length : Nat)) ((aV a (cv .i64 d 1)).bind fun y1=>(aV a d).bind fun y2=>(aV b (cv .i64 e 1)).bind fun y3=>(aV b e).bind fun y4=>(Zaa (y1,y2,y3,y4,())).bind fun r5=>cond r5.1 (some (.inl (a,b,(bj .i64 c 1),d,(bj .i64 e 1),()))) (some (.inl (a,b,c,d,(bj .i64 e 1),())))) (some (.inr (.inl (a,b,c,d,()))))
def Dp:=ai vk
def E9 : Ann:=⟨sh [(0,.av (.val (.slice yQ2))),(1,.av (.val (.slice yQ2))),(5,.av (.val I)),(6,.av (.val I)),(7,.av (.val I))] [],[(.exit 2,sh [(0,.av (.val (.slice yQ2))),(1,.av (.val (.slice yQ2))),(5,.av (.val I)),(6,.av (.val I))] [])],Dp⟩
def vg (x : Q8) : Option (Q8⊕((Int×Unit)⊕Empty)) :=
 let (a,b,c,d,_):=x; cond (ltI d (a.length : Nat)) ((Dp (a,b,c,d,1,())).bind (Sum.elim (fun z2=>some (.inl (z2.1,z2.2.1,z2.2.2.1,(bj .i64 z2.2.2.2.1 1),()))) (fun _=>none))) (some (.inr (.inl (c,()))))
def CO:=ai vg
def EJ : Ann:=⟨sh [(0,.av (.val (.slice yQ2))),(1,.av (.val (.slice yQ2))),(5,.av (.val I)),(6,.av (.val I))] [],[(.exit 0,sh [(5,.av (.val I))] [])],CO⟩
def Zl (x : ((List Q1)×(List Q1)×Unit)) : Option (Int×Unit) :=
 (Zy (x.1,())).bind fun r1=>cond (!r1.1) (some (0,())) ((Zy (x.2.1,())).bind fun r2=>cond (!r2.1) (some (0,())) ((CO (x.1,x.2.1,0,1,())).bind (Sum.elim (fun z4=>some (z4.1,())) (fun _=>none))))
def Ig : Fn:=mkF (cx [GF,Ho]) [(5,EJ),(8,E9)] 19 Tryz.f19 [(.rd,(.slice yQ2)),(.rd,(.slice yQ2))] [(.tmp 4,true,I)] Zl [lp 5 EJ vg,lp 8 E9 vk] af ab rfl
def uD (x : Q27) : Option (Q27⊕(Q26⊕Empty)) :=
 let (a,b,c,d,e,f,g,h,i,k,l,m,n,o,_):=x; cond (ltI o n) ((aV c n).bind fun y1=>(aV c o).bind fun y2=>(Zl (y1,y2,())).bind fun r3=>some (.inl (a,b,c,d,e,f,g,h,i,k,l,(bj .i64 m r3.1),n,(bj .i64 o 1),()))) (some (.inr (.inl (a,b,c,d,e,f,g,h,i,k,l,m,n,()))))
def CD:=ai uD
def EN : Ann:=⟨sh [(3,.av (.ptr 3 0)),(5,.av (.val I)),(6,.av (.val I)),(7,.av (.val I))] [(3,.box [.val (.slice yQ4),.val (.slice yQ4),.val iM,.val (.slice yQ4),.val I,.val I,.val I,.val I,.val I,.val I,.val (.slice I)])],[(.exit 2,sh [(3,.av (.ptr 3 0)),(5,.av (.val I)),(6,.av (.val I))] [(3,.box [.val (.slice yQ4),.val (.slice yQ4),.val iM,.val (.slice yQ4),.val I,.val I,.val I,.val I,.val I,.val I,.val (.slice I)])])],CD⟩
def vC (x : Q26) : Option (Q26⊕((Int×Unit)⊕Empty)) :=
 let (a,b,c,d,e,f,g,h,i,k,l,m,n,_):=x; cond (ltI n (c.length : Nat)) ((CD (a,b,c,d,e,f,g,h,i,k,l,m,n,0,())).bind (Sum.elim (fun (a_2,b_2,c_2,d_2,e_2,f_2,g_2,h_2,i_2,k_2,l_2,m_2,n_2,_)=>some (.inl (a_2,b_2,c_2,d_2,e_2,f_2,g_2,h_2,i_2,k_2,l_2,m_2,(bj .i64 n_2 1),()))) (fun _=>none))) (some (.inr (.inl (m,()))))
def xN:=ai vC
def EK : Ann:=⟨sh [(3,.av (.ptr 3 0)),(5,.av (.val I)),(6,.av (.val I))] [(3,.box [.val (.slice yQ4),.val (.slice yQ4),.val iM,.val (.slice yQ4),.val I,.val I,.val I,.val I,.val I,.val I,.val (.slice I)])],[(.exit 0,sh [(5,.av (.val I))] [])],xN⟩
def Zk (x : Q21) : Option (Int×Unit) :=
 let ((a,b,c,d,e,_),(f,g,h,i,(k,l,m,n,_),o,p,q,_),_):=x; (Zag ((a,b,c,d,e,()),(f,g,h,i,(k,l,m,n,()),o,p,q,()),())).bind fun r1=>cond (!r1.1) (some ((-1),())) ((xN (f,g,h,i,k,l,m,n,o,p,q,0,0,())).bind (Sum.elim (fun z3=>some (z3.1,())) (fun _=>none)))
def HO : Fn:=mkF (cx [EZ,Ig]) [(5,EK),(8,EN)] 10 Tryz.f10 [(.rd,dR),(.rd,ll)] [(.tmp 4,true,I)] Zk [lp 5 EK vC,lp 8 EN uD] af ab rfl
def Zj (x : Q21) : Option (Bool×Unit) :=
 let ((a,b,c,d,e,_),(f,g,h,i,(k,l,m,n,_),o,p,q,_),_):=x; (Zap ((a,b,c,d,e,()),8,8,())).bind fun r1=>cond (!r1.1) ((Zx ()).bind fun r2=>some (r2.1,())) ((Zan ((f,g,h,i,(k,l,m,n,()),o,p,q,()),())).bind fun r3=>cond (!r3.1) ((Zx ()).bind fun r4=>some (r4.1,())) ((Zav ((a,b,c,d,e,()),(f,g,h,i,(k,l,m,n,()),o,p,q,()),())).bind fun r5=>(Zn ((a,b,c,d,e,()),(f,g,h,i,(k,l,m,n,()),o,p,q,()),())).bind fun r6=>cond (eqI r5.1 r6.1) ((Zaq ((a,b,c,d,e,()),(f,g,h,i,(k,l,m,n,()),o,p,q,()),())).bind fun r7=>(Zk ((a,b,c,d,e,()),(f,g,h,i,(k,l,m,n,()),o,p,q,()),())).bind fun r8=>cond (eqI r7.1 r8.1) ((Zx ()).bind fun r9=>some (r9.1,())) (some (false,()))) (some (false,()))))
def Zj_h : Fn:=mkF (cx [Hj,HE,H3,GI,IF,GP,HO]) [] 3 Tryz.f3 [(.rd,dR),(.rd,ll)] [(.tmp 4,true,.bool)] Zj [] af ab rfl
def Zj_c : Con:={ ins:=[(.rd,dR),(.rd,ll)],outs:=[(true,.bool)],fn:=Zj }
theorem Ct : Con.Holds Tryz.prog glob 3 Zj_c:=Zj_h.ok
end
end Go.Vm

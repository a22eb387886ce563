/-
 The functions that the law reaches, as functions on values, and the proofs that the machine computes them.
-/
import Derived.Test.YtlbmgijhnimbbaaGreatDoorVmPack
import Derived.Test.YtlbmgijhnimbbaaGreatDoorRxRun34
import Derived.Test.YtlbmgijhnimbbaaGreatDoorProg
import Derived.KernelRfl
set_option linter.unusedVariables false
set_option linter.unusedSimpArgs false
namespace Go.Vm
open Go.Proofs
abbrev I : Ty:=.int .i64
abbrev yQ1 : Ty:=.prod I .unit
abbrev yQ2 : Ty:=.prod I yQ1
abbrev yQ3 : Ty:=.slice (.slice I)
abbrev yQ4 : Ty:=.prod yQ3 .unit
abbrev yQ5 : Ty:=.prod I yQ4
abbrev yQ6 : Ty:=.prod (.slice yQ2) yQ4
abbrev yQ7 : Ty:=.prod I yQ6
abbrev yQ8 : Ty:=.prod yQ7 yQ5
abbrev yQ9 : Ty:=.prod (.slice I) .unit
abbrev tJ : Ty:=.prod (.slice I) yQ9
abbrev tz : Ty:=.prod (.slice yQ2) .unit
abbrev Di : Ty:=.prod yQ2 (.prod yQ2 .unit)
abbrev Fk : Ty:=.prod I (.prod yQ3 (.prod (.slice .bool) (.prod (.slice (.slice .bool)) yQ4)))
abbrev Q1:=Int×Int×Unit
abbrev Q2:=List Int×Int×Unit
abbrev Q3:=Int×(List Q1)×Unit
abbrev Q4:=Int×(List Q1)×(List (List Int))×Unit
abbrev Q5:=Q4×Int×(List (List Int))×Unit
abbrev Q6:=List Int×(List (List Int))×Int×Int×Unit
abbrev Q7:=Int×(List Q1)×(List (List Int))×Int×Unit
abbrev Q8:=Int×(List Q1)×(List (List Int))×List Int×Int×Unit
abbrev Q9:=Int×(List Q1)×(List (List Int))×List Bool×Int×Int×Int×Unit
abbrev Q10:=Int×(List Q1)×(List (List Int))×Int×(List (List Int))×Int×Unit
abbrev Q11:=List Int×List Bool×(List (List Int))×List Int×Int×Int×Int×Unit
abbrev Q12:=Int×(List Q1)×(List (List Int))×List Int×Int×List Int×Int×Unit
abbrev Q13:=Int×(List Q1)×(List (List Int))×List Int×List Bool×Int×Int×Unit
abbrev Q14:=Int×(List Q1)×(List (List Int))×Int×(List (List Int))×Int×Int×Unit
abbrev Q15:=List Int×List Int×(List (List Int))×Int×Int×List Int×Int×Int×Unit
abbrev Q16:=Int×(List Q1)×(List (List Int))×List Bool×List Int×Int×Int×Int×Unit
abbrev Q17:=Int×(List Q1)×(List (List Int))×List Int×List Bool×Int×Int×Int×Unit
abbrev Q18:=Int×(List Q1)×(List (List Int))×List Bool×Int×(List (List Int))×Int×Int×Unit
abbrev Q19:=Int×(List Q1)×Int×(List Q1)×(List (List Int))×Int×(List (List Int))×Int×Unit
abbrev Q20:=Int×(List Q1)×(List (List Int))×Int×(List (List Int))×Int×Int×List Int×Int×Unit
abbrev Q21:=Int×(List Q1)×(List (List Int))×List Bool×List Int×Int×Int×Int×List Int×Int×Int×Unit
abbrev Q22:=Int×(List Q1)×Int×(List Q1)×(List (List Int))×List Bool×Int×(List (List Int))×Int×Int×Unit
abbrev Q23:=Int×(List Q1)×Int×(List Q1)×(List (List Int))×Int×(List (List Int))×List Bool×Int×Int×Unit
abbrev Q24:=Int×(List Q1)×Int×(List Q1)×(List (List Int))×Int×(List (List Int))×List Bool×Int×Int×Int×Unit
abbrev Q25:=Int×(List Q1)×(List (List Int))×List Bool×Int×Int×(List (List Int))×Int×Int×List Int×Int×Int×Unit
abbrev Q26:=Int×(List Q1)×Int×(List Q1)×(List (List Int))×List Bool×Int×Int×List Int×(List (List Int))×Int×Int×List Int×Int×Int×Unit
abbrev Q27:=Int×(List Q1)×Int×(List Q1)×(List (List Int))×Int×(List (List Int))×Int×(List Q1)×(List (List Int))×(List (List Int))×Int×Int×Unit
noncomputable section
def tab : Tab:=[(2,I),(3,I),(4,.bool),(5,(.int .u8)),(6,(.int .u8)),(7,(.prod I (.prod I (.prod .bool (.prod (.int .u8) .unit))))),(8,(.prod I (.prod I (.prod .bool (.prod (.int .u8) .unit))))),(9,.str),(10,.str),(11,.str),(12,(.int .u64)),(13,(.prod .str (.prod (.int .u64) .unit))),(14,(.prod .str (.prod (.int .u64) .unit))),(21,(.int .i32)),(22,(.slice yQ2)),(23,(.prod I tz)),(24,(.prod I tz)),(25,yQ3),(26,yQ7),(27,yQ7),(28,yQ8),(29,yQ8),(34,I),(39,(.slice I)),(42,(.slice .bool)),(46,(.slice yQ2)),(52,yQ2),(53,yQ2),(59,yQ2),(60,yQ2),(72,(.slice (.slice .bool))),(77,yQ6),(78,yQ6),(88,Di),(89,Di),(98,(.arr 2 I)),(120,Di),(121,Di),(143,Fk),(144,Fk),(159,yQ6),(160,yQ6),(163,(.int .u64)),(166,(.prod yQ7 tJ)),(167,(.prod yQ7 tJ)),(172,(.slice tJ)),(174,tJ),(175,tJ),(181,(.slice tJ)),(185,tJ),(186,tJ),(192,I),(200,(.int .u32)),(202,(.int .u64)),(218,(.int .u64)),(241,(.int .u8)),(242,(.int .u8)),(245,(.int .i32)),(246,(.int .i32))]
def eqs : List Nat:=[]
def glob : List (Nat×(Σ t : Ty,t.den)):=[(0,⟨(.arr 2 I),[16384,32768]⟩)]
theorem aN : SeatOK Tryz.prog tab eqs:=⟨by kernel_rfl,by kernel_rfl,by kernel_rfl⟩
abbrev Fn:=FnC Tryz.prog glob
def cx (l : List Fn) : Ctx:={ tab:=tab,con:=xz l,glob:=glob,eqs:=eqs }
set_option maxRecDepth 100000
def uL (x : Q10) : Option (Q10⊕((Bool×Unit)⊕(Unit⊕Empty))) :=
 let (a,b,c,d,e,f,_):=x; cond (ltI f (c.length : Nat)) ((aR c f).bind fun y1=>cond (gtI (y1.length : Nat) 300) (some (.inr (.inl (false,())))) (some (.inl (a,b,c,d,e,(aT .i64 f 1),())))) (some (.inr (.inr (.inl ()))))
def AQ:=ae uL
def Ee : Ann:=⟨sh [(1,.av (.ptr 1 0)),(3,.av (.val I))] [(1,.box [.val I,.val (.slice yQ2),.val yQ3,.val I,.val yQ3])],[(.ret,sh [(2,.av (.val .bool))] []),(.exit 0,sh [] [])],AQ⟩
def Zp (x : (Q5×Unit)) : Option (Bool×Unit) :=
 let (((a,b,c,_),d,e,_),_):=x; cond (gtI (b.length : Nat) 120) (some (false,())) (cond (gtI (c.length : Nat) 120) (some (false,())) (cond (gtI (e.length : Nat) 120) (some (false,())) ((AQ (a,b,c,d,e,0,())).bind (Sum.elim (fun z2=>some (z2.1,())) (Sum.elim (fun z3=>some (true,())) (fun _=>none))))))
def Gn : Fn:=mkF (cx []) [(4,Ee)] 13 Tryz.f13 [(.rd,yQ8)] [(.tmp 2,true,.bool)] Zp [lp 4 Ee uL] aN aA rfl
def Zi (x : Unit) : Option (Bool×Unit):=Rx.trueCon.fn x
def FZ : Fn:=⟨14,Rx.trueCon,Rx.awake34 rfl⟩
def oM (x : (Int×(List Q1)×(List Q1)×Int×Int×Unit)) : Option ((Int×(List Q1)×(List Q1)×Int×Int×Unit)⊕((Bool×Unit)⊕(Unit⊕Empty))) :=
 let (a,b,c,d,e,_):=x; cond (ltI e d) ((aR c e).bind fun y1=>cond (ltI (mw y1.1 y1.2.1) 0) (some (.inr (.inl (false,())))) (cond (geI (maxI y1.1 y1.2.1) a) (some (.inr (.inl (false,())))) (some (.inl (a,b,c,d,(aT .i64 e 1),()))))) (some (.inr (.inr (.inl ()))))
def wX:=ae oM
def AF : Ann:=⟨sh [(1,.av (.ptr 1 0)),(20,.av (.val (.slice yQ2))),(21,.av (.val I)),(22,.av (.val I))] [(1,.box [.val I,.val (.slice yQ2)])],[(.ret,sh [(2,.av (.val .bool))] []),(.exit 0,sh [] [])],wX⟩
def Zae (x : (Q3×Unit)) : Option (Bool×Unit) :=
 let ((a,b,_),_):=x; cond (ltI a 0) (some (false,())) (cond (gtI a 64) (some (false,())) (cond (gtI (b.length : Nat) 256) (some (false,())) ((wX (a,b,b,(b.length : Nat),0,())).bind (Sum.elim (fun z2=>some (z2.1,())) (Sum.elim (fun z3=>some (true,())) (fun _=>none))))))
def Fe : Fn:=mkF (cx []) [(4,AF)] 37 Tryz.f37 [(.rd,(.prod I tz))] [(.tmp 2,true,.bool)] Zae [lp 4 AF oM] aN aA rfl
def Zaf (x : (Q1×Int×Unit)) : Option (Int×Unit) :=
 cond (eqI x.2.1 0) (some (x.1.1,())) (some (x.1.2.1,()))
def El : Fn:=mkF (cx []) [] 86 Tryz.f86 [(.rd,yQ2),(.rd,I)] [(.tmp 4,true,I)] Zaf [] aN aA rfl
def mb (x : Q25) : Option (Q25⊕((Bool×Unit)⊕(Q18⊕Empty))) :=
 let (a,b,c,d,e,f,g,h,i,k,l,m,_):=x; cond (ltI m l) ((aR k m).bind fun y1=>cond (ltI y1 0) (some (.inr (.inl (false,())))) (cond (geI y1 (d.length : Nat)) (some (.inr (.inl (false,())))) ((cw d.length y1).bind fun j2=>(d[j2]?).bind fun y3=>cond y3 (some (.inr (.inl (false,())))) ((aR b (kq .i64 y1 2)).bind fun y4=>(Zaf (y4,(k8 y1 2),())).bind fun r5=>cond (neI r5.1 f) (some (.inr (.inl (false,())))) ((cw d.length y1).bind fun j6=>(d[j6]?).bind fun y7=>some (.inl (a,b,c,(d.set j6 true),(aT .i64 e 1),f,g,h,i,k,l,(aT .i64 m 1),()))))))) (some (.inr (.inr (.inl (a,b,c,d,e,g,h,i,())))))
def s6:=ae mb
def yy : Ann:=⟨sh [(1,.av (.ptr 1 0)),(5,.av (.own 5)),(6,.av (.val I)),(7,.av (.val I)),(80,.av (.val yQ3)),(81,.av (.val I)),(82,.av (.val I)),(87,.av (.val (.slice I))),(88,.av (.val I)),(89,.av (.val I))] [(1,.box [.val I,.val (.slice yQ2),.val yQ3]),(5,.arr .bool)],[(.ret,sh [(2,.av (.val .bool))] []),(.exit 4,sh [(1,.av (.ptr 1 0)),(5,.av (.own 5)),(6,.av (.val I)),(80,.av (.val yQ3)),(81,.av (.val I)),(82,.av (.val I))] [(1,.box [.val I,.val (.slice yQ2),.val yQ3]),(5,.arr .bool)])],s6⟩
def lU (x : Q18) : Option (Q18⊕((Bool×Unit)⊕((List Bool×Int×Unit)⊕Empty))) :=
 let (a,b,c,d,e,f,g,h,_):=x; cond (ltI h g) ((aR f h).bind fun y1=>(s6 (a,b,c,d,e,h,f,g,h,y1,(y1.length : Nat),0,())).bind (Sum.elim (fun z3=>some (.inr (.inl (z3.1,())))) (Sum.elim (fun (a_4,b_4,c_4,d_4,e_4,f_4,g_4,h_4,_)=>some (.inl (a_4,b_4,c_4,d_4,e_4,f_4,g_4,(aT .i64 h_4 1),()))) (fun _=>none)))) (some (.inr (.inr (.inl (d,e,())))))
def tg:=ae lU
def xO : Ann:=⟨sh [(1,.av (.ptr 1 0)),(5,.av (.own 5)),(6,.av (.val I)),(80,.av (.val yQ3)),(81,.av (.val I)),(82,.av (.val I))] [(1,.box [.val I,.val (.slice yQ2),.val yQ3]),(5,.arr .bool)],[(.ret,sh [(2,.av (.val .bool))] []),(.exit 2,sh [(5,.av (.own 5)),(6,.av (.val I))] [(5,.arr .bool)])],tg⟩
def oE (x : (Int×(List Q1)×(List (List Int))×(List Q1)×Int×Int×Unit)) : Option ((Int×(List Q1)×(List (List Int))×(List Q1)×Int×Int×Unit)⊕((Bool×Unit)⊕(Q4⊕Empty))) :=
 let (a,b,c,d,e,f,_):=x; cond (ltI f e) ((aR d f).bind fun y1=>cond (ltI y1.1 0) (some (.inr (.inl (false,())))) (cond (geI y1.1 a) (some (.inr (.inl (false,())))) (cond (ltI y1.2.1 0) (some (.inr (.inl (false,())))) (cond (geI y1.2.1 a) (some (.inr (.inl (false,())))) (cond (eqI y1.1 y1.2.1) (some (.inr (.inl (false,())))) (some (.inl (a,b,c,d,e,(aT .i64 f 1),())))))))) (some (.inr (.inr (.inl (a,b,c,())))))
def wK:=ae oE
def Ae : Ann:=⟨sh [(1,.av (.ptr 1 0)),(38,.av (.val (.slice yQ2))),(39,.av (.val I)),(40,.av (.val I))] [(1,.box [.val I,.val (.slice yQ2),.val yQ3])],[(.ret,sh [(2,.av (.val .bool))] []),(.exit 0,sh [(1,.av (.ptr 1 0))] [(1,.box [.val I,.val (.slice yQ2),.val yQ3])])],wK⟩
def Zaa (x : (Q4×Unit)) : Option (Bool×Unit) :=
 let ((a,b,c,_),_):=x; cond (ltI a 0) (some (false,())) ((aR [16384,32768] 0).bind fun y1=>cond (gtI a y1) (some (false,())) ((aR [16384,32768] 1).bind fun y2=>cond (gtI (b.length : Nat) y2) (some (false,())) (cond (neI (c.length : Nat) a) (some (false,())) ((wK (a,b,c,b,(b.length : Nat),0,())).bind (Sum.elim (fun z4=>some (z4.1,())) (Sum.elim (fun (a_5,b_5,c_5,_)=>(gO .bool (i6 .i64 2 (b_5.length : Nat)) (i6 .i64 2 (b_5.length : Nat))).bind fun m6=>(tg (a_5,b_5,c_5,m6,0,c_5,(c_5.length : Nat),0,())).bind (Sum.elim (fun z8=>some (z8.1,())) (Sum.elim (fun z9=>some ((eqI z9.2.1 (z9.1.length : Nat)),())) (fun _=>none)))) (fun _=>none)))))))
def xH : Fn:=mkF (cx [El]) [(4,Ae),(12,xO),(15,yy)] 38 Tryz.f38 [(.rd,yQ7)] [(.tmp 2,true,.bool)] Zaa [lp 4 Ae oE,lp 12 xO lU,lp 15 yy mb] aN aA rfl
def ud (x : Q15) : Option (Q15⊕(Q6⊕Empty)) :=
 let (a,b,c,d,e,f,g,h,_):=x; cond (ltI h g) ((aR f h).bind fun y1=>cond (eqI (b.length : Nat) 0) none ((aR b (k8 (aT .i64 h 1) (b.length : Nat))).bind fun y2=>(cw a.length (sR .i64 y1 1)).bind fun j3=>(a[j3]?).bind fun y4=>some (.inl ((a.set j3 y2),b,c,d,e,f,g,(aT .i64 h 1),())))) (some (.inr (.inl (a,c,d,e,()))))
def Ct:=ae ud
def Ei : Ann:=⟨sh [(3,.av (.own 3)),(5,.av (.val (.slice I))),(14,.av (.val yQ3)),(15,.av (.val I)),(16,.av (.val I)),(20,.av (.val (.slice I))),(21,.av (.val I)),(22,.av (.val I))] [(3,.arr I)],[(.exit 2,sh [(3,.av (.own 3)),(14,.av (.val yQ3)),(15,.av (.val I)),(16,.av (.val I))] [(3,.arr I)])],Ct⟩
def uG (x : Q6) : Option (Q6⊕((List Int×Unit)⊕Empty)) :=
 let (a,b,c,d,_):=x; cond (ltI d c) ((aR b d).bind fun y1=>(Ct (a,y1,b,c,d,y1,(y1.length : Nat),0,())).bind (Sum.elim (fun z3=>some (.inl (z3.1,z3.2.1,z3.2.2.1,(aT .i64 z3.2.2.2.1 1),()))) (fun _=>none))) (some (.inr (.inl (a,()))))
def ye:=ae uG
def Ek : Ann:=⟨sh [(3,.av (.own 3)),(14,.av (.val yQ3)),(15,.av (.val I)),(16,.av (.val I))] [(3,.arr I)],[(.exit 0,sh [(3,.av (.own 3))] [(3,.arr I)])],ye⟩
def Zx (x : (Q4×Unit)) : Option (List Int×Unit) :=
 let ((_,a,b,_),_):=x; (gO I (i6 .i64 2 (a.length : Nat)) (i6 .i64 2 (a.length : Nat))).bind fun m1=>(ye (m1,b,(b.length : Nat),0,())).bind (Sum.elim (fun z3=>some (z3.1,())) (fun _=>none))
def F6 : Fn:=mkF (cx []) [(3,Ek),(6,Ei)] 128 Tryz.f128 [(.rd,yQ7)] [(.tmp 2,true,(.slice I))] Zx [lp 3 Ek uG,lp 6 Ei ud] aN aA rfl
def lL (x : Q11) : Option (Q11⊕((List Int×List Bool×(List (List Int))×List Int×Int×Int×Unit)⊕Empty)) :=
 let (a,b,c,d,e,f,g,_):=x; (cw b.length e).bind fun j1=>(b[j1]?).bind fun y2=>cond (!y2) ((cw b.length e).bind fun j3=>(b[j3]?).bind fun y4=>(app d [e]).bind fun a5=>(cw a.length e).bind fun j6=>(a[j6]?).bind fun y7=>some (.inl (a,(b.set j3 true),c,a5,y7,f,g,()))) (some (.inr (.inl (a,b,c,d,f,g,()))))
def sb:=ae lL
def xF : Ann:=⟨sh [(3,.av (.own 3)),(4,.av (.own 4)),(5,.av (.own 5)),(7,.av (.own 7)),(8,.av (.val I)),(18,.av (.val I)),(19,.av (.val I))] [(3,.arr I),(4,.arr .bool),(5,.arr (.slice I)),(7,.arr I)],[(.exit 2,sh [(3,.av (.own 3)),(4,.av (.own 4)),(5,.av (.own 5)),(7,.av (.own 7)),(18,.av (.val I)),(19,.av (.val I))] [(3,.arr I),(4,.arr .bool),(5,.arr (.slice I)),(7,.arr I)])],sb⟩
def pO (x : (List Int×List Bool×(List (List Int))×Int×Int×Unit)) : Option ((List Int×List Bool×(List (List Int))×Int×Int×Unit)⊕(((List (List Int))×Unit)⊕Empty)) :=
 let (a,b,c,d,e,_):=x; cond (ltI e d) ((sb (a,b,c,[],e,d,e,())).bind (Sum.elim (fun (a_2,b_2,c_2,d_2,e_2,f_2,_)=>cond (gtI (d_2.length : Nat) 0) ((app c_2 [d_2]).bind fun a3=>some (.inl (a_2,b_2,a3,e_2,(aT .i64 f_2 1),()))) (some (.inl (a_2,b_2,c_2,e_2,(aT .i64 f_2 1),())))) (fun _=>none))) (some (.inr (.inl (c,()))))
def wn:=ae pO
def zY : Ann:=⟨sh [(3,.av (.own 3)),(4,.av (.own 4)),(5,.av (.own 5)),(18,.av (.val I)),(19,.av (.val I))] [(3,.arr I),(4,.arr .bool),(5,.arr (.slice I))],[(.exit 0,sh [(5,.av (.own 5))] [(5,.arr (.slice I))])],wn⟩
def Zab (x : (Q4×Unit)) : Option ((List (List Int))×Unit) :=
 let ((a,b,c,_),_):=x; (Zaa ((a,b,c,()),())).bind fun r1=>cond (!r1.1) (some ([],())) ((Zx ((a,b,c,()),())).bind fun r2=>(gO .bool (r2.1.length : Nat) (r2.1.length : Nat)).bind fun m3=>(wn (r2.1,m3,[],(r2.1.length : Nat),0,())).bind (Sum.elim (fun z5=>some (z5.1,())) (fun _=>none)))
def Ff : Fn:=mkF (cx [xH,F6]) [(7,zY),(11,xF)] 87 Tryz.f87 [(.rd,yQ7)] [(.tmp 2,true,yQ3)] Zab [lp 7 zY pO,lp 11 xF lL] aN aA rfl
def oU (x : Q21) : Option (Q21⊕(Q16⊕Empty)) :=
 let (a,b,c,d,e,f,g,h,i,k,l,_):=x; cond (ltI l k) ((aR i l).bind fun y1=>(aR b (kq .i64 y1 2)).bind fun y2=>(Zaf (y2,(sR .i64 (k8 y1 2) 1),())).bind fun r3=>(cw d.length r3.1).bind fun j4=>(d[j4]?).bind fun y5=>cond (!y5) ((cw d.length r3.1).bind fun j6=>(d[j6]?).bind fun y7=>(app e [r3.1]).bind fun a8=>some (.inl (a,b,c,(d.set j6 true),a8,f,g,h,i,k,(aT .i64 l 1),()))) (some (.inl (a,b,c,d,e,f,g,h,i,k,(aT .i64 l 1),())))) (some (.inr (.inl (a,b,c,d,e,f,g,h,()))))
def xo:=ae oU
def Ah : Ann:=⟨sh [(1,.av (.ptr 1 0)),(3,.av (.own 3)),(4,.av (.val I)),(6,.av (.own 6)),(14,.av (.val I)),(15,.av (.val I)),(40,.av (.val (.slice I))),(41,.av (.val I)),(42,.av (.val I))] [(1,.box [.val I,.val (.slice yQ2),.val yQ3]),(3,.arr .bool),(6,.arr I)],[(.exit 4,sh [(1,.av (.ptr 1 0)),(3,.av (.own 3)),(4,.av (.val I)),(6,.av (.own 6)),(14,.av (.val I)),(15,.av (.val I))] [(1,.box [.val I,.val (.slice yQ2),.val yQ3]),(3,.arr .bool),(6,.arr I)])],xo⟩
def oH (x : Q16) : Option (Q16⊕(Q9⊕Empty)) :=
 let (a,b,c,d,e,f,g,h,_):=x; cond (gtI (e.length : Nat) 0) ((cw e.length 0).bind fun j1=>(e[j1]?).bind fun y2=>(aR c y2).bind fun y3=>(xo (a,b,c,d,e,f,g,h,y3,(y3.length : Nat),0,())).bind (Sum.elim (fun (a_5,b_5,c_5,d_5,e_5,f_5,g_5,h_5,_)=>(nq e_5.length 1 (e_5.length : Nat)).bind fun v6=>some (.inl (a_5,b_5,c_5,d_5,((e_5.drop v6.1).take v6.2),f_5,g_5,h_5,()))) (fun _=>none))) (some (.inr (.inl (a,b,c,d,f,g,h,()))))
def xp:=ae oH
def BH : Ann:=⟨sh [(1,.av (.ptr 1 0)),(3,.av (.own 3)),(4,.av (.val I)),(6,.av (.own 6)),(14,.av (.val I)),(15,.av (.val I))] [(1,.box [.val I,.val (.slice yQ2),.val yQ3]),(3,.arr .bool),(6,.arr I)],[(.exit 2,sh [(1,.av (.ptr 1 0)),(3,.av (.own 3)),(4,.av (.val I)),(14,.av (.val I)),(15,.av (.val I))] [(1,.box [.val I,.val (.slice yQ2),.val yQ3]),(3,.arr .bool)])],xp⟩
def p0 (x : Q9) : Option (Q9⊕((Int×Unit)⊕Empty)) :=
 let (a,b,c,d,e,f,g,_):=x; cond (ltI g f) ((cw d.length g).bind fun j1=>(d[j1]?).bind fun y2=>cond y2 (some (.inl (a,b,c,d,e,f,(aT .i64 g 1),()))) ((cw d.length g).bind fun j3=>(d[j3]?).bind fun y4=>(xp (a,b,c,(d.set j3 true),[g],(aT .i64 e 1),f,g,())).bind (Sum.elim (fun (a_6,b_6,c_6,d_6,e_6,f_6,g_6,_)=>some (.inl (a_6,b_6,c_6,d_6,e_6,f_6,(aT .i64 g_6 1),()))) (fun _=>none)))) (some (.inr (.inl (e,()))))
def yf:=ae p0
def En : Ann:=⟨sh [(1,.av (.ptr 1 0)),(3,.av (.own 3)),(4,.av (.val I)),(14,.av (.val I)),(15,.av (.val I))] [(1,.box [.val I,.val (.slice yQ2),.val yQ3]),(3,.arr .bool)],[(.exit 0,sh [(4,.av (.val I))] [])],yf⟩
def Zf (x : (Q4×Unit)) : Option (Int×Unit) :=
 let ((a,b,c,_),_):=x; (gO .bool a a).bind fun m1=>(yf (a,b,c,m1,0,a,0,())).bind (Sum.elim (fun z3=>some (z3.1,())) (fun _=>none))
def F8 : Fn:=mkF (cx [El]) [(4,En),(10,BH),(13,Ah)] 88 Tryz.f88 [(.rd,yQ7)] [(.tmp 2,true,I)] Zf [lp 4 En p0,lp 10 BH oH,lp 13 Ah oU] aN aA rfl
def uJ (x : Q14) : Option (Q14⊕(Q7⊕Empty)) :=
 let (a,b,c,d,e,f,g,_):=x; cond (ltI g f) ((aR e g).bind fun y1=>cond (eqI (y1.length : Nat) 0) (some (.inl (a,b,c,(aT .i64 d 1),e,f,(aT .i64 g 1),()))) (some (.inl (a,b,c,d,e,f,(aT .i64 g 1),())))) (some (.inr (.inl (a,b,c,d,()))))
def Au:=ae uJ
def DP : Ann:=⟨sh [(1,.av (.ptr 1 0)),(3,.av (.val I)),(13,.av (.val yQ3)),(14,.av (.val I)),(15,.av (.val I))] [(1,.box [.val I,.val (.slice yQ2),.val yQ3])],[(.exit 0,sh [(1,.av (.ptr 1 0)),(3,.av (.val I))] [(1,.box [.val I,.val (.slice yQ2),.val yQ3])])],Au⟩
def Zz (x : (Q4×Unit)) : Option (Int×Unit) :=
 let ((a,b,c,_),_):=x; (Zaa ((a,b,c,()),())).bind fun r1=>cond (!r1.1) (some ((-1),())) ((Zab ((a,b,c,()),())).bind fun r2=>(Au (a,b,c,(r2.1.length : Nat),c,(c.length : Nat),0,())).bind (Sum.elim (fun z4=>(Zf ((z4.1,z4.2.1,z4.2.2.1,()),())).bind fun r5=>some ((cl .i64 r5.1 (kq .i64 (aT .i64 (cl .i64 z4.1 (z4.2.1.length : Nat)) z4.2.2.2.1) 2)),())) (fun _=>none)))
def Gd : Fn:=mkF (cx [xH,Ff,F8]) [(5,DP)] 39 Tryz.f39 [(.rd,yQ7)] [(.tmp 2,true,I)] Zz [lp 5 DP uJ] aN aA rfl
def Zac (x : (Q4×Int×Unit)) : Option (Int×Unit) :=
 (aR x.1.2.1 (kq .i64 x.2.1 2)).bind fun y1=>cond (eqI (k8 x.2.1 2) 0) (some (y1.1,())) (some (y1.2.1,()))
def Ep : Fn:=mkF (cx []) [] 40 Tryz.f40 [(.rd,yQ7),(.rd,I)] [(.tmp 4,true,I)] Zac [] aN aA rfl
def Zad (x : (Int×Unit)) : Option (Int×Unit) :=
 some ((sR .i64 x.1 1),())
def DJ : Fn:=mkF (cx []) [] 41 Tryz.f41 [(.rd,I)] [(.tmp 2,true,I)] Zad [] aN aA rfl
def ux (x : (List Int×Int×Int×Int×Unit)) : Option ((List Int×Int×Int×Int×Unit)⊕((Int×Unit)⊕(Unit⊕Empty))) :=
 let (a,b,c,d,_):=x; cond (ltI d c) ((aR a d).bind fun y1=>cond (eqI b y1) (some (.inr (.inl (d,())))) (some (.inl (a,b,c,(aT .i64 d 1),())))) (some (.inr (.inr (.inl ()))))
def Bn:=ae ux
def DX : Ann:=⟨sh [(0,.av (.val (.slice I))),(1,.av (.val I)),(7,.av (.val I)),(8,.av (.val I))] [],[(.ret,sh [(4,.av (.val I))] []),(.exit 0,sh [] [])],Bn⟩
def Zt (x : Q2) : Option (Int×Unit) :=
 (Bn (x.1,x.2.1,(x.1.length : Nat),0,())).bind (Sum.elim (fun z2=>some (z2.1,())) (Sum.elim (fun z3=>some ((-1),())) (fun _=>none)))
def Gk : Fn:=mkF (cx []) [(2,DX)] 89 Tryz.f89 [(.rd,(.slice I)),(.rd,I)] [(.tmp 4,true,I)] Zt [lp 2 DX ux] aN aA rfl
def Zh (x : (Q4×Int×Int×Unit)) : Option (Bool×Unit) :=
 let ((a,b,c,_),d,e,_):=x; (Zac ((a,b,c,()),e,())).bind fun r1=>(aR c r1.1).bind fun y2=>(Zad (d,())).bind fun r3=>(Zt (y2,r3.1,())).bind fun r4=>(Zt (y2,e,())).bind fun r5=>cond (eqI (y2.length : Nat) 4) (cond (geI r4.1 0) (cond (geI r5.1 0) (cond (eqI (cl .i64 r4.1 r5.1) 2) (some (true,())) (some ((eqI (cl .i64 r5.1 r4.1) 2),()))) (some (false,()))) (some (false,()))) (some (false,()))
def Gq : Fn:=mkF (cx [Ep,DJ,Gk]) [] 42 Tryz.f42 [(.rd,yQ7),(.rd,I),(.rd,I)] [(.tmp 6,true,.bool)] Zh [] aN aA rfl
def oJ (x : Q26) : Option (Q26⊕((Bool×Unit)⊕((Int×(List Q1)×Int×(List Q1)×(List (List Int))×List Bool×Int×Int×List Int×(List (List Int))×Int×Int×Unit)⊕Empty))) :=
 let (a,b,c,d,e,f,g,h,i,k,l,m,n,o,p,_):=x; cond (ltI p o) ((aR n p).bind fun y1=>cond (ltI y1 0) (some (.inr (.inl (false,())))) (cond (geI y1 (i6 .i64 2 (f.length : Nat))) (some (.inr (.inl (false,())))) ((cw f.length (kq .i64 y1 2)).bind fun j2=>(f[j2]?).bind fun y3=>cond y3 (some (.inr (.inl (false,())))) ((cw f.length (kq .i64 y1 2)).bind fun j4=>(f[j4]?).bind fun y5=>cond (eqI p 0) ((Zac ((c,d,e,()),y1,())).bind fun r6=>(aR b h).bind fun y7=>cond (neI r6.1 y7.1) (some (.inr (.inl (false,())))) (some (.inl (a,b,c,d,e,(f.set j4 true),(cl .i64 g 1),h,i,k,l,m,n,o,(aT .i64 p 1),())))) ((Zac ((c,d,e,()),y1,())).bind fun r8=>cond (ltI r8.1 a) (some (.inr (.inl (false,())))) ((aR i (cl .i64 p 1)).bind fun y9=>(Zad (y9,())).bind fun r10=>(Zac ((c,d,e,()),r10.1,())).bind fun r11=>cond (neI r8.1 r11.1) (some (.inr (.inl (false,())))) ((aR i (cl .i64 p 1)).bind fun y12=>(Zh ((c,d,e,()),y12,y1,())).bind fun r13=>cond (!r13.1) (some (.inr (.inl (false,())))) (some (.inl (a,b,c,d,e,(f.set j4 true),(cl .i64 g 1),h,i,k,l,m,n,o,(aT .i64 p 1),())))))))))) (some (.inr (.inr (.inl (a,b,c,d,e,f,g,h,i,k,l,m,())))))
def v7:=ae oJ
def Bg : Ann:=⟨sh [(2,.av (.ptr 2 0)),(5,.av (.ptr 5 0)),(8,.av (.own 8)),(9,.av (.val I)),(10,.av (.val I)),(11,.av (.val (.slice I))),(74,.av (.val yQ3)),(75,.av (.val I)),(76,.av (.val I)),(84,.av (.val (.slice I))),(85,.av (.val I)),(86,.av (.val I))] [(2,.box [.val I,.val (.slice yQ2)]),(5,.box [.val I,.val (.slice yQ2),.val yQ3]),(8,.arr .bool)],[(.ret,sh [(4,.av (.val .bool))] []),(.exit 4,sh [(2,.av (.ptr 2 0)),(5,.av (.ptr 5 0)),(8,.av (.own 8)),(9,.av (.val I)),(10,.av (.val I)),(11,.av (.val (.slice I))),(74,.av (.val yQ3)),(75,.av (.val I)),(76,.av (.val I))] [(2,.box [.val I,.val (.slice yQ2)]),(5,.box [.val I,.val (.slice yQ2),.val yQ3]),(8,.arr .bool)])],v7⟩
def pu (x : Q22) : Option (Q22⊕((Bool×Unit)⊕((Int×Unit)⊕Empty))) :=
 let (a,b,c,d,e,f,g,h,i,k,_):=x; cond (ltI k i) ((aR h k).bind fun y1=>cond (eqI (y1.length : Nat) 0) (some (.inr (.inl (false,())))) ((v7 (a,b,c,d,e,f,g,k,y1,h,i,k,y1,(y1.length : Nat),0,())).bind (Sum.elim (fun z3=>some (.inr (.inl (z3.1,())))) (Sum.elim (fun (a_4,b_4,c_4,d_4,e_4,f_4,g_4,h_4,i_4,k_4,l_4,m_4,_)=>(aR i_4 (cl .i64 (i_4.length : Nat) 1)).bind fun y5=>(Zad (y5,())).bind fun r6=>(Zac ((c_4,d_4,e_4,()),r6.1,())).bind fun r7=>(aR b_4 h_4).bind fun y8=>cond (neI r7.1 y8.2.1) (some (.inr (.inl (false,())))) (some (.inl (a_4,b_4,c_4,d_4,e_4,f_4,g_4,k_4,l_4,(aT .i64 m_4 1),())))) (fun _=>none))))) (some (.inr (.inr (.inl (g,())))))
def wM:=ae pu
def Cz : Ann:=⟨sh [(2,.av (.ptr 2 0)),(5,.av (.ptr 5 0)),(8,.av (.own 8)),(9,.av (.val I)),(74,.av (.val yQ3)),(75,.av (.val I)),(76,.av (.val I))] [(2,.box [.val I,.val (.slice yQ2)]),(5,.box [.val I,.val (.slice yQ2),.val yQ3]),(8,.arr .bool)],[(.ret,sh [(4,.av (.val .bool))] []),(.exit 2,sh [(9,.av (.val I))] [])],wM⟩
def tv (x : Q27) : Option (Q27⊕((Bool×Unit)⊕((Int×(List Q1)×Int×(List Q1)×(List (List Int))×Int×(List (List Int))×Int×(List Q1)×(List (List Int))×Unit)⊕Empty))) :=
 let (a,b,c,d,e,f,g,h,i,k,l,m,n,_):=x; cond (ltI n m) ((aR l n).bind fun y1=>cond (neI (y1.length : Nat) 4) (some (.inr (.inl (false,())))) (some (.inl (a,b,c,d,e,f,g,h,i,k,l,m,(aT .i64 n 1),())))) (some (.inr (.inr (.inl (a,b,c,d,e,f,g,h,i,k,())))))
def Bb:=ae tv
def Ed : Ann:=⟨sh [(2,.av (.ptr 2 0)),(3,.av (.ptr 3 0)),(5,.av (.ptr 5 0)),(57,.av (.val yQ3)),(58,.av (.val I)),(59,.av (.val I))] [(2,.box [.val I,.val (.slice yQ2)]),(3,.box [.val I,.val (.slice yQ2),.val yQ3,.val I,.val yQ3]),(5,.box [.val I,.val (.slice yQ2),.val yQ3])],[(.ret,sh [(4,.av (.val .bool))] []),(.exit 0,sh [(2,.av (.ptr 2 0)),(3,.av (.ptr 3 0)),(5,.av (.ptr 5 0))] [(2,.box [.val I,.val (.slice yQ2)]),(3,.box [.val I,.val (.slice yQ2),.val yQ3,.val I,.val yQ3]),(5,.box [.val I,.val (.slice yQ2),.val yQ3])])],Bb⟩
def Zy (x : (Q3×Q5×Unit)) : Option (Bool×Unit) :=
 let ((a,b,_),((c,d,e,_),f,g,_),_):=x; (Zae ((a,b,()),())).bind fun r1=>cond (!r1.1) (some (false,())) ((Zaa ((c,d,e,()),())).bind fun r2=>cond (!r2.1) (some (false,())) ((Zz ((c,d,e,()),())).bind fun r3=>cond (neI r3.1 0) (some (false,())) (cond (neI f a) (some (false,())) (cond (ltI c a) (some (false,())) (cond (neI (g.length : Nat) (b.length : Nat)) (some (false,())) ((o9 e a (e.length : Nat)).bind fun y4=>(Bb (a,b,c,d,e,f,g,c,d,e,y4,(y4.length : Nat),0,())).bind (Sum.elim (fun z6=>some (z6.1,())) (Sum.elim (fun (a_7,b_7,_,_,_,_,c_7,d_7,e_7,f_7,_)=>(gO .bool (e_7.length : Nat) (e_7.length : Nat)).bind fun m8=>(wM (a_7,b_7,d_7,e_7,f_7,m8,(m8.length : Nat),c_7,(c_7.length : Nat),0,())).bind (Sum.elim (fun z10=>some (z10.1,())) (Sum.elim (fun z11=>some ((eqI z11.1 0),())) (fun _=>none)))) (fun _=>none)))))))))
def FW : Fn:=mkF (cx [Fe,xH,Gd,Ep,DJ,Gq]) [(5,Ed),(13,Cz),(18,Bg)] 15 Tryz.f15 [(.rd,(.prod I tz)),(.rd,yQ8)] [(.tmp 4,true,.bool)] Zy [lp 5 Ed tv,lp 13 Cz pu,lp 18 Bg oJ] aN aA rfl
def uO (x : (Int×(List Q1)×Int×Unit)) : Option ((Int×(List Q1)×Int×Unit)⊕((Bool×Unit)⊕(Unit⊕Empty))) :=
 let (a,b,c,_):=x; cond (ltI c (b.length : Nat)) ((aR b c).bind fun y1=>cond (ltI y1.1 0) (some (.inr (.inl (false,())))) (cond (geI y1.1 a) (some (.inr (.inl (false,())))) (cond (ltI y1.2.1 0) (some (.inr (.inl (false,())))) (cond (geI y1.2.1 a) (some (.inr (.inl (false,())))) (some (.inl (a,b,(aT .i64 c 1),()))))))) (some (.inr (.inr (.inl ()))))
def Bz:=ae uO
def Ej : Ann:=⟨sh [(1,.av (.ptr 1 0)),(3,.av (.val I))] [(1,.box [.val I,.val (.slice yQ2)])],[(.ret,sh [(2,.av (.val .bool))] []),(.exit 0,sh [] [])],Bz⟩
def Zj (x : (Q3×Unit)) : Option (Bool×Unit) :=
 let ((a,b,_),_):=x; cond (ltI a 0) (some (false,())) (cond (gtI a 64) (some (false,())) (cond (gtI (b.length : Nat) 256) (some (false,())) ((Bz (a,b,0,())).bind (Sum.elim (fun z2=>some (z2.1,())) (Sum.elim (fun z3=>some (true,())) (fun _=>none))))))
def Gg : Fn:=mkF (cx []) [(4,Ej)] 43 Tryz.f43 [(.rd,(.prod I tz))] [(.tmp 2,true,.bool)] Zj [lp 4 Ej uO] aN aA rfl
def t7 (x : Q8) : Option (Q8⊕((List Int×Unit)⊕Empty)) :=
 let (a,b,c,d,e,_):=x; cond (ltI e (b.length : Nat)) ((aR b e).bind fun y1=>(aR b e).bind fun y2=>(app d [y1.1,y2.2.1]).bind fun a3=>some (.inl (a,b,c,a3,(aT .i64 e 1),()))) (some (.inr (.inl (d,()))))
def Bf:=ae t7
def Ef : Ann:=⟨sh [(1,.av (.ptr 1 0)),(3,.av (.own 3)),(4,.av (.val I))] [(1,.box [.val I,.val (.slice yQ2),.val yQ3]),(3,.arr I)],[(.exit 0,sh [(3,.av (.own 3))] [(3,.arr I)])],Bf⟩
def Zr (x : (Q4×Unit)) : Option (List Int×Unit) :=
 (Bf (x.1.1,x.1.2.1,x.1.2.2.1,[],0,())).bind (Sum.elim (fun z2=>some (z2.1,())) (fun _=>none))
def FD : Fn:=mkF (cx []) [(3,Ef)] 90 Tryz.f90 [(.rd,yQ7)] [(.tmp 2,true,(.slice I))] Zr [lp 3 Ef t7] aN aA rfl
def pm (x : Q17) : Option (Q17⊕((Bool×Unit)⊕(Q13⊕Empty))) :=
 let (a,b,c,d,e,f,g,h,_):=x; (aR c g).bind fun y1=>cond (ltI h (y1.length : Nat)) ((aR c g).bind fun y2=>(aR y2 h).bind fun y3=>cond (ltI y3 0) (some (.inr (.inl (false,())))) (cond (geI y3 (d.length : Nat)) (some (.inr (.inl (false,())))) ((cw e.length y3).bind fun j4=>(e[j4]?).bind fun y5=>cond y5 (some (.inr (.inl (false,())))) ((cw d.length y3).bind fun j6=>(d[j6]?).bind fun y7=>cond (neI y7 g) (some (.inr (.inl (false,())))) ((cw e.length y3).bind fun j8=>(e[j8]?).bind fun y9=>some (.inl (a,b,c,d,(e.set j8 true),(aT .i64 f 1),g,(aT .i64 h 1),()))))))) (some (.inr (.inr (.inl (a,b,c,d,e,f,g,())))))
def vw:=ae pm
def Co : Ann:=⟨sh [(1,.av (.ptr 1 0)),(5,.av (.own 5)),(6,.av (.own 6)),(7,.av (.val I)),(8,.av (.val I)),(9,.av (.val I))] [(1,.box [.val I,.val (.slice yQ2),.val yQ3]),(5,.arr I),(6,.arr .bool)],[(.ret,sh [(2,.av (.val .bool))] []),(.exit 4,sh [(1,.av (.ptr 1 0)),(5,.av (.own 5)),(6,.av (.own 6)),(7,.av (.val I)),(8,.av (.val I))] [(1,.box [.val I,.val (.slice yQ2),.val yQ3]),(5,.arr I),(6,.arr .bool)])],vw⟩
def oL (x : Q13) : Option (Q13⊕((Bool×Unit)⊕(Q2⊕Empty))) :=
 let (a,b,c,d,e,f,g,_):=x; cond (ltI g a) ((vw (a,b,c,d,e,f,g,0,())).bind (Sum.elim (fun z2=>some (.inr (.inl (z2.1,())))) (Sum.elim (fun (a_3,b_3,c_3,d_3,e_3,f_3,g_3,_)=>some (.inl (a_3,b_3,c_3,d_3,e_3,f_3,(aT .i64 g_3 1),()))) (fun _=>none)))) (some (.inr (.inr (.inl (d,f,())))))
def wv:=ae oL
def Aj : Ann:=⟨sh [(1,.av (.ptr 1 0)),(5,.av (.own 5)),(6,.av (.own 6)),(7,.av (.val I)),(8,.av (.val I))] [(1,.box [.val I,.val (.slice yQ2),.val yQ3]),(5,.arr I),(6,.arr .bool)],[(.ret,sh [(2,.av (.val .bool))] []),(.exit 2,sh [(5,.av (.own 5)),(7,.av (.val I))] [(5,.arr I)])],wv⟩
def tw (x : Q7) : Option (Q7⊕((Bool×Unit)⊕(Q4⊕Empty))) :=
 let (a,b,c,d,_):=x; cond (ltI d (b.length : Nat)) ((aR b d).bind fun y1=>cond (ltI y1.1 0) (some (.inr (.inl (false,())))) (cond (geI y1.1 a) (some (.inr (.inl (false,())))) (cond (ltI y1.2.1 0) (some (.inr (.inl (false,())))) (cond (geI y1.2.1 a) (some (.inr (.inl (false,())))) (cond (eqI y1.1 y1.2.1) (some (.inr (.inl (false,())))) (some (.inl (a,b,c,(aT .i64 d 1),())))))))) (some (.inr (.inr (.inl (a,b,c,())))))
def By:=ae tw
def Eq : Ann:=⟨sh [(1,.av (.ptr 1 0)),(3,.av (.val I))] [(1,.box [.val I,.val (.slice yQ2),.val yQ3])],[(.ret,sh [(2,.av (.val .bool))] []),(.exit 0,sh [(1,.av (.ptr 1 0))] [(1,.box [.val I,.val (.slice yQ2),.val yQ3])])],By⟩
def Zn (x : (Q4×Unit)) : Option (Bool×Unit) :=
 let ((a,b,c,_),_):=x; cond (ltI a 0) (some (false,())) (cond (gtI a 16384) (some (false,())) (cond (gtI (b.length : Nat) 32768) (some (false,())) (cond (neI (c.length : Nat) a) (some (false,())) ((By (a,b,c,0,())).bind (Sum.elim (fun z2=>some (z2.1,())) (Sum.elim (fun (a_3,b_3,c_3,_)=>(Zr ((a_3,b_3,c_3,()),())).bind fun r4=>(gO .bool (r4.1.length : Nat) (r4.1.length : Nat)).bind fun m5=>(wv (a_3,b_3,c_3,r4.1,m5,0,0,())).bind (Sum.elim (fun z7=>some (z7.1,())) (Sum.elim (fun z8=>some ((eqI z8.2.1 (z8.1.length : Nat)),())) (fun _=>none)))) (fun _=>none)))))))
def BF : Fn:=mkF (cx [FD]) [(4,Eq),(13,Aj),(16,Co)] 44 Tryz.f44 [(.rd,yQ7)] [(.tmp 2,true,.bool)] Zn [lp 4 Eq tw,lp 13 Aj oL,lp 16 Co pm] aN aA rfl
def tV (x : Q12) : Option (Q12⊕(Q8⊕Empty)) :=
 let (a,b,c,d,e,f,g,_):=x; cond (ltI g (f.length : Nat)) ((aR f g).bind fun y1=>cond (eqI (f.length : Nat) 0) none ((aR f (k8 (aT .i64 g 1) (f.length : Nat))).bind fun y2=>(cw d.length y1).bind fun j3=>(d[j3]?).bind fun y4=>some (.inl (a,b,c,(d.set j3 y2),e,f,(aT .i64 g 1),())))) (some (.inr (.inl (a,b,c,d,e,()))))
def BZ:=ae tV
def D4 : Ann:=⟨sh [(1,.av (.ptr 1 0)),(3,.av (.own 3)),(4,.av (.val I)),(5,.av (.val (.slice I))),(6,.av (.val I))] [(1,.box [.val I,.val (.slice yQ2),.val yQ3]),(3,.arr I)],[(.exit 2,sh [(1,.av (.ptr 1 0)),(3,.av (.own 3)),(4,.av (.val I))] [(1,.box [.val I,.val (.slice yQ2),.val yQ3]),(3,.arr I)])],BZ⟩
def tO (x : Q8) : Option (Q8⊕((List Int×Unit)⊕Empty)) :=
 let (a,b,c,d,e,_):=x; cond (ltI e a) ((aR c e).bind fun y1=>(BZ (a,b,c,d,e,y1,0,())).bind (Sum.elim (fun z3=>some (.inl (z3.1,z3.2.1,z3.2.2.1,z3.2.2.2.1,(aT .i64 z3.2.2.2.2.1 1),()))) (fun _=>none))) (some (.inr (.inl (d,()))))
def xG:=ae tO
def D3 : Ann:=⟨sh [(1,.av (.ptr 1 0)),(3,.av (.own 3)),(4,.av (.val I))] [(1,.box [.val I,.val (.slice yQ2),.val yQ3]),(3,.arr I)],[(.exit 0,sh [(3,.av (.own 3))] [(3,.arr I)])],xG⟩
def Zg (x : (Q4×Unit)) : Option (List Int×Unit) :=
 let ((a,b,c,_),_):=x; (gO I (i6 .i64 2 (b.length : Nat)) (i6 .i64 2 (b.length : Nat))).bind fun m1=>(xG (a,b,c,m1,0,())).bind (Sum.elim (fun z3=>some (z3.1,())) (fun _=>none))
def Gt : Fn:=mkF (cx []) [(3,D3),(7,D4)] 110 Tryz.f110 [(.rd,yQ7)] [(.tmp 2,true,(.slice I))] Zg [lp 3 D3 tO,lp 7 D4 tV] aN aA rfl
def Zk (x : (Int×Unit)) : Option (Int×Unit) :=
 cond (eqI (k8 x.1 2) 0) (some ((aT .i64 x.1 1),())) (some ((cl .i64 x.1 1),()))
def Ga : Fn:=mkF (cx []) [] 111 Tryz.f111 [(.rd,I)] [(.tmp 2,true,I)] Zk [] aN aA rfl
def pJ (x : ((List (List Int))×List Int×List Bool×List Int×Int×Int×Unit)) : Option (((List (List Int))×List Int×List Bool×List Int×Int×Int×Unit)⊕(((List (List Int))×List Int×List Bool×List Int×Int×Unit)⊕Empty)) :=
 let (a,b,c,d,e,f,_):=x; (cw c.length f).bind fun j1=>(c[j1]?).bind fun y2=>cond (!y2) ((cw c.length f).bind fun j3=>(c[j3]?).bind fun y4=>(app d [f]).bind fun a5=>(Zk (f,())).bind fun r6=>(cw b.length r6.1).bind fun j7=>(b[j7]?).bind fun y8=>some (.inl (a,b,(c.set j3 true),a5,e,y8,()))) (some (.inr (.inl (a,b,c,d,e,()))))
def xi:=ae pJ
def Bt : Ann:=⟨sh [(3,.av (.own 3)),(4,.av (.own 4)),(5,.av (.own 5)),(6,.av (.val I)),(7,.av (.own 7)),(8,.av (.val I))] [(3,.arr (.slice I)),(4,.arr I),(5,.arr .bool),(7,.arr I)],[(.exit 2,sh [(3,.av (.own 3)),(4,.av (.own 4)),(5,.av (.own 5)),(6,.av (.val I)),(7,.av (.own 7))] [(3,.arr (.slice I)),(4,.arr I),(5,.arr .bool),(7,.arr I)])],xi⟩
def um (x : ((List (List Int))×List Int×List Bool×Int×Unit)) : Option (((List (List Int))×List Int×List Bool×Int×Unit)⊕(((List (List Int))×Unit)⊕Empty)) :=
 let (a,b,c,d,_):=x; cond (ltI d (b.length : Nat)) ((cw c.length d).bind fun j1=>(c[j1]?).bind fun y2=>cond y2 (some (.inl (a,b,c,(aT .i64 d 1),()))) ((xi (a,b,c,[],d,d,())).bind (Sum.elim (fun z4=>(app z4.1 [z4.2.2.2.1]).bind fun a5=>some (.inl (a5,z4.2.1,z4.2.2.1,(aT .i64 z4.2.2.2.2.1 1),()))) (fun _=>none)))) (some (.inr (.inl (a,()))))
def BO:=ae um
def DR : Ann:=⟨sh [(3,.av (.own 3)),(4,.av (.own 4)),(5,.av (.own 5)),(6,.av (.val I))] [(3,.arr (.slice I)),(4,.arr I),(5,.arr .bool)],[(.exit 0,sh [(3,.av (.own 3))] [(3,.arr (.slice I))])],BO⟩
def Zl (x : (Q4×Unit)) : Option ((List (List Int))×Unit) :=
 let ((a,b,c,_),_):=x; (Zn ((a,b,c,()),())).bind fun r1=>cond (!r1.1) (some ([],())) ((Zg ((a,b,c,()),())).bind fun r2=>(gO .bool (r2.1.length : Nat) (r2.1.length : Nat)).bind fun m3=>(BO ([],r2.1,m3,0,())).bind (Sum.elim (fun z5=>some (z5.1,())) (fun _=>none)))
def Ge : Fn:=mkF (cx [BF,Gt,Ga]) [(7,DR),(12,Bt)] 67 Tryz.f67 [(.rd,yQ7)] [(.tmp 2,true,yQ3)] Zl [lp 7 DR um,lp 12 Bt pJ] aN aA rfl
def tZ (x : Q2) : Option (Q2⊕((Int×Unit)⊕Empty)) :=
 let (a,b,_):=x; (aR a b).bind fun y1=>cond (neI y1 b) ((aR a b).bind fun y2=>some (.inl (a,y2,()))) (some (.inr (.inl (b,()))))
def CG:=ae tZ
def DQ : Ann:=⟨sh [(0,.av (.val (.slice I))),(1,.av (.val I))] [],[(.exit 0,sh [(1,.av (.val I))] [])],CG⟩
def Zw (x : Q2) : Option (Int×Unit) :=
 (CG (x.1,x.2.1,())).bind (Sum.elim (fun z2=>some (z2.1,())) (fun _=>none))
def Gp : Fn:=mkF (cx []) [(1,DQ)] 129 Tryz.f129 [(.rd,(.slice I)),(.rd,I)] [(.tmp 4,true,I)] Zw [lp 1 DQ tZ] aN aA rfl
def uk (x : (Int×(List Q1)×(List (List Int))×List Int×Int×Int×Unit)) : Option ((Int×(List Q1)×(List (List Int))×List Int×Int×Int×Unit)⊕((Int×Unit)⊕Empty)) :=
 let (a,b,c,d,e,f,_):=x; cond (ltI f (b.length : Nat)) ((aR b f).bind fun y1=>(Zw (d,y1.1,())).bind fun r2=>(aR b f).bind fun y3=>(Zw (d,y3.2.1,())).bind fun r4=>cond (neI r2.1 r4.1) ((cw d.length (maxI r2.1 r4.1)).bind fun j5=>(d[j5]?).bind fun y6=>some (.inl (a,b,c,(d.set j5 (mw r2.1 r4.1)),(cl .i64 e 1),(aT .i64 f 1),()))) (some (.inl (a,b,c,d,e,(aT .i64 f 1),())))) (some (.inr (.inl (e,()))))
def zZ:=ae uk
def D0 : Ann:=⟨sh [(1,.av (.ptr 1 0)),(3,.av (.own 3)),(5,.av (.val I)),(6,.av (.val I))] [(1,.box [.val I,.val (.slice yQ2),.val yQ3]),(3,.arr I)],[(.exit 2,sh [(5,.av (.val I))] [])],zZ⟩
def nm (x : Q8) : Option (Q8⊕((Int×(List Q1)×(List (List Int))×List Int×Unit)⊕Empty)) :=
 let (a,b,c,d,e,_):=x; cond (ltI e a) ((app d [e]).bind fun a1=>some (.inl (a,b,c,a1,(aT .i64 e 1),()))) (some (.inr (.inl (a,b,c,d,()))))
def rg:=ae nm
def D1 : Ann:=⟨sh [(1,.av (.ptr 1 0)),(3,.av (.own 3)),(4,.av (.val I))] [(1,.box [.val I,.val (.slice yQ2),.val yQ3]),(3,.arr I)],[(.exit 0,sh [(1,.av (.ptr 1 0)),(3,.av (.own 3))] [(1,.box [.val I,.val (.slice yQ2),.val yQ3]),(3,.arr I)])],rg⟩
def Zb (x : (Q4×Unit)) : Option (Int×Unit) :=
 (rg (x.1.1,x.1.2.1,x.1.2.2.1,[],0,())).bind (Sum.elim (fun z2=>(zZ (z2.1,z2.2.1,z2.2.2.1,z2.2.2.2.1,z2.1,0,())).bind (Sum.elim (fun z4=>some (z4.1,())) (fun _=>none))) (fun _=>none))
def FO : Fn:=mkF (cx [Gp]) [(3,D1),(8,D0)] 91 Tryz.f91 [(.rd,yQ7)] [(.tmp 2,true,I)] Zb [lp 3 D1 nm,lp 8 D0 uk] aN aA rfl
def tC (x : (Int×(List Q1)×(List (List Int))×Int×Int×Unit)) : Option ((Int×(List Q1)×(List (List Int))×Int×Int×Unit)⊕(Q7⊕Empty)) :=
 let (a,b,c,d,e,_):=x; cond (ltI e a) ((aR c e).bind fun y1=>cond (eqI (y1.length : Nat) 0) (some (.inl (a,b,c,(aT .i64 d 1),(aT .i64 e 1),()))) (some (.inl (a,b,c,d,(aT .i64 e 1),())))) (some (.inr (.inl (a,b,c,d,()))))
def Cp:=ae tC
def DO : Ann:=⟨sh [(1,.av (.ptr 1 0)),(3,.av (.val I)),(4,.av (.val I))] [(1,.box [.val I,.val (.slice yQ2),.val yQ3])],[(.exit 0,sh [(1,.av (.ptr 1 0)),(3,.av (.val I))] [(1,.box [.val I,.val (.slice yQ2),.val yQ3])])],Cp⟩
def Zo (x : (Q4×Unit)) : Option (Int×Unit) :=
 let ((a,b,c,_),_):=x; (Zn ((a,b,c,()),())).bind fun r1=>cond (!r1.1) (some ((-1),())) ((Zl ((a,b,c,()),())).bind fun r2=>(Cp (a,b,c,(r2.1.length : Nat),0,())).bind (Sum.elim (fun z4=>(Zb ((z4.1,z4.2.1,z4.2.2.1,()),())).bind fun r5=>some ((cl .i64 r5.1 (kq .i64 (aT .i64 (cl .i64 z4.1 (z4.2.1.length : Nat)) z4.2.2.2.1) 2)),())) (fun _=>none)))
def FR : Fn:=mkF (cx [BF,Ge,FO]) [(5,DO)] 45 Tryz.f45 [(.rd,yQ7)] [(.tmp 2,true,I)] Zo [lp 5 DO tC] aN aA rfl
def Zu (x : (Q4×Int×Unit)) : Option (Int×Unit) :=
 let ((a,b,c,_),d,_):=x; (Zn ((a,b,c,()),())).bind fun r1=>cond (!r1.1) (some ((-1),())) (cond (ltI d 0) (some ((-1),())) (cond (geI d (i6 .i64 2 (b.length : Nat))) (some ((-1),())) ((Zr ((a,b,c,()),())).bind fun r2=>(cw r2.1.length d).bind fun j3=>(r2.1[j3]?).bind fun y4=>some (y4,()))))
def E0 : Fn:=mkF (cx [BF,FD]) [] 57 Tryz.f57 [(.rd,yQ7),(.rd,I)] [(.tmp 4,true,I)] Zu [] aN aA rfl
def Zv (x : (Q4×Int×Unit)) : Option (Int×Unit) :=
 (Zu ((x.1.1,x.1.2.1,x.1.2.2.1,()),(sR .i64 x.2.1 1),())).bind fun r1=>some (r1.1,())
def Fm : Fn:=mkF (cx [E0]) [] 23 Tryz.f23 [(.rd,yQ7),(.rd,I)] [(.tmp 4,true,I)] Zv [] aN aA rfl
def tt (x : (List Int×Int×Int×Unit)) : Option ((List Int×Int×Int×Unit)⊕((Int×Unit)⊕(Unit⊕Empty))) :=
 let (a,b,c,_):=x; cond (ltI c (a.length : Nat)) ((aR a c).bind fun y1=>cond (eqI y1 b) (some (.inr (.inl (c,())))) (some (.inl (a,b,(aT .i64 c 1),())))) (some (.inr (.inr (.inl ()))))
def BG:=ae tt
def Eb : Ann:=⟨sh [(0,.av (.val (.slice I))),(1,.av (.val I)),(5,.av (.val I))] [],[(.ret,sh [(4,.av (.val I))] []),(.exit 0,sh [] [])],BG⟩
def Zm (x : Q2) : Option (Int×Unit) :=
 (BG (x.1,x.2.1,0,())).bind (Sum.elim (fun z2=>some (z2.1,())) (Sum.elim (fun z3=>some ((-1),())) (fun _=>none)))
def Gl : Fn:=mkF (cx []) [(2,Eb)] 130 Tryz.f130 [(.rd,(.slice I)),(.rd,I)] [(.tmp 4,true,I)] Zm [lp 2 Eb tt] aN aA rfl
def Zd (x : (Q5×Int×Int×Unit)) : Option (Bool×Unit) :=
 let (((a,b,c,_),d,_),e,f,_):=x; (Zv ((a,b,c,()),e,())).bind fun r1=>cond (ltI r1.1 d) (some (false,())) ((Zu ((a,b,c,()),f,())).bind fun r2=>cond (neI r2.1 r1.1) (some (false,())) ((aR c r1.1).bind fun y3=>(Zm (y3,(sR .i64 e 1),())).bind fun r4=>(Zm (y3,f,())).bind fun r5=>cond (eqI (y3.length : Nat) 4) (cond (geI r4.1 0) (cond (geI r5.1 0) (cond (eqI (cl .i64 r4.1 r5.1) 2) (some (true,())) (some ((eqI (cl .i64 r5.1 r4.1) 2),()))) (some (false,()))) (some (false,()))) (some (false,()))))
def FQ : Fn:=mkF (cx [Fm,E0,Gl]) [] 92 Tryz.f92 [(.rd,yQ8),(.rd,I),(.rd,I)] [(.tmp 6,true,.bool)] Zd [] aN aA rfl
def tE (x : Q20) : Option (Q20⊕((Bool×Unit)⊕((Int×(List Q1)×(List (List Int))×Int×(List (List Int))×Int×Int×List Int×Unit)⊕Empty))) :=
 let (a,b,c,d,e,f,g,h,i,_):=x; cond (ltI i (h.length : Nat)) ((aR h i).bind fun y1=>cond (ltI y1 0) (some (.inr (.inl (false,())))) ((aR h i).bind fun y2=>cond (geI y2 (i6 .i64 2 (b.length : Nat))) (some (.inr (.inl (false,())))) (cond (gtI i 0) ((aR h (cl .i64 i 1)).bind fun y3=>(aR h i).bind fun y4=>(Zd (((a,b,c,()),d,e,()),y3,y4,())).bind fun r5=>cond (!r5.1) (some (.inr (.inl (false,())))) (some (.inl (a,b,c,d,e,f,g,h,(aT .i64 i 1),())))) (some (.inl (a,b,c,d,e,f,g,h,(aT .i64 i 1),())))))) (some (.inr (.inr (.inl (a,b,c,d,e,f,g,h,())))))
def AD:=ae tE
def D9 : Ann:=⟨sh [(2,.av (.val (.slice I))),(3,.av (.ptr 3 0)),(4,.av (.ptr 4 0)),(7,.av (.val I))] [(3,.box [.val I,.val (.slice yQ2),.val yQ3,.val I,.val yQ3]),(4,.box [.val I,.val I])],[(.ret,sh [(6,.av (.val .bool))] []),(.exit 0,sh [(2,.av (.val (.slice I))),(3,.av (.ptr 3 0)),(4,.av (.ptr 4 0))] [(3,.box [.val I,.val (.slice yQ2),.val yQ3,.val I,.val yQ3]),(4,.box [.val I,.val I])])],AD⟩
def Zs (x : (Q5×Q1×List Int×Unit)) : Option (Bool×Unit) :=
 let (((a,b,c,_),d,e,_),(f,g,_),h,_):=x; cond (eqI (h.length : Nat) 0) (some (false,())) ((AD (a,b,c,d,e,f,g,h,0,())).bind (Sum.elim (fun z2=>some (z2.1,())) (Sum.elim (fun (a_3,b_3,c_3,_,_,d_3,e_3,f_3,_)=>(aR f_3 0).bind fun y4=>(Zu ((a_3,b_3,c_3,()),y4,())).bind fun r5=>cond (eqI r5.1 d_3) ((aR f_3 (cl .i64 (f_3.length : Nat) 1)).bind fun y6=>(Zv ((a_3,b_3,c_3,()),y6,())).bind fun r7=>some ((eqI r7.1 e_3),())) (some (false,()))) (fun _=>none))))
def F9 : Fn:=mkF (cx [Fm,E0,FQ]) [(4,D9)] 46 Tryz.f46 [(.rd,yQ8),(.rd,yQ2),(.rd,(.slice I))] [(.tmp 6,true,.bool)] Zs [lp 4 D9 tE] aN aA rfl
def pE (x : Q24) : Option (Q24⊕((Bool×Unit)⊕(Q23⊕Empty))) :=
 let (a,b,c,d,e,f,g,h,i,k,l,_):=x; (aR g k).bind fun y1=>cond (ltI l (y1.length : Nat)) ((aR g k).bind fun y2=>(aR y2 l).bind fun y3=>(cw h.length (kq .i64 y3 2)).bind fun j4=>(h[j4]?).bind fun y5=>cond y5 (some (.inr (.inl (false,())))) ((aR g k).bind fun y6=>(aR y6 l).bind fun y7=>(cw h.length (kq .i64 y7 2)).bind fun j8=>(h[j8]?).bind fun y9=>some (.inl (a,b,c,d,e,f,g,(h.set j8 true),(aT .i64 i 1),k,(aT .i64 l 1),())))) (some (.inr (.inr (.inl (a,b,c,d,e,f,g,h,i,k,())))))
def vX:=ae pE
def Bc : Ann:=⟨sh [(2,.av (.ptr 2 0)),(3,.av (.ptr 3 0)),(6,.av (.own 6)),(7,.av (.val I)),(8,.av (.val I)),(9,.av (.val I))] [(2,.box [.val I,.val (.slice yQ2)]),(3,.box [.val I,.val (.slice yQ2),.val yQ3,.val I,.val yQ3]),(6,.arr .bool)],[(.ret,sh [(4,.av (.val .bool))] []),(.exit 4,sh [(2,.av (.ptr 2 0)),(3,.av (.ptr 3 0)),(6,.av (.own 6)),(7,.av (.val I)),(8,.av (.val I))] [(2,.box [.val I,.val (.slice yQ2)]),(3,.box [.val I,.val (.slice yQ2),.val yQ3,.val I,.val yQ3]),(6,.arr .bool)])],vX⟩
def px (x : Q23) : Option (Q23⊕((Bool×Unit)⊕((List Bool×Int×Unit)⊕Empty))) :=
 let (a,b,c,d,e,f,g,h,i,k,_):=x; cond (ltI k (g.length : Nat)) ((aR g k).bind fun y1=>cond (gtI (y1.length : Nat) (h.length : Nat)) (some (.inr (.inl (false,())))) ((aR b k).bind fun y2=>(aR g k).bind fun y3=>(Zs (((c,d,e,()),f,g,()),y2,y3,())).bind fun r4=>cond (!r4.1) (some (.inr (.inl (false,())))) ((vX (a,b,c,d,e,f,g,h,i,k,0,())).bind (Sum.elim (fun z6=>some (.inr (.inl (z6.1,())))) (Sum.elim (fun (a_7,b_7,c_7,d_7,e_7,f_7,g_7,h_7,i_7,k_7,_)=>some (.inl (a_7,b_7,c_7,d_7,e_7,f_7,g_7,h_7,i_7,(aT .i64 k_7 1),()))) (fun _=>none)))))) (some (.inr (.inr (.inl (h,i,())))))
def wS:=ae px
def Bo : Ann:=⟨sh [(2,.av (.ptr 2 0)),(3,.av (.ptr 3 0)),(6,.av (.own 6)),(7,.av (.val I)),(8,.av (.val I))] [(2,.box [.val I,.val (.slice yQ2)]),(3,.box [.val I,.val (.slice yQ2),.val yQ3,.val I,.val yQ3]),(6,.arr .bool)],[(.ret,sh [(4,.av (.val .bool))] []),(.exit 2,sh [(6,.av (.own 6)),(7,.av (.val I))] [(6,.arr .bool)])],wS⟩
def tW (x : Q19) : Option (Q19⊕((Bool×Unit)⊕((Int×(List Q1)×Int×(List Q1)×(List (List Int))×Int×(List (List Int))×Unit)⊕Empty))) :=
 let (a,b,c,d,e,f,g,h,_):=x; cond (ltI h c) ((aR e h).bind fun y1=>cond (neI (y1.length : Nat) 4) (some (.inr (.inl (false,())))) (some (.inl (a,b,c,d,e,f,g,(aT .i64 h 1),())))) (some (.inr (.inr (.inl (a,b,c,d,e,f,g,())))))
def Bp:=ae tW
def D5 : Ann:=⟨sh [(2,.av (.ptr 2 0)),(3,.av (.ptr 3 0)),(5,.av (.val I))] [(2,.box [.val I,.val (.slice yQ2)]),(3,.box [.val I,.val (.slice yQ2),.val yQ3,.val I,.val yQ3])],[(.ret,sh [(4,.av (.val .bool))] []),(.exit 0,sh [(2,.av (.ptr 2 0)),(3,.av (.ptr 3 0))] [(2,.box [.val I,.val (.slice yQ2)]),(3,.box [.val I,.val (.slice yQ2),.val yQ3,.val I,.val yQ3])])],Bp⟩
def Zq (x : (Q3×Q5×Unit)) : Option (Bool×Unit) :=
 let ((a,b,_),((c,d,e,_),f,g,_),_):=x; (Zj ((a,b,()),())).bind fun r1=>cond (!r1.1) (some (false,())) ((Zn ((c,d,e,()),())).bind fun r2=>cond (!r2.1) (some (false,())) ((Zo ((c,d,e,()),())).bind fun r3=>cond (neI r3.1 0) (some (false,())) (cond (neI f a) (some (false,())) (cond (ltI c f) (some (false,())) (cond (neI (g.length : Nat) (b.length : Nat)) (some (false,())) ((Bp (a,b,c,d,e,f,g,f,())).bind (Sum.elim (fun z5=>some (z5.1,())) (Sum.elim (fun (a_6,b_6,c_6,d_6,e_6,f_6,g_6,_)=>(gO .bool (d_6.length : Nat) (d_6.length : Nat)).bind fun m7=>(wS (a_6,b_6,c_6,d_6,e_6,f_6,g_6,m7,0,0,())).bind (Sum.elim (fun z9=>some (z9.1,())) (Sum.elim (fun z10=>some ((eqI z10.2.1 (z10.1.length : Nat)),())) (fun _=>none)))) (fun _=>none)))))))))
def FS : Fn:=mkF (cx [Gg,BF,FR,F9]) [(4,D5),(11,Bo),(16,Bc)] 16 Tryz.f16 [(.rd,(.prod I tz)),(.rd,yQ8)] [(.tmp 4,true,.bool)] Zq [lp 4 D5 tW,lp 11 Bo px,lp 16 Bc pE] aN aA rfl
def Ze (x : (Q5×Unit)) : Option (Int×Unit) :=
 let (((a,b,c,_),d,_),_):=x; (Zaa ((a,b,c,()),())).bind fun r1=>cond (!r1.1) (some (0,())) (cond (ltI d 0) (some (0,())) (cond (gtI d a) (some (0,())) (some ((cl .i64 a d),()))))
def Gc : Fn:=mkF (cx [xH]) [] 17 Tryz.f17 [(.rd,yQ8)] [(.tmp 2,true,I)] Ze [] aN aA rfl
def Zc (x : (Q5×Unit)) : Option (Int×Unit) :=
 let (((a,b,c,_),d,_),_):=x; (Zn ((a,b,c,()),())).bind fun r1=>cond (!r1.1) (some (0,())) (cond (ltI d 0) (some (0,())) (cond (gtI d a) (some (0,())) (some ((cl .i64 a d),()))))
def Gb : Fn:=mkF (cx [BF]) [] 18 Tryz.f18 [(.rd,yQ8)] [(.tmp 2,true,I)] Zc [] aN aA rfl
def Za (x : (Q3×Q5×Unit)) : Option (Bool×Unit) :=
 let ((a,b,_),((c,d,e,_),f,g,_),_):=x; (Zp (((c,d,e,()),f,g,()),())).bind fun r1=>cond (!r1.1) ((Zi ()).bind fun r2=>some (r2.1,())) ((Zy ((a,b,()),((c,d,e,()),f,g,()),())).bind fun r3=>(Zq ((a,b,()),((c,d,e,()),f,g,()),())).bind fun r4=>cond (eqB r3.1 r4.1) ((Ze (((c,d,e,()),f,g,()),())).bind fun r5=>(Zc (((c,d,e,()),f,g,()),())).bind fun r6=>cond (eqI r5.1 r6.1) ((Zi ()).bind fun r7=>some (r7.1,())) (some (false,()))) (some (false,())))
def Za_h : Fn:=mkF (cx [Gn,FZ,FW,FS,Gc,Gb]) [] 3 Tryz.f3 [(.rd,(.prod I tz)),(.rd,yQ8)] [(.tmp 4,true,.bool)] Za [] aN aA rfl
def Za_c : Con:={ ins:=[(.rd,(.prod I tz)),(.rd,yQ8)],outs:=[(true,.bool)],fn:=Za }
theorem AN : Con.Holds Tryz.prog glob 3 Za_c:=Za_h.ok
end
end Go.Vm

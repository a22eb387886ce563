/-
 The functions that the law reaches, as functions on values, and the proofs that the machine computes them.
-/
import Derived.Test.YtlbmgijhnimbbaaGreatDoorVmPack
import Derived.Test.YtlbmgijhnimbbaaGreatDoorRxRun37
import Derived.Test.YtlbmgijhnimbbaaGreatDoorProg
import Derived.KernelRfl
set_option linter.unusedVariables false
set_option linter.unusedSimpArgs false
namespace Go.Vm
open Go.Proofs
abbrev I : Ty:=.int .i64
abbrev yQ1 : Ty:=.prod I .unit
abbrev yQ2 : Ty:=.prod I yQ1
abbrev yQ3 : Ty:=.prod yQ2 .unit
abbrev yQ4 : Ty:=.prod yQ2 yQ3
abbrev yQ5 : Ty:=.slice (.slice I)
abbrev yQ6 : Ty:=.prod yQ5 .unit
abbrev yQ7 : Ty:=.prod (.slice yQ2) yQ6
abbrev yQ8 : Ty:=.prod (.slice I) .unit
abbrev yQ9 : Ty:=.prod (.slice I) yQ8
abbrev rM : Ty:=.prod (.slice yQ2) .unit
abbrev AQ : Ty:=.prod I (.prod yQ5 (.prod (.slice .bool) (.prod (.slice (.slice .bool)) yQ6)))
abbrev Q1:=Int×Int×Unit
abbrev Q2:=Q1×Q1×Unit
abbrev Q3:=Int×(List Q1)×Unit
abbrev Q4:=Int×(List Q1)×(List Q1)×Int×Int×Unit
abbrev Q5:=Int×(List Q1)×(List Q1)×Int×(List Q1)×Int×Int×Unit
abbrev Q6:=Int×(List Q1)×Int×Int×Int×Int×Int×Int×(List Q1)×Int×Int×Int×Unit
abbrev Q7:=Int×(List Q1)×Int×Int×Int×Int×Int×Int×(List Q1)×Int×(List Q1)×Int×Int×(List Q1)×Int×Int×Unit
noncomputable section
def tab : Tab:=[(2,I),(3,I),(4,.bool),(5,(.int .u8)),(6,(.int .u8)),(7,(.prod I (.prod I (.prod .bool (.prod (.int .u8) .unit))))),(8,(.prod I (.prod I (.prod .bool (.prod (.int .u8) .unit))))),(9,.str),(10,.str),(11,.str),(12,(.int .u64)),(13,(.prod .str (.prod (.int .u64) .unit))),(14,(.prod .str (.prod (.int .u64) .unit))),(21,(.int .i32)),(22,(.slice yQ2)),(23,(.prod I rM)),(24,(.prod I rM)),(25,yQ5),(26,(.prod I yQ7)),(27,(.prod I yQ7)),(28,(.prod (.prod I yQ7) (.prod I yQ6))),(29,(.prod (.prod I yQ7) (.prod I yQ6))),(34,I),(39,(.slice I)),(42,(.slice .bool)),(46,(.slice yQ2)),(52,yQ2),(53,yQ2),(59,yQ2),(60,yQ2),(72,(.slice (.slice .bool))),(77,yQ7),(78,yQ7),(88,yQ4),(89,yQ4),(98,(.arr 2 I)),(120,yQ4),(121,yQ4),(143,AQ),(144,AQ),(159,yQ7),(160,yQ7),(163,(.int .u64)),(166,(.prod (.prod I yQ7) yQ9)),(167,(.prod (.prod I yQ7) yQ9)),(172,(.slice yQ9)),(174,yQ9),(175,yQ9),(181,(.slice yQ9)),(185,yQ9),(186,yQ9),(192,I),(200,(.int .u32)),(202,(.int .u64)),(218,(.int .u64)),(241,(.int .u8)),(242,(.int .u8)),(245,(.int .i32)),(246,(.int .i32))]
def eqs : List Nat:=[]
def glob : List (Nat×(Σ t : Ty,t.den)):=[(0,⟨(.arr 2 I),[16384,32768]⟩)]
theorem a8 : SeatOK Tryz.prog tab eqs:=⟨by kernel_rfl,by kernel_rfl,by kernel_rfl⟩
abbrev Fn:=FnC Tryz.prog glob
def cx (l : List Fn) : Ctx:={ tab:=tab,con:=uA l,glob:=glob,eqs:=eqs }
set_option maxRecDepth 100000
def Zi (x : Unit) : Option (Bool×Unit):=Rx.trueCon.fn x
def BB : Fn:=⟨25,Rx.trueCon,Rx.awake37 rfl⟩
def rx (x : Q4) : Option (Q4⊕((Bool×Unit)⊕(Unit⊕Empty))) :=
 let (a,b,c,d,e,_):=x; cond (ltI e d) ((cS c e).bind fun y1=>cond (ltI (fb y1.1 y1.2.1) 0) (some (.inr (.inl (false,())))) (cond (geI (maxI y1.1 y1.2.1) a) (some (.inr (.inl (false,())))) (some (.inl (a,b,c,d,(ct .i64 e 1),()))))) (some (.inr (.inr (.inl ()))))
def xn:=aL rx
def zU : Ann:=⟨sh [(1,.av (.ptr 1 0)),(20,.av (.val (.slice yQ2))),(21,.av (.val I)),(22,.av (.val I))] [(1,.box [.val I,.val (.slice yQ2)])],[(.ret,sh [(2,.av (.val .bool))] []),(.exit 0,sh [] [])],xn⟩
def Zu (x : (Q3×Unit)) : Option (Bool×Unit) :=
 let ((a,b,_),_):=x; cond (ltI a 0) (some (false,())) (cond (gtI a 64) (some (false,())) (cond (gtI (b.length : Nat) 256) (some (false,())) ((xn (a,b,b,(b.length : Nat),0,())).bind (Sum.elim (fun z2=>some (z2.1,())) (Sum.elim (fun z3=>some (true,())) (fun _=>none))))))
def BK : Fn:=mkF (cx []) [(4,zU)] 37 Tryz.f37 [(.rd,(.prod I rM))] [(.tmp 2,true,.bool)] Zu [lp 4 zU rx] a8 aH rfl
def Zv (x : (Q1×Unit)) : Option (Bool×Unit) :=
 let ((a,b,_),_):=x; cond (geI a (-268435456)) (cond (leI a 268435456) (cond (geI b (-268435456)) (some ((leI b 268435456),())) (some (false,()))) (some (false,()))) (some (false,()))
def z8 : Fn:=mkF (cx []) [] 77 Tryz.f77 [(.rd,yQ2)] [(.tmp 2,true,.bool)] Zv [] a8 aH rfl
def Ze (x : (Q1×Unit)) : Option (Bool×Unit) :=
 (Zv ((x.1.1,x.1.2.1,()),())).bind fun r1=>some ((!r1.1),())
def Bv : Fn:=mkF (cx [z8]) [] 76 Tryz.f76 [(.rd,yQ2)] [(.tmp 2,true,.bool)] Ze [] a8 aH rfl
def rn (x : ((List Q1)×Unit×Int×Int×Unit)) : Option (((List Q1)×Unit×Int×Int×Unit)⊕((Int×Unit)⊕(Unit⊕Empty))) :=
 let (a,b,c,d,_):=x; cond (ltI d c) ((cS a d).bind fun y1=>(Ze (y1,())).bind fun r2=>cond r2.1 (some (.inr (.inl (d,())))) (some (.inl (a,b,c,(ct .i64 d 1),())))) (some (.inr (.inr (.inl ()))))
def wN:=aL rn
def zt : Ann:=⟨sh [(0,.av (.val (.slice yQ2))),(1,.av (.val (.clo 76 .unit))),(7,.av (.val I)),(8,.av (.val I))] [],[(.ret,sh [(4,.av (.val I))] []),(.exit 0,sh [] [])],wN⟩
def Zb (x : ((List Q1)×Unit×Unit)) : Option (Int×Unit) :=
 (wN (x.1,x.2.1,(x.1.length : Nat),0,())).bind (Sum.elim (fun z2=>some (z2.1,())) (Sum.elim (fun z3=>some ((-1),())) (fun _=>none)))
def BI : Fn:=mkF (cx [Bv]) [(2,zt)] 117 Tryz.f117 [(.rd,(.slice yQ2)),(.rd,(.clo 76 .unit))] [(.tmp 4,true,I)] Zb [lp 2 zt rn] a8 aH rfl
def Za (x : ((List Q1)×Unit×Unit)) : Option (Bool×Unit) :=
 (Zb (x.1,x.2.1,())).bind fun r1=>some ((geI r1.1 0),())
def BC : Fn:=mkF (cx [BI]) [] 75 Tryz.f75 [(.rd,(.slice yQ2)),(.rd,(.clo 76 .unit))] [(.tmp 4,true,.bool)] Za [] a8 aH rfl
def Zx (x : (Q2×Unit)) : Option (Q2×Bool×Unit) :=
 let (((a,b,_),(c,d,_),_),_):=x; (Zv ((a,b,()),())).bind fun r1=>cond r1.1 ((Zv ((c,d,()),())).bind fun r2=>some (((a,b,()),(c,d,()),()),r2.1,())) (some (((a,b,()),(c,d,()),()),false,()))
def AR : Fn:=mkF (cx [z8]) [] 118 Tryz.f118 [(.rd,yQ4)] [(.cell 2 121,true,yQ4),(.tmp 3,true,.bool)] Zx [] a8 aH rfl
def Zr (x : (Q2×Q1×Unit)) : Option (Int×Unit) :=
 let (((a,b,_),(c,d,_),_),(e,f,_),_):=x; cond (gtI (dF .i64 (iO .i64 (dF .i64 c a) (dF .i64 f b)) (iO .i64 (dF .i64 d b) (dF .i64 e a))) 0) (some (1,())) (cond (ltI (dF .i64 (iO .i64 (dF .i64 c a) (dF .i64 f b)) (iO .i64 (dF .i64 d b) (dF .i64 e a))) 0) (some ((-1),())) (some (0,())))
def Bg : Fn:=mkF (cx []) [] 165 Tryz.f165 [(.rd,yQ4),(.rd,yQ2)] [(.tmp 4,true,I)] Zr [] a8 aH rfl
def Zq (x : (Q2×Q2×Unit)) : Option (Bool×Unit) :=
 let (((a,b,_),(c,d,_),_),((e,f,_),(g,h,_),_),_):=x; (Zr (((a,b,()),(c,d,()),()),(e,f,()),())).bind fun r1=>(Zr (((a,b,()),(c,d,()),()),(g,h,()),())).bind fun r2=>some ((ltI (iO .i64 r1.1 r2.1) 0),())
def BT : Fn:=mkF (cx [Bg]) [] 119 Tryz.f119 [(.rd,yQ4),(.rd,yQ4)] [(.tmp 4,true,.bool)] Zq [] a8 aH rfl
def Zp (x : (Q2×Q1×Unit)) : Option (Bool×Unit) :=
 let (((a,b,_),(c,d,_),_),(e,f,_),_):=x; cond (geI e (fb a c)) (cond (leI e (maxI a c)) (cond (geI f (fb b d)) (some ((leI f (maxI b d)),())) (some (false,()))) (some (false,()))) (some (false,()))
def By : Fn:=mkF (cx []) [] 166 Tryz.f166 [(.rd,yQ4),(.rd,yQ2)] [(.tmp 4,true,.bool)] Zp [] a8 aH rfl
def Zt (x : (Q2×Q1×Unit)) : Option (Bool×Unit) :=
 let (((a,b,_),(c,d,_),_),(e,f,_),_):=x; (Zp (((a,b,()),(c,d,()),()),(e,f,()),())).bind fun r1=>cond r1.1 ((Zr (((a,b,()),(c,d,()),()),(e,f,()),())).bind fun r2=>some ((eqI r2.1 0),())) (some (false,()))
def Bj : Fn:=mkF (cx [Bg,By]) [] 120 Tryz.f120 [(.rd,yQ4),(.rd,yQ2)] [(.tmp 4,true,.bool)] Zt [] a8 aH rfl
def Zw (x : (Q2×Q2×Unit)) : Option (Bool×Unit) :=
 let (((a,b,_),(c,d,_),_),((e,f,_),(g,h,_),_),_):=x; (Zx (((a,b,()),(c,d,()),()),())).bind fun r1=>(Zx (((e,f,()),(g,h,()),()),())).bind fun r2=>let t_0:=(Zt (((r1.1.1.1,r1.1.1.2.1,()),(r1.1.2.1.1,r1.1.2.1.2.1,()),()),(r2.1.1.1,r2.1.1.2.1,()),())).bind fun r5=>cond r5.1 (some (true,())) ((Zt (((r1.1.1.1,r1.1.1.2.1,()),(r1.1.2.1.1,r1.1.2.1.2.1,()),()),(r2.1.2.1.1,r2.1.2.1.2.1,()),())).bind fun r6=>cond r6.1 (some (true,())) ((Zt (((r2.1.1.1,r2.1.1.2.1,()),(r2.1.2.1.1,r2.1.2.1.2.1,()),()),(r1.1.1.1,r1.1.1.2.1,()),())).bind fun r7=>cond r7.1 (some (true,())) ((Zt (((r2.1.1.1,r2.1.1.2.1,()),(r2.1.2.1.1,r2.1.2.1.2.1,()),()),(r1.1.2.1.1,r1.1.2.1.2.1,()),())).bind fun r8=>some (r8.1,())))); cond (!r1.2.1) (some (false,())) (cond (!r2.2.1) (some (false,())) ((Zq (((r1.1.1.1,r1.1.1.2.1,()),(r1.1.2.1.1,r1.1.2.1.2.1,()),()),((r2.1.1.1,r2.1.1.2.1,()),(r2.1.2.1.1,r2.1.2.1.2.1,()),()),())).bind fun r3=>cond r3.1 ((Zq (((r2.1.1.1,r2.1.1.2.1,()),(r2.1.2.1.1,r2.1.2.1.2.1,()),()),((r1.1.1.1,r1.1.1.2.1,()),(r1.1.2.1.1,r1.1.2.1.2.1,()),()),())).bind fun r4=>cond r4.1 (some (true,())) t_0) t_0))
def BZ : Fn:=mkF (cx [AR,BT,Bj]) [] 78 Tryz.f78 [(.rd,yQ4),(.rd,yQ4)] [(.tmp 4,true,.bool)] Zw [] a8 aH rfl
def Zy (x : (Q1×Q2×Unit)) : Option (Bool×Unit) :=
 let ((a,b,_),((c,d,_),(e,f,_),_),_):=x; (Zx (((c,d,()),(e,f,()),()),())).bind fun r1=>cond r1.2.1 ((Zv ((a,b,()),())).bind fun r2=>cond r2.1 ((Zt (((r1.1.1.1,r1.1.1.2.1,()),(r1.1.2.1.1,r1.1.2.1.2.1,()),()),(a,b,()),())).bind fun r3=>some (r3.1,())) (some (false,()))) (some (false,()))
def BY : Fn:=mkF (cx [z8,AR,Bj]) [] 79 Tryz.f79 [(.rd,yQ2),(.rd,yQ4)] [(.tmp 4,true,.bool)] Zy [] a8 aH rfl
def mZ (x : Q7) : Option (Q7⊕(Q5⊕Empty)) :=
 let (a,b,c,d,e,f,g,h,i,k,l,m,n,o,p,q,_):=x; cond (ltI q p) ((cS o q).bind fun y1=>cond (neI q c) (cond (neI q d) ((Zy ((y1.1,y1.2.1,()),((e,f,()),(g,h,()),()),())).bind fun r2=>cond r2.1 (some (.inl (a,b,c,d,e,f,g,h,i,(ct .i64 k 1),l,m,n,o,p,(ct .i64 q 1),()))) (some (.inl (a,b,c,d,e,f,g,h,i,k,l,m,n,o,p,(ct .i64 q 1),())))) (some (.inl (a,b,c,d,e,f,g,h,i,k,l,m,n,o,p,(ct .i64 q 1),())))) (some (.inl (a,b,c,d,e,f,g,h,i,k,l,m,n,o,p,(ct .i64 q 1),())))) (some (.inr (.inl (a,b,i,k,l,m,n,()))))
def tH:=aL mZ
def yb : Ann:=⟨sh [(1,.av (.val (.slice yQ2))),(2,.av (.ptr 2 0)),(5,.av (.val I)),(7,.av (.ptr 7 0)),(8,.av (.ptr 8 0)),(29,.av (.val (.slice yQ2))),(30,.av (.val I)),(31,.av (.val I)),(101,.av (.val (.slice yQ2))),(102,.av (.val I)),(103,.av (.val I))] [(2,.box [.val I,.val (.slice yQ2)]),(7,.box [.val I,.val I]),(8,.box [.val I,.val I,.val I,.val I])],[(.exit 4,sh [(1,.av (.val (.slice yQ2))),(2,.av (.ptr 2 0)),(5,.av (.val I)),(29,.av (.val (.slice yQ2))),(30,.av (.val I)),(31,.av (.val I))] [(2,.box [.val I,.val (.slice yQ2)])])],tH⟩
def rX (x : Q7) : Option (Q7⊕((Int×(List Q1)×Int×Int×Int×Int×Int×Int×(List Q1)×Int×(List Q1)×Int×Int×Unit)⊕Empty)) :=
 let (a,b,c,d,e,f,g,h,i,k,l,m,n,o,p,q,_):=x; cond (ltI q p) ((cS o q).bind fun y1=>cond (neI c y1.1) (cond (neI c y1.2.1) (cond (neI d y1.1) (cond (neI d y1.2.1) ((cS i y1.1).bind fun y2=>(cS i y1.2.1).bind fun y3=>(Zw (((e,f,()),(g,h,()),()),((y2.1,y2.2.1,()),(y3.1,y3.2.1,()),()),())).bind fun r4=>cond r4.1 (some (.inl (a,b,c,d,e,f,g,h,i,(ct .i64 k 1),l,m,n,o,p,(ct .i64 q 1),()))) (some (.inl (a,b,c,d,e,f,g,h,i,k,l,m,n,o,p,(ct .i64 q 1),())))) (some (.inl (a,b,c,d,e,f,g,h,i,k,l,m,n,o,p,(ct .i64 q 1),())))) (some (.inl (a,b,c,d,e,f,g,h,i,k,l,m,n,o,p,(ct .i64 q 1),())))) (some (.inl (a,b,c,d,e,f,g,h,i,k,l,m,n,o,p,(ct .i64 q 1),())))) (some (.inl (a,b,c,d,e,f,g,h,i,k,l,m,n,o,p,(ct .i64 q 1),())))) (some (.inr (.inl (a,b,c,d,e,f,g,h,i,k,l,m,n,()))))
def wK:=aL rX
def zI : Ann:=⟨sh [(1,.av (.val (.slice yQ2))),(2,.av (.ptr 2 0)),(5,.av (.val I)),(7,.av (.ptr 7 0)),(8,.av (.ptr 8 0)),(29,.av (.val (.slice yQ2))),(30,.av (.val I)),(31,.av (.val I)),(50,.av (.val (.slice yQ2))),(51,.av (.val I)),(52,.av (.val I))] [(2,.box [.val I,.val (.slice yQ2)]),(7,.box [.val I,.val I]),(8,.box [.val I,.val I,.val I,.val I])],[(.exit 2,sh [(1,.av (.val (.slice yQ2))),(2,.av (.ptr 2 0)),(5,.av (.val I)),(7,.av (.ptr 7 0)),(8,.av (.ptr 8 0)),(29,.av (.val (.slice yQ2))),(30,.av (.val I)),(31,.av (.val I))] [(2,.box [.val I,.val (.slice yQ2)]),(7,.box [.val I,.val I]),(8,.box [.val I,.val I,.val I,.val I])])],wK⟩
def so (x : Q5) : Option (Q5⊕((Int×Unit)⊕Empty)) :=
 let (a,b,c,d,e,f,g,_):=x; cond (ltI g f) ((cS e g).bind fun y1=>(cS c y1.1).bind fun y2=>(cS c y1.2.1).bind fun y3=>(nP b 0 g).bind fun y4=>(wK (a,b,y1.1,y1.2.1,y2.1,y2.2.1,y3.1,y3.2.1,c,d,e,f,g,y4,(y4.length : Nat),0,())).bind (Sum.elim (fun (a_6,b_6,c_6,d_6,e_6,f_6,g_6,h_6,i_6,k_6,l_6,m_6,n_6,_)=>(tH (a_6,b_6,c_6,d_6,e_6,f_6,g_6,h_6,i_6,k_6,l_6,m_6,n_6,i_6,(i_6.length : Nat),0,())).bind (Sum.elim (fun (a_8,b_8,c_8,d_8,e_8,f_8,g_8,_)=>some (.inl (a_8,b_8,c_8,d_8,e_8,f_8,(ct .i64 g_8 1),()))) (fun _=>none))) (fun _=>none))) (some (.inr (.inl (d,()))))
def wh:=aL so
def zz : Ann:=⟨sh [(1,.av (.val (.slice yQ2))),(2,.av (.ptr 2 0)),(5,.av (.val I)),(29,.av (.val (.slice yQ2))),(30,.av (.val I)),(31,.av (.val I))] [(2,.box [.val I,.val (.slice yQ2)])],[(.exit 0,sh [(5,.av (.val I))] [])],wh⟩
def Zf (x : (Q3×(List Q1)×Unit)) : Option (Int×Unit) :=
 let ((a,b,_),c,_):=x; (Zu ((a,b,()),())).bind fun r1=>cond (!r1.1) (some ((-1),())) (cond (neI (c.length : Nat) a) (some ((-1),())) ((Za (c,(),())).bind fun r2=>cond r2.1 (some ((-1),())) ((wh (a,b,c,0,b,(b.length : Nat),0,())).bind (Sum.elim (fun z4=>some (z4.1,())) (fun _=>none)))))
def BD : Fn:=mkF (cx [BK,BC,BZ,BY]) [(5,zz),(9,zI),(16,yb)] 32 Tryz.f32 [(.rd,(.prod I rM)),(.rd,(.slice yQ2))] [(.tmp 4,true,I)] Zf [lp 5 zz so,lp 9 zI rX,lp 16 yb mZ] a8 aH rfl
def rG (x : (Int×(List Q1)×Int×Unit)) : Option ((Int×(List Q1)×Int×Unit)⊕((Bool×Unit)⊕(Unit⊕Empty))) :=
 let (a,b,c,_):=x; cond (ltI c (b.length : Nat)) ((cS b c).bind fun y1=>cond (ltI y1.1 0) (some (.inr (.inl (false,())))) (cond (geI y1.1 a) (some (.inr (.inl (false,())))) (cond (ltI y1.2.1 0) (some (.inr (.inl (false,())))) (cond (geI y1.2.1 a) (some (.inr (.inl (false,())))) (some (.inl (a,b,(ct .i64 c 1),()))))))) (some (.inr (.inr (.inl ()))))
def wA:=aL rG
def zw : Ann:=⟨sh [(1,.av (.ptr 1 0)),(3,.av (.val I))] [(1,.box [.val I,.val (.slice yQ2)])],[(.ret,sh [(2,.av (.val .bool))] []),(.exit 0,sh [] [])],wA⟩
def Zj (x : (Q3×Unit)) : Option (Bool×Unit) :=
 let ((a,b,_),_):=x; cond (ltI a 0) (some (false,())) (cond (gtI a 64) (some (false,())) (cond (gtI (b.length : Nat) 256) (some (false,())) ((wA (a,b,0,())).bind (Sum.elim (fun z2=>some (z2.1,())) (Sum.elim (fun z3=>some (true,())) (fun _=>none))))))
def BO : Fn:=mkF (cx []) [(4,zw)] 43 Tryz.f43 [(.rd,(.prod I rM))] [(.tmp 2,true,.bool)] Zj [lp 4 zw rG] a8 aH rfl
def Zk (x : (Q1×Unit)) : Option (Bool×Unit) :=
 let ((a,b,_),_):=x; cond (geI a (-268435456)) (cond (leI a 268435456) (cond (geI b (-268435456)) (some ((leI b 268435456),())) (some (false,()))) (some (false,()))) (some (false,()))
def yo : Fn:=mkF (cx []) [] 71 Tryz.f71 [(.rd,yQ2)] [(.tmp 2,true,.bool)] Zk [] a8 aH rfl
def Zh (x : Q2) : Option (Bool×Unit) :=
 let ((a,b,_),(c,d,_),_):=x; cond (neI a c) (cond (neI a d) (cond (neI b c) (some ((neI b d),())) (some (false,()))) (some (false,()))) (some (false,()))
def BJ : Fn:=mkF (cx []) [] 72 Tryz.f72 [(.rd,yQ2),(.rd,yQ2)] [(.tmp 4,true,.bool)] Zh [] a8 aH rfl
def Zm (x : (Q2×Unit)) : Option (Bool×Unit) :=
 let (((a,b,_),(c,d,_),_),_):=x; (Zk ((a,b,()),())).bind fun r1=>cond r1.1 ((Zk ((c,d,()),())).bind fun r2=>some (r2.1,())) (some (false,()))
def AF : Fn:=mkF (cx [yo]) [] 115 Tryz.f115 [(.rd,yQ4)] [(.tmp 2,true,.bool)] Zm [] a8 aH rfl
def Zn (x : (Int×Unit)) : Option (Int×Unit) :=
 cond (ltI x.1 0) (some ((-1),())) (cond (gtI x.1 0) (some (1,())) (some (0,())))
def BL : Fn:=mkF (cx []) [] 164 Tryz.f164 [(.rd,I)] [(.tmp 2,true,I)] Zn [] a8 aH rfl
def Zg (x : (Q1×Q1×Q1×Unit)) : Option (Int×Unit) :=
 let ((a,b,_),(c,d,_),(e,f,_),_):=x; (Zk ((a,b,()),())).bind fun r1=>cond (!r1.1) (some (0,())) ((Zk ((c,d,()),())).bind fun r2=>cond (!r2.1) (some (0,())) ((Zk ((e,f,()),())).bind fun r3=>cond (!r3.1) (some (0,())) ((Zn ((dF .i64 (iO .i64 (dF .i64 c a) (dF .i64 f b)) (iO .i64 (dF .i64 d b) (dF .i64 e a))),())).bind fun r4=>some (r4.1,()))))
def Bu : Fn:=mkF (cx [yo,BL]) [] 116 Tryz.f116 [(.rd,yQ2),(.rd,yQ2),(.rd,yQ2)] [(.tmp 6,true,I)] Zg [] a8 aH rfl
def Zl (x : (Q2×Q2×Unit)) : Option (Bool×Unit) :=
 let (((a,b,_),(c,d,_),_),((e,f,_),(g,h,_),_),_):=x; (Zm (((a,b,()),(c,d,()),()),())).bind fun r1=>cond (!r1.1) (some (false,())) ((Zm (((e,f,()),(g,h,()),()),())).bind fun r2=>cond (!r2.1) (some (false,())) ((Zg ((a,b,()),(c,d,()),(e,f,()),())).bind fun r3=>(Zg ((a,b,()),(c,d,()),(g,h,()),())).bind fun r4=>cond (ltI (iO .i64 r3.1 r4.1) 0) ((Zg ((e,f,()),(g,h,()),(a,b,()),())).bind fun r5=>(Zg ((e,f,()),(g,h,()),(c,d,()),())).bind fun r6=>some ((ltI (iO .i64 r5.1 r6.1) 0),())) (some (false,()))))
def BQ : Fn:=mkF (cx [AF,Bu]) [] 114 Tryz.f114 [(.rd,yQ4),(.rd,yQ4)] [(.tmp 4,true,.bool)] Zl [] a8 aH rfl
def Zs (x : (Q1×Q2×Unit)) : Option (Bool×Unit) :=
 let ((a,b,_),((c,d,_),(e,f,_),_),_):=x; (Zk ((a,b,()),())).bind fun r1=>cond (!r1.1) (some (false,())) ((Zm (((c,d,()),(e,f,()),()),())).bind fun r2=>cond (!r2.1) (some (false,())) ((Zg ((c,d,()),(e,f,()),(a,b,()),())).bind fun r3=>cond (neI r3.1 0) (some (false,())) (cond (geI a (fb c e)) (cond (leI a (maxI c e)) (cond (geI b (fb d f)) (some ((leI b (maxI d f)),())) (some (false,()))) (some (false,()))) (some (false,())))))
def Bc : Fn:=mkF (cx [yo,AF,Bu]) [] 74 Tryz.f74 [(.rd,yQ2),(.rd,yQ4)] [(.tmp 4,true,.bool)] Zs [] a8 aH rfl
def Zo (x : (Q2×Q2×Unit)) : Option (Bool×Unit) :=
 let (((a,b,_),(c,d,_),_),((e,f,_),(g,h,_),_),_):=x; let t_2:=(Zs ((g,h,()),((a,b,()),(c,d,()),()),())).bind fun r8=>cond r8.1 ((Zm (((e,f,()),(g,h,()),()),())).bind fun r9=>some (r9.1,())) (some (false,())); let t_1:=(Zs ((e,f,()),((a,b,()),(c,d,()),()),())).bind fun r6=>cond r6.1 ((Zm (((e,f,()),(g,h,()),()),())).bind fun r7=>cond r7.1 (some (true,())) t_2) t_2; let t_0:=(Zs ((c,d,()),((e,f,()),(g,h,()),()),())).bind fun r4=>cond r4.1 ((Zm (((a,b,()),(c,d,()),()),())).bind fun r5=>cond r5.1 (some (true,())) t_1) t_1; (Zl (((a,b,()),(c,d,()),()),((e,f,()),(g,h,()),()),())).bind fun r1=>cond r1.1 (some (true,())) ((Zs ((a,b,()),((e,f,()),(g,h,()),()),())).bind fun r2=>cond r2.1 ((Zm (((a,b,()),(c,d,()),()),())).bind fun r3=>cond r3.1 (some (true,())) t_0) t_0)
def Bx : Fn:=mkF (cx [Bc,BQ,AF]) [] 73 Tryz.f73 [(.rd,yQ4),(.rd,yQ4)] [(.tmp 4,true,.bool)] Zo [] a8 aH rfl
def nB (x : Q6) : Option (Q6⊕(Q4⊕Empty)) :=
 let (a,b,c,d,e,f,g,h,i,k,l,m,_):=x; cond (ltI m a) (cond (neI m c) (cond (neI m d) ((cS i m).bind fun y1=>(Zs (y1,((e,f,()),(g,h,()),()),())).bind fun r2=>cond r2.1 (some (.inl (a,b,c,d,e,f,g,h,i,(ct .i64 k 1),l,(ct .i64 m 1),()))) (some (.inl (a,b,c,d,e,f,g,h,i,k,l,(ct .i64 m 1),())))) (some (.inl (a,b,c,d,e,f,g,h,i,k,l,(ct .i64 m 1),())))) (some (.inl (a,b,c,d,e,f,g,h,i,k,l,(ct .i64 m 1),())))) (some (.inr (.inl (a,b,i,k,l,()))))
def sx:=aL nB
def xK : Ann:=⟨sh [(1,.av (.val (.slice yQ2))),(2,.av (.ptr 2 0)),(6,.av (.val I)),(7,.av (.val I)),(8,.av (.ptr 8 0)),(9,.av (.ptr 9 0)),(12,.av (.val I))] [(2,.box [.val I,.val (.slice yQ2)]),(8,.box [.val I,.val I]),(9,.box [.val I,.val I,.val I,.val I])],[(.exit 6,sh [(1,.av (.val (.slice yQ2))),(2,.av (.ptr 2 0)),(6,.av (.val I)),(7,.av (.val I))] [(2,.box [.val I,.val (.slice yQ2)])])],sx⟩
def nh (x : Q6) : Option (Q6⊕((Int×(List Q1)×Int×Int×Int×Int×Int×Int×(List Q1)×Int×Int×Unit)⊕Empty)) :=
 let (a,b,c,d,e,f,g,h,i,k,l,m,_):=x; cond (ltI m l) ((cS b m).bind fun y1=>(Zh ((c,d,()),(y1.1,y1.2.1,()),())).bind fun r2=>cond r2.1 ((cS i y1.1).bind fun y3=>(cS i y1.2.1).bind fun y4=>(Zo (((e,f,()),(g,h,()),()),((y3.1,y3.2.1,()),(y4.1,y4.2.1,()),()),())).bind fun r5=>cond r5.1 (some (.inl (a,b,c,d,e,f,g,h,i,(ct .i64 k 1),l,(ct .i64 m 1),()))) (some (.inl (a,b,c,d,e,f,g,h,i,k,l,(ct .i64 m 1),())))) (some (.inl (a,b,c,d,e,f,g,h,i,k,l,(ct .i64 m 1),())))) (some (.inr (.inl (a,b,c,d,e,f,g,h,i,k,l,()))))
def ta:=aL nh
def wC : Ann:=⟨sh [(1,.av (.val (.slice yQ2))),(2,.av (.ptr 2 0)),(6,.av (.val I)),(7,.av (.val I)),(8,.av (.ptr 8 0)),(9,.av (.ptr 9 0)),(10,.av (.val I))] [(2,.box [.val I,.val (.slice yQ2)]),(8,.box [.val I,.val I]),(9,.box [.val I,.val I,.val I,.val I])],[(.exit 4,sh [(1,.av (.val (.slice yQ2))),(2,.av (.ptr 2 0)),(6,.av (.val I)),(7,.av (.val I)),(8,.av (.ptr 8 0)),(9,.av (.ptr 9 0))] [(2,.box [.val I,.val (.slice yQ2)]),(8,.box [.val I,.val I]),(9,.box [.val I,.val I,.val I,.val I])])],ta⟩
def mN (x : Q4) : Option (Q4⊕((Int×Unit)⊕Empty)) :=
 let (a,b,c,d,e,_):=x; cond (ltI e (b.length : Nat)) ((cS b e).bind fun y1=>(cS c y1.1).bind fun y2=>(cS c y1.2.1).bind fun y3=>(ta (a,b,y1.1,y1.2.1,y2.1,y2.2.1,y3.1,y3.2.1,c,d,e,0,())).bind (Sum.elim (fun (a_5,b_5,c_5,d_5,e_5,f_5,g_5,h_5,i_5,k_5,l_5,_)=>(sx (a_5,b_5,c_5,d_5,e_5,f_5,g_5,h_5,i_5,k_5,l_5,0,())).bind (Sum.elim (fun z7=>some (.inl (z7.1,z7.2.1,z7.2.2.1,z7.2.2.2.1,(ct .i64 z7.2.2.2.2.1 1),()))) (fun _=>none))) (fun _=>none))) (some (.inr (.inl (d,()))))
def sM:=aL mN
def xL : Ann:=⟨sh [(1,.av (.val (.slice yQ2))),(2,.av (.ptr 2 0)),(6,.av (.val I)),(7,.av (.val I))] [(2,.box [.val I,.val (.slice yQ2)])],[(.exit 2,sh [(6,.av (.val I))] [])],sM⟩
def rf (x : (Int×(List Q1)×(List Q1)×Int×Unit)) : Option ((Int×(List Q1)×(List Q1)×Int×Unit)⊕((Int×Unit)⊕((Int×(List Q1)×(List Q1)×Unit)⊕Empty))) :=
 let (a,b,c,d,_):=x; cond (ltI d a) ((cS c d).bind fun y1=>(Zk (y1,())).bind fun r2=>cond (!r2.1) (some (.inr (.inl ((-1),())))) (some (.inl (a,b,c,(ct .i64 d 1),())))) (some (.inr (.inr (.inl (a,b,c,())))))
def t7:=aL rf
def zA : Ann:=⟨sh [(1,.av (.val (.slice yQ2))),(2,.av (.ptr 2 0)),(5,.av (.val I))] [(2,.box [.val I,.val (.slice yQ2)])],[(.ret,sh [(4,.av (.val I))] []),(.exit 0,sh [(1,.av (.val (.slice yQ2))),(2,.av (.ptr 2 0))] [(2,.box [.val I,.val (.slice yQ2)])])],t7⟩
def Zd (x : (Q3×(List Q1)×Unit)) : Option (Int×Unit) :=
 let ((a,b,_),c,_):=x; (Zj ((a,b,()),())).bind fun r1=>cond (!r1.1) (some ((-1),())) (cond (neI (c.length : Nat) a) (some ((-1),())) ((t7 (a,b,c,0,())).bind (Sum.elim (fun z3=>some (z3.1,())) (Sum.elim (fun z4=>(sM (z4.1,z4.2.1,z4.2.2.1,0,0,())).bind (Sum.elim (fun z6=>some (z6.1,())) (fun _=>none))) (fun _=>none)))))
def BX : Fn:=mkF (cx [BO,yo,BJ,Bx,Bc]) [(4,zA),(10,xL),(15,wC),(21,xK)] 31 Tryz.f31 [(.rd,(.prod I rM)),(.rd,(.slice yQ2))] [(.tmp 4,true,I)] Zd [lp 4 zA rf,lp 10 xL mN,lp 15 wC nh,lp 21 xK nB] a8 aH rfl
def Zc (x : (Q3×(List Q1)×Unit)) : Option (Bool×Unit) :=
 let ((a,b,_),c,_):=x; cond (gtI (b.length : Nat) 40) ((Zi ()).bind fun r1=>some (r1.1,())) (cond (gtI (c.length : Nat) 100) ((Zi ()).bind fun r2=>some (r2.1,())) ((Zf ((a,b,()),c,())).bind fun r3=>(Zd ((a,b,()),c,())).bind fun r4=>cond (eqI r3.1 r4.1) ((Zi ()).bind fun r5=>some (r5.1,())) (some (false,()))))
def Zc_h : Fn:=mkF (cx [BB,BX,BD]) [] 10 Tryz.f10 [(.rd,(.prod I rM)),(.rd,(.slice yQ2))] [(.tmp 4,true,.bool)] Zc [] a8 aH rfl
def Zc_c : Con:={ ins:=[(.rd,(.prod I rM)),(.rd,(.slice yQ2))],outs:=[(true,.bool)],fn:=Zc }
theorem wi : Con.Holds Tryz.prog glob 10 Zc_c:=Zc_h.ok
end
end Go.Vm

/-
 The functions that the law reaches, as functions on values, and the proofs that the machine computes them.
-/
import Derived.Test.YtgdkanecejfeiaaGreatDoorVmPack
import Derived.Test.YtgdkanecejfeiaaGreatDoorXG
import Derived.Test.YtgdkanecejfeiaaGreatDoorSA
import Derived.Test.YtgdkanecejfeiaaGreatDoorSA
import Derived.Test.YtgdkanecejfeiaaGreatDoorSA
import Derived.Test.YtgdkanecejfeiaaGreatDoorProg
import Derived.KernelRfl
open Sum renaming elim→LV
set_option linter.unusedVariables false
set_option linter.unusedSimpArgs false
namespace Go.Vm
open Go.Proofs
abbrev I:Ty:=.int .i64
abbrev yQ1:Ty:=.prod I .unit
abbrev yQ2:Ty:=.prod I yQ1
abbrev yQ3:Ty:=.prod yQ2 .unit
abbrev yQ4:Ty:=.prod yQ2 yQ3
abbrev yQ5:Ty:=.slice (.slice I)
abbrev yQ6:Ty:=.prod yQ5 .unit
abbrev yQ7:Ty:=.slice (.slice .bool)
abbrev yQ8:Ty:=.prod (.slice yQ2) yQ6
abbrev yQ9:Ty:=.prod I yQ8
abbrev LG:Ty:=.prod (.slice I) .unit
abbrev Fu:Ty:=.prod (.slice I) LG
abbrev G6:Ty:=.prod I (.prod (.slice yQ2) .unit)
abbrev Q1:=List Int×Unit
abbrev Q2:=Int×Int×Unit
abbrev Q3:=Q2×Q2×Unit
abbrev Q4:=List Int×Int×Unit
abbrev Q5:=(List (List Int))×Unit
abbrev Q6:=Int×(List Q2)×(List (List Int))×Unit
abbrev Q7:=Q6×List Int×Unit
abbrev Q8:=Int×(List Q2)×(List Q2)×Int×Int×Unit
abbrev Q9:=List Int×(List (List Int))×Int×Int×Unit
abbrev Q10:=Int×(List Q2)×(List (List Int))×Int×Unit
abbrev Q11:=Int×(List Q2)×(List (List Int))×List Int×Unit
abbrev Q12:=Int×(List Q2)×(List (List Int))×List Int×Int×Unit
abbrev Q13:=Int×(List Q2)×(List (List Int))×Int×Int×Int×Unit
abbrev Q14:=Int×(List Q2)×(List (List Int))×List Bool×List Int×Int×Unit
abbrev Q15:=Int×(List Q2)×(List (List Int))×List Bool×Int×Int×Int×Unit
abbrev Q16:=List Int×List Int×List Bool×Int×Int×Int×Int×Int×Int×Unit
abbrev Q17:=Int×(List Q2)×(List (List Int))×(List (List Bool))×List Int×Unit
abbrev Q18:=Int×(List Q2)×(List (List Int))×List Int×Int×List Int×Int×Unit
abbrev Q19:=Int×(List Q2)×(List (List Int))×List Int×List Int×Int×Int×Unit
abbrev Q20:=List Int×List Bool×(List (List Int))×List Int×Int×Int×Int×Unit
abbrev Q21:=Int×(List Q2)×(List (List Int))×List Int×List Bool×Int×Int×Unit
abbrev Q22:=Int×(List Q2)×(List (List Int))×Int×(List (List Int))×Int×Int×Unit
abbrev Q23:=(List (List Bool))×(List Q2)×(List (List Int))×List Int×Int×Int×Unit
abbrev Q24:=List Int×List Int×(List (List Int))×Int×Int×List Int×Int×Int×Unit
abbrev Q25:=Int×(List Q2)×(List (List Int))×List Int×List Bool×Int×Int×Int×Unit
abbrev Q26:=Int×(List Q2)×(List (List Int))×List Bool×List Int×Int×Int×Int×Unit
abbrev Q27:=Int×(List Q2)×(List (List Int))×(List (List Bool))×List Int×Int×Int×Unit
abbrev Q28:=Int×(List Q2)×Int×Int×Int×Int×Int×Int×(List Q2)×Int×Int×Int×Unit
abbrev Q29:=(List (List Bool))×(List Q2)×(List (List Int))×List Int×List Int×Int×Int×Unit
abbrev Q30:=Int×(List Q2)×(List (List Int))×List Bool×Int×(List (List Int))×Int×Int×Unit
abbrev Q31:=Int×(List Q2)×(List (List Int))×List Bool×List Int×Int×List Int×Int×Int×Unit
abbrev Q32:=Int×(List Q2)×(List (List Int))×(List (List Bool))×List Int×(List Q2)×Int×Int×Unit
abbrev Q33:=Int×(List Q2)×(List (List Int))×List Int×Int×List Int×Int×Int×Int×Int×Int×Unit
abbrev Q34:=Int×(List Q2)×(List (List Int))×List Int×Int×List Int×Int×Int×Int×Int×Int×Int×Unit
abbrev Q35:=Int×(List Q2)×(List (List Int))×List Bool×List Int×Int×Int×Int×List Int×Int×Int×Unit
abbrev Q36:=Int×(List Q2)×(List (List Int))×List Bool×(List (List Int))×List Int×List Int×Int×Int×Unit
abbrev Q37:=(List (List Bool))×(List Q2)×(List (List Int))×List Int×Int×Int×Int×List Int×Int×Int×Unit
abbrev Q38:=Int×(List Q2)×(List (List Int))×List Bool×Int×Int×(List (List Int))×Int×Int×List Int×Int×Int×Unit
abbrev Q39:=(List (List Bool))×(List Q2)×(List (List Int))×List Int×Int×Int×Int×List Int×Int×Int×Int×Int×Int×Int×Unit
abbrev Q40:=(List (List Bool))×(List Q2)×(List (List Int))×List Int×Int×Int×Int×Int×List Int×Int×Int×Int×Int×Int×Int×Int×Int×Int×Unit
noncomputable section
def tab:Tab:=[(2,I),(3,I),(4,.bool),(5,(.int .u8)),(6,(.int .u8)),(7,(.prod I (.prod I (.prod .bool (.prod (.int .u8) .unit))))),(8,(.prod I (.prod I (.prod .bool (.prod (.int .u8) .unit))))),(9,.str),(10,.str),(11,.str),(12,(.int .u64)),(13,(.prod .str (.prod (.int .u64) .unit))),(14,(.prod .str (.prod (.int .u64) .unit))),(21,(.int .i32)),(22,(.slice yQ2)),(23,yQ5),(24,yQ9),(25,yQ9),(26,(.slice I)),(29,(.slice yQ2)),(30,I),(36,G6),(37,G6),(38,yQ2),(39,yQ2),(40,yQ2),(41,yQ2),(43,yQ7),(44,(.slice .bool)),(49,yQ8),(50,yQ8),(64,yQ4),(65,yQ4),(106,yQ4),(107,yQ4),(120,(.prod I (.prod yQ5 (.prod (.slice .bool) (.prod yQ7 yQ6))))),(121,(.prod I (.prod yQ5 (.prod (.slice .bool) (.prod yQ7 yQ6))))),(122,yQ8),(123,yQ8),(126,(.int .u64)),(131,(.prod yQ9 Fu)),(132,(.prod yQ9 Fu)),(135,(.arr 2 I)),(142,(.slice Fu)),(144,Fu),(145,Fu),(149,I),(157,(.int .u32)),(159,(.int .u64)),(172,(.int .u64)),(196,(.int .u8)),(197,(.int .u8)),(200,(.int .i32)),(201,(.int .i32))]
def eqs:List Nat:=[39]
def maps:List (Nat×Ty×Ty):=[(137,yQ2,.bool)]
def glob:List (Nat×(Σ t:Ty,t.den)):=[(0,⟨(.arr 2 I),[16384,32768]⟩)]
theorem aq:SeatOK Tryz.prog tab eqs:=⟨by kernel_rfl,by kernel_rfl,by kernel_rfl⟩
abbrev Fn:=FnC Tryz.prog glob
def cx (l:List Fn):Ctx:={ tab:=tab,con:=Bo l,glob:=glob,eqs:=eqs }
set_option maxRecDepth 100000
def sw (x:Q10):Option (Q10⊕((Bool×Unit)⊕(Unit⊕Empty))) :=
 let (a,b,c,d,_):=x; cond (ltI d (c.length:Nat)) ((aF c d).bind fun y1=>cond (gtI (y1.length:Nat) 80) (some (.inr (.inl (false,())))) (some (.inl (a,b,c,(aA .i64 d 1),())))) (some (.inr (.inr (.inl ()))))
def AK:=aa sw
def GA:Ann:=⟨sh [(1,.av (.ptr 1 0)),(3,.av (.val I))] [(1,.box [.val I,.val (.slice yQ2),.val yQ5])],[(.ret,sh [(2,.av (.val .bool))] []),(.exit 0,sh [] [])],AK⟩
def Zad (x:(Q6×Unit)):Option (Bool×Unit) :=
 let ((a,b,c,_),_):=x; cond (gtI a 10) (some (false,())) (cond (gtI (b.length:Nat) 40) (some (false,())) (cond (gtI (c.length:Nat) 10) (some (false,())) ((AK (a,b,c,0,())).bind (LV (fun z2=>some (z2.1,())) (LV (fun z3=>some (true,())) (fun _=>none))))))
def Kp:Fn:=mkF { cx [] with maps:=maps } [(4,GA)] 5 Tryz.f5 [(.rd,yQ9)] [(.tmp 2,true,.bool)] Zad [lp 4 GA sw] aq ah rfl
def Zv (x:Unit):Option (Bool×Unit):=Rx.trueCon.fn x
def K8:Fn:=⟨6,Rx.trueCon,Rx.awake37 rfl⟩
def rY (x:Q12):Option (Q12⊕(Q1⊕Empty)) :=
 let (a,b,c,d,e,_):=x; cond (ltI e (b.length:Nat)) ((aF b e).bind fun y1=>(aF b e).bind fun y2=>(app d [y1.1,y2.2.1]).bind fun a3=>some (.inl (a,b,c,a3,(aA .i64 e 1),()))) (some (.inr (.inl (d,()))))
def zf:=aa rY
def D2:Ann:=⟨sh [(1,.av (.ptr 1 0)),(3,.av (.own 3)),(4,.av (.val I))] [(1,.box [.val I,.val (.slice yQ2),.val yQ5]),(3,.arr I)],[(.exit 0,sh [(3,.av (.own 3))] [(3,.arr I)])],zf⟩
def Zaa (x:(Q6×Unit)):Option Q1 :=
 (zf (x.1.1,x.1.2.1,x.1.2.2.1,[],0,())).bind (LV (fun z2=>some (z2.1,())) (fun _=>none))
def HZ:Fn:=mkF { cx [] with maps:=maps } [(3,D2)] 90 Tryz.f90 [(.rd,yQ9)] [(.tmp 2,true,(.slice I))] Zaa [lp 3 D2 rY] aq ah rfl
def sm (x:Q25):Option (Q25⊕((Bool×Unit)⊕(Q21⊕Empty))) :=
 let (a,b,c,d,e,f,g,h,_):=x; (aF c g).bind fun y1=>cond (ltI h (y1.length:Nat)) ((aF c g).bind fun y2=>(aF y2 h).bind fun y3=>cond (ltI y3 0) (some (.inr (.inl (false,())))) (cond (geI y3 (d.length:Nat)) (some (.inr (.inl (false,())))) ((aO e.length y3).bind fun j4=>(e[j4]?).bind fun y5=>cond y5 (some (.inr (.inl (false,())))) ((aO d.length y3).bind fun j6=>(d[j6]?).bind fun y7=>cond (neI y7 g) (some (.inr (.inl (false,())))) ((aO e.length y3).bind fun j8=>(e[j8]?).bind fun y9=>some (.inl (a,b,c,d,(e.set j8 true),(aA .i64 f 1),g,(aA .i64 h 1),()))))))) (some (.inr (.inr (.inl (a,b,c,d,e,f,g,())))))
def zp:=aa sm
def FC:Ann:=⟨sh [(1,.av (.ptr 1 0)),(5,.av (.own 5)),(6,.av (.own 6)),(7,.av (.val I)),(8,.av (.val I)),(9,.av (.val I))] [(1,.box [.val I,.val (.slice yQ2),.val yQ5]),(5,.arr I),(6,.arr .bool)],[(.ret,sh [(2,.av (.val .bool))] []),(.exit 4,sh [(1,.av (.ptr 1 0)),(5,.av (.own 5)),(6,.av (.own 6)),(7,.av (.val I)),(8,.av (.val I))] [(1,.box [.val I,.val (.slice yQ2),.val yQ5]),(5,.arr I),(6,.arr .bool)])],zp⟩
def rj (x:Q21):Option (Q21⊕((Bool×Unit)⊕(Q4⊕Empty))) :=
 let (a,b,c,d,e,f,g,_):=x; cond (ltI g a) ((zp (a,b,c,d,e,f,g,0,())).bind (LV (fun z2=>some (.inr (.inl (z2.1,())))) (LV (fun (a_3,b_3,c_3,d_3,e_3,f_3,g_3,_)=>some (.inl (a_3,b_3,c_3,d_3,e_3,f_3,(aA .i64 g_3 1),()))) (fun _=>none)))) (some (.inr (.inr (.inl (d,f,())))))
def yM:=aa rj
def EK:Ann:=⟨sh [(1,.av (.ptr 1 0)),(5,.av (.own 5)),(6,.av (.own 6)),(7,.av (.val I)),(8,.av (.val I))] [(1,.box [.val I,.val (.slice yQ2),.val yQ5]),(5,.arr I),(6,.arr .bool)],[(.ret,sh [(2,.av (.val .bool))] []),(.exit 2,sh [(5,.av (.own 5)),(7,.av (.val I))] [(5,.arr I)])],yM⟩
def xE (x:Q10):Option (Q10⊕((Bool×Unit)⊕(Q6⊕Empty))) :=
 let (a,b,c,d,_):=x; cond (ltI d (b.length:Nat)) ((aF b d).bind fun y1=>cond (ltI y1.1 0) (some (.inr (.inl (false,())))) (cond (geI y1.1 a) (some (.inr (.inl (false,())))) (cond (ltI y1.2.1 0) (some (.inr (.inl (false,())))) (cond (geI y1.2.1 a) (some (.inr (.inl (false,())))) (cond (eqI y1.1 y1.2.1) (some (.inr (.inl (false,())))) (some (.inl (a,b,c,(aA .i64 d 1),())))))))) (some (.inr (.inr (.inl (a,b,c,())))))
def E1:=aa xE
def Ie:Ann:=⟨sh [(1,.av (.ptr 1 0)),(3,.av (.val I))] [(1,.box [.val I,.val (.slice yQ2),.val yQ5])],[(.ret,sh [(2,.av (.val .bool))] []),(.exit 0,sh [(1,.av (.ptr 1 0))] [(1,.box [.val I,.val (.slice yQ2),.val yQ5])])],E1⟩
def Zx (x:(Q6×Unit)):Option (Bool×Unit) :=
 let ((a,b,c,_),_):=x; cond (ltI a 0) (some (false,())) (cond (gtI a 16384) (some (false,())) (cond (gtI (b.length:Nat) 32768) (some (false,())) (cond (neI (c.length:Nat) a) (some (false,())) ((E1 (a,b,c,0,())).bind (LV (fun z2=>some (z2.1,())) (LV (fun (a_3,b_3,c_3,_)=>(Zaa ((a_3,b_3,c_3,()),())).bind fun r4=>(eD .bool (r4.1.length:Nat) (r4.1.length:Nat)).bind fun m5=>(yM (a_3,b_3,c_3,r4.1,m5,0,0,())).bind (LV (fun z7=>some (z7.1,())) (LV (fun z8=>some ((eqI z8.2.1 (z8.1.length:Nat)),())) (fun _=>none)))) (fun _=>none)))))))
def Hn:Fn:=mkF { cx [HZ] with maps:=maps } [(4,Ie),(13,EK),(16,FC)] 54 Tryz.f54 [(.rd,yQ9)] [(.tmp 2,true,.bool)] Zx [lp 4 Ie xE,lp 13 EK rj,lp 16 FC sm] aq ah rfl
def yl (x:Q18):Option (Q18⊕(Q12⊕Empty)) :=
 let (a,b,c,d,e,f,g,_):=x; cond (ltI g (f.length:Nat)) ((aF f g).bind fun y1=>cond (eqI (f.length:Nat) 0) none ((aF f (kB (aA .i64 g 1) (f.length:Nat))).bind fun y2=>(aO d.length y1).bind fun j3=>(d[j3]?).bind fun y4=>some (.inl (a,b,c,(d.set j3 y2),e,f,(aA .i64 g 1),())))) (some (.inr (.inl (a,b,c,d,e,()))))
def D0:=aa yl
def Ih:Ann:=⟨sh [(1,.av (.ptr 1 0)),(3,.av (.own 3)),(4,.av (.val I)),(5,.av (.val (.slice I))),(6,.av (.val I))] [(1,.box [.val I,.val (.slice yQ2),.val yQ5]),(3,.arr I)],[(.exit 2,sh [(1,.av (.ptr 1 0)),(3,.av (.own 3)),(4,.av (.val I))] [(1,.box [.val I,.val (.slice yQ2),.val yQ5]),(3,.arr I)])],D0⟩
def wg (x:Q12):Option (Q12⊕(Q1⊕Empty)) :=
 let (a,b,c,d,e,_):=x; cond (ltI e a) ((aF c e).bind fun y1=>(D0 (a,b,c,d,e,y1,0,())).bind (LV (fun z3=>some (.inl (z3.1,z3.2.1,z3.2.2.1,z3.2.2.2.1,(aA .i64 z3.2.2.2.2.1 1),()))) (fun _=>none))) (some (.inr (.inl (d,()))))
def A9:=aa wg
def Iy:Ann:=⟨sh [(1,.av (.ptr 1 0)),(3,.av (.own 3)),(4,.av (.val I))] [(1,.box [.val I,.val (.slice yQ2),.val yQ5]),(3,.arr I)],[(.exit 0,sh [(3,.av (.own 3))] [(3,.arr I)])],A9⟩
def Zm (x:(Q6×Unit)):Option Q1 :=
 let ((a,b,c,_),_):=x; (eD I (dM .i64 2 (b.length:Nat)) (dM .i64 2 (b.length:Nat))).bind fun m1=>(A9 (a,b,c,m1,0,())).bind (LV (fun z3=>some (z3.1,())) (fun _=>none))
def Ki:Fn:=mkF { cx [] with maps:=maps } [(3,Iy),(7,Ih)] 55 Tryz.f55 [(.rd,yQ9)] [(.tmp 2,true,(.slice I))] Zm [lp 3 Iy wg,lp 7 Ih yl] aq ah rfl
def Zu (x:(Int×Unit)):Option (Int×Unit) :=
 cond (eqI (kB x.1 2) 0) (some ((aA .i64 x.1 1),())) (some ((bF .i64 x.1 1),()))
def Kt:Fn:=mkF { cx [] with maps:=maps } [] 56 Tryz.f56 [(.rd,I)] [(.tmp 2,true,I)] Zu [] aq ah rfl
def qO (x:((List (List Int))×List Int×List Bool×List Int×Int×Int×Unit)):Option (((List (List Int))×List Int×List Bool×List Int×Int×Int×Unit)⊕(((List (List Int))×List Int×List Bool×List Int×Int×Unit)⊕Empty)) :=
 let (a,b,c,d,e,f,_):=x; (aO c.length f).bind fun j1=>(c[j1]?).bind fun y2=>cond (!y2) ((aO c.length f).bind fun j3=>(c[j3]?).bind fun y4=>(app d [f]).bind fun a5=>(Zu (f,())).bind fun r6=>(aO b.length r6.1).bind fun j7=>(b[j7]?).bind fun y8=>some (.inl (a,b,(c.set j3 true),a5,e,y8,()))) (some (.inr (.inl (a,b,c,d,e,()))))
def AB:=aa qO
def D3:Ann:=⟨sh [(3,.av (.own 3)),(4,.av (.own 4)),(5,.av (.own 5)),(6,.av (.val I)),(7,.av (.own 7)),(8,.av (.val I))] [(3,.arr (.slice I)),(4,.arr I),(5,.arr .bool),(7,.arr I)],[(.exit 2,sh [(3,.av (.own 3)),(4,.av (.own 4)),(5,.av (.own 5)),(6,.av (.val I)),(7,.av (.own 7))] [(3,.arr (.slice I)),(4,.arr I),(5,.arr .bool),(7,.arr I)])],AB⟩
def yn (x:((List (List Int))×List Int×List Bool×Int×Unit)):Option (((List (List Int))×List Int×List Bool×Int×Unit)⊕(Q5⊕Empty)) :=
 let (a,b,c,d,_):=x; cond (ltI d (b.length:Nat)) ((aO c.length d).bind fun j1=>(c[j1]?).bind fun y2=>cond y2 (some (.inl (a,b,c,(aA .i64 d 1),()))) ((AB (a,b,c,[],d,d,())).bind (LV (fun z4=>(app z4.1 [z4.2.2.2.1]).bind fun a5=>some (.inl (a5,z4.2.1,z4.2.2.1,(aA .i64 z4.2.2.2.2.1 1),()))) (fun _=>none)))) (some (.inr (.inl (a,()))))
def Fj:=aa yn
def Ij:Ann:=⟨sh [(3,.av (.own 3)),(4,.av (.own 4)),(5,.av (.own 5)),(6,.av (.val I))] [(3,.arr (.slice I)),(4,.arr I),(5,.arr .bool)],[(.exit 0,sh [(3,.av (.own 3))] [(3,.arr (.slice I))])],Fj⟩
def Zz (x:(Q6×Unit)):Option Q5 :=
 let ((a,b,c,_),_):=x; (Zx ((a,b,c,()),())).bind fun r1=>cond (!r1.1) (some ([],())) ((Zm ((a,b,c,()),())).bind fun r2=>(eD .bool (r2.1.length:Nat) (r2.1.length:Nat)).bind fun m3=>(Fj ([],r2.1,m3,0,())).bind (LV (fun z5=>some (z5.1,())) (fun _=>none)))
def JG:Fn:=mkF { cx [Hn,Ki,Kt] with maps:=maps } [(7,Ij),(12,D3)] 24 Tryz.f24 [(.rd,yQ9)] [(.tmp 2,true,yQ5)] Zz [lp 7 Ij yn,lp 12 D3 qO] aq ah rfl
def qD (x:Q4):Option (Q4⊕((Int×Unit)⊕Empty)) :=
 let (a,b,_):=x; (aF a b).bind fun y1=>cond (neI y1 b) ((aF a b).bind fun y2=>some (.inl (a,y2,()))) (some (.inr (.inl (b,()))))
def zn:=aa qD
def E9:Ann:=⟨sh [(0,.av (.val (.slice I))),(1,.av (.val I))] [],[(.exit 0,sh [(1,.av (.val I))] [])],zn⟩
def Zaf (x:Q4):Option (Int×Unit) :=
 (zn (x.1,x.2.1,())).bind (LV (fun z2=>some (z2.1,())) (fun _=>none))
def Kk:Fn:=mkF { cx [] with maps:=maps } [(1,E9)] 88 Tryz.f88 [(.rd,(.slice I)),(.rd,I)] [(.tmp 4,true,I)] Zaf [lp 1 E9 qD] aq ah rfl
def xV (x:(Int×(List Q2)×(List (List Int))×List Int×Int×Int×Unit)):Option ((Int×(List Q2)×(List (List Int))×List Int×Int×Int×Unit)⊕((Int×Unit)⊕Empty)) :=
 let (a,b,c,d,e,f,_):=x; cond (ltI f (b.length:Nat)) ((aF b f).bind fun y1=>(Zaf (d,y1.1,())).bind fun r2=>(aF b f).bind fun y3=>(Zaf (d,y3.2.1,())).bind fun r4=>cond (neI r2.1 r4.1) ((aO d.length (maxI r2.1 r4.1)).bind fun j5=>(d[j5]?).bind fun y6=>some (.inl (a,b,c,(d.set j5 (eR r2.1 r4.1)),(bF .i64 e 1),(aA .i64 f 1),()))) (some (.inl (a,b,c,d,e,(aA .i64 f 1),())))) (some (.inr (.inl (e,()))))
def Gj:=aa xV
def Iw:Ann:=⟨sh [(1,.av (.ptr 1 0)),(3,.av (.own 3)),(5,.av (.val I)),(6,.av (.val I))] [(1,.box [.val I,.val (.slice yQ2),.val yQ5]),(3,.arr I)],[(.exit 2,sh [(5,.av (.val I))] [])],Gj⟩
def pd (x:Q12):Option (Q12⊕(Q11⊕Empty)) :=
 let (a,b,c,d,e,_):=x; cond (ltI e a) ((app d [e]).bind fun a1=>some (.inl (a,b,c,a1,(aA .i64 e 1),()))) (some (.inr (.inl (a,b,c,d,()))))
def t7:=aa pd
def IH:Ann:=⟨sh [(1,.av (.ptr 1 0)),(3,.av (.own 3)),(4,.av (.val I))] [(1,.box [.val I,.val (.slice yQ2),.val yQ5]),(3,.arr I)],[(.exit 0,sh [(1,.av (.ptr 1 0)),(3,.av (.own 3))] [(1,.box [.val I,.val (.slice yQ2),.val yQ5]),(3,.arr I)])],t7⟩
def Ze (x:(Q6×Unit)):Option (Int×Unit) :=
 (t7 (x.1.1,x.1.2.1,x.1.2.2.1,[],0,())).bind (LV (fun z2=>(Gj (z2.1,z2.2.1,z2.2.2.1,z2.2.2.2.1,z2.1,0,())).bind (LV (fun z4=>some (z4.1,())) (fun _=>none))) (fun _=>none))
def JQ:Fn:=mkF { cx [Kk] with maps:=maps } [(3,IH),(8,Iw)] 52 Tryz.f52 [(.rd,yQ9)] [(.tmp 2,true,I)] Ze [lp 3 IH pd,lp 8 Iw xV] aq ah rfl
def yB (x:(Int×(List Q2)×(List (List Int))×Int×Int×Unit)):Option ((Int×(List Q2)×(List (List Int))×Int×Int×Unit)⊕(Q10⊕Empty)) :=
 let (a,b,c,d,e,_):=x; cond (ltI e a) ((aF c e).bind fun y1=>cond (eqI (y1.length:Nat) 0) (some (.inl (a,b,c,(aA .i64 d 1),(aA .i64 e 1),()))) (some (.inl (a,b,c,d,(aA .i64 e 1),())))) (some (.inr (.inl (a,b,c,d,()))))
def Gv:=aa yB
def Ig:Ann:=⟨sh [(1,.av (.ptr 1 0)),(3,.av (.val I)),(4,.av (.val I))] [(1,.box [.val I,.val (.slice yQ2),.val yQ5])],[(.exit 0,sh [(1,.av (.ptr 1 0)),(3,.av (.val I))] [(1,.box [.val I,.val (.slice yQ2),.val yQ5])])],Gv⟩
def Zw (x:(Q6×Unit)):Option (Int×Unit) :=
 let ((a,b,c,_),_):=x; (Zx ((a,b,c,()),())).bind fun r1=>cond (!r1.1) (some ((-1),())) ((Zz ((a,b,c,()),())).bind fun r2=>(Gv (a,b,c,(r2.1.length:Nat),0,())).bind (LV (fun z4=>(Ze ((z4.1,z4.2.1,z4.2.2.1,()),())).bind fun r5=>some ((bF .i64 r5.1 (iB .i64 (aA .i64 (bF .i64 z4.1 (z4.2.1.length:Nat)) z4.2.2.2.1) 2)),())) (fun _=>none)))
def Lm:Fn:=mkF { cx [JG,JQ,Hn] with maps:=maps } [(5,Ig)] 51 Tryz.f51 [(.rd,yQ9)] [(.tmp 2,true,I)] Zw [lp 5 Ig yB] aq ah rfl
def wN (x:Q13):Option (Q13⊕((Bool×Unit)⊕(Unit⊕Empty))) :=
 let (a,b,c,d,e,f,_):=x; cond (ltI f (b.length:Nat)) ((aF b f).bind fun y1=>let t_0:=cond (eqI y1.1 e) (cond (eqI y1.2.1 d) (some (.inr (.inl (true,())))) (some (.inl (a,b,c,d,e,(aA .i64 f 1),())))) (some (.inl (a,b,c,d,e,(aA .i64 f 1),()))); cond (eqI y1.1 d) (cond (eqI y1.2.1 e) (some (.inr (.inl (true,())))) t_0) t_0) (some (.inr (.inr (.inl ()))))
def Fo:=aa wN
def H6:Ann:=⟨sh [(1,.av (.val I)),(2,.av (.val I)),(3,.av (.ptr 3 0)),(7,.av (.val I))] [(3,.box [.val I,.val (.slice yQ2),.val yQ5])],[(.ret,sh [(6,.av (.val .bool))] []),(.exit 0,sh [] [])],Fo⟩
def Zo (x:(Q6×Int×Int×Unit)):Option (Bool×Unit) :=
 let ((a,b,c,_),d,e,_):=x; (Fo (a,b,c,d,e,0,())).bind (LV (fun z2=>some (z2.1,())) (LV (fun z3=>some (false,())) (fun _=>none)))
def K9:Fn:=mkF { cx [] with maps:=maps } [(2,H6)] 89 Tryz.f89 [(.rd,yQ9),(.rd,I),(.rd,I)] [(.tmp 6,true,.bool)] Zo [lp 2 H6 wN] aq ah rfl
def x6 (x:Q10):Option (Q10⊕((Bool×Unit)⊕(Unit⊕Empty))) :=
 let (a,b,c,d,_):=x; cond (ltI d (b.length:Nat)) ((co b 0 d).bind fun y1=>(aF b d).bind fun y2=>(aF b d).bind fun y3=>(Zo ((a,y1,c,()),y2.1,y3.2.1,())).bind fun r4=>cond r4.1 (some (.inr (.inl (false,())))) (some (.inl (a,b,c,(aA .i64 d 1),())))) (some (.inr (.inr (.inl ()))))
def Fw:=aa x6
def HW:Ann:=⟨sh [(1,.av (.ptr 1 0)),(3,.av (.val I))] [(1,.box [.val I,.val (.slice yQ2),.val yQ5])],[(.ret,sh [(2,.av (.val .bool))] []),(.exit 0,sh [] [])],Fw⟩
def Zk (x:(Q6×Unit)):Option (Bool×Unit) :=
 (Fw (x.1.1,x.1.2.1,x.1.2.2.1,0,())).bind (LV (fun z2=>some (z2.1,())) (LV (fun z3=>some (true,())) (fun _=>none)))
def LE:Fn:=mkF { cx [K9] with maps:=maps } [(2,HW)] 53 Tryz.f53 [(.rd,yQ9)] [(.tmp 2,true,.bool)] Zk [lp 2 HW x6] aq ah rfl
def Zab (x:(Q6×Unit)):Option (Int×Unit) :=
 let ((a,b,c,_),_):=x; (Zw ((a,b,c,()),())).bind fun r1=>cond (neI r1.1 0) (some (13,())) ((Ze ((a,b,c,()),())).bind fun r2=>cond (neI r2.1 1) (some (12,())) ((Zk ((a,b,c,()),())).bind fun r3=>cond (!r3.1) (some (6,())) (cond (ltI a 3) (some (1,())) (some (0,())))))
def JL:Fn:=mkF { cx [Lm,JQ,LE] with maps:=maps } [] 23 Tryz.f23 [(.rd,yQ9)] [(.tmp 2,true,I)] Zab [] aq ah rfl
def ym (x:((List (List Int))×Int×Unit)):Option (((List (List Int))×Int×Unit)⊕((Bool×Unit)⊕(Unit⊕Empty))) :=
 let (a,b,_):=x; cond (ltI b (a.length:Nat)) ((aO a.length b).bind fun j1=>(a[j1]?).bind fun y2=>cond (neI (y2.length:Nat) 3) (some (.inr (.inl (false,())))) (some (.inl (a,(aA .i64 b 1),())))) (some (.inr (.inr (.inl ()))))
def Eg:=aa ym
def HQ:Ann:=⟨sh [(3,.av (.own 3)),(4,.av (.val I))] [(3,.arr (.slice I))],[(.ret,sh [(2,.av (.val .bool))] []),(.exit 0,sh [] [])],Eg⟩
def Zc (x:(Q6×Unit)):Option (Bool×Unit) :=
 let ((a,b,c,_),_):=x; (Zab ((a,b,c,()),())).bind fun r1=>cond (neI r1.1 0) (some (false,())) ((Zz ((a,b,c,()),())).bind fun r2=>(Eg (r2.1,0,())).bind (LV (fun z4=>some (z4.1,())) (LV (fun z5=>some (true,())) (fun _=>none))))
def KI:Fn:=mkF { cx [JL,JG] with maps:=maps } [(5,HQ)] 10 Tryz.f10 [(.rd,yQ9)] [(.tmp 2,true,.bool)] Zc [lp 5 HQ ym] aq ah rfl
def qS (x:(List Int×Int×Int×Unit)):Option ((List Int×Int×Int×Unit)⊕((Bool×Unit)⊕(Unit⊕Empty))) :=
 let (a,b,c,_):=x; cond (ltI c (a.length:Nat)) ((aF a c).bind fun y1=>cond (eqI y1 b) (some (.inr (.inl (true,())))) (some (.inl (a,b,(aA .i64 c 1),())))) (some (.inr (.inr (.inl ()))))
def zZ:=aa qS
def Gx:Ann:=⟨sh [(0,.av (.val (.slice I))),(1,.av (.val I)),(5,.av (.val I))] [],[(.ret,sh [(4,.av (.val .bool))] []),(.exit 0,sh [] [])],zZ⟩
def Zap (x:Q4):Option (Bool×Unit) :=
 (zZ (x.1,x.2.1,0,())).bind (LV (fun z2=>some (z2.1,())) (LV (fun z3=>some (false,())) (fun _=>none)))
def Kx:Fn:=mkF { cx [] with maps:=maps } [(2,Gx)] 25 Tryz.f25 [(.rd,(.slice I)),(.rd,I)] [(.tmp 4,true,.bool)] Zap [lp 2 Gx qS] aq ah rfl
def Zak (x:(Q6×Int×Unit)):Option (Int×Unit) :=
 let ((a,b,c,_),d,_):=x; (Zx ((a,b,c,()),())).bind fun r1=>cond (!r1.1) (some ((-1),())) (cond (ltI d 0) (some ((-1),())) (cond (geI d (dM .i64 2 (b.length:Nat))) (some ((-1),())) ((Zm ((a,b,c,()),())).bind fun r2=>(Zu (d,())).bind fun r3=>(aO r2.1.length r3.1).bind fun j4=>(r2.1[j4]?).bind fun y5=>some (y5,()))))
def Ka:Fn:=mkF { cx [Hn,Ki,Kt] with maps:=maps } [] 57 Tryz.f57 [(.rd,yQ9),(.rd,I)] [(.tmp 4,true,I)] Zak [] aq ah rfl
def Zao (x:(Q6×Int×Unit)):Option (Int×Unit) :=
 let ((a,b,c,_),d,_):=x; (Zx ((a,b,c,()),())).bind fun r1=>cond (!r1.1) (some ((-1),())) (cond (ltI d 0) (some ((-1),())) (cond (geI d (dM .i64 2 (b.length:Nat))) (some ((-1),())) ((Zaa ((a,b,c,()),())).bind fun r2=>(aO r2.1.length d).bind fun j3=>(r2.1[j3]?).bind fun y4=>some (y4,()))))
def Kl:Fn:=mkF { cx [Hn,HZ] with maps:=maps } [] 58 Tryz.f58 [(.rd,yQ9),(.rd,I)] [(.tmp 4,true,I)] Zao [] aq ah rfl
def Zag (x:(Q6×Unit)):Option (Int×Int×Int×Unit) :=
 let ((a,b,c,_),_):=x; (Zak ((a,b,c,()),0,())).bind fun r1=>(Zao ((a,b,c,()),0,())).bind fun r2=>(Zao ((a,b,c,()),1,())).bind fun r3=>(Zao ((a,b,c,()),(sP .i64 r1.1 1),())).bind fun r4=>some (r2.1,r3.1,r4.1,())
def KD:Fn:=mkF { cx [Ka,Kl] with maps:=maps } [] 26 Tryz.f26 [(.rd,yQ9)] [(.tmp 2,true,I),(.tmp 3,true,I),(.tmp 4,true,I)] Zag [] aq ah rfl
def wq (x:Q13):Option (Q13⊕((Bool×Unit)⊕(Unit⊕Empty))) :=
 let (a,b,c,d,e,f,_):=x; let t_0:=(aF b f).bind fun y3=>cond (eqI y3.1 e) ((aF b f).bind fun y4=>cond (eqI y4.2.1 d) (some (.inr (.inl (true,())))) (some (.inl (a,b,c,d,e,(aA .i64 f 1),())))) (some (.inl (a,b,c,d,e,(aA .i64 f 1),()))); cond (ltI f (b.length:Nat)) ((aF b f).bind fun y1=>cond (eqI y1.1 d) ((aF b f).bind fun y2=>cond (eqI y2.2.1 e) (some (.inr (.inl (true,())))) t_0) t_0) (some (.inr (.inr (.inl ()))))
def Fv:=aa wq
def Ip:Ann:=⟨sh [(1,.av (.val I)),(2,.av (.val I)),(3,.av (.ptr 3 0)),(7,.av (.val I))] [(3,.box [.val I,.val (.slice yQ2),.val yQ5])],[(.ret,sh [(6,.av (.val .bool))] []),(.exit 0,sh [] [])],Fv⟩
def Zj (x:(Q6×Int×Int×Unit)):Option (Bool×Unit) :=
 let ((a,b,c,_),d,e,_):=x; (Fv (a,b,c,d,e,0,())).bind (LV (fun z2=>some (z2.1,())) (LV (fun z3=>some (false,())) (fun _=>none)))
def LB:Fn:=mkF { cx [] with maps:=maps } [(2,Ip)] 91 Tryz.f91 [(.rd,yQ9),(.rd,I),(.rd,I)] [(.tmp 6,true,.bool)] Zj [lp 2 Ip wq] aq ah rfl
def mT (x:Q34):Option (Q34⊕((List Int×Int×Int×Int×Int×Int×Unit)⊕Empty)) :=
 let (a,b,c,d,e,f,g,h,i,k,l,m,_):=x; cond (ltI m e) ((aF d m).bind fun y1=>(Zj ((a,b,c,()),y1,g,())).bind fun r2=>cond r2.1 (some (.inl (a,b,c,d,e,f,g,h,i,k,(aA .i64 l 1),(aA .i64 m 1),()))) (some (.inl (a,b,c,d,e,f,g,h,i,k,l,(aA .i64 m 1),())))) (some (.inr (.inl (f,g,h,i,k,l,()))))
def uM:=aa mT
def Cg:Ann:=⟨sh [(1,.av (.val (.slice I))),(2,.av (.val I)),(3,.av (.val (.slice I))),(4,.av (.ptr 4 0)),(10,.av (.val I)),(11,.av (.val I)),(12,.av (.val I)),(13,.av (.val I)),(15,.av (.val I)),(16,.av (.val I))] [(4,.box [.val I,.val (.slice yQ2),.val yQ5])],[(.exit 2,sh [(3,.av (.val (.slice I))),(10,.av (.val I)),(11,.av (.val I)),(12,.av (.val I)),(13,.av (.val I)),(15,.av (.val I))] [])],uM⟩
def qV (x:Q33):Option (Q33⊕((Int×(List Q2)×(List (List Int))×List Int×Int×List Int×Int×Int×Int×Int×Unit)⊕Empty)) :=
 let (a,b,c,d,e,f,g,h,i,k,l,_):=x; cond (ltI l (f.length:Nat)) ((aF f l).bind fun y1=>(Zj ((a,b,c,()),y1,g,())).bind fun r2=>cond r2.1 (cond (ltI h 0) (some (.inl (a,b,c,d,e,f,g,l,l,(aA .i64 k 1),(aA .i64 l 1),()))) (some (.inl (a,b,c,d,e,f,g,h,l,(aA .i64 k 1),(aA .i64 l 1),())))) (some (.inl (a,b,c,d,e,f,g,h,i,k,(aA .i64 l 1),())))) (some (.inr (.inl (a,b,c,d,e,f,g,h,i,k,()))))
def AR:=aa qV
def EP:Ann:=⟨sh [(1,.av (.val (.slice I))),(2,.av (.val I)),(3,.av (.val (.slice I))),(4,.av (.ptr 4 0)),(10,.av (.val I)),(11,.av (.val I)),(12,.av (.val I)),(13,.av (.val I)),(14,.av (.val I))] [(4,.box [.val I,.val (.slice yQ2),.val yQ5])],[(.exit 0,sh [(1,.av (.val (.slice I))),(2,.av (.val I)),(3,.av (.val (.slice I))),(4,.av (.ptr 4 0)),(10,.av (.val I)),(11,.av (.val I)),(12,.av (.val I)),(13,.av (.val I))] [(4,.box [.val I,.val (.slice yQ2),.val yQ5])])],AR⟩
def Zan (x:(Q6×List Int×Int×List Int×Unit)):Option (List Int×Bool×Unit) :=
 let ((a,b,c,_),d,e,f,_):=x; (aF d e).bind fun y1=>(AR (a,b,c,d,e,f,y1,(-1),(-1),0,0,())).bind (LV (fun (a_3,b_3,c_3,d_3,e_3,f_3,g_3,h_3,i_3,k_3,_)=>(uM (a_3,b_3,c_3,d_3,e_3,f_3,g_3,h_3,i_3,k_3,0,0,())).bind (LV (fun (a_5,b_5,c_5,d_5,e_5,f_5,_)=>cond (ltI e_5 2) (some ([],false,())) (cond (neI f_5 e_5) (some ([],false,())) (cond (neI (aA .i64 (bF .i64 d_5 c_5) 1) e_5) (some ([],false,())) ((co a_5 0 (aA .i64 c_5 1)).bind fun y6=>(app [] y6).bind fun a7=>(app a7 [b_5]).bind fun a8=>(co a_5 d_5 (a_5.length:Nat)).bind fun y9=>(app a8 y9).bind fun a10=>some (a10,true,()))))) (fun _=>none))) (fun _=>none))
def JU:Fn:=mkF { cx [LB] with maps:=maps } [(4,EP),(13,Cg)] 59 Tryz.f59 [(.rd,yQ9),(.rd,(.slice I)),(.rd,I),(.rd,(.slice I))] [(.tmp 8,true,(.slice I)),(.tmp 9,true,.bool)] Zan [lp 4 EP qV,lp 13 Cg mT] aq ah rfl
def wV (x:Q19):Option (Q19⊕((Bool×Unit)⊕(Q1⊕Empty))) :=
 let (a,b,c,d,e,f,g,_):=x; cond (ltI g f) ((Zan ((a,b,c,()),e,g,d,())).bind fun r1=>cond (!r1.2.1) (some (.inr (.inl (false,())))) (some (.inl (a,b,c,r1.1,e,f,(aA .i64 g 1),())))) (some (.inr (.inr (.inl (d,())))))
def FO:=aa wV
def Iz:Ann:=⟨sh [(1,.av (.val (.slice I))),(2,.av (.val I)),(3,.av (.ptr 3 0)),(8,.av (.own 8)),(9,.av (.val I))] [(3,.box [.val I,.val (.slice yQ2),.val yQ5]),(8,.arr I)],[(.ret,sh [(6,.av (.nils)),(7,.av (.val .bool))] []),(.exit 0,sh [(8,.av (.own 8))] [(8,.arr I)])],FO⟩
def Zh (x:(Q6×List Int×Int×Unit)):Option (List Int×Bool×Unit) :=
 let ((a,b,c,_),d,e,_):=x; (aF d 0).bind fun y1=>(aF d 1).bind fun y2=>(FO (a,b,c,[y1,y2],d,e,2,())).bind (LV (fun z4=>some ([],z4.1,())) (LV (fun z5=>some (z5.1,true,())) (fun _=>none)))
def LJ:Fn:=mkF { cx [JU] with maps:=maps } [(3,Iz)] 27 Tryz.f27 [(.rd,yQ9),(.rd,(.slice I)),(.rd,I)] [(.tmp 6,true,(.slice I)),(.tmp 7,true,.bool)] Zh [lp 3 Iz wV] aq ah rfl
def wL (x:Q12):Option (Q12⊕((Bool×Unit)⊕(Q11⊕Empty))) :=
 let (a,b,c,d,e,_):=x; cond (ltI e (d.length:Nat)) ((aF d e).bind fun y1=>cond (ltI y1 0) (some (.inr (.inl (false,())))) ((aF d e).bind fun y2=>cond (geI y2 a) (some (.inr (.inl (false,())))) ((co d 0 e).bind fun y3=>(aF d e).bind fun y4=>(Zap (y3,y4,())).bind fun r5=>cond r5.1 (some (.inr (.inl (false,())))) (some (.inl (a,b,c,d,(aA .i64 e 1),())))))) (some (.inr (.inr (.inl (a,b,c,d,())))))
def wD:=aa wL
def Ic:Ann:=⟨sh [(1,.av (.val (.slice I))),(2,.av (.ptr 2 0)),(5,.av (.val I))] [(2,.box [.val I,.val (.slice yQ2),.val yQ5])],[(.ret,sh [(4,.av (.val .bool))] []),(.exit 0,sh [(1,.av (.val (.slice I))),(2,.av (.ptr 2 0))] [(2,.box [.val I,.val (.slice yQ2),.val yQ5])])],wD⟩
def Zt (x:Q7):Option (Bool×Unit) :=
 let ((a,b,c,_),d,_):=x; (Zc ((a,b,c,()),())).bind fun r1=>cond (!r1.1) (some (false,())) (cond (neI (d.length:Nat) a) (some (false,())) ((wD (a,b,c,d,0,())).bind (LV (fun z3=>some (z3.1,())) (LV (fun (a_4,b_4,c_4,d_4,_)=>(Zag ((a_4,b_4,c_4,()),())).bind fun r5=>(aF d_4 0).bind fun y6=>cond (neI y6 r5.1) (some (false,())) ((aF d_4 1).bind fun y7=>cond (neI y7 r5.2.1) (some (false,())) ((aF d_4 (bF .i64 a_4 1)).bind fun y8=>cond (neI y8 r5.2.2.1) (some (false,())) ((Zh ((a_4,b_4,c_4,()),d_4,a_4,())).bind fun r9=>some (r9.2.1,()))))) (fun _=>none)))))
def K3:Fn:=mkF { cx [KI,Kx,KD,LJ] with maps:=maps } [(4,Ic)] 11 Tryz.f11 [(.rd,yQ9),(.rd,(.slice I))] [(.tmp 4,true,.bool)] Zt [lp 4 Ic wL] aq ah rfl
def Zaz (x:(Q2×Int×Unit)):Option (Int×Unit) :=
 cond (eqI x.2.1 0) (some (x.1.1,())) (some (x.1.2.1,()))
def Bq:Fn:=mkF { cx [] with maps:=maps } [] 110 Tryz.f110 [(.rd,yQ2),(.rd,I)] [(.tmp 4,true,I)] Zaz [] aq ah rfl
def nD (x:Q38):Option (Q38⊕((Bool×Unit)⊕(Q30⊕Empty))) :=
 let (a,b,c,d,e,f,g,h,i,k,l,m,_):=x; cond (ltI m l) ((aF k m).bind fun y1=>cond (ltI y1 0) (some (.inr (.inl (false,())))) (cond (geI y1 (d.length:Nat)) (some (.inr (.inl (false,())))) ((aO d.length y1).bind fun j2=>(d[j2]?).bind fun y3=>cond y3 (some (.inr (.inl (false,())))) ((aF b (iB .i64 y1 2)).bind fun y4=>(Zaz (y4,(kB y1 2),())).bind fun r5=>cond (neI r5.1 f) (some (.inr (.inl (false,())))) ((aO d.length y1).bind fun j6=>(d[j6]?).bind fun y7=>some (.inl (a,b,c,(d.set j6 true),(aA .i64 e 1),f,g,h,i,k,l,(aA .i64 m 1),()))))))) (some (.inr (.inr (.inl (a,b,c,d,e,g,h,i,())))))
def uG:=aa nD
def BX:Ann:=⟨sh [(1,.av (.ptr 1 0)),(5,.av (.own 5)),(6,.av (.val I)),(7,.av (.val I)),(80,.av (.val yQ5)),(81,.av (.val I)),(82,.av (.val I)),(87,.av (.val (.slice I))),(88,.av (.val I)),(89,.av (.val I))] [(1,.box [.val I,.val (.slice yQ2),.val yQ5]),(5,.arr .bool)],[(.ret,sh [(2,.av (.val .bool))] []),(.exit 4,sh [(1,.av (.ptr 1 0)),(5,.av (.own 5)),(6,.av (.val I)),(80,.av (.val yQ5)),(81,.av (.val I)),(82,.av (.val I))] [(1,.box [.val I,.val (.slice yQ2),.val yQ5]),(5,.arr .bool)])],uG⟩
def mV (x:Q30):Option (Q30⊕((Bool×Unit)⊕((List Bool×Int×Unit)⊕Empty))) :=
 let (a,b,c,d,e,f,g,h,_):=x; cond (ltI h g) ((aF f h).bind fun y1=>(uG (a,b,c,d,e,h,f,g,h,y1,(y1.length:Nat),0,())).bind (LV (fun z3=>some (.inr (.inl (z3.1,())))) (LV (fun (a_4,b_4,c_4,d_4,e_4,f_4,g_4,h_4,_)=>some (.inl (a_4,b_4,c_4,d_4,e_4,f_4,g_4,(aA .i64 h_4 1),()))) (fun _=>none)))) (some (.inr (.inr (.inl (d,e,())))))
def vW:=aa mV
def Cb:Ann:=⟨sh [(1,.av (.ptr 1 0)),(5,.av (.own 5)),(6,.av (.val I)),(80,.av (.val yQ5)),(81,.av (.val I)),(82,.av (.val I))] [(1,.box [.val I,.val (.slice yQ2),.val yQ5]),(5,.arr .bool)],[(.ret,sh [(2,.av (.val .bool))] []),(.exit 2,sh [(5,.av (.own 5)),(6,.av (.val I))] [(5,.arr .bool)])],vW⟩
def sb (x:(Int×(List Q2)×(List (List Int))×(List Q2)×Int×Int×Unit)):Option ((Int×(List Q2)×(List (List Int))×(List Q2)×Int×Int×Unit)⊕((Bool×Unit)⊕(Q6⊕Empty))) :=
 let (a,b,c,d,e,f,_):=x; cond (ltI f e) ((aF d f).bind fun y1=>cond (ltI y1.1 0) (some (.inr (.inl (false,())))) (cond (geI y1.1 a) (some (.inr (.inl (false,())))) (cond (ltI y1.2.1 0) (some (.inr (.inl (false,())))) (cond (geI y1.2.1 a) (some (.inr (.inl (false,())))) (cond (eqI y1.1 y1.2.1) (some (.inr (.inl (false,())))) (some (.inl (a,b,c,d,e,(aA .i64 f 1),())))))))) (some (.inr (.inr (.inl (a,b,c,())))))
def yV:=aa sb
def DU:Ann:=⟨sh [(1,.av (.ptr 1 0)),(38,.av (.val (.slice yQ2))),(39,.av (.val I)),(40,.av (.val I))] [(1,.box [.val I,.val (.slice yQ2),.val yQ5])],[(.ret,sh [(2,.av (.val .bool))] []),(.exit 0,sh [(1,.av (.ptr 1 0))] [(1,.box [.val I,.val (.slice yQ2),.val yQ5])])],yV⟩
def Zau (x:(Q6×Unit)):Option (Bool×Unit) :=
 let ((a,b,c,_),_):=x; cond (ltI a 0) (some (false,())) ((aF [16384,32768] 0).bind fun y1=>cond (gtI a y1) (some (false,())) ((aF [16384,32768] 1).bind fun y2=>cond (gtI (b.length:Nat) y2) (some (false,())) (cond (neI (c.length:Nat) a) (some (false,())) ((yV (a,b,c,b,(b.length:Nat),0,())).bind (LV (fun z4=>some (z4.1,())) (LV (fun (a_5,b_5,c_5,_)=>(eD .bool (dM .i64 2 (b_5.length:Nat)) (dM .i64 2 (b_5.length:Nat))).bind fun m6=>(vW (a_5,b_5,c_5,m6,0,c_5,(c_5.length:Nat),0,())).bind (LV (fun z8=>some (z8.1,())) (LV (fun z9=>some ((eqI z9.2.1 (z9.1.length:Nat)),())) (fun _=>none)))) (fun _=>none)))))))
def wt:Fn:=mkF { cx [Bq] with maps:=maps } [(4,DU),(12,Cb),(15,BX)] 78 Tryz.f78 [(.rd,yQ9)] [(.tmp 2,true,.bool)] Zau [lp 4 DU sb,lp 12 Cb mV,lp 15 BX nD] aq ah rfl
def qk (x:Q24):Option (Q24⊕(Q9⊕Empty)) :=
 let (a,b,c,d,e,f,g,h,_):=x; cond (ltI h g) ((aF f h).bind fun y1=>cond (eqI (b.length:Nat) 0) none ((aF b (kB (aA .i64 h 1) (b.length:Nat))).bind fun y2=>(aO a.length (sP .i64 y1 1)).bind fun j3=>(a[j3]?).bind fun y4=>some (.inl ((a.set j3 y2),b,c,d,e,f,g,(aA .i64 h 1),())))) (some (.inr (.inl (a,c,d,e,()))))
def zQ:=aa qk
def FU:Ann:=⟨sh [(3,.av (.own 3)),(5,.av (.val (.slice I))),(14,.av (.val yQ5)),(15,.av (.val I)),(16,.av (.val I)),(20,.av (.val (.slice I))),(21,.av (.val I)),(22,.av (.val I))] [(3,.arr I)],[(.exit 2,sh [(3,.av (.own 3)),(14,.av (.val yQ5)),(15,.av (.val I)),(16,.av (.val I))] [(3,.arr I)])],zQ⟩
def qU (x:Q9):Option (Q9⊕(Q1⊕Empty)) :=
 let (a,b,c,d,_):=x; cond (ltI d c) ((aF b d).bind fun y1=>(zQ (a,y1,b,c,d,y1,(y1.length:Nat),0,())).bind (LV (fun z3=>some (.inl (z3.1,z3.2.1,z3.2.2.1,(aA .i64 z3.2.2.2.1 1),()))) (fun _=>none))) (some (.inr (.inl (a,()))))
def uO:=aa qU
def GD:Ann:=⟨sh [(3,.av (.own 3)),(14,.av (.val yQ5)),(15,.av (.val I)),(16,.av (.val I))] [(3,.arr I)],[(.exit 0,sh [(3,.av (.own 3))] [(3,.arr I)])],uO⟩
def Zaq (x:(Q6×Unit)):Option Q1 :=
 let ((_,a,b,_),_):=x; (eD I (dM .i64 2 (a.length:Nat)) (dM .i64 2 (a.length:Nat))).bind fun m1=>(uO (m1,b,(b.length:Nat),0,())).bind (LV (fun z3=>some (z3.1,())) (fun _=>none))
def Kg:Fn:=mkF { cx [] with maps:=maps } [(3,GD),(6,FU)] 82 Tryz.f82 [(.rd,yQ9)] [(.tmp 2,true,(.slice I))] Zaq [lp 3 GD qU,lp 6 FU qk] aq ah rfl
def mM (x:Q20):Option (Q20⊕((List Int×List Bool×(List (List Int))×List Int×Int×Int×Unit)⊕Empty)) :=
 let (a,b,c,d,e,f,g,_):=x; (aO b.length e).bind fun j1=>(b[j1]?).bind fun y2=>cond (!y2) ((aO b.length e).bind fun j3=>(b[j3]?).bind fun y4=>(app d [e]).bind fun a5=>(aO a.length e).bind fun j6=>(a[j6]?).bind fun y7=>some (.inl (a,(b.set j3 true),c,a5,y7,f,g,()))) (some (.inr (.inl (a,b,c,d,f,g,()))))
def vU:=aa mM
def BL:Ann:=⟨sh [(3,.av (.own 3)),(4,.av (.own 4)),(5,.av (.own 5)),(7,.av (.own 7)),(8,.av (.val I)),(18,.av (.val I)),(19,.av (.val I))] [(3,.arr I),(4,.arr .bool),(5,.arr (.slice I)),(7,.arr I)],[(.exit 2,sh [(3,.av (.own 3)),(4,.av (.own 4)),(5,.av (.own 5)),(7,.av (.own 7)),(18,.av (.val I)),(19,.av (.val I))] [(3,.arr I),(4,.arr .bool),(5,.arr (.slice I)),(7,.arr I)])],vU⟩
def qs (x:(List Int×List Bool×(List (List Int))×Int×Int×Unit)):Option ((List Int×List Bool×(List (List Int))×Int×Int×Unit)⊕(Q5⊕Empty)) :=
 let (a,b,c,d,e,_):=x; cond (ltI e d) ((vU (a,b,c,[],e,d,e,())).bind (LV (fun (a_2,b_2,c_2,d_2,e_2,f_2,_)=>cond (gtI (d_2.length:Nat) 0) ((app c_2 [d_2]).bind fun a3=>some (.inl (a_2,b_2,a3,e_2,(aA .i64 f_2 1),()))) (some (.inl (a_2,b_2,c_2,e_2,(aA .i64 f_2 1),())))) (fun _=>none))) (some (.inr (.inl (c,()))))
def AY:=aa qs
def EF:Ann:=⟨sh [(3,.av (.own 3)),(4,.av (.own 4)),(5,.av (.own 5)),(18,.av (.val I)),(19,.av (.val I))] [(3,.arr I),(4,.arr .bool),(5,.arr (.slice I))],[(.exit 0,sh [(5,.av (.own 5))] [(5,.arr (.slice I))])],AY⟩
def Zar (x:(Q6×Unit)):Option Q5 :=
 let ((a,b,c,_),_):=x; (Zau ((a,b,c,()),())).bind fun r1=>cond (!r1.1) (some ([],())) ((Zaq ((a,b,c,()),())).bind fun r2=>(eD .bool (r2.1.length:Nat) (r2.1.length:Nat)).bind fun m3=>(AY (r2.1,m3,[],(r2.1.length:Nat),0,())).bind (LV (fun z5=>some (z5.1,())) (fun _=>none)))
def IB:Fn:=mkF { cx [wt,Kg] with maps:=maps } [(7,EF),(11,BL)] 44 Tryz.f44 [(.rd,yQ9)] [(.tmp 2,true,yQ5)] Zar [lp 7 EF qs,lp 11 BL mM] aq ah rfl
def re (x:Q35):Option (Q35⊕(Q26⊕Empty)) :=
 let (a,b,c,d,e,f,g,h,i,k,l,_):=x; cond (ltI l k) ((aF i l).bind fun y1=>(aF b (iB .i64 y1 2)).bind fun y2=>(Zaz (y2,(sP .i64 (kB y1 2) 1),())).bind fun r3=>(aO d.length r3.1).bind fun j4=>(d[j4]?).bind fun y5=>cond (!y5) ((aO d.length r3.1).bind fun j6=>(d[j6]?).bind fun y7=>(app e [r3.1]).bind fun a8=>some (.inl (a,b,c,(d.set j6 true),a8,f,g,h,i,k,(aA .i64 l 1),()))) (some (.inl (a,b,c,d,e,f,g,h,i,k,(aA .i64 l 1),())))) (some (.inr (.inl (a,b,c,d,e,f,g,h,()))))
def AO:=aa re
def EY:Ann:=⟨sh [(1,.av (.ptr 1 0)),(3,.av (.own 3)),(4,.av (.val I)),(6,.av (.own 6)),(14,.av (.val I)),(15,.av (.val I)),(40,.av (.val (.slice I))),(41,.av (.val I)),(42,.av (.val I))] [(1,.box [.val I,.val (.slice yQ2),.val yQ5]),(3,.arr .bool),(6,.arr I)],[(.exit 4,sh [(1,.av (.ptr 1 0)),(3,.av (.own 3)),(4,.av (.val I)),(6,.av (.own 6)),(14,.av (.val I)),(15,.av (.val I))] [(1,.box [.val I,.val (.slice yQ2),.val yQ5]),(3,.arr .bool),(6,.arr I)])],AO⟩
def rT (x:Q26):Option (Q26⊕(Q15⊕Empty)) :=
 let (a,b,c,d,e,f,g,h,_):=x; cond (gtI (e.length:Nat) 0) ((aO e.length 0).bind fun j1=>(e[j1]?).bind fun y2=>(aF c y2).bind fun y3=>(AO (a,b,c,d,e,f,g,h,y3,(y3.length:Nat),0,())).bind (LV (fun (a_5,b_5,c_5,d_5,e_5,f_5,g_5,h_5,_)=>(ko e_5.length 1 (e_5.length:Nat)).bind fun v6=>some (.inl (a_5,b_5,c_5,d_5,((e_5.drop v6.1).take v6.2),f_5,g_5,h_5,()))) (fun _=>none))) (some (.inr (.inl (a,b,c,d,f,g,h,()))))
def zj:=aa rT
def E4:Ann:=⟨sh [(1,.av (.ptr 1 0)),(3,.av (.own 3)),(4,.av (.val I)),(6,.av (.own 6)),(14,.av (.val I)),(15,.av (.val I))] [(1,.box [.val I,.val (.slice yQ2),.val yQ5]),(3,.arr .bool),(6,.arr I)],[(.exit 2,sh [(1,.av (.ptr 1 0)),(3,.av (.own 3)),(4,.av (.val I)),(14,.av (.val I)),(15,.av (.val I))] [(1,.box [.val I,.val (.slice yQ2),.val yQ5]),(3,.arr .bool)])],zj⟩
def qG (x:Q15):Option (Q15⊕((Int×Unit)⊕Empty)) :=
 let (a,b,c,d,e,f,g,_):=x; cond (ltI g f) ((aO d.length g).bind fun j1=>(d[j1]?).bind fun y2=>cond y2 (some (.inl (a,b,c,d,e,f,(aA .i64 g 1),()))) ((aO d.length g).bind fun j3=>(d[j3]?).bind fun y4=>(zj (a,b,c,(d.set j3 true),[g],(aA .i64 e 1),f,g,())).bind (LV (fun (a_6,b_6,c_6,d_6,e_6,f_6,g_6,_)=>some (.inl (a_6,b_6,c_6,d_6,e_6,f_6,(aA .i64 g_6 1),()))) (fun _=>none)))) (some (.inr (.inl (e,()))))
def BV:=aa qG
def HY:Ann:=⟨sh [(1,.av (.ptr 1 0)),(3,.av (.own 3)),(4,.av (.val I)),(14,.av (.val I)),(15,.av (.val I))] [(1,.box [.val I,.val (.slice yQ2),.val yQ5]),(3,.arr .bool)],[(.exit 0,sh [(4,.av (.val I))] [])],BV⟩
def Zi (x:(Q6×Unit)):Option (Int×Unit) :=
 let ((a,b,c,_),_):=x; (eD .bool a a).bind fun m1=>(BV (a,b,c,m1,0,a,0,())).bind (LV (fun z3=>some (z3.1,())) (fun _=>none))
def Lf:Fn:=mkF { cx [Bq] with maps:=maps } [(4,HY),(10,E4),(13,EY)] 111 Tryz.f111 [(.rd,yQ9)] [(.tmp 2,true,I)] Zi [lp 4 HY qG,lp 10 E4 rT,lp 13 EY re] aq ah rfl
def rZ (x:Q22):Option (Q22⊕(Q10⊕Empty)) :=
 let (a,b,c,d,e,f,g,_):=x; cond (ltI g f) ((aF e g).bind fun y1=>cond (eqI (y1.length:Nat) 0) (some (.inl (a,b,c,(aA .i64 d 1),e,f,(aA .i64 g 1),()))) (some (.inl (a,b,c,d,e,f,(aA .i64 g 1),())))) (some (.inr (.inl (a,b,c,d,()))))
def zI:=aa rZ
def En:Ann:=⟨sh [(1,.av (.ptr 1 0)),(3,.av (.val I)),(13,.av (.val yQ5)),(14,.av (.val I)),(15,.av (.val I))] [(1,.box [.val I,.val (.slice yQ2),.val yQ5])],[(.exit 0,sh [(1,.av (.ptr 1 0)),(3,.av (.val I))] [(1,.box [.val I,.val (.slice yQ2),.val yQ5])])],zI⟩
def Zas (x:(Q6×Unit)):Option (Int×Unit) :=
 let ((a,b,c,_),_):=x; (Zau ((a,b,c,()),())).bind fun r1=>cond (!r1.1) (some ((-1),())) ((Zar ((a,b,c,()),())).bind fun r2=>(zI (a,b,c,(r2.1.length:Nat),c,(c.length:Nat),0,())).bind (LV (fun z4=>(Zi ((z4.1,z4.2.1,z4.2.2.1,()),())).bind fun r5=>some ((bF .i64 r5.1 (iB .i64 (aA .i64 (bF .i64 z4.1 (z4.2.1.length:Nat)) z4.2.2.2.1) 2)),())) (fun _=>none)))
def JJ:Fn:=mkF { cx [IB,wt,Lf] with maps:=maps } [(5,En)] 79 Tryz.f79 [(.rd,yQ9)] [(.tmp 2,true,I)] Zas [lp 5 En rZ] aq ah rfl
def qL (x:Q31):Option (Q31⊕(Q14⊕Empty)) :=
 let (a,b,c,d,e,f,g,h,i,_):=x; cond (ltI i h) ((aF g i).bind fun y1=>(aF b (iB .i64 y1 2)).bind fun y2=>(aO e.length f).bind fun j3=>(e[j3]?).bind fun y4=>(aO d.length (bF .i64 (aA .i64 y2.1 y2.2.1) y4)).bind fun j5=>(d[j5]?).bind fun y6=>cond (!y6) ((aO d.length (bF .i64 (aA .i64 y2.1 y2.2.1) y4)).bind fun j7=>(d[j7]?).bind fun y8=>(app e [(bF .i64 (aA .i64 y2.1 y2.2.1) y4)]).bind fun a9=>some (.inl (a,b,c,(d.set j7 true),a9,f,g,h,(aA .i64 i 1),()))) (some (.inl (a,b,c,d,e,f,g,h,(aA .i64 i 1),())))) (some (.inr (.inl (a,b,c,d,e,f,()))))
def zU:=aa qL
def Eb:Ann:=⟨sh [(1,.av (.ptr 1 0)),(3,.av (.own 3)),(4,.av (.own 4)),(5,.av (.val I)),(32,.av (.val (.slice I))),(33,.av (.val I)),(34,.av (.val I))] [(1,.box [.val I,.val (.slice yQ2),.val yQ5]),(3,.arr .bool),(4,.arr I)],[(.exit 2,sh [(1,.av (.ptr 1 0)),(3,.av (.own 3)),(4,.av (.own 4)),(5,.av (.val I))] [(1,.box [.val I,.val (.slice yQ2),.val yQ5]),(3,.arr .bool),(4,.arr I)])],zU⟩
def xS (x:Q14):Option (Q14⊕(Q11⊕Empty)) :=
 let (a,b,c,d,e,f,_):=x; cond (ltI f (e.length:Nat)) ((aO e.length f).bind fun j1=>(e[j1]?).bind fun y2=>(aF c y2).bind fun y3=>(zU (a,b,c,d,e,f,y3,(y3.length:Nat),0,())).bind (LV (fun (a_5,b_5,c_5,d_5,e_5,f_5,_)=>some (.inl (a_5,b_5,c_5,d_5,e_5,(aA .i64 f_5 1),()))) (fun _=>none))) (some (.inr (.inl (a,b,c,e,()))))
def Eo:=aa xS
def HP:Ann:=⟨sh [(1,.av (.ptr 1 0)),(3,.av (.own 3)),(4,.av (.own 4)),(5,.av (.val I))] [(1,.box [.val I,.val (.slice yQ2),.val yQ5]),(3,.arr .bool),(4,.arr I)],[(.exit 0,sh [(1,.av (.ptr 1 0)),(4,.av (.own 4))] [(1,.box [.val I,.val (.slice yQ2),.val yQ5]),(4,.arr I)])],Eo⟩
def Zg (x:(Q6×Unit)):Option (Bool×Unit) :=
 let ((a,b,c,_),_):=x; cond (eqI a 0) (some (false,())) ((eD .bool a a).bind fun m1=>(aO m1.length 0).bind fun j2=>(m1[j2]?).bind fun y3=>(Eo (a,b,c,(m1.set j2 true),[0],0,())).bind (LV (fun z5=>some ((eqI (z5.2.2.2.1.length:Nat) z5.1),())) (fun _=>none)))
def Lp:Fn:=mkF { cx [] with maps:=maps } [(7,HP),(10,Eb)] 80 Tryz.f80 [(.rd,yQ9)] [(.tmp 2,true,.bool)] Zg [lp 7 HP xS,lp 10 Eb qL] aq ah rfl
def tY (x:((List (Q2×Bool))×(List Q2)×Int×Int×Unit)):Option (((List (Q2×Bool))×(List Q2)×Int×Int×Unit)⊕((Bool×Unit)⊕(Unit⊕Empty))) :=
 let (a,b,c,d,_):=x; cond (ltI d c) ((aF b d).bind fun y1=>cond ((cO yQ2 .bool ((eR y1.1 y1.2.1),(maxI y1.1 y1.2.1),()) a).getD (az .bool)) (some (.inr (.inl (false,())))) (some (.inl ((fR yQ2 .bool ((eR y1.1 y1.2.1),(maxI y1.1 y1.2.1),()) true a),b,c,(aA .i64 d 1),())))) (some (.inr (.inr (.inl ()))))
def D4:=aa tY
def IA:Ann:=⟨sh [(3,.av (.ownm 3)),(8,.av (.val (.slice yQ2))),(9,.av (.val I)),(10,.av (.val I))] [(3,.map yQ2 .bool)],[(.ret,sh [(2,.av (.val .bool))] []),(.exit 0,sh [] [])],D4⟩
def Zp (x:(Q6×Unit)):Option (Bool×Unit) :=
 (D4 ([],x.1.2.1,(x.1.2.1.length:Nat),0,())).bind (LV (fun z2=>some (z2.1,())) (LV (fun z3=>some (true,())) (fun _=>none)))
def K5:Fn:=mkF { cx [] with maps:=maps } [(3,IA)] 81 Tryz.f81 [(.rd,yQ9)] [(.tmp 2,true,.bool)] Zp [lp 3 IA tY] aq ah rfl
def Zac (x:(Q6×Unit)):Option (Int×Unit) :=
 let ((a,b,c,_),_):=x; (Zau ((a,b,c,()),())).bind fun r1=>cond (!r1.1) (some (13,())) ((Zas ((a,b,c,()),())).bind fun r2=>cond (neI r2.1 0) (some (13,())) ((Zg ((a,b,c,()),())).bind fun r3=>cond (!r3.1) (some (12,())) ((Zp ((a,b,c,()),())).bind fun r4=>cond (!r4.1) (some (6,())) (cond (ltI a 3) (some (1,())) (some (0,()))))))
def JY:Fn:=mkF { cx [wt,JJ,Lp,K5] with maps:=maps } [] 43 Tryz.f43 [(.rd,yQ9)] [(.tmp 2,true,I)] Zac [] aq ah rfl
def wP (x:((List (List Int))×Int×Int×Unit)):Option (((List (List Int))×Int×Int×Unit)⊕((Bool×Unit)⊕(Unit⊕Empty))) :=
 let (a,b,c,_):=x; cond (ltI c b) ((aO a.length c).bind fun j1=>(a[j1]?).bind fun y2=>cond (neI (y2.length:Nat) 3) (some (.inr (.inl (false,())))) (some (.inl (a,b,(aA .i64 c 1),())))) (some (.inr (.inr (.inl ()))))
def F5:=aa wP
def Ir:Ann:=⟨sh [(9,.av (.own 9)),(10,.av (.val I)),(11,.av (.val I))] [(9,.arr (.slice I))],[(.ret,sh [(2,.av (.val .bool))] []),(.exit 0,sh [] [])],F5⟩
def Zb (x:(Q6×Unit)):Option (Bool×Unit) :=
 let ((a,b,c,_),_):=x; (Zac ((a,b,c,()),())).bind fun r1=>cond (neI r1.1 0) (some (false,())) ((Zar ((a,b,c,()),())).bind fun r2=>(F5 (r2.1,(r2.1.length:Nat),0,())).bind (LV (fun z4=>some (z4.1,())) (LV (fun z5=>some (true,())) (fun _=>none))))
def J8:Fn:=mkF { cx [JY,IB] with maps:=maps } [(4,Ir)] 15 Tryz.f15 [(.rd,yQ9)] [(.tmp 2,true,.bool)] Zb [lp 4 Ir wP] aq ah rfl
def Zax (x:(Q6×Int×Unit)):Option (Int×Unit) :=
 let ((a,b,c,_),d,_):=x; (Zau ((a,b,c,()),())).bind fun r1=>cond (!r1.1) (some ((-1),())) (cond (ltI d 0) (some ((-1),())) (cond (geI d (dM .i64 2 (b.length:Nat))) (some ((-1),())) ((aF b (iB .i64 d 2)).bind fun y2=>(Zaz (y2,(kB d 2),())).bind fun r3=>some (r3.1,()))))
def ET:Fn:=mkF { cx [wt,Bq] with maps:=maps } [] 83 Tryz.f83 [(.rd,yQ9),(.rd,I)] [(.tmp 4,true,I)] Zax [] aq ah rfl
def qt (x:(List Int×Int×Int×Int×Unit)):Option ((List Int×Int×Int×Int×Unit)⊕((Int×Unit)⊕(Unit⊕Empty))) :=
 let (a,b,c,d,_):=x; cond (ltI d c) ((aF a d).bind fun y1=>cond (eqI b y1) (some (.inr (.inl (d,())))) (some (.inl (a,b,c,(aA .i64 d 1),())))) (some (.inr (.inr (.inl ()))))
def zM:=aa qt
def Eq:Ann:=⟨sh [(0,.av (.val (.slice I))),(1,.av (.val I)),(7,.av (.val I)),(8,.av (.val I))] [],[(.ret,sh [(4,.av (.val I))] []),(.exit 0,sh [] [])],zM⟩
def Zai (x:Q4):Option (Int×Unit) :=
 (zM (x.1,x.2.1,(x.1.length:Nat),0,())).bind (LV (fun z2=>some (z2.1,())) (LV (fun z3=>some ((-1),())) (fun _=>none)))
def H7:Fn:=mkF { cx [] with maps:=maps } [(2,Eq)] 71 Tryz.f71 [(.rd,(.slice I)),(.rd,I)] [(.tmp 4,true,I)] Zai [lp 2 Eq qt] aq ah rfl
def Zay (x:(Q6×Int×Unit)):Option (Int×Unit) :=
 let ((a,b,c,_),d,_):=x; (Zau ((a,b,c,()),())).bind fun r1=>cond (!r1.1) (some ((-1),())) (cond (ltI d 0) (some ((-1),())) (cond (geI d (dM .i64 2 (b.length:Nat))) (some ((-1),())) ((aF b (iB .i64 d 2)).bind fun y2=>(Zaz (y2,(sP .i64 (kB d 2) 1),())).bind fun r3=>(aF c r3.1).bind fun y4=>(Zai (y4,(sP .i64 d 1),())).bind fun r5=>cond (eqI (y4.length:Nat) 0) none ((aF y4 (kB (aA .i64 r5.1 1) (y4.length:Nat))).bind fun y6=>some (y6,())))))
def Ks:Fn:=mkF { cx [H7,wt,Bq] with maps:=maps } [] 112 Tryz.f112 [(.rd,yQ9),(.rd,I)] [(.tmp 4,true,I)] Zay [] aq ah rfl
def Zba (x:(Q6×Unit)):Option (Int×Unit) :=
 let ((a,b,c,_),_):=x; (Zay ((a,b,c,()),0,())).bind fun r1=>(Zay ((a,b,c,()),r1.1,())).bind fun r2=>(Zax ((a,b,c,()),r2.1,())).bind fun r3=>some (r3.1,())
def KE:Fn:=mkF { cx [ET,Ks] with maps:=maps } [] 84 Tryz.f84 [(.rd,yQ9)] [(.tmp 2,true,I)] Zba [] aq ah rfl
def Zah (x:Q1):Option Q1 :=
 cond x.1.isEmpty (wi (some ([],())) ((app [] x.1).bind fun a1=>some (a1,()))) ((app [] x.1).bind fun a1=>some (a1,()))
def ID:Fn:=mkF { cx [] with maps:=maps } [] 85 Tryz.f85 [(.rd,(.slice I))] [(.tmp 2,true,(.slice I))] Zah [] aq ah rfl
def rz (x:Q19):Option (Q19⊕(Q1⊕Empty)) :=
 let (a,b,c,d,e,f,g,_):=x; cond (ltI g f) ((aF e g).bind fun y1=>(Zax ((a,b,c,()),(sP .i64 y1 1),())).bind fun r2=>(app d [r2.1]).bind fun a3=>some (.inl (a,b,c,a3,e,f,(aA .i64 g 1),()))) (some (.inr (.inl (d,()))))
def yW:=aa rz
def Ec:Ann:=⟨sh [(2,.av (.ptr 2 0)),(5,.av (.own 5)),(12,.av (.val (.slice I))),(13,.av (.val I)),(14,.av (.val I))] [(2,.box [.val I,.val (.slice yQ2),.val yQ5]),(5,.arr I)],[(.exit 0,sh [(5,.av (.own 5))] [(5,.arr I)])],yW⟩
def Zbd (x:(Q6×Int×Unit)):Option Q1 :=
 let ((a,b,c,_),d,_):=x; (aF c d).bind fun y1=>(yW (a,b,c,[],y1,(y1.length:Nat),0,())).bind (LV (fun z3=>some (z3.1,())) (fun _=>none))
def KB:Fn:=mkF { cx [ET] with maps:=maps } [(3,Ec)] 113 Tryz.f113 [(.rd,yQ9),(.rd,I)] [(.tmp 4,true,(.slice I))] Zbd [lp 3 Ec rz] aq ah rfl
def qm (x:Q16):Option (Q16⊕((Bool×Unit)⊕((List Int×Int×Int×Int×Int×Unit)⊕Empty))) :=
 let (a,b,c,d,e,f,g,h,i,_):=x; cond (ltI i h) ((aO a.length i).bind fun j1=>(a[j1]?).bind fun y2=>(aF c y2).bind fun y3=>cond (!y3) (some (.inl (a,b,c,d,e,f,g,h,(aA .i64 i 1),()))) ((Zai (b,y2,())).bind fun r4=>cond (ltI r4.1 0) (some (.inr (.inl (false,())))) (cond (ltI e 0) (some (.inl (a,b,c,d,r4.1,(maxI f r4.1),(aA .i64 g 1),h,(aA .i64 i 1),()))) (cond (ltI r4.1 e) (some (.inl (a,b,c,d,r4.1,(maxI f r4.1),(aA .i64 g 1),h,(aA .i64 i 1),()))) (some (.inl (a,b,c,d,e,(maxI f r4.1),(aA .i64 g 1),h,(aA .i64 i 1),()))))))) (some (.inr (.inr (.inl (b,d,e,f,g,())))))
def zw:=aa qm
def GC:Ann:=⟨sh [(1,.av (.val (.slice I))),(2,.av (.val (.slice .bool))),(3,.av (.val I)),(10,.av (.val I)),(11,.av (.val I)),(12,.av (.val I)),(19,.av (.own 19)),(20,.av (.val I)),(21,.av (.val I))] [(19,.arr I)],[(.ret,sh [(8,.av (.nils)),(9,.av (.val .bool))] []),(.exit 0,sh [(1,.av (.val (.slice I))),(3,.av (.val I)),(10,.av (.val I)),(11,.av (.val I)),(12,.av (.val I))] [])],zw⟩
def Zbc (x:(Q6×List Int×List Bool×Int×Unit)):Option (List Int×Bool×Unit) :=
 let ((a,b,c,_),d,e,f,_):=x; (Zbd ((a,b,c,()),f,())).bind fun r1=>(zw (r1.1,d,e,f,(-1),(-1),0,(r1.1.length:Nat),0,())).bind (LV (fun z3=>some ([],z3.1,())) (LV (fun (a_4,b_4,c_4,d_4,e_4,_)=>cond (ltI e_4 2) (some ([],false,())) (cond (neI (bF .i64 d_4 c_4) (bF .i64 e_4 1)) (some ([],false,())) ((co a_4 0 (aA .i64 c_4 1)).bind fun y5=>(Zah (y5,())).bind fun r6=>(app r6.1 [b_4]).bind fun a7=>(co a_4 d_4 (a_4.length:Nat)).bind fun y8=>(app a7 y8).bind fun a9=>some (a9,true,())))) (fun _=>none)))
def JK:Fn:=mkF { cx [H7,ID,KB] with maps:=maps } [(3,GC)] 86 Tryz.f86 [(.rd,yQ9),(.rd,(.slice I)),(.rd,(.slice .bool)),(.rd,I)] [(.tmp 8,true,(.slice I)),(.tmp 9,true,.bool)] Zbc [lp 3 GC qm] aq ah rfl
def oh (x:Q36):Option (Q36⊕((Bool×Unit)⊕(Q5⊕Empty))) :=
 let (a,b,c,d,e,f,g,h,i,_):=x; cond (ltI i h) ((aF g i).bind fun y1=>cond (ltI y1 0) (some (.inr (.inl (false,())))) (cond (geI y1 a) (some (.inr (.inl (false,())))) ((aO d.length y1).bind fun j2=>(d[j2]?).bind fun y3=>cond y3 (some (.inr (.inl (false,())))) ((Zbc ((a,b,c,()),f,d,y1,())).bind fun r4=>cond (!r4.2.1) (some (.inr (.inl (false,())))) ((aO d.length y1).bind fun j5=>(d[j5]?).bind fun y6=>(app e [r4.1]).bind fun a7=>some (.inl (a,b,c,(d.set j5 true),a7,r4.1,g,h,(aA .i64 i 1),()))))))) (some (.inr (.inr (.inl (e,())))))
def vz:=aa oh
def Er:Ann:=⟨sh [(2,.av (.ptr 2 0)),(6,.av (.own 6)),(7,.av (.val (.slice I))),(8,.av (.own 8)),(69,.av (.val (.slice I))),(70,.av (.val I)),(71,.av (.val I))] [(2,.box [.val I,.val (.slice yQ2),.val yQ5]),(6,.arr .bool),(8,.arr (.slice I))],[(.ret,sh [(4,.av (.nils)),(5,.av (.val .bool))] []),(.exit 0,sh [(8,.av (.own 8))] [(8,.arr (.slice I))])],vz⟩
def Zav (x:Q7):Option ((List (List Int))×Bool×Unit) :=
 let ((a,b,c,_),d,_):=x; (Zb ((a,b,c,()),())).bind fun r1=>cond (!r1.1) (some ([],false,())) (cond (neI (d.length:Nat) a) (some ([],false,())) ((aF d 0).bind fun y2=>(Zax ((a,b,c,()),0,())).bind fun r3=>cond (neI y2 r3.1) (some ([],false,())) ((aF d 1).bind fun y4=>(Zax ((a,b,c,()),1,())).bind fun r5=>cond (neI y4 r5.1) (some ([],false,())) ((aF d (bF .i64 a 1)).bind fun y6=>(Zba ((a,b,c,()),())).bind fun r7=>cond (neI y6 r7.1) (some ([],false,())) ((eD .bool a a).bind fun m8=>(aF d 0).bind fun y9=>(aF d 1).bind fun y10=>(aO m8.length y9).bind fun j11=>(m8[j11]?).bind fun y12=>(aO (m8.set j11 true).length y10).bind fun j13=>((m8.set j11 true)[j13]?).bind fun y14=>(co d 0 2).bind fun y15=>(Zah (y15,())).bind fun r16=>(co d 2 (d.length:Nat)).bind fun y17=>(vz (a,b,c,((m8.set j11 true).set j13 true),[r16.1],r16.1,y17,(y17.length:Nat),0,())).bind (LV (fun z19=>some ([],z19.1,())) (LV (fun z20=>some (z20.1,true,())) (fun _=>none))))))))
def JX:Fn:=mkF { cx [J8,ET,KE,ID,JK] with maps:=maps } [(8,Er)] 45 Tryz.f45 [(.rd,yQ9),(.rd,(.slice I))] [(.tmp 4,true,yQ5),(.tmp 5,true,.bool)] Zav [lp 8 Er oh] aq ah rfl
def Zbb (x:Q7):Option (Bool×Unit) :=
 (Zav ((x.1.1,x.1.2.1,x.1.2.2.1,()),x.2.1,())).bind fun r1=>some (r1.2.1,())
def Kd:Fn:=mkF { cx [JX] with maps:=maps } [] 16 Tryz.f16 [(.rd,yQ9),(.rd,(.slice I))] [(.tmp 4,true,.bool)] Zbb [] aq ah rfl
def Zam (x:(Int×(List (List Bool))×Int×Unit)):Option (Bool×Unit) :=
 (aF x.2.1 x.2.2.1).bind fun y1=>(aF y1 x.1).bind fun y2=>some (y2,())
def KA:Fn:=mkF { cx [] with maps:=maps } [] 18 Tryz.f18 [(.rd,I),(.rd,(.ptr yQ7)),(.rd,(.ptr I))] [(.tmp 4,true,.bool)] Zam [] aq ah rfl
def wJ (x:(List Int×((List (List Bool))×Int×Unit)×Int×Int×Unit)):Option ((List Int×((List (List Bool))×Int×Unit)×Int×Int×Unit)⊕((Int×Unit)⊕(Unit⊕Empty))) :=
 let (a,b,c,d,_):=x; cond (ltI d c) ((aF a d).bind fun y1=>(Zam (y1,b.1,b.2.1,())).bind fun r2=>cond r2.1 (some (.inr (.inl (d,())))) (some (.inl (a,b,c,(aA .i64 d 1),())))) (some (.inr (.inr (.inl ()))))
def Gb:=aa wJ
def Ia:Ann:=⟨sh [(0,.av (.val (.slice I))),(1,.av (.val (.clo 18 (.prod (.ptr yQ7) (.prod (.ptr I) .unit))))),(7,.av (.val I)),(8,.av (.val I))] [],[(.ret,sh [(4,.av (.val I))] []),(.exit 0,sh [] [])],Gb⟩
def Za (x:(List Int×((List (List Bool))×Int×Unit)×Unit)):Option (Int×Unit) :=
 (Gb (x.1,x.2.1,(x.1.length:Nat),0,())).bind (LV (fun z2=>some (z2.1,())) (LV (fun z3=>some ((-1),())) (fun _=>none)))
def LA:Fn:=mkF { cx [KA] with maps:=maps } [(2,Ia)] 17 Tryz.f17 [(.rd,(.slice I)),(.rd,(.clo 18 (.prod (.ptr yQ7) (.prod (.ptr I) .unit))))] [(.tmp 4,true,I)] Za [lp 2 Ia wJ] aq ah rfl
def Zn (x:(List Int×Int×Int×List Int×Unit)):Option Q1:=replaceC.fn x
def K7:Fn:=⟨19,replaceC,AI Cw⟩
def m4 (x:((List Q2)×Int×Int×Unit)):Option (((List Q2)×Int×Int×Unit)⊕(((List Q2)×Unit)⊕Empty)) :=
 let (a,b,c,_):=x; cond (ltI c b) ((aO a.length c).bind fun j1=>(a[j1]?).bind fun y2=>(aO a.length c).bind fun j3=>(a[j3]?).bind fun y4=>some (.inl ((a.set j3 (y4.1,(bF .i64 0 y2.2.1),y4.2.2)),b,(aA .i64 c 1),()))) (some (.inr (.inl (a,()))))
def uK:=aa m4
def BK:Ann:=⟨sh [(10,.av (.own 10)),(241,.av (.val I)),(242,.av (.val I))] [(10,.arr yQ2)],[(.exit 14,sh [(10,.av (.own 10))] [(10,.arr yQ2)])],uK⟩
def ny (x:Q40):Option (Q40⊕(Q39⊕Empty)) :=
 let (a,b,c,d,e,f,g,h,i,k,l,m,n,o,p,q,s,t,_):=x; cond (ltI t s) ((aO (aV c q.toNat).length t).bind fun j1=>((aV c q.toNat)[j1]?).bind fun y2=>(aO b.length y2).bind fun j3=>(b[j3]?).bind fun y4=>(aO b.length y2).bind fun j5=>(b[j5]?).bind fun y6=>some (.inl (a,(b.set j5 ((aA .i64 y4.1 h),y6.2)),c,d,e,f,g,h,i,k,l,((m.toNat:Nat):Int),((n.toNat:Nat):Int),o,p,((q.toNat:Nat):Int),s,(aA .i64 t 1),()))) (some (.inr (.inl (a,b,c,d,e,f,g,i,k,l,((m.toNat:Nat):Int),((n.toNat:Nat):Int),o,p,()))))
def pK:=aa ny
def Ch:Ann:=⟨sh [(6,.av (.ptr 6 0)),(10,.av (.own 10)),(11,.av (.ownd 11)),(13,.av (.own 13)),(15,.av (.ptr 15 0)),(16,.av (.val I)),(17,.av (.val I)),(20,.av (.val I)),(112,.av (.val (.slice I))),(113,.av (.val I)),(114,.av (.val I)),(145,.view 13),(146,.av (.val I)),(147,.av (.val I)),(173,.sub 11),(174,.av (.val I)),(175,.av (.val I))] [(6,.box [.ownd 700000]),(700000,.deep .bool),(10,.arr yQ2),(11,.deep I),(13,.arr I),(15,.box [.val I])],[(.exit 12,sh [(6,.av (.ptr 6 0)),(10,.av (.own 10)),(11,.av (.ownd 11)),(13,.av (.own 13)),(15,.av (.ptr 15 0)),(16,.av (.val I)),(17,.av (.val I)),(112,.av (.val (.slice I))),(113,.av (.val I)),(114,.av (.val I)),(145,.view 13),(146,.av (.val I)),(147,.av (.val I))] [(6,.box [.ownd 700000]),(700000,.deep .bool),(10,.arr yQ2),(11,.deep I),(13,.arr I),(15,.box [.val I])])],pK⟩
def nK (x:Q39):Option (Q39⊕(Q37⊕Empty)) :=
  let t_0:=LV (fun (a_5,b_5,c_5,d_5,e_5,f_5,g_5,h_5,i_5,k_5,l_5,m_5,n_5,o_5,_)=>some (.inl (a_5,b_5,c_5,d_5,e_5,f_5,g_5,h_5,i_5,k_5,((l_5.toNat:Nat):Int),((m_5.toNat:Nat):Int),n_5,(aA .i64 o_5 1),()))) (fun _=>none);let (a,b,c,d,e,f,g,h,i,k,l,m,n,o,_):=x; cond (ltI o n) ((aO m.toNat o).bind fun j1=>(d[(l.toNat+j1)]?).bind fun y2=>cond (geI (aA .i64 (aA .i64 f 1) o) g) ((aO c.length y2).bind fun j3=>(pK (a,b,c,d,e,f,g,2,h,i,k,((l.toNat:Nat):Int),((m.toNat:Nat):Int),n,o,((j3:Nat):Int),((aV c j3).length:Nat),0,())).bind t_0) ((aO c.length e).bind fun j6=>(aO c.length y2).bind fun j7=>(app (aV c j6) (aV c j7)).bind fun a8=>(aO c.length e).bind fun j9=>if j6=j9 then (aO (c.set j9 a8).length y2).bind fun j10=>(pK (a,b,(c.set j9 a8),d,e,f,g,1,h,i,k,((l.toNat:Nat):Int),((m.toNat:Nat):Int),n,o,((j10:Nat):Int),((aV (c.set j9 a8) j10).length:Nat),0,())).bind t_0 else none)) (some (.inr (.inl (a,b,c,d,e,f,g,h,i,k,()))))
def u9:=aa nK
def Bp:Ann:=⟨sh [(6,.av (.ptr 6 0)),(10,.av (.own 10)),(11,.av (.ownd 11)),(13,.av (.own 13)),(15,.av (.ptr 15 0)),(16,.av (.val I)),(17,.av (.val I)),(112,.av (.val (.slice I))),(113,.av (.val I)),(114,.av (.val I)),(145,.view 13),(146,.av (.val I)),(147,.av (.val I))] [(6,.box [.ownd 700000]),(700000,.deep .bool),(10,.arr yQ2),(11,.deep I),(13,.arr I),(15,.box [.val I])],[(.exit 10,sh [(6,.av (.ptr 6 0)),(10,.av (.own 10)),(11,.av (.ownd 11)),(13,.av (.own 13)),(15,.av (.ptr 15 0)),(16,.av (.val I)),(17,.av (.val I)),(112,.av (.val (.slice I))),(113,.av (.val I)),(114,.av (.val I))] [(6,.box [.ownd 700000]),(700000,.deep .bool),(10,.arr yQ2),(11,.deep I),(13,.arr I),(15,.box [.val I])])],u9⟩
def qe (x:Q37):Option (Q37⊕(Q37⊕Empty)) :=
 let (a,b,c,d,e,f,g,h,i,k,_):=x; cond (ltI (aA .i64 g 1) (d.length:Nat)) ((aO a.length e).bind fun j1=>(aO d.length (aA .i64 g 1)).bind fun j2=>(d[j2]?).bind fun y3=>(aO (aV a j1).length y3).bind fun j4=>((aV a j1)[j4]?).bind fun y5=>cond y5 (some (.inl (a,b,c,d,e,f,(aA .i64 g 1),h,i,k,()))) (some (.inr (.inl (a,b,c,d,e,f,g,h,i,k,()))))) (some (.inr (.inl (a,b,c,d,e,f,g,h,i,k,()))))
def pO:=aa qe
def BH:Ann:=⟨sh [(6,.av (.ptr 6 0)),(10,.av (.own 10)),(11,.av (.ownd 11)),(13,.av (.own 13)),(15,.av (.ptr 15 0)),(16,.av (.val I)),(17,.av (.val I)),(112,.av (.val (.slice I))),(113,.av (.val I)),(114,.av (.val I))] [(6,.box [.ownd 700000]),(700000,.deep .bool),(10,.arr yQ2),(11,.deep I),(13,.arr I),(15,.box [.val I])],[(.exit 8,sh [(6,.av (.ptr 6 0)),(10,.av (.own 10)),(11,.av (.ownd 11)),(13,.av (.own 13)),(15,.av (.ptr 15 0)),(16,.av (.val I)),(17,.av (.val I)),(112,.av (.val (.slice I))),(113,.av (.val I)),(114,.av (.val I))] [(6,.box [.ownd 700000]),(700000,.deep .bool),(10,.arr yQ2),(11,.deep I),(13,.arr I),(15,.box [.val I])])],pO⟩
def ji (x:Q29):Option (Q29⊕(((List Q2)×Unit)⊕Empty)) :=
 let (a,b,c,d,e,f,g,_):=x; cond (ltI g f) ((aF e g).bind fun y1=>(Za (d,(a,y1,()),())).bind fun r2=>(pO (a,b,c,d,y1,r2.1,r2.1,e,f,g,())).bind (LV (fun (a_4,b_4,c_4,d_4,e_4,f_4,g_4,h_4,i_4,k_4,_)=>(ko d_4.length (aA .i64 f_4 1) (d_4.length:Nat)).bind fun v5=>(u9 (a_4,b_4,c_4,d_4,e_4,f_4,g_4,h_4,i_4,k_4,((v5.1:Nat):Int),((v5.2:Nat):Int),(v5.2:Nat),0,())).bind (LV (fun (a_7,b_7,c_7,d_7,e_7,f_7,g_7,h_7,i_7,k_7,_)=>(aO d_7.length f_7).bind fun j8=>(d_7[j8]?).bind fun y9=>(aO b_7.length y9).bind fun j10=>(b_7[j10]?).bind fun y11=>(aO d_7.length g_7).bind fun j12=>(d_7[j12]?).bind fun y13=>(aO b_7.length y13).bind fun j14=>(b_7[j14]?).bind fun y15=>(aO b_7.length e_7).bind fun j16=>(b_7[j16]?).bind fun y17=>(Zn (d_7,(aA .i64 f_7 1),g_7,[e_7],())).bind fun r18=>some (.inl (a_7,(b_7.set j16 ((iB .i64 (bF .i64 (aA .i64 (aA .i64 y11.1 y15.1) y15.2.1) y11.2.1) 2),(iB .i64 (aA .i64 (aA .i64 (bF .i64 y15.1 y11.1) y15.2.1) y11.2.1) 2),())),c_7,r18.1,h_7,i_7,(aA .i64 k_7 1),()))) (fun _=>none))) (fun _=>none))) (some (.inr (.inl (b,()))))
def vR:=aa ji
def B0:Ann:=⟨sh [(6,.av (.ptr 6 0)),(10,.av (.own 10)),(11,.av (.ownd 11)),(13,.av (.own 13)),(112,.av (.val (.slice I))),(113,.av (.val I)),(114,.av (.val I))] [(6,.box [.ownd 700000]),(700000,.deep .bool),(10,.arr yQ2),(11,.deep I),(13,.arr I)],[(.exit 6,sh [(10,.av (.own 10))] [(10,.arr yQ2)])],vR⟩
def nt (x:Q23):Option (Q23⊕(((List (List Bool))×(List Q2)×(List (List Int))×List Int×Unit)⊕Empty)) :=
 let (a,b,c,d,e,f,_):=x; cond (ltI f e) ((aO c.length f).bind fun j1=>some (.inl (a,b,(c.set j1 [f]),d,e,(aA .i64 f 1),()))) (some (.inr (.inl (a,b,c,d,()))))
def pL:=aa nt
def Ba:Ann:=⟨sh [(1,.av (.val (.slice I))),(6,.av (.ptr 6 0)),(10,.av (.own 10)),(11,.av (.ownd 11)),(91,.av (.val I)),(92,.av (.val I))] [(6,.box [.ownd 700000]),(700000,.deep .bool),(10,.arr yQ2),(11,.deep I)],[(.exit 4,sh [(1,.av (.val (.slice I))),(6,.av (.ptr 6 0)),(10,.av (.own 10)),(11,.av (.ownd 11))] [(6,.box [.ownd 700000]),(700000,.deep .bool),(10,.arr yQ2),(11,.deep I)])],pL⟩
def mP (x:Q32):Option (Q32⊕(Q17⊕Empty)) :=
 let (a,b,c,d,e,f,g,h,_):=x; cond (ltI h g) ((aF f h).bind fun y1=>(aO d.length y1.1).bind fun j2=>(aO d.length y1.2.1).bind fun j3=>(aO (aV d j2).length y1.2.1).bind fun j4=>(aO (aV (d.set j2 ((aV d j2).set j4 true)) j3).length y1.1).bind fun j5=>some (.inl (a,b,c,((d.set j2 ((aV d j2).set j4 true)).set j3 ((aV (d.set j2 ((aV d j2).set j4 true)) j3).set j5 true)),e,f,g,(aA .i64 h 1),()))) (some (.inr (.inl (a,b,c,d,e,()))))
def uD:=aa mP
def Bl:Ann:=⟨sh [(1,.av (.val (.slice I))),(2,.av (.ptr 2 0)),(6,.av (.ptr 6 0)),(49,.av (.val (.slice yQ2))),(50,.av (.val I)),(51,.av (.val I))] [(2,.box [.val I,.val (.slice yQ2),.val yQ5]),(6,.box [.ownd 700000]),(700000,.deep .bool)],[(.exit 2,sh [(1,.av (.val (.slice I))),(2,.av (.ptr 2 0)),(6,.av (.ptr 6 0))] [(2,.box [.val I,.val (.slice yQ2),.val yQ5]),(6,.box [.ownd 700000]),(700000,.deep .bool)])],uD⟩
def sD (x:Q27):Option (Q27⊕(Q17⊕Empty)) :=
 let (a,b,c,d,e,f,g,_):=x; cond (ltI g f) ((eD .bool a a).bind fun m1=>(aO d.length g).bind fun j2=>some (.inl (a,b,c,(d.set j2 m1),e,f,(aA .i64 g 1),()))) (some (.inr (.inl (a,b,c,d,e,()))))
def vE:=aa sD
def F7:Ann:=⟨sh [(1,.av (.val (.slice I))),(2,.av (.ptr 2 0)),(6,.av (.ptr 6 0)),(37,.av (.val I)),(38,.av (.val I))] [(2,.box [.val I,.val (.slice yQ2),.val yQ5]),(6,.box [.ownd 700000]),(700000,.deep .bool)],[(.exit 0,sh [(1,.av (.val (.slice I))),(2,.av (.ptr 2 0)),(6,.av (.ptr 6 0))] [(2,.box [.val I,.val (.slice yQ2),.val yQ5]),(6,.box [.ownd 700000]),(700000,.deep .bool)])],vE⟩
def Zaw (x:Q7):Option ((List Q2)×Int×Unit) :=
 let ((a,b,c,_),d,_):=x; (Zb ((a,b,c,()),())).bind fun r1=>cond (!r1.1) (some ([],13,())) ((Zbb ((a,b,c,()),d,())).bind fun r2=>cond (!r2.1) (some ([],1,())) ((eD (.slice .bool) a a).bind fun m3=>(vE (a,b,c,m3,d,(m3.length:Nat),0,())).bind (LV (fun (a_5,b_5,c_5,d_5,e_5,_)=>(uD (a_5,b_5,c_5,d_5,e_5,b_5,(b_5.length:Nat),0,())).bind (LV (fun (a_7,_,_,b_7,c_7,_)=>(eD yQ2 a_7 a_7).bind fun m8=>(aF c_7 1).bind fun y9=>(aF c_7 2).bind fun y10=>(aO m8.length y9).bind fun j11=>(m8[j11]?).bind fun y12=>(aO (m8.set j11 (2,0,())).length y10).bind fun j13=>((m8.set j11 (2,0,()))[j13]?).bind fun y14=>(eD (.slice I) a_7 a_7).bind fun m15=>(pL (b_7,((m8.set j11 (2,0,())).set j13 (1,1,())),m15,c_7,(m15.length:Nat),0,())).bind (LV (fun (a_17,b_17,c_17,d_17,_)=>(aF d_17 0).bind fun y18=>(aF d_17 2).bind fun y19=>(aF d_17 1).bind fun y20=>(co d_17 3 (d_17.length:Nat)).bind fun y21=>(vR (a_17,b_17,c_17,[y18,y19,y20],y21,(y21.length:Nat),0,())).bind (LV (fun z23=>(uK (z23.1,(z23.1.length:Nat),0,())).bind (LV (fun z25=>some (z25.1,0,())) (fun _=>none))) (fun _=>none))) (fun _=>none))) (fun _=>none))) (fun _=>none))))
def KL:Fn:=mkF { cx [J8,Kd,LA,K7] with deep:=[35,89],maps:=maps,light:=[14,38] } [(7,F7),(12,Bl),(20,Ba),(26,B0),(30,BH),(33,Bp),(40,Ch),(50,BK)] 7 Tryz.f7 [(.rd,yQ9),(.rd,(.slice I))] [(.tmp 4,true,(.slice yQ2)),(.tmp 5,true,I)] Zaw [lp 7 F7 sD,lp 12 Bl mP,lp 20 Ba nt,lp 26 B0 ji,lp 30 BH qe,lp 33 Bp nK,lp 40 Ch ny,lp 50 BK m4] aq ah rfl (d:=true)
def xz (x:(Int×(List Q2)×Int×Unit)):Option ((Int×(List Q2)×Int×Unit)⊕((Bool×Unit)⊕(Unit⊕Empty))) :=
 let (a,b,c,_):=x; cond (ltI c (b.length:Nat)) ((aF b c).bind fun y1=>cond (ltI y1.1 0) (some (.inr (.inl (false,())))) (cond (geI y1.1 a) (some (.inr (.inl (false,())))) (cond (ltI y1.2.1 0) (some (.inr (.inl (false,())))) (cond (geI y1.2.1 a) (some (.inr (.inl (false,())))) (some (.inl (a,b,(aA .i64 c 1),()))))))) (some (.inr (.inr (.inl ()))))
def Gr:=aa xz
def HV:Ann:=⟨sh [(1,.av (.ptr 1 0)),(3,.av (.val I))] [(1,.box [.val I,.val (.slice yQ2)])],[(.ret,sh [(2,.av (.val .bool))] []),(.exit 0,sh [] [])],Gr⟩
def Zy (x:((Int×(List Q2)×Unit)×Unit)):Option (Bool×Unit) :=
 let ((a,b,_),_):=x; cond (ltI a 0) (some (false,())) (cond (gtI a 64) (some (false,())) (cond (gtI (b.length:Nat) 256) (some (false,())) ((Gr (a,b,0,())).bind (LV (fun z2=>some (z2.1,())) (LV (fun z3=>some (true,())) (fun _=>none))))))
def Ll:Fn:=mkF { cx [] with maps:=maps } [(4,HV)] 28 Tryz.f28 [(.rd,G6)] [(.tmp 2,true,.bool)] Zy [lp 4 HV xz] aq ah rfl
def Zae (x:(Q2×Unit)):Option (Bool×Unit) :=
 let ((a,b,_),_):=x; cond (geI a (-268435456)) (cond (leI a 268435456) (cond (geI b (-268435456)) (some ((leI b 268435456),())) (some (false,()))) (some (false,()))) (some (false,()))
def Cf:Fn:=mkF { cx [] with maps:=maps } [] 29 Tryz.f29 [(.rd,yQ2)] [(.tmp 2,true,.bool)] Zae [] aq ah rfl
def Zq (x:Q3):Option (Bool×Unit) :=
 let ((a,b,_),(c,d,_),_):=x; cond (neI a c) (cond (neI a d) (cond (neI b c) (some ((neI b d),())) (some (false,()))) (some (false,()))) (some (false,()))
def Ln:Fn:=mkF { cx [] with maps:=maps } [] 30 Tryz.f30 [(.rd,yQ2),(.rd,yQ2)] [(.tmp 4,true,.bool)] Zq [] aq ah rfl
def Zs (x:(Q3×Unit)):Option (Bool×Unit) :=
 let (((a,b,_),(c,d,_),_),_):=x; (Zae ((a,b,()),())).bind fun r1=>cond r1.1 ((Zae ((c,d,()),())).bind fun r2=>some (r2.1,())) (some (false,()))
def JB:Fn:=mkF { cx [Cf] with maps:=maps } [] 61 Tryz.f61 [(.rd,yQ4)] [(.tmp 2,true,.bool)] Zs [] aq ah rfl
def Zaj (x:(Int×Unit)):Option (Int×Unit) :=
 cond (ltI x.1 0) (some ((-1),())) (cond (gtI x.1 0) (some (1,())) (some (0,())))
def JM:Fn:=mkF { cx [] with maps:=maps } [] 92 Tryz.f92 [(.rd,I)] [(.tmp 2,true,I)] Zaj [] aq ah rfl
def Zl (x:(Q2×Q2×Q2×Unit)):Option (Int×Unit) :=
 let ((a,b,_),(c,d,_),(e,f,_),_):=x; (Zae ((a,b,()),())).bind fun r1=>cond (!r1.1) (some (0,())) ((Zae ((c,d,()),())).bind fun r2=>cond (!r2.1) (some (0,())) ((Zae ((e,f,()),())).bind fun r3=>cond (!r3.1) (some (0,())) ((Zaj ((bF .i64 (dM .i64 (bF .i64 c a) (bF .i64 f b)) (dM .i64 (bF .i64 d b) (bF .i64 e a))),())).bind fun r4=>some (r4.1,()))))
def Ky:Fn:=mkF { cx [Cf,JM] with maps:=maps } [] 62 Tryz.f62 [(.rd,yQ2),(.rd,yQ2),(.rd,yQ2)] [(.tmp 6,true,I)] Zl [] aq ah rfl
def Zr (x:(Q3×Q3×Unit)):Option (Bool×Unit) :=
 let (((a,b,_),(c,d,_),_),((e,f,_),(g,h,_),_),_):=x; (Zs (((a,b,()),(c,d,()),()),())).bind fun r1=>cond (!r1.1) (some (false,())) ((Zs (((e,f,()),(g,h,()),()),())).bind fun r2=>cond (!r2.1) (some (false,())) ((Zl ((a,b,()),(c,d,()),(e,f,()),())).bind fun r3=>(Zl ((a,b,()),(c,d,()),(g,h,()),())).bind fun r4=>cond (ltI (dM .i64 r3.1 r4.1) 0) ((Zl ((e,f,()),(g,h,()),(a,b,()),())).bind fun r5=>(Zl ((e,f,()),(g,h,()),(c,d,()),())).bind fun r6=>some ((ltI (dM .i64 r5.1 r6.1) 0),())) (some (false,()))))
def K4:Fn:=mkF { cx [JB,Ky] with maps:=maps } [] 60 Tryz.f60 [(.rd,yQ4),(.rd,yQ4)] [(.tmp 4,true,.bool)] Zr [] aq ah rfl
def Zat (x:(Q2×Q3×Unit)):Option (Bool×Unit) :=
 let ((a,b,_),((c,d,_),(e,f,_),_),_):=x; (Zae ((a,b,()),())).bind fun r1=>cond (!r1.1) (some (false,())) ((Zs (((c,d,()),(e,f,()),()),())).bind fun r2=>cond (!r2.1) (some (false,())) ((Zl ((c,d,()),(e,f,()),(a,b,()),())).bind fun r3=>cond (neI r3.1 0) (some (false,())) (cond (geI a (eR c e)) (cond (leI a (maxI c e)) (cond (geI b (eR d f)) (some ((leI b (maxI d f)),())) (some (false,()))) (some (false,()))) (some (false,())))))
def H4:Fn:=mkF { cx [Cf,JB,Ky] with maps:=maps } [] 32 Tryz.f32 [(.rd,yQ2),(.rd,yQ4)] [(.tmp 4,true,.bool)] Zat [] aq ah rfl
def Zal (x:(Q3×Q3×Unit)):Option (Bool×Unit) :=
 let (((a,b,_),(c,d,_),_),((e,f,_),(g,h,_),_),_):=x; let t_2:=(Zat ((g,h,()),((a,b,()),(c,d,()),()),())).bind fun r8=>cond r8.1 ((Zs (((e,f,()),(g,h,()),()),())).bind fun r9=>some (r9.1,())) (some (false,())); let t_1:=(Zat ((e,f,()),((a,b,()),(c,d,()),()),())).bind fun r6=>cond r6.1 ((Zs (((e,f,()),(g,h,()),()),())).bind fun r7=>cond r7.1 (some (true,())) t_2) t_2; let t_0:=(Zat ((c,d,()),((e,f,()),(g,h,()),()),())).bind fun r4=>cond r4.1 ((Zs (((a,b,()),(c,d,()),()),())).bind fun r5=>cond r5.1 (some (true,())) t_1) t_1; (Zr (((a,b,()),(c,d,()),()),((e,f,()),(g,h,()),()),())).bind fun r1=>cond r1.1 (some (true,())) ((Zat ((a,b,()),((e,f,()),(g,h,()),()),())).bind fun r2=>cond r2.1 ((Zs (((a,b,()),(c,d,()),()),())).bind fun r3=>cond r3.1 (some (true,())) t_0) t_0)
def Kf:Fn:=mkF { cx [H4,K4,JB] with maps:=maps } [] 31 Tryz.f31 [(.rd,yQ4),(.rd,yQ4)] [(.tmp 4,true,.bool)] Zal [] aq ah rfl
def rX (x:Q28):Option (Q28⊕(Q8⊕Empty)) :=
 let (a,b,c,d,e,f,g,h,i,k,l,m,_):=x; cond (ltI m a) (cond (neI m c) (cond (neI m d) ((aF i m).bind fun y1=>(Zat (y1,((e,f,()),(g,h,()),()),())).bind fun r2=>cond r2.1 (some (.inl (a,b,c,d,e,f,g,h,i,(aA .i64 k 1),l,(aA .i64 m 1),()))) (some (.inl (a,b,c,d,e,f,g,h,i,k,l,(aA .i64 m 1),())))) (some (.inl (a,b,c,d,e,f,g,h,i,k,l,(aA .i64 m 1),())))) (some (.inl (a,b,c,d,e,f,g,h,i,k,l,(aA .i64 m 1),())))) (some (.inr (.inl (a,b,i,k,l,()))))
def Am:=aa rX
def EM:Ann:=⟨sh [(1,.av (.val (.slice yQ2))),(2,.av (.ptr 2 0)),(6,.av (.val I)),(7,.av (.val I)),(8,.av (.ptr 8 0)),(9,.av (.ptr 9 0)),(12,.av (.val I))] [(2,.box [.val I,.val (.slice yQ2)]),(8,.box [.val I,.val I]),(9,.box [.val I,.val I,.val I,.val I])],[(.exit 6,sh [(1,.av (.val (.slice yQ2))),(2,.av (.ptr 2 0)),(6,.av (.val I)),(7,.av (.val I))] [(2,.box [.val I,.val (.slice yQ2)])])],Am⟩
def sJ (x:Q28):Option (Q28⊕((Int×(List Q2)×Int×Int×Int×Int×Int×Int×(List Q2)×Int×Int×Unit)⊕Empty)) :=
 let (a,b,c,d,e,f,g,h,i,k,l,m,_):=x; cond (ltI m l) ((aF b m).bind fun y1=>(Zq ((c,d,()),(y1.1,y1.2.1,()),())).bind fun r2=>cond r2.1 ((aF i y1.1).bind fun y3=>(aF i y1.2.1).bind fun y4=>(Zal (((e,f,()),(g,h,()),()),((y3.1,y3.2.1,()),(y4.1,y4.2.1,()),()),())).bind fun r5=>cond r5.1 (some (.inl (a,b,c,d,e,f,g,h,i,(aA .i64 k 1),l,(aA .i64 m 1),()))) (some (.inl (a,b,c,d,e,f,g,h,i,k,l,(aA .i64 m 1),())))) (some (.inl (a,b,c,d,e,f,g,h,i,k,l,(aA .i64 m 1),())))) (some (.inr (.inl (a,b,c,d,e,f,g,h,i,k,l,()))))
def yU:=aa sJ
def Gp:Ann:=⟨sh [(1,.av (.val (.slice yQ2))),(2,.av (.ptr 2 0)),(6,.av (.val I)),(7,.av (.val I)),(8,.av (.ptr 8 0)),(9,.av (.ptr 9 0)),(10,.av (.val I))] [(2,.box [.val I,.val (.slice yQ2)]),(8,.box [.val I,.val I]),(9,.box [.val I,.val I,.val I,.val I])],[(.exit 4,sh [(1,.av (.val (.slice yQ2))),(2,.av (.ptr 2 0)),(6,.av (.val I)),(7,.av (.val I)),(8,.av (.ptr 8 0)),(9,.av (.ptr 9 0))] [(2,.box [.val I,.val (.slice yQ2)]),(8,.box [.val I,.val I]),(9,.box [.val I,.val I,.val I,.val I])])],yU⟩
def qw (x:Q8):Option (Q8⊕((Int×Unit)⊕Empty)) :=
 let (a,b,c,d,e,_):=x; cond (ltI e (b.length:Nat)) ((aF b e).bind fun y1=>(aF c y1.1).bind fun y2=>(aF c y1.2.1).bind fun y3=>(yU (a,b,y1.1,y1.2.1,y2.1,y2.2.1,y3.1,y3.2.1,c,d,e,0,())).bind (LV (fun (a_5,b_5,c_5,d_5,e_5,f_5,g_5,h_5,i_5,k_5,l_5,_)=>(Am (a_5,b_5,c_5,d_5,e_5,f_5,g_5,h_5,i_5,k_5,l_5,0,())).bind (LV (fun z7=>some (.inl (z7.1,z7.2.1,z7.2.2.1,z7.2.2.2.1,(aA .i64 z7.2.2.2.2.1 1),()))) (fun _=>none))) (fun _=>none))) (some (.inr (.inl (d,()))))
def zG:=aa qw
def Gw:Ann:=⟨sh [(1,.av (.val (.slice yQ2))),(2,.av (.ptr 2 0)),(6,.av (.val I)),(7,.av (.val I))] [(2,.box [.val I,.val (.slice yQ2)])],[(.exit 2,sh [(6,.av (.val I))] [])],zG⟩
def v9 (x:(Int×(List Q2)×(List Q2)×Int×Unit)):Option ((Int×(List Q2)×(List Q2)×Int×Unit)⊕((Int×Unit)⊕((Int×(List Q2)×(List Q2)×Unit)⊕Empty))) :=
 let (a,b,c,d,_):=x; cond (ltI d a) ((aF c d).bind fun y1=>(Zae (y1,())).bind fun r2=>cond (!r2.1) (some (.inr (.inl ((-1),())))) (some (.inl (a,b,c,(aA .i64 d 1),())))) (some (.inr (.inr (.inl (a,b,c,())))))
def Bd:=aa v9
def H9:Ann:=⟨sh [(1,.av (.val (.slice yQ2))),(2,.av (.ptr 2 0)),(5,.av (.val I))] [(2,.box [.val I,.val (.slice yQ2)])],[(.ret,sh [(4,.av (.val I))] []),(.exit 0,sh [(1,.av (.val (.slice yQ2))),(2,.av (.ptr 2 0))] [(2,.box [.val I,.val (.slice yQ2)])])],Bd⟩
def Zf (x:((Int×(List Q2)×Unit)×(List Q2)×Unit)):Option (Int×Unit) :=
 let ((a,b,_),c,_):=x; (Zy ((a,b,()),())).bind fun r1=>cond (!r1.1) (some ((-1),())) (cond (neI (c.length:Nat) a) (some ((-1),())) ((Bd (a,b,c,0,())).bind (LV (fun z3=>some (z3.1,())) (LV (fun z4=>(zG (z4.1,z4.2.1,z4.2.2.1,0,0,())).bind (LV (fun z6=>some (z6.1,())) (fun _=>none))) (fun _=>none)))))
def KX:Fn:=mkF { cx [Ll,Cf,Ln,Kf,H4] with maps:=maps } [(4,H9),(10,Gw),(15,Gp),(21,EM)] 12 Tryz.f12 [(.rd,G6),(.rd,(.slice yQ2))] [(.tmp 4,true,I)] Zf [lp 4 H9 v9,lp 10 Gw qw,lp 15 Gp sJ,lp 21 EM rX] aq ah rfl
def yE (x:((List Q2)×List Int×Int×Int×Unit)):Option (((List Q2)×List Int×Int×Int×Unit)⊕((Bool×Unit)⊕(((List Q2)×List Int×Int×Unit)⊕Empty))) :=
 let (a,b,c,d,_):=x; cond (ltI d c) ((aO a.length d).bind fun j1=>(a[j1]?).bind fun y2=>cond (ltI y2.1 0) (some (.inr (.inl (false,())))) ((aO a.length d).bind fun j3=>(a[j3]?).bind fun y4=>cond (gtI y4.1 (bF .i64 (dM .i64 2 c) 4)) (some (.inr (.inl (false,())))) ((aO a.length d).bind fun j5=>(a[j5]?).bind fun y6=>cond (gtI y6.2.1 0) (some (.inr (.inl (false,())))) ((aO a.length d).bind fun j7=>(a[j7]?).bind fun y8=>cond (ltI y8.2.1 (bF .i64 2 c)) (some (.inr (.inl (false,())))) (some (.inl (a,b,c,(aA .i64 d 1),()))))))) (some (.inr (.inr (.inl (a,b,c,())))))
def F8:=aa yE
def IF:Ann:=⟨sh [(1,.av (.val (.slice I))),(5,.av (.own 5)),(7,.av (.val I)),(8,.av (.val I))] [(5,.arr yQ2)],[(.ret,sh [(4,.av (.val .bool))] []),(.exit 0,sh [(1,.av (.val (.slice I))),(5,.av (.own 5)),(7,.av (.val I))] [(5,.arr yQ2)])],F8⟩
def Zd (x:Q7):Option (Bool×Unit) :=
 let ((a,b,c,_),d,_):=x; (Zad ((a,b,c,()),())).bind fun r1=>cond (!r1.1) ((Zv ()).bind fun r2=>some (r2.1,())) (cond (gtI (d.length:Nat) 20) ((Zv ()).bind fun r3=>some (r3.1,())) ((Zc ((a,b,c,()),())).bind fun r4=>cond (!r4.1) ((Zv ()).bind fun r5=>some (r5.1,())) ((Zt ((a,b,c,()),d,())).bind fun r6=>cond (!r6.1) ((Zv ()).bind fun r7=>some (r7.1,())) ((Zaw ((a,b,c,()),d,())).bind fun r8=>cond (neI r8.2.1 0) (some (false,())) (cond (neI (r8.1.length:Nat) a) (some (false,())) ((Zf ((a,b,()),r8.1,())).bind fun r9=>cond (neI r9.1 0) (some (false,())) ((F8 (r8.1,d,a,0,())).bind (LV (fun z11=>some (z11.1,())) (LV (fun (a_12,b_12,c_12,_)=>(aF b_12 0).bind fun y13=>(aO a_12.length y13).bind fun j14=>(a_12[j14]?).bind fun y15=>cond ((eqI y15.1 0) && ((eqI y15.2.1 0) && true)) ((aF b_12 1).bind fun y16=>(aO a_12.length y16).bind fun j17=>(a_12[j17]?).bind fun y18=>cond ((eqI y18.1 (bF .i64 (dM .i64 2 c_12) 4)) && ((eqI y18.2.1 0) && true)) ((aF b_12 (bF .i64 c_12 1)).bind fun y19=>(aO a_12.length y19).bind fun j20=>(a_12[j20]?).bind fun y21=>cond ((eqI y21.1 (bF .i64 c_12 2)) && ((eqI y21.2.1 (bF .i64 2 c_12)) && true)) ((Zv ()).bind fun r22=>some (r22.1,())) (some (false,()))) (some (false,()))) (some (false,()))) (fun _=>none))))))))))
def Zd_h:Fn:=mkF { cx [Kp,K8,KL,KI,K3,KX] with maps:=maps } [(8,IF)] 4 Tryz.f4 [(.rd,yQ9),(.rd,(.slice I))] [(.tmp 4,true,.bool)] Zd [lp 8 IF yE] aq ah rfl
def Zd_c:Con:={ ins:=[(.rd,yQ9),(.rd,(.slice I))],outs:=[(true,.bool)],fn:=Zd }
theorem FD:Con.Holds Tryz.prog glob 4 Zd_c:=Zd_h.ok
end
end Go.Vm

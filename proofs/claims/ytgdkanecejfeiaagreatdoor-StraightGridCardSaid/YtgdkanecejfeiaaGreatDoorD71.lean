/-
 The functions that the law reaches, as functions on values, and the proofs that the machine computes them.
-/
import Derived.Test.YtgdkanecejfeiaaGreatDoorVmPack
import Derived.Test.YtgdkanecejfeiaaGreatDoorXG
import Derived.Test.YtgdkanecejfeiaaGreatDoorSA
import Derived.Test.YtgdkanecejfeiaaGreatDoorSA
import Derived.Test.YtgdkanecejfeiaaGreatDoorSA
import Derived.Test.YtgdkanecejfeiaaGreatDoorProg
import Derived.KernelRfl
open Sum renaming elim→LV
set_option linter.unusedVariables false
set_option linter.unusedSimpArgs false
namespace Go.Vm
open Go.Proofs
abbrev I:Ty:=.int .i64
abbrev yQ1:Ty:=.prod I .unit
abbrev yQ2:Ty:=.prod I yQ1
abbrev yQ3:Ty:=.prod yQ2 .unit
abbrev yQ4:Ty:=.prod yQ2 yQ3
abbrev yQ5:Ty:=.slice (.slice I)
abbrev yQ6:Ty:=.prod yQ5 .unit
abbrev yQ7:Ty:=.slice (.slice .bool)
abbrev yQ8:Ty:=.prod (.slice yQ2) yQ6
abbrev yQ9:Ty:=.prod I yQ8
abbrev Lf:Ty:=.prod (.slice I) .unit
abbrev D7:Ty:=.prod (.slice I) Lf
abbrev G6:Ty:=.prod I (.prod (.slice yQ2) .unit)
abbrev Q1:=List Int×Unit
abbrev Q2:=Int×Int×Unit
abbrev Q3:=Q2×Q2×Unit
abbrev Q4:=List Int×Int×Unit
abbrev Q5:=(List (List Int))×Unit
abbrev Q6:=Int×(List Q2)×(List (List Int))×Unit
abbrev Q7:=Q6×List Int×Unit
abbrev Q8:=Int×(List Q2)×(List Q2)×Int×Int×Unit
abbrev Q9:=List Int×(List (List Int))×Int×Int×Unit
abbrev Q10:=Int×(List Q2)×(List (List Int))×Int×Unit
abbrev Q11:=Int×(List Q2)×(List (List Int))×List Int×Unit
abbrev Q12:=Int×(List Q2)×(List (List Int))×List Int×Int×Unit
abbrev Q13:=Int×(List Q2)×(List (List Int))×Int×Int×Int×Unit
abbrev Q14:=Int×(List Q2)×(List (List Int))×List Bool×List Int×Int×Unit
abbrev Q15:=Int×(List Q2)×(List (List Int))×List Bool×Int×Int×Int×Unit
abbrev Q16:=List Int×List Int×List Bool×Int×Int×Int×Int×Int×Int×Unit
abbrev Q17:=Int×(List Q2)×(List (List Int))×(List (List Bool))×List Int×Unit
abbrev Q18:=Int×(List Q2)×(List (List Int))×List Int×Int×List Int×Int×Unit
abbrev Q19:=Int×(List Q2)×(List (List Int))×List Int×List Int×Int×Int×Unit
abbrev Q20:=List Int×List Bool×(List (List Int))×List Int×Int×Int×Int×Unit
abbrev Q21:=Int×(List Q2)×(List (List Int))×List Int×List Bool×Int×Int×Unit
abbrev Q22:=Int×(List Q2)×(List (List Int))×Int×(List (List Int))×Int×Int×Unit
abbrev Q23:=(List (List Bool))×(List Q2)×(List (List Int))×List Int×Int×Int×Unit
abbrev Q24:=List Int×List Int×(List (List Int))×Int×Int×List Int×Int×Int×Unit
abbrev Q25:=Int×(List Q2)×(List (List Int))×List Int×List Bool×Int×Int×Int×Unit
abbrev Q26:=Int×(List Q2)×(List (List Int))×List Bool×List Int×Int×Int×Int×Unit
abbrev Q27:=Int×(List Q2)×(List (List Int))×(List (List Bool))×List Int×Int×Int×Unit
abbrev Q28:=Int×(List Q2)×Int×Int×Int×Int×Int×Int×(List Q2)×Int×Int×Int×Unit
abbrev Q29:=(List (List Bool))×(List Q2)×(List (List Int))×List Int×List Int×Int×Int×Unit
abbrev Q30:=Int×(List Q2)×(List (List Int))×List Bool×Int×(List (List Int))×Int×Int×Unit
abbrev Q31:=Int×(List Q2)×(List (List Int))×List Bool×List Int×Int×List Int×Int×Int×Unit
abbrev Q32:=Int×(List Q2)×(List (List Int))×(List (List Bool))×List Int×(List Q2)×Int×Int×Unit
abbrev Q33:=Int×(List Q2)×(List (List Int))×List Int×Int×List Int×Int×Int×Int×Int×Int×Unit
abbrev Q34:=Int×(List Q2)×(List (List Int))×List Int×Int×List Int×Int×Int×Int×Int×Int×Int×Unit
abbrev Q35:=Int×(List Q2)×(List (List Int))×List Bool×List Int×Int×Int×Int×List Int×Int×Int×Unit
abbrev Q36:=Int×(List Q2)×(List (List Int))×List Bool×(List (List Int))×List Int×List Int×Int×Int×Unit
abbrev Q37:=(List (List Bool))×(List Q2)×(List (List Int))×List Int×Int×Int×Int×List Int×Int×Int×Unit
abbrev Q38:=Int×(List Q2)×(List (List Int))×List Bool×Int×Int×(List (List Int))×Int×Int×List Int×Int×Int×Unit
abbrev Q39:=(List (List Bool))×(List Q2)×(List (List Int))×List Int×Int×Int×Int×List Int×Int×Int×Int×Int×Int×Int×Unit
abbrev Q40:=(List (List Bool))×(List Q2)×(List (List Int))×List Int×Int×Int×Int×Int×List Int×Int×Int×Int×Int×Int×Int×Int×Int×Int×Unit
noncomputable section
def tab:Tab:=[(2,I),(3,I),(4,.bool),(5,(.int .u8)),(6,(.int .u8)),(7,(.prod I (.prod I (.prod .bool (.prod (.int .u8) .unit))))),(8,(.prod I (.prod I (.prod .bool (.prod (.int .u8) .unit))))),(9,.str),(10,.str),(11,.str),(12,(.int .u64)),(13,(.prod .str (.prod (.int .u64) .unit))),(14,(.prod .str (.prod (.int .u64) .unit))),(21,(.int .i32)),(22,(.slice yQ2)),(23,yQ5),(24,yQ9),(25,yQ9),(26,(.slice I)),(29,(.slice yQ2)),(30,I),(36,G6),(37,G6),(38,yQ2),(39,yQ2),(40,yQ2),(41,yQ2),(43,yQ7),(44,(.slice .bool)),(49,yQ8),(50,yQ8),(64,yQ4),(65,yQ4),(106,yQ4),(107,yQ4),(120,(.prod I (.prod yQ5 (.prod (.slice .bool) (.prod yQ7 yQ6))))),(121,(.prod I (.prod yQ5 (.prod (.slice .bool) (.prod yQ7 yQ6))))),(122,yQ8),(123,yQ8),(126,(.int .u64)),(131,(.prod yQ9 D7)),(132,(.prod yQ9 D7)),(135,(.arr 2 I)),(142,(.slice D7)),(144,D7),(145,D7),(149,I),(157,(.int .u32)),(159,(.int .u64)),(172,(.int .u64)),(196,(.int .u8)),(197,(.int .u8)),(200,(.int .i32)),(201,(.int .i32))]
def eqs:List Nat:=[39]
def maps:List (Nat×Ty×Ty):=[(137,yQ2,.bool)]
def glob:List (Nat×(Σ t:Ty,t.den)):=[(0,⟨(.arr 2 I),[16384,32768]⟩)]
theorem au:SeatOK Tryz.prog tab eqs:=⟨by kernel_rfl,by kernel_rfl,by kernel_rfl⟩
abbrev Fn:=FnC Tryz.prog glob
def cx (l:List Fn):Ctx:={ tab:=tab,con:=Cn l,glob:=glob,eqs:=eqs }
set_option maxRecDepth 100000
def yx (x:Q10):Option (Q10⊕((Bool×Unit)⊕(Unit⊕Empty))) :=
 let (a,b,c,d,_):=x; cond (ltI d (c.length:Nat)) ((aF c d).bind fun y1=>cond (gtI (y1.length:Nat) 80) (some (.inr (.inl (false,())))) (some (.inl (a,b,c,(aA .i64 d 1),())))) (some (.inr (.inr (.inl ()))))
def Gn:=aa yx
def Ix:Ann:=⟨sh [(1,.av (.ptr 1 0)),(3,.av (.val I))] [(1,.box [.val I,.val (.slice yQ2),.val yQ5])],[(.ret,sh [(2,.av (.val .bool))] []),(.exit 0,sh [] [])],Gn⟩
def Zs (x:(Q6×Unit)):Option (Bool×Unit) :=
 let ((a,b,c,_),_):=x; cond (gtI a 10) (some (false,())) (cond (gtI (b.length:Nat) 40) (some (false,())) (cond (gtI (c.length:Nat) 10) (some (false,())) ((Gn (a,b,c,0,())).bind (LV (fun z2=>some (z2.1,())) (LV (fun z3=>some (true,())) (fun _=>none))))))
def LA:Fn:=mkF { cx [] with maps:=maps } [(4,Ix)] 5 Tryz.f5 [(.rd,yQ9)] [(.tmp 2,true,.bool)] Zs [lp 4 Ix yx] au ah rfl
def Zq (x:Unit):Option (Bool×Unit):=Rx.trueCon.fn x
def LF:Fn:=⟨6,Rx.trueCon,Rx.awake37 rfl⟩
def wD (x:Q12):Option (Q12⊕(Q1⊕Empty)) :=
 let (a,b,c,d,e,_):=x; cond (ltI e (b.length:Nat)) ((aF b e).bind fun y1=>(aF b e).bind fun y2=>(app d [y1.1,y2.2.1]).bind fun a3=>some (.inl (a,b,c,a3,(aA .i64 e 1),()))) (some (.inr (.inl (d,()))))
def Ec:=aa wD
def HV:Ann:=⟨sh [(1,.av (.ptr 1 0)),(3,.av (.own 3)),(4,.av (.val I))] [(1,.box [.val I,.val (.slice yQ2),.val yQ5]),(3,.arr I)],[(.exit 0,sh [(3,.av (.own 3))] [(3,.arr I)])],Ec⟩
def Zz (x:(Q6×Unit)):Option Q1 :=
 (Ec (x.1.1,x.1.2.1,x.1.2.2.1,[],0,())).bind (LV (fun z2=>some (z2.1,())) (fun _=>none))
def KH:Fn:=mkF { cx [] with maps:=maps } [(3,HV)] 90 Tryz.f90 [(.rd,yQ9)] [(.tmp 2,true,(.slice I))] Zz [lp 3 HV wD] au ah rfl
def qK (x:Q25):Option (Q25⊕((Bool×Unit)⊕(Q21⊕Empty))) :=
 let (a,b,c,d,e,f,g,h,_):=x; (aF c g).bind fun y1=>cond (ltI h (y1.length:Nat)) ((aF c g).bind fun y2=>(aF y2 h).bind fun y3=>cond (ltI y3 0) (some (.inr (.inl (false,())))) (cond (geI y3 (d.length:Nat)) (some (.inr (.inl (false,())))) ((aO e.length y3).bind fun j4=>(e[j4]?).bind fun y5=>cond y5 (some (.inr (.inl (false,())))) ((aO d.length y3).bind fun j6=>(d[j6]?).bind fun y7=>cond (neI y7 g) (some (.inr (.inl (false,())))) ((aO e.length y3).bind fun j8=>(e[j8]?).bind fun y9=>some (.inl (a,b,c,d,(e.set j8 true),(aA .i64 f 1),g,(aA .i64 h 1),()))))))) (some (.inr (.inr (.inl (a,b,c,d,e,f,g,())))))
def zX:=aa qK
def E0:Ann:=⟨sh [(1,.av (.ptr 1 0)),(5,.av (.own 5)),(6,.av (.own 6)),(7,.av (.val I)),(8,.av (.val I)),(9,.av (.val I))] [(1,.box [.val I,.val (.slice yQ2),.val yQ5]),(5,.arr I),(6,.arr .bool)],[(.ret,sh [(2,.av (.val .bool))] []),(.exit 4,sh [(1,.av (.ptr 1 0)),(5,.av (.own 5)),(6,.av (.own 6)),(7,.av (.val I)),(8,.av (.val I))] [(1,.box [.val I,.val (.slice yQ2),.val yQ5]),(5,.arr I),(6,.arr .bool)])],zX⟩
def rN (x:Q21):Option (Q21⊕((Bool×Unit)⊕(Q4⊕Empty))) :=
 let (a,b,c,d,e,f,g,_):=x; cond (ltI g a) ((zX (a,b,c,d,e,f,g,0,())).bind (LV (fun z2=>some (.inr (.inl (z2.1,())))) (LV (fun (a_3,b_3,c_3,d_3,e_3,f_3,g_3,_)=>some (.inl (a_3,b_3,c_3,d_3,e_3,f_3,(aA .i64 g_3 1),()))) (fun _=>none)))) (some (.inr (.inr (.inl (d,f,())))))
def zh:=aa rN
def Ed:Ann:=⟨sh [(1,.av (.ptr 1 0)),(5,.av (.own 5)),(6,.av (.own 6)),(7,.av (.val I)),(8,.av (.val I))] [(1,.box [.val I,.val (.slice yQ2),.val yQ5]),(5,.arr I),(6,.arr .bool)],[(.ret,sh [(2,.av (.val .bool))] []),(.exit 2,sh [(5,.av (.own 5)),(7,.av (.val I))] [(5,.arr I)])],zh⟩
def wZ (x:Q10):Option (Q10⊕((Bool×Unit)⊕(Q6⊕Empty))) :=
 let (a,b,c,d,_):=x; cond (ltI d (b.length:Nat)) ((aF b d).bind fun y1=>cond (ltI y1.1 0) (some (.inr (.inl (false,())))) (cond (geI y1.1 a) (some (.inr (.inl (false,())))) (cond (ltI y1.2.1 0) (some (.inr (.inl (false,())))) (cond (geI y1.2.1 a) (some (.inr (.inl (false,())))) (cond (eqI y1.1 y1.2.1) (some (.inr (.inl (false,())))) (some (.inl (a,b,c,(aA .i64 d 1),())))))))) (some (.inr (.inr (.inl (a,b,c,())))))
def GD:=aa wZ
def Id:Ann:=⟨sh [(1,.av (.ptr 1 0)),(3,.av (.val I))] [(1,.box [.val I,.val (.slice yQ2),.val yQ5])],[(.ret,sh [(2,.av (.val .bool))] []),(.exit 0,sh [(1,.av (.ptr 1 0))] [(1,.box [.val I,.val (.slice yQ2),.val yQ5])])],GD⟩
def Zt (x:(Q6×Unit)):Option (Bool×Unit) :=
 let ((a,b,c,_),_):=x; cond (ltI a 0) (some (false,())) (cond (gtI a 16384) (some (false,())) (cond (gtI (b.length:Nat) 32768) (some (false,())) (cond (neI (c.length:Nat) a) (some (false,())) ((GD (a,b,c,0,())).bind (LV (fun z2=>some (z2.1,())) (LV (fun (a_3,b_3,c_3,_)=>(Zz ((a_3,b_3,c_3,()),())).bind fun r4=>(eN .bool (r4.1.length:Nat) (r4.1.length:Nat)).bind fun m5=>(zh (a_3,b_3,c_3,r4.1,m5,0,0,())).bind (LV (fun z7=>some (z7.1,())) (LV (fun z8=>some ((eqI z8.2.1 (z8.1.length:Nat)),())) (fun _=>none)))) (fun _=>none)))))))
def Hq:Fn:=mkF { cx [KH] with maps:=maps } [(4,Id),(13,Ed),(16,E0)] 54 Tryz.f54 [(.rd,yQ9)] [(.tmp 2,true,.bool)] Zt [lp 4 Id wZ,lp 13 Ed rN,lp 16 E0 qK] au ah rfl
def xJ (x:Q18):Option (Q18⊕(Q12⊕Empty)) :=
 let (a,b,c,d,e,f,g,_):=x; cond (ltI g (f.length:Nat)) ((aF f g).bind fun y1=>cond (eqI (f.length:Nat) 0) none ((aF f (kC (aA .i64 g 1) (f.length:Nat))).bind fun y2=>(aO d.length y1).bind fun j3=>(d[j3]?).bind fun y4=>some (.inl (a,b,c,(d.set j3 y2),e,f,(aA .i64 g 1),())))) (some (.inr (.inl (a,b,c,d,e,()))))
def D1:=aa xJ
def Ia:Ann:=⟨sh [(1,.av (.ptr 1 0)),(3,.av (.own 3)),(4,.av (.val I)),(5,.av (.val (.slice I))),(6,.av (.val I))] [(1,.box [.val I,.val (.slice yQ2),.val yQ5]),(3,.arr I)],[(.exit 2,sh [(1,.av (.ptr 1 0)),(3,.av (.own 3)),(4,.av (.val I))] [(1,.box [.val I,.val (.slice yQ2),.val yQ5]),(3,.arr I)])],D1⟩
def yz (x:Q12):Option (Q12⊕(Q1⊕Empty)) :=
 let (a,b,c,d,e,_):=x; cond (ltI e a) ((aF c e).bind fun y1=>(D1 (a,b,c,d,e,y1,0,())).bind (LV (fun z3=>some (.inl (z3.1,z3.2.1,z3.2.2.1,z3.2.2.2.1,(aA .i64 z3.2.2.2.2.1 1),()))) (fun _=>none))) (some (.inr (.inl (d,()))))
def Ce:=aa yz
def Iy:Ann:=⟨sh [(1,.av (.ptr 1 0)),(3,.av (.own 3)),(4,.av (.val I))] [(1,.box [.val I,.val (.slice yQ2),.val yQ5]),(3,.arr I)],[(.exit 0,sh [(3,.av (.own 3))] [(3,.arr I)])],Ce⟩
def Zj (x:(Q6×Unit)):Option Q1 :=
 let ((a,b,c,_),_):=x; (eN I (dK .i64 2 (b.length:Nat)) (dK .i64 2 (b.length:Nat))).bind fun m1=>(Ce (a,b,c,m1,0,())).bind (LV (fun z3=>some (z3.1,())) (fun _=>none))
def KD:Fn:=mkF { cx [] with maps:=maps } [(3,Iy),(7,Ia)] 55 Tryz.f55 [(.rd,yQ9)] [(.tmp 2,true,(.slice I))] Zj [lp 3 Iy yz,lp 7 Ia xJ] au ah rfl
def Zv (x:(Int×Unit)):Option (Int×Unit) :=
 cond (eqI (kC x.1 2) 0) (some ((aA .i64 x.1 1),())) (some ((bE .i64 x.1 1),()))
def KF:Fn:=mkF { cx [] with maps:=maps } [] 56 Tryz.f56 [(.rd,I)] [(.tmp 2,true,I)] Zv [] au ah rfl
def nh (x:((List (List Int))×List Int×List Bool×List Int×Int×Int×Unit)):Option (((List (List Int))×List Int×List Bool×List Int×Int×Int×Unit)⊕(((List (List Int))×List Int×List Bool×List Int×Int×Unit)⊕Empty)) :=
 let (a,b,c,d,e,f,_):=x; (aO c.length f).bind fun j1=>(c[j1]?).bind fun y2=>cond (!y2) ((aO c.length f).bind fun j3=>(c[j3]?).bind fun y4=>(app d [f]).bind fun a5=>(Zv (f,())).bind fun r6=>(aO b.length r6.1).bind fun j7=>(b[j7]?).bind fun y8=>some (.inl (a,b,(c.set j3 true),a5,e,y8,()))) (some (.inr (.inl (a,b,c,d,e,()))))
def vJ:=aa nh
def BR:Ann:=⟨sh [(3,.av (.own 3)),(4,.av (.own 4)),(5,.av (.own 5)),(6,.av (.val I)),(7,.av (.own 7)),(8,.av (.val I))] [(3,.arr (.slice I)),(4,.arr I),(5,.arr .bool),(7,.arr I)],[(.exit 2,sh [(3,.av (.own 3)),(4,.av (.own 4)),(5,.av (.own 5)),(6,.av (.val I)),(7,.av (.own 7))] [(3,.arr (.slice I)),(4,.arr I),(5,.arr .bool),(7,.arr I)])],vJ⟩
def qs (x:((List (List Int))×List Int×List Bool×Int×Unit)):Option (((List (List Int))×List Int×List Bool×Int×Unit)⊕(Q5⊕Empty)) :=
 let (a,b,c,d,_):=x; cond (ltI d (b.length:Nat)) ((aO c.length d).bind fun j1=>(c[j1]?).bind fun y2=>cond y2 (some (.inl (a,b,c,(aA .i64 d 1),()))) ((vJ (a,b,c,[],d,d,())).bind (LV (fun z4=>(app z4.1 [z4.2.2.2.1]).bind fun a5=>some (.inl (a5,z4.2.1,z4.2.2.1,(aA .i64 z4.2.2.2.2.1 1),()))) (fun _=>none)))) (some (.inr (.inl (a,()))))
def zY:=aa qs
def Em:Ann:=⟨sh [(3,.av (.own 3)),(4,.av (.own 4)),(5,.av (.own 5)),(6,.av (.val I))] [(3,.arr (.slice I)),(4,.arr I),(5,.arr .bool)],[(.exit 0,sh [(3,.av (.own 3))] [(3,.arr (.slice I))])],zY⟩
def Zaa (x:(Q6×Unit)):Option Q5 :=
 let ((a,b,c,_),_):=x; (Zt ((a,b,c,()),())).bind fun r1=>cond (!r1.1) (some ([],())) ((Zj ((a,b,c,()),())).bind fun r2=>(eN .bool (r2.1.length:Nat) (r2.1.length:Nat)).bind fun m3=>(zY ([],r2.1,m3,0,())).bind (LV (fun z5=>some (z5.1,())) (fun _=>none)))
def Ih:Fn:=mkF { cx [Hq,KD,KF] with maps:=maps } [(7,Em),(12,BR)] 24 Tryz.f24 [(.rd,yQ9)] [(.tmp 2,true,yQ5)] Zaa [lp 7 Em qs,lp 12 BR nh] au ah rfl
def qH (x:Q4):Option (Q4⊕((Int×Unit)⊕Empty)) :=
 let (a,b,_):=x; (aF a b).bind fun y1=>cond (neI y1 b) ((aF a b).bind fun y2=>some (.inl (a,y2,()))) (some (.inr (.inl (b,()))))
def zg:=aa qH
def FO:Ann:=⟨sh [(0,.av (.val (.slice I))),(1,.av (.val I))] [],[(.exit 0,sh [(1,.av (.val I))] [])],zg⟩
def Zal (x:Q4):Option (Int×Unit) :=
 (zg (x.1,x.2.1,())).bind (LV (fun z2=>some (z2.1,())) (fun _=>none))
def Kl:Fn:=mkF { cx [] with maps:=maps } [(1,FO)] 88 Tryz.f88 [(.rd,(.slice I)),(.rd,I)] [(.tmp 4,true,I)] Zal [lp 1 FO qH] au ah rfl
def wY (x:(Int×(List Q2)×(List (List Int))×List Int×Int×Int×Unit)):Option ((Int×(List Q2)×(List (List Int))×List Int×Int×Int×Unit)⊕((Int×Unit)⊕Empty)) :=
 let (a,b,c,d,e,f,_):=x; cond (ltI f (b.length:Nat)) ((aF b f).bind fun y1=>(Zal (d,y1.1,())).bind fun r2=>(aF b f).bind fun y3=>(Zal (d,y3.2.1,())).bind fun r4=>cond (neI r2.1 r4.1) ((aO d.length (maxI r2.1 r4.1)).bind fun j5=>(d[j5]?).bind fun y6=>some (.inl (a,b,c,(d.set j5 (eR r2.1 r4.1)),(bE .i64 e 1),(aA .i64 f 1),()))) (some (.inl (a,b,c,d,e,(aA .i64 f 1),())))) (some (.inr (.inl (e,()))))
def FW:=aa wY
def HY:Ann:=⟨sh [(1,.av (.ptr 1 0)),(3,.av (.own 3)),(5,.av (.val I)),(6,.av (.val I))] [(1,.box [.val I,.val (.slice yQ2),.val yQ5]),(3,.arr I)],[(.exit 2,sh [(5,.av (.val I))] [])],FW⟩
def pp (x:Q12):Option (Q12⊕(Q11⊕Empty)) :=
 let (a,b,c,d,e,_):=x; cond (ltI e a) ((app d [e]).bind fun a1=>some (.inl (a,b,c,a1,(aA .i64 e 1),()))) (some (.inr (.inl (a,b,c,d,()))))
def t5:=aa pp
def Is:Ann:=⟨sh [(1,.av (.ptr 1 0)),(3,.av (.own 3)),(4,.av (.val I))] [(1,.box [.val I,.val (.slice yQ2),.val yQ5]),(3,.arr I)],[(.exit 0,sh [(1,.av (.ptr 1 0)),(3,.av (.own 3))] [(1,.box [.val I,.val (.slice yQ2),.val yQ5]),(3,.arr I)])],t5⟩
def Ze (x:(Q6×Unit)):Option (Int×Unit) :=
 (t5 (x.1.1,x.1.2.1,x.1.2.2.1,[],0,())).bind (LV (fun z2=>(FW (z2.1,z2.2.1,z2.2.2.1,z2.2.2.2.1,z2.1,0,())).bind (LV (fun z4=>some (z4.1,())) (fun _=>none))) (fun _=>none))
def JJ:Fn:=mkF { cx [Kl] with maps:=maps } [(3,Is),(8,HY)] 52 Tryz.f52 [(.rd,yQ9)] [(.tmp 2,true,I)] Ze [lp 3 Is pp,lp 8 HY wY] au ah rfl
def xz (x:(Int×(List Q2)×(List (List Int))×Int×Int×Unit)):Option ((Int×(List Q2)×(List (List Int))×Int×Int×Unit)⊕(Q10⊕Empty)) :=
 let (a,b,c,d,e,_):=x; cond (ltI e a) ((aF c e).bind fun y1=>cond (eqI (y1.length:Nat) 0) (some (.inl (a,b,c,(aA .i64 d 1),(aA .i64 e 1),()))) (some (.inl (a,b,c,d,(aA .i64 e 1),())))) (some (.inr (.inl (a,b,c,d,()))))
def DO:=aa xz
def Ig:Ann:=⟨sh [(1,.av (.ptr 1 0)),(3,.av (.val I)),(4,.av (.val I))] [(1,.box [.val I,.val (.slice yQ2),.val yQ5])],[(.exit 0,sh [(1,.av (.ptr 1 0)),(3,.av (.val I))] [(1,.box [.val I,.val (.slice yQ2),.val yQ5])])],DO⟩
def Zx (x:(Q6×Unit)):Option (Int×Unit) :=
 let ((a,b,c,_),_):=x; (Zt ((a,b,c,()),())).bind fun r1=>cond (!r1.1) (some ((-1),())) ((Zaa ((a,b,c,()),())).bind fun r2=>(DO (a,b,c,(r2.1.length:Nat),0,())).bind (LV (fun z4=>(Ze ((z4.1,z4.2.1,z4.2.2.1,()),())).bind fun r5=>some ((bE .i64 r5.1 (iq .i64 (aA .i64 (bE .i64 z4.1 (z4.2.1.length:Nat)) z4.2.2.2.1) 2)),())) (fun _=>none)))
def Lu:Fn:=mkF { cx [Ih,JJ,Hq] with maps:=maps } [(5,Ig)] 51 Tryz.f51 [(.rd,yQ9)] [(.tmp 2,true,I)] Zx [lp 5 Ig xz] au ah rfl
def wI (x:Q13):Option (Q13⊕((Bool×Unit)⊕(Unit⊕Empty))) :=
 let (a,b,c,d,e,f,_):=x; cond (ltI f (b.length:Nat)) ((aF b f).bind fun y1=>let t_0:=cond (eqI y1.1 e) (cond (eqI y1.2.1 d) (some (.inr (.inl (true,())))) (some (.inl (a,b,c,d,e,(aA .i64 f 1),())))) (some (.inl (a,b,c,d,e,(aA .i64 f 1),()))); cond (eqI y1.1 d) (cond (eqI y1.2.1 e) (some (.inr (.inl (true,())))) t_0) t_0) (some (.inr (.inr (.inl ()))))
def Gz:=aa wI
def Il:Ann:=⟨sh [(1,.av (.val I)),(2,.av (.val I)),(3,.av (.ptr 3 0)),(7,.av (.val I))] [(3,.box [.val I,.val (.slice yQ2),.val yQ5])],[(.ret,sh [(6,.av (.val .bool))] []),(.exit 0,sh [] [])],Gz⟩
def Zn (x:(Q6×Int×Int×Unit)):Option (Bool×Unit) :=
 let ((a,b,c,_),d,e,_):=x; (Gz (a,b,c,d,e,0,())).bind (LV (fun z2=>some (z2.1,())) (LV (fun z3=>some (false,())) (fun _=>none)))
def Lo:Fn:=mkF { cx [] with maps:=maps } [(2,Il)] 89 Tryz.f89 [(.rd,yQ9),(.rd,I),(.rd,I)] [(.tmp 6,true,.bool)] Zn [lp 2 Il wI] au ah rfl
def wG (x:Q10):Option (Q10⊕((Bool×Unit)⊕(Unit⊕Empty))) :=
 let (a,b,c,d,_):=x; cond (ltI d (b.length:Nat)) ((co b 0 d).bind fun y1=>(aF b d).bind fun y2=>(aF b d).bind fun y3=>(Zn ((a,y1,c,()),y2.1,y3.2.1,())).bind fun r4=>cond r4.1 (some (.inr (.inl (false,())))) (some (.inl (a,b,c,(aA .i64 d 1),())))) (some (.inr (.inr (.inl ()))))
def En:=aa wG
def Ii:Ann:=⟨sh [(1,.av (.ptr 1 0)),(3,.av (.val I))] [(1,.box [.val I,.val (.slice yQ2),.val yQ5])],[(.ret,sh [(2,.av (.val .bool))] []),(.exit 0,sh [] [])],En⟩
def Zk (x:(Q6×Unit)):Option (Bool×Unit) :=
 (En (x.1.1,x.1.2.1,x.1.2.2.1,0,())).bind (LV (fun z2=>some (z2.1,())) (LV (fun z3=>some (true,())) (fun _=>none)))
def K4:Fn:=mkF { cx [Lo] with maps:=maps } [(2,Ii)] 53 Tryz.f53 [(.rd,yQ9)] [(.tmp 2,true,.bool)] Zk [lp 2 Ii wG] au ah rfl
def Zw (x:(Q6×Unit)):Option (Int×Unit) :=
 let ((a,b,c,_),_):=x; (Zx ((a,b,c,()),())).bind fun r1=>cond (neI r1.1 0) (some (13,())) ((Ze ((a,b,c,()),())).bind fun r2=>cond (neI r2.1 1) (some (12,())) ((Zk ((a,b,c,()),())).bind fun r3=>cond (!r3.1) (some (6,())) (cond (ltI a 3) (some (1,())) (some (0,())))))
def KX:Fn:=mkF { cx [Lu,JJ,K4] with maps:=maps } [] 23 Tryz.f23 [(.rd,yQ9)] [(.tmp 2,true,I)] Zw [] au ah rfl
def xC (x:((List (List Int))×Int×Unit)):Option (((List (List Int))×Int×Unit)⊕((Bool×Unit)⊕(Unit⊕Empty))) :=
 let (a,b,_):=x; cond (ltI b (a.length:Nat)) ((aO a.length b).bind fun j1=>(a[j1]?).bind fun y2=>cond (neI (y2.length:Nat) 3) (some (.inr (.inl (false,())))) (some (.inl (a,(aA .i64 b 1),())))) (some (.inr (.inr (.inl ()))))
def Gx:=aa xC
def Ie:Ann:=⟨sh [(3,.av (.own 3)),(4,.av (.val I))] [(3,.arr (.slice I))],[(.ret,sh [(2,.av (.val .bool))] []),(.exit 0,sh [] [])],Gx⟩
def Zb (x:(Q6×Unit)):Option (Bool×Unit) :=
 let ((a,b,c,_),_):=x; (Zw ((a,b,c,()),())).bind fun r1=>cond (neI r1.1 0) (some (false,())) ((Zaa ((a,b,c,()),())).bind fun r2=>(Gx (r2.1,0,())).bind (LV (fun z4=>some (z4.1,())) (LV (fun z5=>some (true,())) (fun _=>none))))
def JT:Fn:=mkF { cx [KX,Ih] with maps:=maps } [(5,Ie)] 10 Tryz.f10 [(.rd,yQ9)] [(.tmp 2,true,.bool)] Zb [lp 5 Ie xC] au ah rfl
def qX (x:(List Int×Int×Int×Unit)):Option ((List Int×Int×Int×Unit)⊕((Bool×Unit)⊕(Unit⊕Empty))) :=
 let (a,b,c,_):=x; cond (ltI c (a.length:Nat)) ((aF a c).bind fun y1=>cond (eqI y1 b) (some (.inr (.inl (true,())))) (some (.inl (a,b,(aA .i64 c 1),())))) (some (.inr (.inr (.inl ()))))
def zH:=aa qX
def Et:Ann:=⟨sh [(0,.av (.val (.slice I))),(1,.av (.val I)),(5,.av (.val I))] [],[(.ret,sh [(4,.av (.val .bool))] []),(.exit 0,sh [] [])],zH⟩
def Zap (x:Q4):Option (Bool×Unit) :=
 (zH (x.1,x.2.1,0,())).bind (LV (fun z2=>some (z2.1,())) (LV (fun z3=>some (false,())) (fun _=>none)))
def KE:Fn:=mkF { cx [] with maps:=maps } [(2,Et)] 25 Tryz.f25 [(.rd,(.slice I)),(.rd,I)] [(.tmp 4,true,.bool)] Zap [lp 2 Et qX] au ah rfl
def Zan (x:(Q6×Int×Unit)):Option (Int×Unit) :=
 let ((a,b,c,_),d,_):=x; (Zt ((a,b,c,()),())).bind fun r1=>cond (!r1.1) (some ((-1),())) (cond (ltI d 0) (some ((-1),())) (cond (geI d (dK .i64 2 (b.length:Nat))) (some ((-1),())) ((Zj ((a,b,c,()),())).bind fun r2=>(Zv (d,())).bind fun r3=>(aO r2.1.length r3.1).bind fun j4=>(r2.1[j4]?).bind fun y5=>some (y5,()))))
def Kd:Fn:=mkF { cx [Hq,KD,KF] with maps:=maps } [] 57 Tryz.f57 [(.rd,yQ9),(.rd,I)] [(.tmp 4,true,I)] Zan [] au ah rfl
def Zak (x:(Q6×Int×Unit)):Option (Int×Unit) :=
 let ((a,b,c,_),d,_):=x; (Zt ((a,b,c,()),())).bind fun r1=>cond (!r1.1) (some ((-1),())) (cond (ltI d 0) (some ((-1),())) (cond (geI d (dK .i64 2 (b.length:Nat))) (some ((-1),())) ((Zz ((a,b,c,()),())).bind fun r2=>(aO r2.1.length d).bind fun j3=>(r2.1[j3]?).bind fun y4=>some (y4,()))))
def JZ:Fn:=mkF { cx [Hq,KH] with maps:=maps } [] 58 Tryz.f58 [(.rd,yQ9),(.rd,I)] [(.tmp 4,true,I)] Zak [] au ah rfl
def Zam (x:(Q6×Unit)):Option (Int×Int×Int×Unit) :=
 let ((a,b,c,_),_):=x; (Zan ((a,b,c,()),0,())).bind fun r1=>(Zak ((a,b,c,()),0,())).bind fun r2=>(Zak ((a,b,c,()),1,())).bind fun r3=>(Zak ((a,b,c,()),(s7 .i64 r1.1 1),())).bind fun r4=>some (r2.1,r3.1,r4.1,())
def JY:Fn:=mkF { cx [Kd,JZ] with maps:=maps } [] 26 Tryz.f26 [(.rd,yQ9)] [(.tmp 2,true,I),(.tmp 3,true,I),(.tmp 4,true,I)] Zam [] au ah rfl
def wV (x:Q13):Option (Q13⊕((Bool×Unit)⊕(Unit⊕Empty))) :=
 let (a,b,c,d,e,f,_):=x; let t_0:=(aF b f).bind fun y3=>cond (eqI y3.1 e) ((aF b f).bind fun y4=>cond (eqI y4.2.1 d) (some (.inr (.inl (true,())))) (some (.inl (a,b,c,d,e,(aA .i64 f 1),())))) (some (.inl (a,b,c,d,e,(aA .i64 f 1),()))); cond (ltI f (b.length:Nat)) ((aF b f).bind fun y1=>cond (eqI y1.1 d) ((aF b f).bind fun y2=>cond (eqI y2.2.1 e) (some (.inr (.inl (true,())))) t_0) t_0) (some (.inr (.inr (.inl ()))))
def EW:=aa wV
def IC:Ann:=⟨sh [(1,.av (.val I)),(2,.av (.val I)),(3,.av (.ptr 3 0)),(7,.av (.val I))] [(3,.box [.val I,.val (.slice yQ2),.val yQ5])],[(.ret,sh [(6,.av (.val .bool))] []),(.exit 0,sh [] [])],EW⟩
def Zl (x:(Q6×Int×Int×Unit)):Option (Bool×Unit) :=
 let ((a,b,c,_),d,e,_):=x; (EW (a,b,c,d,e,0,())).bind (LV (fun z2=>some (z2.1,())) (LV (fun z3=>some (false,())) (fun _=>none)))
def Lj:Fn:=mkF { cx [] with maps:=maps } [(2,IC)] 91 Tryz.f91 [(.rd,yQ9),(.rd,I),(.rd,I)] [(.tmp 6,true,.bool)] Zl [lp 2 IC wV] au ah rfl
def na (x:Q34):Option (Q34⊕((List Int×Int×Int×Int×Int×Int×Unit)⊕Empty)) :=
 let (a,b,c,d,e,f,g,h,i,k,l,m,_):=x; cond (ltI m e) ((aF d m).bind fun y1=>(Zl ((a,b,c,()),y1,g,())).bind fun r2=>cond r2.1 (some (.inl (a,b,c,d,e,f,g,h,i,k,(aA .i64 l 1),(aA .i64 m 1),()))) (some (.inl (a,b,c,d,e,f,g,h,i,k,l,(aA .i64 m 1),())))) (some (.inr (.inl (f,g,h,i,k,l,()))))
def vV:=aa na
def A9:Ann:=⟨sh [(1,.av (.val (.slice I))),(2,.av (.val I)),(3,.av (.val (.slice I))),(4,.av (.ptr 4 0)),(10,.av (.val I)),(11,.av (.val I)),(12,.av (.val I)),(13,.av (.val I)),(15,.av (.val I)),(16,.av (.val I))] [(4,.box [.val I,.val (.slice yQ2),.val yQ5])],[(.exit 2,sh [(3,.av (.val (.slice I))),(10,.av (.val I)),(11,.av (.val I)),(12,.av (.val I)),(13,.av (.val I)),(15,.av (.val I))] [])],vV⟩
def qx (x:Q33):Option (Q33⊕((Int×(List Q2)×(List (List Int))×List Int×Int×List Int×Int×Int×Int×Int×Unit)⊕Empty)) :=
 let (a,b,c,d,e,f,g,h,i,k,l,_):=x; cond (ltI l (f.length:Nat)) ((aF f l).bind fun y1=>(Zl ((a,b,c,()),y1,g,())).bind fun r2=>cond r2.1 (cond (ltI h 0) (some (.inl (a,b,c,d,e,f,g,l,l,(aA .i64 k 1),(aA .i64 l 1),()))) (some (.inl (a,b,c,d,e,f,g,h,l,(aA .i64 k 1),(aA .i64 l 1),())))) (some (.inl (a,b,c,d,e,f,g,h,i,k,(aA .i64 l 1),())))) (some (.inr (.inl (a,b,c,d,e,f,g,h,i,k,()))))
def AP:=aa qx
def ED:Ann:=⟨sh [(1,.av (.val (.slice I))),(2,.av (.val I)),(3,.av (.val (.slice I))),(4,.av (.ptr 4 0)),(10,.av (.val I)),(11,.av (.val I)),(12,.av (.val I)),(13,.av (.val I)),(14,.av (.val I))] [(4,.box [.val I,.val (.slice yQ2),.val yQ5])],[(.exit 0,sh [(1,.av (.val (.slice I))),(2,.av (.val I)),(3,.av (.val (.slice I))),(4,.av (.ptr 4 0)),(10,.av (.val I)),(11,.av (.val I)),(12,.av (.val I)),(13,.av (.val I))] [(4,.box [.val I,.val (.slice yQ2),.val yQ5])])],AP⟩
def Zaj (x:(Q6×List Int×Int×List Int×Unit)):Option (List Int×Bool×Unit) :=
 let ((a,b,c,_),d,e,f,_):=x; (aF d e).bind fun y1=>(AP (a,b,c,d,e,f,y1,(-1),(-1),0,0,())).bind (LV (fun (a_3,b_3,c_3,d_3,e_3,f_3,g_3,h_3,i_3,k_3,_)=>(vV (a_3,b_3,c_3,d_3,e_3,f_3,g_3,h_3,i_3,k_3,0,0,())).bind (LV (fun (a_5,b_5,c_5,d_5,e_5,f_5,_)=>cond (ltI e_5 2) (some ([],false,())) (cond (neI f_5 e_5) (some ([],false,())) (cond (neI (aA .i64 (bE .i64 d_5 c_5) 1) e_5) (some ([],false,())) ((co a_5 0 (aA .i64 c_5 1)).bind fun y6=>(app [] y6).bind fun a7=>(app a7 [b_5]).bind fun a8=>(co a_5 d_5 (a_5.length:Nat)).bind fun y9=>(app a8 y9).bind fun a10=>some (a10,true,()))))) (fun _=>none))) (fun _=>none))
def KQ:Fn:=mkF { cx [Lj] with maps:=maps } [(4,ED),(13,A9)] 59 Tryz.f59 [(.rd,yQ9),(.rd,(.slice I)),(.rd,I),(.rd,(.slice I))] [(.tmp 8,true,(.slice I)),(.tmp 9,true,.bool)] Zaj [lp 4 ED qx,lp 13 A9 na] au ah rfl
def wd (x:Q19):Option (Q19⊕((Bool×Unit)⊕(Q1⊕Empty))) :=
 let (a,b,c,d,e,f,g,_):=x; cond (ltI g f) ((Zaj ((a,b,c,()),e,g,d,())).bind fun r1=>cond (!r1.2.1) (some (.inr (.inl (false,())))) (some (.inl (a,b,c,r1.1,e,f,(aA .i64 g 1),())))) (some (.inr (.inr (.inl (d,())))))
def DV:=aa wd
def Iz:Ann:=⟨sh [(1,.av (.val (.slice I))),(2,.av (.val I)),(3,.av (.ptr 3 0)),(8,.av (.own 8)),(9,.av (.val I))] [(3,.box [.val I,.val (.slice yQ2),.val yQ5]),(8,.arr I)],[(.ret,sh [(6,.av (.nils)),(7,.av (.val .bool))] []),(.exit 0,sh [(8,.av (.own 8))] [(8,.arr I)])],DV⟩
def Zh (x:(Q6×List Int×Int×Unit)):Option (List Int×Bool×Unit) :=
 let ((a,b,c,_),d,e,_):=x; (aF d 0).bind fun y1=>(aF d 1).bind fun y2=>(DV (a,b,c,[y1,y2],d,e,2,())).bind (LV (fun z4=>some ([],z4.1,())) (LV (fun z5=>some (z5.1,true,())) (fun _=>none)))
def Lg:Fn:=mkF { cx [KQ] with maps:=maps } [(3,Iz)] 27 Tryz.f27 [(.rd,yQ9),(.rd,(.slice I)),(.rd,I)] [(.tmp 6,true,(.slice I)),(.tmp 7,true,.bool)] Zh [lp 3 Iz wd] au ah rfl
def rK (x:Q12):Option (Q12⊕((Bool×Unit)⊕(Q11⊕Empty))) :=
 let (a,b,c,d,e,_):=x; cond (ltI e (d.length:Nat)) ((aF d e).bind fun y1=>cond (ltI y1 0) (some (.inr (.inl (false,())))) ((aF d e).bind fun y2=>cond (geI y2 a) (some (.inr (.inl (false,())))) ((co d 0 e).bind fun y3=>(aF d e).bind fun y4=>(Zap (y3,y4,())).bind fun r5=>cond r5.1 (some (.inr (.inl (false,())))) (some (.inl (a,b,c,d,(aA .i64 e 1),())))))) (some (.inr (.inr (.inl (a,b,c,d,())))))
def qS:=aa rK
def FV:Ann:=⟨sh [(1,.av (.val (.slice I))),(2,.av (.ptr 2 0)),(5,.av (.val I))] [(2,.box [.val I,.val (.slice yQ2),.val yQ5])],[(.ret,sh [(4,.av (.val .bool))] []),(.exit 0,sh [(1,.av (.val (.slice I))),(2,.av (.ptr 2 0))] [(2,.box [.val I,.val (.slice yQ2),.val yQ5])])],qS⟩
def Zac (x:Q7):Option (Bool×Unit) :=
 let ((a,b,c,_),d,_):=x; (Zb ((a,b,c,()),())).bind fun r1=>cond (!r1.1) (some (false,())) (cond (neI (d.length:Nat) a) (some (false,())) ((qS (a,b,c,d,0,())).bind (LV (fun z3=>some (z3.1,())) (LV (fun (a_4,b_4,c_4,d_4,_)=>(Zam ((a_4,b_4,c_4,()),())).bind fun r5=>(aF d_4 0).bind fun y6=>cond (neI y6 r5.1) (some (false,())) ((aF d_4 1).bind fun y7=>cond (neI y7 r5.2.1) (some (false,())) ((aF d_4 (bE .i64 a_4 1)).bind fun y8=>cond (neI y8 r5.2.2.1) (some (false,())) ((Zh ((a_4,b_4,c_4,()),d_4,a_4,())).bind fun r9=>some (r9.2.1,()))))) (fun _=>none)))))
def KM:Fn:=mkF { cx [JT,KE,JY,Lg] with maps:=maps } [(4,FV)] 11 Tryz.f11 [(.rd,yQ9),(.rd,(.slice I))] [(.tmp 4,true,.bool)] Zac [lp 4 FV rK] au ah rfl
def Zax (x:(Q2×Int×Unit)):Option (Int×Unit) :=
 cond (eqI x.2.1 0) (some (x.1.1,())) (some (x.1.2.1,()))
def Be:Fn:=mkF { cx [] with maps:=maps } [] 110 Tryz.f110 [(.rd,yQ2),(.rd,I)] [(.tmp 4,true,I)] Zax [] au ah rfl
def nf (x:Q38):Option (Q38⊕((Bool×Unit)⊕(Q30⊕Empty))) :=
 let (a,b,c,d,e,f,g,h,i,k,l,m,_):=x; cond (ltI m l) ((aF k m).bind fun y1=>cond (ltI y1 0) (some (.inr (.inl (false,())))) (cond (geI y1 (d.length:Nat)) (some (.inr (.inl (false,())))) ((aO d.length y1).bind fun j2=>(d[j2]?).bind fun y3=>cond y3 (some (.inr (.inl (false,())))) ((aF b (iq .i64 y1 2)).bind fun y4=>(Zax (y4,(kC y1 2),())).bind fun r5=>cond (neI r5.1 f) (some (.inr (.inl (false,())))) ((aO d.length y1).bind fun j6=>(d[j6]?).bind fun y7=>some (.inl (a,b,c,(d.set j6 true),(aA .i64 e 1),f,g,h,i,k,l,(aA .i64 m 1),()))))))) (some (.inr (.inr (.inl (a,b,c,d,e,g,h,i,())))))
def vh:=aa nf
def BO:Ann:=⟨sh [(1,.av (.ptr 1 0)),(5,.av (.own 5)),(6,.av (.val I)),(7,.av (.val I)),(80,.av (.val yQ5)),(81,.av (.val I)),(82,.av (.val I)),(87,.av (.val (.slice I))),(88,.av (.val I)),(89,.av (.val I))] [(1,.box [.val I,.val (.slice yQ2),.val yQ5]),(5,.arr .bool)],[(.ret,sh [(2,.av (.val .bool))] []),(.exit 4,sh [(1,.av (.ptr 1 0)),(5,.av (.own 5)),(6,.av (.val I)),(80,.av (.val yQ5)),(81,.av (.val I)),(82,.av (.val I))] [(1,.box [.val I,.val (.slice yQ2),.val yQ5]),(5,.arr .bool)])],vh⟩
def m7 (x:Q30):Option (Q30⊕((Bool×Unit)⊕((List Bool×Int×Unit)⊕Empty))) :=
 let (a,b,c,d,e,f,g,h,_):=x; cond (ltI h g) ((aF f h).bind fun y1=>(vh (a,b,c,d,e,h,f,g,h,y1,(y1.length:Nat),0,())).bind (LV (fun z3=>some (.inr (.inl (z3.1,())))) (LV (fun (a_4,b_4,c_4,d_4,e_4,f_4,g_4,h_4,_)=>some (.inl (a_4,b_4,c_4,d_4,e_4,f_4,g_4,(aA .i64 h_4 1),()))) (fun _=>none)))) (some (.inr (.inr (.inl (d,e,())))))
def u6:=aa m7
def BJ:Ann:=⟨sh [(1,.av (.ptr 1 0)),(5,.av (.own 5)),(6,.av (.val I)),(80,.av (.val yQ5)),(81,.av (.val I)),(82,.av (.val I))] [(1,.box [.val I,.val (.slice yQ2),.val yQ5]),(5,.arr .bool)],[(.ret,sh [(2,.av (.val .bool))] []),(.exit 2,sh [(5,.av (.own 5)),(6,.av (.val I))] [(5,.arr .bool)])],u6⟩
def rg (x:(Int×(List Q2)×(List (List Int))×(List Q2)×Int×Int×Unit)):Option ((Int×(List Q2)×(List (List Int))×(List Q2)×Int×Int×Unit)⊕((Bool×Unit)⊕(Q6⊕Empty))) :=
 let (a,b,c,d,e,f,_):=x; cond (ltI f e) ((aF d f).bind fun y1=>cond (ltI y1.1 0) (some (.inr (.inl (false,())))) (cond (geI y1.1 a) (some (.inr (.inl (false,())))) (cond (ltI y1.2.1 0) (some (.inr (.inl (false,())))) (cond (geI y1.2.1 a) (some (.inr (.inl (false,())))) (cond (eqI y1.1 y1.2.1) (some (.inr (.inl (false,())))) (some (.inl (a,b,c,d,e,(aA .i64 f 1),())))))))) (some (.inr (.inr (.inl (a,b,c,())))))
def zr:=aa rg
def Fk:Ann:=⟨sh [(1,.av (.ptr 1 0)),(38,.av (.val (.slice yQ2))),(39,.av (.val I)),(40,.av (.val I))] [(1,.box [.val I,.val (.slice yQ2),.val yQ5])],[(.ret,sh [(2,.av (.val .bool))] []),(.exit 0,sh [(1,.av (.ptr 1 0))] [(1,.box [.val I,.val (.slice yQ2),.val yQ5])])],zr⟩
def Zas (x:(Q6×Unit)):Option (Bool×Unit) :=
 let ((a,b,c,_),_):=x; cond (ltI a 0) (some (false,())) ((aF [16384,32768] 0).bind fun y1=>cond (gtI a y1) (some (false,())) ((aF [16384,32768] 1).bind fun y2=>cond (gtI (b.length:Nat) y2) (some (false,())) (cond (neI (c.length:Nat) a) (some (false,())) ((zr (a,b,c,b,(b.length:Nat),0,())).bind (LV (fun z4=>some (z4.1,())) (LV (fun (a_5,b_5,c_5,_)=>(eN .bool (dK .i64 2 (b_5.length:Nat)) (dK .i64 2 (b_5.length:Nat))).bind fun m6=>(u6 (a_5,b_5,c_5,m6,0,c_5,(c_5.length:Nat),0,())).bind (LV (fun z8=>some (z8.1,())) (LV (fun z9=>some ((eqI z9.2.1 (z9.1.length:Nat)),())) (fun _=>none)))) (fun _=>none)))))))
def xB:Fn:=mkF { cx [Be] with maps:=maps } [(4,Fk),(12,BJ),(15,BO)] 78 Tryz.f78 [(.rd,yQ9)] [(.tmp 2,true,.bool)] Zas [lp 4 Fk rg,lp 12 BJ m7,lp 15 BO nf] au ah rfl
def qo (x:Q24):Option (Q24⊕(Q9⊕Empty)) :=
 let (a,b,c,d,e,f,g,h,_):=x; cond (ltI h g) ((aF f h).bind fun y1=>cond (eqI (b.length:Nat) 0) none ((aF b (kC (aA .i64 h 1) (b.length:Nat))).bind fun y2=>(aO a.length (s7 .i64 y1 1)).bind fun j3=>(a[j3]?).bind fun y4=>some (.inl ((a.set j3 y2),b,c,d,e,f,g,(aA .i64 h 1),())))) (some (.inr (.inl (a,c,d,e,()))))
def AQ:=aa qo
def F8:Ann:=⟨sh [(3,.av (.own 3)),(5,.av (.val (.slice I))),(14,.av (.val yQ5)),(15,.av (.val I)),(16,.av (.val I)),(20,.av (.val (.slice I))),(21,.av (.val I)),(22,.av (.val I))] [(3,.arr I)],[(.exit 2,sh [(3,.av (.own 3)),(14,.av (.val yQ5)),(15,.av (.val I)),(16,.av (.val I))] [(3,.arr I)])],AQ⟩
def rG (x:Q9):Option (Q9⊕(Q1⊕Empty)) :=
 let (a,b,c,d,_):=x; cond (ltI d c) ((aF b d).bind fun y1=>(AQ (a,y1,b,c,d,y1,(y1.length:Nat),0,())).bind (LV (fun z3=>some (.inl (z3.1,z3.2.1,z3.2.2.1,(aA .i64 z3.2.2.2.1 1),()))) (fun _=>none))) (some (.inr (.inl (a,()))))
def uT:=aa rG
def Fp:Ann:=⟨sh [(3,.av (.own 3)),(14,.av (.val yQ5)),(15,.av (.val I)),(16,.av (.val I))] [(3,.arr I)],[(.exit 0,sh [(3,.av (.own 3))] [(3,.arr I)])],uT⟩
def Zaq (x:(Q6×Unit)):Option Q1 :=
 let ((_,a,b,_),_):=x; (eN I (dK .i64 2 (a.length:Nat)) (dK .i64 2 (a.length:Nat))).bind fun m1=>(uT (m1,b,(b.length:Nat),0,())).bind (LV (fun z3=>some (z3.1,())) (fun _=>none))
def J5:Fn:=mkF { cx [] with maps:=maps } [(3,Fp),(6,F8)] 82 Tryz.f82 [(.rd,yQ9)] [(.tmp 2,true,(.slice I))] Zaq [lp 3 Fp rG,lp 6 F8 qo] au ah rfl
def mN (x:Q20):Option (Q20⊕((List Int×List Bool×(List (List Int))×List Int×Int×Int×Unit)⊕Empty)) :=
 let (a,b,c,d,e,f,g,_):=x; (aO b.length e).bind fun j1=>(b[j1]?).bind fun y2=>cond (!y2) ((aO b.length e).bind fun j3=>(b[j3]?).bind fun y4=>(app d [e]).bind fun a5=>(aO a.length e).bind fun j6=>(a[j6]?).bind fun y7=>some (.inl (a,(b.set j3 true),c,a5,y7,f,g,()))) (some (.inr (.inl (a,b,c,d,f,g,()))))
def uY:=aa mN
def Cc:Ann:=⟨sh [(3,.av (.own 3)),(4,.av (.own 4)),(5,.av (.own 5)),(7,.av (.own 7)),(8,.av (.val I)),(18,.av (.val I)),(19,.av (.val I))] [(3,.arr I),(4,.arr .bool),(5,.arr (.slice I)),(7,.arr I)],[(.exit 2,sh [(3,.av (.own 3)),(4,.av (.own 4)),(5,.av (.own 5)),(7,.av (.own 7)),(18,.av (.val I)),(19,.av (.val I))] [(3,.arr I),(4,.arr .bool),(5,.arr (.slice I)),(7,.arr I)])],uY⟩
def sD (x:(List Int×List Bool×(List (List Int))×Int×Int×Unit)):Option ((List Int×List Bool×(List (List Int))×Int×Int×Unit)⊕(Q5⊕Empty)) :=
 let (a,b,c,d,e,_):=x; cond (ltI e d) ((uY (a,b,c,[],e,d,e,())).bind (LV (fun (a_2,b_2,c_2,d_2,e_2,f_2,_)=>cond (gtI (d_2.length:Nat) 0) ((app c_2 [d_2]).bind fun a3=>some (.inl (a_2,b_2,a3,e_2,(aA .i64 f_2 1),()))) (some (.inl (a_2,b_2,c_2,e_2,(aA .i64 f_2 1),())))) (fun _=>none))) (some (.inr (.inl (c,()))))
def yO:=aa sD
def Eu:Ann:=⟨sh [(3,.av (.own 3)),(4,.av (.own 4)),(5,.av (.own 5)),(18,.av (.val I)),(19,.av (.val I))] [(3,.arr I),(4,.arr .bool),(5,.arr (.slice I))],[(.exit 0,sh [(5,.av (.own 5))] [(5,.arr (.slice I))])],yO⟩
def Zar (x:(Q6×Unit)):Option Q5 :=
 let ((a,b,c,_),_):=x; (Zas ((a,b,c,()),())).bind fun r1=>cond (!r1.1) (some ([],())) ((Zaq ((a,b,c,()),())).bind fun r2=>(eN .bool (r2.1.length:Nat) (r2.1.length:Nat)).bind fun m3=>(yO (r2.1,m3,[],(r2.1.length:Nat),0,())).bind (LV (fun z5=>some (z5.1,())) (fun _=>none)))
def H9:Fn:=mkF { cx [xB,J5] with maps:=maps } [(7,Eu),(11,Cc)] 44 Tryz.f44 [(.rd,yQ9)] [(.tmp 2,true,yQ5)] Zar [lp 7 Eu sD,lp 11 Cc mN] au ah rfl
def rQ (x:Q35):Option (Q35⊕(Q26⊕Empty)) :=
 let (a,b,c,d,e,f,g,h,i,k,l,_):=x; cond (ltI l k) ((aF i l).bind fun y1=>(aF b (iq .i64 y1 2)).bind fun y2=>(Zax (y2,(s7 .i64 (kC y1 2) 1),())).bind fun r3=>(aO d.length r3.1).bind fun j4=>(d[j4]?).bind fun y5=>cond (!y5) ((aO d.length r3.1).bind fun j6=>(d[j6]?).bind fun y7=>(app e [r3.1]).bind fun a8=>some (.inl (a,b,c,(d.set j6 true),a8,f,g,h,i,k,(aA .i64 l 1),()))) (some (.inl (a,b,c,d,e,f,g,h,i,k,(aA .i64 l 1),())))) (some (.inr (.inl (a,b,c,d,e,f,g,h,()))))
def zS:=aa rQ
def Fu:Ann:=⟨sh [(1,.av (.ptr 1 0)),(3,.av (.own 3)),(4,.av (.val I)),(6,.av (.own 6)),(14,.av (.val I)),(15,.av (.val I)),(40,.av (.val (.slice I))),(41,.av (.val I)),(42,.av (.val I))] [(1,.box [.val I,.val (.slice yQ2),.val yQ5]),(3,.arr .bool),(6,.arr I)],[(.exit 4,sh [(1,.av (.ptr 1 0)),(3,.av (.own 3)),(4,.av (.val I)),(6,.av (.own 6)),(14,.av (.val I)),(15,.av (.val I))] [(1,.box [.val I,.val (.slice yQ2),.val yQ5]),(3,.arr .bool),(6,.arr I)])],zS⟩
def sr (x:Q26):Option (Q26⊕(Q15⊕Empty)) :=
 let (a,b,c,d,e,f,g,h,_):=x; cond (gtI (e.length:Nat) 0) ((aO e.length 0).bind fun j1=>(e[j1]?).bind fun y2=>(aF c y2).bind fun y3=>(zS (a,b,c,d,e,f,g,h,y3,(y3.length:Nat),0,())).bind (LV (fun (a_5,b_5,c_5,d_5,e_5,f_5,g_5,h_5,_)=>(jV e_5.length 1 (e_5.length:Nat)).bind fun v6=>some (.inl (a_5,b_5,c_5,d_5,((e_5.drop v6.1).take v6.2),f_5,g_5,h_5,()))) (fun _=>none))) (some (.inr (.inl (a,b,c,d,f,g,h,()))))
def zq:=aa sr
def EC:Ann:=⟨sh [(1,.av (.ptr 1 0)),(3,.av (.own 3)),(4,.av (.val I)),(6,.av (.own 6)),(14,.av (.val I)),(15,.av (.val I))] [(1,.box [.val I,.val (.slice yQ2),.val yQ5]),(3,.arr .bool),(6,.arr I)],[(.exit 2,sh [(1,.av (.ptr 1 0)),(3,.av (.own 3)),(4,.av (.val I)),(14,.av (.val I)),(15,.av (.val I))] [(1,.box [.val I,.val (.slice yQ2),.val yQ5]),(3,.arr .bool)])],zq⟩
def qG (x:Q15):Option (Q15⊕((Int×Unit)⊕Empty)) :=
 let (a,b,c,d,e,f,g,_):=x; cond (ltI g f) ((aO d.length g).bind fun j1=>(d[j1]?).bind fun y2=>cond y2 (some (.inl (a,b,c,d,e,f,(aA .i64 g 1),()))) ((aO d.length g).bind fun j3=>(d[j3]?).bind fun y4=>(zq (a,b,c,(d.set j3 true),[g],(aA .i64 e 1),f,g,())).bind (LV (fun (a_6,b_6,c_6,d_6,e_6,f_6,g_6,_)=>some (.inl (a_6,b_6,c_6,d_6,e_6,f_6,(aA .i64 g_6 1),()))) (fun _=>none)))) (some (.inr (.inl (e,()))))
def Co:=aa qG
def H8:Ann:=⟨sh [(1,.av (.ptr 1 0)),(3,.av (.own 3)),(4,.av (.val I)),(14,.av (.val I)),(15,.av (.val I))] [(1,.box [.val I,.val (.slice yQ2),.val yQ5]),(3,.arr .bool)],[(.exit 0,sh [(4,.av (.val I))] [])],Co⟩
def Zi (x:(Q6×Unit)):Option (Int×Unit) :=
 let ((a,b,c,_),_):=x; (eN .bool a a).bind fun m1=>(Co (a,b,c,m1,0,a,0,())).bind (LV (fun z3=>some (z3.1,())) (fun _=>none))
def Ls:Fn:=mkF { cx [Be] with maps:=maps } [(4,H8),(10,EC),(13,Fu)] 111 Tryz.f111 [(.rd,yQ9)] [(.tmp 2,true,I)] Zi [lp 4 H8 qG,lp 10 EC sr,lp 13 Fu rQ] au ah rfl
def qu (x:Q22):Option (Q22⊕(Q10⊕Empty)) :=
 let (a,b,c,d,e,f,g,_):=x; cond (ltI g f) ((aF e g).bind fun y1=>cond (eqI (y1.length:Nat) 0) (some (.inl (a,b,c,(aA .i64 d 1),e,f,(aA .i64 g 1),()))) (some (.inl (a,b,c,d,e,f,(aA .i64 g 1),())))) (some (.inr (.inl (a,b,c,d,()))))
def Au:=aa qu
def Ey:Ann:=⟨sh [(1,.av (.ptr 1 0)),(3,.av (.val I)),(13,.av (.val yQ5)),(14,.av (.val I)),(15,.av (.val I))] [(1,.box [.val I,.val (.slice yQ2),.val yQ5])],[(.exit 0,sh [(1,.av (.ptr 1 0)),(3,.av (.val I))] [(1,.box [.val I,.val (.slice yQ2),.val yQ5])])],Au⟩
def Zat (x:(Q6×Unit)):Option (Int×Unit) :=
 let ((a,b,c,_),_):=x; (Zas ((a,b,c,()),())).bind fun r1=>cond (!r1.1) (some ((-1),())) ((Zar ((a,b,c,()),())).bind fun r2=>(Au (a,b,c,(r2.1.length:Nat),c,(c.length:Nat),0,())).bind (LV (fun z4=>(Zi ((z4.1,z4.2.1,z4.2.2.1,()),())).bind fun r5=>some ((bE .i64 r5.1 (iq .i64 (aA .i64 (bE .i64 z4.1 (z4.2.1.length:Nat)) z4.2.2.2.1) 2)),())) (fun _=>none)))
def JF:Fn:=mkF { cx [H9,xB,Ls] with maps:=maps } [(5,Ey)] 79 Tryz.f79 [(.rd,yQ9)] [(.tmp 2,true,I)] Zat [lp 5 Ey qu] au ah rfl
def sy (x:Q31):Option (Q31⊕(Q14⊕Empty)) :=
 let (a,b,c,d,e,f,g,h,i,_):=x; cond (ltI i h) ((aF g i).bind fun y1=>(aF b (iq .i64 y1 2)).bind fun y2=>(aO e.length f).bind fun j3=>(e[j3]?).bind fun y4=>(aO d.length (bE .i64 (aA .i64 y2.1 y2.2.1) y4)).bind fun j5=>(d[j5]?).bind fun y6=>cond (!y6) ((aO d.length (bE .i64 (aA .i64 y2.1 y2.2.1) y4)).bind fun j7=>(d[j7]?).bind fun y8=>(app e [(bE .i64 (aA .i64 y2.1 y2.2.1) y4)]).bind fun a9=>some (.inl (a,b,c,(d.set j7 true),a9,f,g,h,(aA .i64 i 1),()))) (some (.inl (a,b,c,d,e,f,g,h,(aA .i64 i 1),())))) (some (.inr (.inl (a,b,c,d,e,f,()))))
def AC:=aa sy
def EU:Ann:=⟨sh [(1,.av (.ptr 1 0)),(3,.av (.own 3)),(4,.av (.own 4)),(5,.av (.val I)),(32,.av (.val (.slice I))),(33,.av (.val I)),(34,.av (.val I))] [(1,.box [.val I,.val (.slice yQ2),.val yQ5]),(3,.arr .bool),(4,.arr I)],[(.exit 2,sh [(1,.av (.ptr 1 0)),(3,.av (.own 3)),(4,.av (.own 4)),(5,.av (.val I))] [(1,.box [.val I,.val (.slice yQ2),.val yQ5]),(3,.arr .bool),(4,.arr I)])],AC⟩
def w7 (x:Q14):Option (Q14⊕(Q11⊕Empty)) :=
 let (a,b,c,d,e,f,_):=x; cond (ltI f (e.length:Nat)) ((aO e.length f).bind fun j1=>(e[j1]?).bind fun y2=>(aF c y2).bind fun y3=>(AC (a,b,c,d,e,f,y3,(y3.length:Nat),0,())).bind (LV (fun (a_5,b_5,c_5,d_5,e_5,f_5,_)=>some (.inl (a_5,b_5,c_5,d_5,e_5,(aA .i64 f_5 1),()))) (fun _=>none))) (some (.inr (.inl (a,b,c,e,()))))
def Ef:=aa w7
def HQ:Ann:=⟨sh [(1,.av (.ptr 1 0)),(3,.av (.own 3)),(4,.av (.own 4)),(5,.av (.val I))] [(1,.box [.val I,.val (.slice yQ2),.val yQ5]),(3,.arr .bool),(4,.arr I)],[(.exit 0,sh [(1,.av (.ptr 1 0)),(4,.av (.own 4))] [(1,.box [.val I,.val (.slice yQ2),.val yQ5]),(4,.arr I)])],Ef⟩
def Zg (x:(Q6×Unit)):Option (Bool×Unit) :=
 let ((a,b,c,_),_):=x; cond (eqI a 0) (some (false,())) ((eN .bool a a).bind fun m1=>(aO m1.length 0).bind fun j2=>(m1[j2]?).bind fun y3=>(Ef (a,b,c,(m1.set j2 true),[0],0,())).bind (LV (fun z5=>some ((eqI (z5.2.2.2.1.length:Nat) z5.1),())) (fun _=>none)))
def Ld:Fn:=mkF { cx [] with maps:=maps } [(7,HQ),(10,EU)] 80 Tryz.f80 [(.rd,yQ9)] [(.tmp 2,true,.bool)] Zg [lp 7 HQ w7,lp 10 EU sy] au ah rfl
def ue (x:((List (Q2×Bool))×(List Q2)×Int×Int×Unit)):Option (((List (Q2×Bool))×(List Q2)×Int×Int×Unit)⊕((Bool×Unit)⊕(Unit⊕Empty))) :=
 let (a,b,c,d,_):=x; cond (ltI d c) ((aF b d).bind fun y1=>cond ((cP yQ2 .bool ((eR y1.1 y1.2.1),(maxI y1.1 y1.2.1),()) a).getD (az .bool)) (some (.inr (.inl (false,())))) (some (.inl ((fS yQ2 .bool ((eR y1.1 y1.2.1),(maxI y1.1 y1.2.1),()) true a),b,c,(aA .i64 d 1),())))) (some (.inr (.inr (.inl ()))))
def Ga:=aa ue
def Iw:Ann:=⟨sh [(3,.av (.ownm 3)),(8,.av (.val (.slice yQ2))),(9,.av (.val I)),(10,.av (.val I))] [(3,.map yQ2 .bool)],[(.ret,sh [(2,.av (.val .bool))] []),(.exit 0,sh [] [])],Ga⟩
def Zm (x:(Q6×Unit)):Option (Bool×Unit) :=
 (Ga ([],x.1.2.1,(x.1.2.1.length:Nat),0,())).bind (LV (fun z2=>some (z2.1,())) (LV (fun z3=>some (true,())) (fun _=>none)))
def LB:Fn:=mkF { cx [] with maps:=maps } [(3,Iw)] 81 Tryz.f81 [(.rd,yQ9)] [(.tmp 2,true,.bool)] Zm [lp 3 Iw ue] au ah rfl
def Zu (x:(Q6×Unit)):Option (Int×Unit) :=
 let ((a,b,c,_),_):=x; (Zas ((a,b,c,()),())).bind fun r1=>cond (!r1.1) (some (13,())) ((Zat ((a,b,c,()),())).bind fun r2=>cond (neI r2.1 0) (some (13,())) ((Zg ((a,b,c,()),())).bind fun r3=>cond (!r3.1) (some (12,())) ((Zm ((a,b,c,()),())).bind fun r4=>cond (!r4.1) (some (6,())) (cond (ltI a 3) (some (1,())) (some (0,()))))))
def K9:Fn:=mkF { cx [xB,JF,Ld,LB] with maps:=maps } [] 43 Tryz.f43 [(.rd,yQ9)] [(.tmp 2,true,I)] Zu [] au ah rfl
def yg (x:((List (List Int))×Int×Int×Unit)):Option (((List (List Int))×Int×Int×Unit)⊕((Bool×Unit)⊕(Unit⊕Empty))) :=
 let (a,b,c,_):=x; cond (ltI c b) ((aO a.length c).bind fun j1=>(a[j1]?).bind fun y2=>cond (neI (y2.length:Nat) 3) (some (.inr (.inl (false,())))) (some (.inl (a,b,(aA .i64 c 1),())))) (some (.inr (.inr (.inl ()))))
def FD:=aa yg
def Ij:Ann:=⟨sh [(9,.av (.own 9)),(10,.av (.val I)),(11,.av (.val I))] [(9,.arr (.slice I))],[(.ret,sh [(2,.av (.val .bool))] []),(.exit 0,sh [] [])],FD⟩
def Zc (x:(Q6×Unit)):Option (Bool×Unit) :=
 let ((a,b,c,_),_):=x; (Zu ((a,b,c,()),())).bind fun r1=>cond (neI r1.1 0) (some (false,())) ((Zar ((a,b,c,()),())).bind fun r2=>(FD (r2.1,(r2.1.length:Nat),0,())).bind (LV (fun z4=>some (z4.1,())) (LV (fun z5=>some (true,())) (fun _=>none))))
def KK:Fn:=mkF { cx [K9,H9] with maps:=maps } [(4,Ij)] 15 Tryz.f15 [(.rd,yQ9)] [(.tmp 2,true,.bool)] Zc [lp 4 Ij yg] au ah rfl
def Zaz (x:(Q6×Int×Unit)):Option (Int×Unit) :=
 let ((a,b,c,_),d,_):=x; (Zas ((a,b,c,()),())).bind fun r1=>cond (!r1.1) (some ((-1),())) (cond (ltI d 0) (some ((-1),())) (cond (geI d (dK .i64 2 (b.length:Nat))) (some ((-1),())) ((aF b (iq .i64 d 2)).bind fun y2=>(Zax (y2,(kC d 2),())).bind fun r3=>some (r3.1,()))))
def F9:Fn:=mkF { cx [xB,Be] with maps:=maps } [] 83 Tryz.f83 [(.rd,yQ9),(.rd,I)] [(.tmp 4,true,I)] Zaz [] au ah rfl
def si (x:(List Int×Int×Int×Int×Unit)):Option ((List Int×Int×Int×Int×Unit)⊕((Int×Unit)⊕(Unit⊕Empty))) :=
 let (a,b,c,d,_):=x; cond (ltI d c) ((aF a d).bind fun y1=>cond (eqI b y1) (some (.inr (.inl (d,())))) (some (.inl (a,b,c,(aA .i64 d 1),())))) (some (.inr (.inr (.inl ()))))
def At:=aa si
def Gc:Ann:=⟨sh [(0,.av (.val (.slice I))),(1,.av (.val I)),(7,.av (.val I)),(8,.av (.val I))] [],[(.ret,sh [(4,.av (.val I))] []),(.exit 0,sh [] [])],At⟩
def Zag (x:Q4):Option (Int×Unit) :=
 (At (x.1,x.2.1,(x.1.length:Nat),0,())).bind (LV (fun z2=>some (z2.1,())) (LV (fun z3=>some ((-1),())) (fun _=>none)))
def HU:Fn:=mkF { cx [] with maps:=maps } [(2,Gc)] 71 Tryz.f71 [(.rd,(.slice I)),(.rd,I)] [(.tmp 4,true,I)] Zag [lp 2 Gc si] au ah rfl
def Zay (x:(Q6×Int×Unit)):Option (Int×Unit) :=
 let ((a,b,c,_),d,_):=x; (Zas ((a,b,c,()),())).bind fun r1=>cond (!r1.1) (some ((-1),())) (cond (ltI d 0) (some ((-1),())) (cond (geI d (dK .i64 2 (b.length:Nat))) (some ((-1),())) ((aF b (iq .i64 d 2)).bind fun y2=>(Zax (y2,(s7 .i64 (kC d 2) 1),())).bind fun r3=>(aF c r3.1).bind fun y4=>(Zag (y4,(s7 .i64 d 1),())).bind fun r5=>cond (eqI (y4.length:Nat) 0) none ((aF y4 (kC (aA .i64 r5.1 1) (y4.length:Nat))).bind fun y6=>some (y6,())))))
def JQ:Fn:=mkF { cx [HU,xB,Be] with maps:=maps } [] 112 Tryz.f112 [(.rd,yQ9),(.rd,I)] [(.tmp 4,true,I)] Zay [] au ah rfl
def Zbb (x:(Q6×Unit)):Option (Int×Unit) :=
 let ((a,b,c,_),_):=x; (Zay ((a,b,c,()),0,())).bind fun r1=>(Zay ((a,b,c,()),r1.1,())).bind fun r2=>(Zaz ((a,b,c,()),r2.1,())).bind fun r3=>some (r3.1,())
def JM:Fn:=mkF { cx [F9,JQ] with maps:=maps } [] 84 Tryz.f84 [(.rd,yQ9)] [(.tmp 2,true,I)] Zbb [] au ah rfl
def Zah (x:Q1):Option Q1 :=
 cond x.1.isEmpty (wu (some ([],())) ((app [] x.1).bind fun a1=>some (a1,()))) ((app [] x.1).bind fun a1=>some (a1,()))
def If:Fn:=mkF { cx [] with maps:=maps } [] 85 Tryz.f85 [(.rd,(.slice I))] [(.tmp 2,true,(.slice I))] Zah [] au ah rfl
def sJ (x:Q19):Option (Q19⊕(Q1⊕Empty)) :=
 let (a,b,c,d,e,f,g,_):=x; cond (ltI g f) ((aF e g).bind fun y1=>(Zaz ((a,b,c,()),(s7 .i64 y1 1),())).bind fun r2=>(app d [r2.1]).bind fun a3=>some (.inl (a,b,c,a3,e,f,(aA .i64 g 1),()))) (some (.inr (.inl (d,()))))
def yW:=aa sJ
def Ee:Ann:=⟨sh [(2,.av (.ptr 2 0)),(5,.av (.own 5)),(12,.av (.val (.slice I))),(13,.av (.val I)),(14,.av (.val I))] [(2,.box [.val I,.val (.slice yQ2),.val yQ5]),(5,.arr I)],[(.exit 0,sh [(5,.av (.own 5))] [(5,.arr I)])],yW⟩
def Zbd (x:(Q6×Int×Unit)):Option Q1 :=
 let ((a,b,c,_),d,_):=x; (aF c d).bind fun y1=>(yW (a,b,c,[],y1,(y1.length:Nat),0,())).bind (LV (fun z3=>some (z3.1,())) (fun _=>none))
def Ke:Fn:=mkF { cx [F9] with maps:=maps } [(3,Ee)] 113 Tryz.f113 [(.rd,yQ9),(.rd,I)] [(.tmp 4,true,(.slice I))] Zbd [lp 3 Ee sJ] au ah rfl
def qU (x:Q16):Option (Q16⊕((Bool×Unit)⊕((List Int×Int×Int×Int×Int×Unit)⊕Empty))) :=
 let (a,b,c,d,e,f,g,h,i,_):=x; cond (ltI i h) ((aO a.length i).bind fun j1=>(a[j1]?).bind fun y2=>(aF c y2).bind fun y3=>cond (!y3) (some (.inl (a,b,c,d,e,f,g,h,(aA .i64 i 1),()))) ((Zag (b,y2,())).bind fun r4=>cond (ltI r4.1 0) (some (.inr (.inl (false,())))) (cond (ltI e 0) (some (.inl (a,b,c,d,r4.1,(maxI f r4.1),(aA .i64 g 1),h,(aA .i64 i 1),()))) (cond (ltI r4.1 e) (some (.inl (a,b,c,d,r4.1,(maxI f r4.1),(aA .i64 g 1),h,(aA .i64 i 1),()))) (some (.inl (a,b,c,d,e,(maxI f r4.1),(aA .i64 g 1),h,(aA .i64 i 1),()))))))) (some (.inr (.inr (.inl (b,d,e,f,g,())))))
def yR:=aa qU
def ER:Ann:=⟨sh [(1,.av (.val (.slice I))),(2,.av (.val (.slice .bool))),(3,.av (.val I)),(10,.av (.val I)),(11,.av (.val I)),(12,.av (.val I)),(19,.av (.own 19)),(20,.av (.val I)),(21,.av (.val I))] [(19,.arr I)],[(.ret,sh [(8,.av (.nils)),(9,.av (.val .bool))] []),(.exit 0,sh [(1,.av (.val (.slice I))),(3,.av (.val I)),(10,.av (.val I)),(11,.av (.val I)),(12,.av (.val I))] [])],yR⟩
def Zbc (x:(Q6×List Int×List Bool×Int×Unit)):Option (List Int×Bool×Unit) :=
 let ((a,b,c,_),d,e,f,_):=x; (Zbd ((a,b,c,()),f,())).bind fun r1=>(yR (r1.1,d,e,f,(-1),(-1),0,(r1.1.length:Nat),0,())).bind (LV (fun z3=>some ([],z3.1,())) (LV (fun (a_4,b_4,c_4,d_4,e_4,_)=>cond (ltI e_4 2) (some ([],false,())) (cond (neI (bE .i64 d_4 c_4) (bE .i64 e_4 1)) (some ([],false,())) ((co a_4 0 (aA .i64 c_4 1)).bind fun y5=>(Zah (y5,())).bind fun r6=>(app r6.1 [b_4]).bind fun a7=>(co a_4 d_4 (a_4.length:Nat)).bind fun y8=>(app a7 y8).bind fun a9=>some (a9,true,())))) (fun _=>none)))
def Kb:Fn:=mkF { cx [HU,If,Ke] with maps:=maps } [(3,ER)] 86 Tryz.f86 [(.rd,yQ9),(.rd,(.slice I)),(.rd,(.slice .bool)),(.rd,I)] [(.tmp 8,true,(.slice I)),(.tmp 9,true,.bool)] Zbc [lp 3 ER qU] au ah rfl
def ov (x:Q36):Option (Q36⊕((Bool×Unit)⊕(Q5⊕Empty))) :=
 let (a,b,c,d,e,f,g,h,i,_):=x; cond (ltI i h) ((aF g i).bind fun y1=>cond (ltI y1 0) (some (.inr (.inl (false,())))) (cond (geI y1 a) (some (.inr (.inl (false,())))) ((aO d.length y1).bind fun j2=>(d[j2]?).bind fun y3=>cond y3 (some (.inr (.inl (false,())))) ((Zbc ((a,b,c,()),f,d,y1,())).bind fun r4=>cond (!r4.2.1) (some (.inr (.inl (false,())))) ((aO d.length y1).bind fun j5=>(d[j5]?).bind fun y6=>(app e [r4.1]).bind fun a7=>some (.inl (a,b,c,(d.set j5 true),a7,r4.1,g,h,(aA .i64 i 1),()))))))) (some (.inr (.inr (.inl (e,())))))
def uN:=aa ov
def EM:Ann:=⟨sh [(2,.av (.ptr 2 0)),(6,.av (.own 6)),(7,.av (.val (.slice I))),(8,.av (.own 8)),(69,.av (.val (.slice I))),(70,.av (.val I)),(71,.av (.val I))] [(2,.box [.val I,.val (.slice yQ2),.val yQ5]),(6,.arr .bool),(8,.arr (.slice I))],[(.ret,sh [(4,.av (.nils)),(5,.av (.val .bool))] []),(.exit 0,sh [(8,.av (.own 8))] [(8,.arr (.slice I))])],uN⟩
def Zav (x:Q7):Option ((List (List Int))×Bool×Unit) :=
 let ((a,b,c,_),d,_):=x; (Zc ((a,b,c,()),())).bind fun r1=>cond (!r1.1) (some ([],false,())) (cond (neI (d.length:Nat) a) (some ([],false,())) ((aF d 0).bind fun y2=>(Zaz ((a,b,c,()),0,())).bind fun r3=>cond (neI y2 r3.1) (some ([],false,())) ((aF d 1).bind fun y4=>(Zaz ((a,b,c,()),1,())).bind fun r5=>cond (neI y4 r5.1) (some ([],false,())) ((aF d (bE .i64 a 1)).bind fun y6=>(Zbb ((a,b,c,()),())).bind fun r7=>cond (neI y6 r7.1) (some ([],false,())) ((eN .bool a a).bind fun m8=>(aF d 0).bind fun y9=>(aF d 1).bind fun y10=>(aO m8.length y9).bind fun j11=>(m8[j11]?).bind fun y12=>(aO (m8.set j11 true).length y10).bind fun j13=>((m8.set j11 true)[j13]?).bind fun y14=>(co d 0 2).bind fun y15=>(Zah (y15,())).bind fun r16=>(co d 2 (d.length:Nat)).bind fun y17=>(uN (a,b,c,((m8.set j11 true).set j13 true),[r16.1],r16.1,y17,(y17.length:Nat),0,())).bind (LV (fun z19=>some ([],z19.1,())) (LV (fun z20=>some (z20.1,true,())) (fun _=>none))))))))
def JI:Fn:=mkF { cx [KK,F9,JM,If,Kb] with maps:=maps } [(8,EM)] 45 Tryz.f45 [(.rd,yQ9),(.rd,(.slice I))] [(.tmp 4,true,yQ5),(.tmp 5,true,.bool)] Zav [lp 8 EM ov] au ah rfl
def Zba (x:Q7):Option (Bool×Unit) :=
 (Zav ((x.1.1,x.1.2.1,x.1.2.2.1,()),x.2.1,())).bind fun r1=>some (r1.2.1,())
def Kn:Fn:=mkF { cx [JI] with maps:=maps } [] 16 Tryz.f16 [(.rd,yQ9),(.rd,(.slice I))] [(.tmp 4,true,.bool)] Zba [] au ah rfl
def Zai (x:(Int×(List (List Bool))×Int×Unit)):Option (Bool×Unit) :=
 (aF x.2.1 x.2.2.1).bind fun y1=>(aF y1 x.1).bind fun y2=>some (y2,())
def KB:Fn:=mkF { cx [] with maps:=maps } [] 18 Tryz.f18 [(.rd,I),(.rd,(.ptr yQ7)),(.rd,(.ptr I))] [(.tmp 4,true,.bool)] Zai [] au ah rfl
def yi (x:(List Int×((List (List Bool))×Int×Unit)×Int×Int×Unit)):Option ((List Int×((List (List Bool))×Int×Unit)×Int×Int×Unit)⊕((Int×Unit)⊕(Unit⊕Empty))) :=
 let (a,b,c,d,_):=x; cond (ltI d c) ((aF a d).bind fun y1=>(Zai (y1,b.1,b.2.1,())).bind fun r2=>cond r2.1 (some (.inr (.inl (d,())))) (some (.inl (a,b,c,(aA .i64 d 1),())))) (some (.inr (.inr (.inl ()))))
def D6:=aa yi
def Iq:Ann:=⟨sh [(0,.av (.val (.slice I))),(1,.av (.val (.clo 18 (.prod (.ptr yQ7) (.prod (.ptr I) .unit))))),(7,.av (.val I)),(8,.av (.val I))] [],[(.ret,sh [(4,.av (.val I))] []),(.exit 0,sh [] [])],D6⟩
def Za (x:(List Int×((List (List Bool))×Int×Unit)×Unit)):Option (Int×Unit) :=
 (D6 (x.1,x.2.1,(x.1.length:Nat),0,())).bind (LV (fun z2=>some (z2.1,())) (LV (fun z3=>some ((-1),())) (fun _=>none)))
def Li:Fn:=mkF { cx [KB] with maps:=maps } [(2,Iq)] 17 Tryz.f17 [(.rd,(.slice I)),(.rd,(.clo 18 (.prod (.ptr yQ7) (.prod (.ptr I) .unit))))] [(.tmp 4,true,I)] Za [lp 2 Iq yi] au ah rfl
def Zo (x:(List Int×Int×Int×List Int×Unit)):Option Q1:=replaceC.fn x
def Ln:Fn:=⟨19,replaceC,As CD⟩
def nl (x:((List Q2)×Int×Int×Unit)):Option (((List Q2)×Int×Int×Unit)⊕(((List Q2)×Unit)⊕Empty)) :=
 let (a,b,c,_):=x; cond (ltI c b) ((aO a.length c).bind fun j1=>(a[j1]?).bind fun y2=>(aO a.length c).bind fun j3=>(a[j3]?).bind fun y4=>some (.inl ((a.set j3 (y4.1,(bE .i64 0 y2.2.1),y4.2.2)),b,(aA .i64 c 1),()))) (some (.inr (.inl (a,()))))
def v7:=aa nl
def BL:Ann:=⟨sh [(10,.av (.own 10)),(241,.av (.val I)),(242,.av (.val I))] [(10,.arr yQ2)],[(.exit 14,sh [(10,.av (.own 10))] [(10,.arr yQ2)])],v7⟩
def nH (x:Q40):Option (Q40⊕(Q39⊕Empty)) :=
 let (a,b,c,d,e,f,g,h,i,k,l,m,n,o,p,q,s,t,_):=x; cond (ltI t s) ((aO (aV c q.toNat).length t).bind fun j1=>((aV c q.toNat)[j1]?).bind fun y2=>(aO b.length y2).bind fun j3=>(b[j3]?).bind fun y4=>(aO b.length y2).bind fun j5=>(b[j5]?).bind fun y6=>some (.inl (a,(b.set j5 ((aA .i64 y4.1 h),y6.2)),c,d,e,f,g,h,i,k,l,((m.toNat:Nat):Int),((n.toNat:Nat):Int),o,p,((q.toNat:Nat):Int),s,(aA .i64 t 1),()))) (some (.inr (.inl (a,b,c,d,e,f,g,i,k,l,((m.toNat:Nat):Int),((n.toNat:Nat):Int),o,p,()))))
def pP:=aa nH
def Cm:Ann:=⟨sh [(6,.av (.ptr 6 0)),(10,.av (.own 10)),(11,.av (.ownd 11)),(13,.av (.own 13)),(15,.av (.ptr 15 0)),(16,.av (.val I)),(17,.av (.val I)),(20,.av (.val I)),(112,.av (.val (.slice I))),(113,.av (.val I)),(114,.av (.val I)),(145,.view 13),(146,.av (.val I)),(147,.av (.val I)),(173,.sub 11),(174,.av (.val I)),(175,.av (.val I))] [(6,.box [.ownd 700000]),(700000,.deep .bool),(10,.arr yQ2),(11,.deep I),(13,.arr I),(15,.box [.val I])],[(.exit 12,sh [(6,.av (.ptr 6 0)),(10,.av (.own 10)),(11,.av (.ownd 11)),(13,.av (.own 13)),(15,.av (.ptr 15 0)),(16,.av (.val I)),(17,.av (.val I)),(112,.av (.val (.slice I))),(113,.av (.val I)),(114,.av (.val I)),(145,.view 13),(146,.av (.val I)),(147,.av (.val I))] [(6,.box [.ownd 700000]),(700000,.deep .bool),(10,.arr yQ2),(11,.deep I),(13,.arr I),(15,.box [.val I])])],pP⟩
def ng (x:Q39):Option (Q39⊕(Q37⊕Empty)) :=
  let t_0:=LV (fun (a_5,b_5,c_5,d_5,e_5,f_5,g_5,h_5,i_5,k_5,l_5,m_5,n_5,o_5,_)=>some (.inl (a_5,b_5,c_5,d_5,e_5,f_5,g_5,h_5,i_5,k_5,((l_5.toNat:Nat):Int),((m_5.toNat:Nat):Int),n_5,(aA .i64 o_5 1),()))) (fun _=>none);let (a,b,c,d,e,f,g,h,i,k,l,m,n,o,_):=x; cond (ltI o n) ((aO m.toNat o).bind fun j1=>(d[(l.toNat+j1)]?).bind fun y2=>cond (geI (aA .i64 (aA .i64 f 1) o) g) ((aO c.length y2).bind fun j3=>(pP (a,b,c,d,e,f,g,2,h,i,k,((l.toNat:Nat):Int),((m.toNat:Nat):Int),n,o,((j3:Nat):Int),((aV c j3).length:Nat),0,())).bind t_0) ((aO c.length e).bind fun j6=>(aO c.length y2).bind fun j7=>(app (aV c j6) (aV c j7)).bind fun a8=>(aO c.length e).bind fun j9=>if j6=j9 then (aO (c.set j9 a8).length y2).bind fun j10=>(pP (a,b,(c.set j9 a8),d,e,f,g,1,h,i,k,((l.toNat:Nat):Int),((m.toNat:Nat):Int),n,o,((j10:Nat):Int),((aV (c.set j9 a8) j10).length:Nat),0,())).bind t_0 else none)) (some (.inr (.inl (a,b,c,d,e,f,g,h,i,k,()))))
def vX:=aa ng
def Bd:Ann:=⟨sh [(6,.av (.ptr 6 0)),(10,.av (.own 10)),(11,.av (.ownd 11)),(13,.av (.own 13)),(15,.av (.ptr 15 0)),(16,.av (.val I)),(17,.av (.val I)),(112,.av (.val (.slice I))),(113,.av (.val I)),(114,.av (.val I)),(145,.view 13),(146,.av (.val I)),(147,.av (.val I))] [(6,.box [.ownd 700000]),(700000,.deep .bool),(10,.arr yQ2),(11,.deep I),(13,.arr I),(15,.box [.val I])],[(.exit 10,sh [(6,.av (.ptr 6 0)),(10,.av (.own 10)),(11,.av (.ownd 11)),(13,.av (.own 13)),(15,.av (.ptr 15 0)),(16,.av (.val I)),(17,.av (.val I)),(112,.av (.val (.slice I))),(113,.av (.val I)),(114,.av (.val I))] [(6,.box [.ownd 700000]),(700000,.deep .bool),(10,.arr yQ2),(11,.deep I),(13,.arr I),(15,.box [.val I])])],vX⟩
def qg (x:Q37):Option (Q37⊕(Q37⊕Empty)) :=
 let (a,b,c,d,e,f,g,h,i,k,_):=x; cond (ltI (aA .i64 g 1) (d.length:Nat)) ((aO a.length e).bind fun j1=>(aO d.length (aA .i64 g 1)).bind fun j2=>(d[j2]?).bind fun y3=>(aO (aV a j1).length y3).bind fun j4=>((aV a j1)[j4]?).bind fun y5=>cond y5 (some (.inl (a,b,c,d,e,f,(aA .i64 g 1),h,i,k,()))) (some (.inr (.inl (a,b,c,d,e,f,g,h,i,k,()))))) (some (.inr (.inl (a,b,c,d,e,f,g,h,i,k,()))))
def pW:=aa qg
def Bt:Ann:=⟨sh [(6,.av (.ptr 6 0)),(10,.av (.own 10)),(11,.av (.ownd 11)),(13,.av (.own 13)),(15,.av (.ptr 15 0)),(16,.av (.val I)),(17,.av (.val I)),(112,.av (.val (.slice I))),(113,.av (.val I)),(114,.av (.val I))] [(6,.box [.ownd 700000]),(700000,.deep .bool),(10,.arr yQ2),(11,.deep I),(13,.arr I),(15,.box [.val I])],[(.exit 8,sh [(6,.av (.ptr 6 0)),(10,.av (.own 10)),(11,.av (.ownd 11)),(13,.av (.own 13)),(15,.av (.ptr 15 0)),(16,.av (.val I)),(17,.av (.val I)),(112,.av (.val (.slice I))),(113,.av (.val I)),(114,.av (.val I))] [(6,.box [.ownd 700000]),(700000,.deep .bool),(10,.arr yQ2),(11,.deep I),(13,.arr I),(15,.box [.val I])])],pW⟩
def jj (x:Q29):Option (Q29⊕(((List Q2)×Unit)⊕Empty)) :=
 let (a,b,c,d,e,f,g,_):=x; cond (ltI g f) ((aF e g).bind fun y1=>(Za (d,(a,y1,()),())).bind fun r2=>(pW (a,b,c,d,y1,r2.1,r2.1,e,f,g,())).bind (LV (fun (a_4,b_4,c_4,d_4,e_4,f_4,g_4,h_4,i_4,k_4,_)=>(jV d_4.length (aA .i64 f_4 1) (d_4.length:Nat)).bind fun v5=>(vX (a_4,b_4,c_4,d_4,e_4,f_4,g_4,h_4,i_4,k_4,((v5.1:Nat):Int),((v5.2:Nat):Int),(v5.2:Nat),0,())).bind (LV (fun (a_7,b_7,c_7,d_7,e_7,f_7,g_7,h_7,i_7,k_7,_)=>(aO d_7.length f_7).bind fun j8=>(d_7[j8]?).bind fun y9=>(aO b_7.length y9).bind fun j10=>(b_7[j10]?).bind fun y11=>(aO d_7.length g_7).bind fun j12=>(d_7[j12]?).bind fun y13=>(aO b_7.length y13).bind fun j14=>(b_7[j14]?).bind fun y15=>(aO b_7.length e_7).bind fun j16=>(b_7[j16]?).bind fun y17=>(Zo (d_7,(aA .i64 f_7 1),g_7,[e_7],())).bind fun r18=>some (.inl (a_7,(b_7.set j16 ((iq .i64 (bE .i64 (aA .i64 (aA .i64 y11.1 y15.1) y15.2.1) y11.2.1) 2),(iq .i64 (aA .i64 (aA .i64 (bE .i64 y15.1 y11.1) y15.2.1) y11.2.1) 2),())),c_7,r18.1,h_7,i_7,(aA .i64 k_7 1),()))) (fun _=>none))) (fun _=>none))) (some (.inr (.inl (b,()))))
def uB:=aa jj
def Bv:Ann:=⟨sh [(6,.av (.ptr 6 0)),(10,.av (.own 10)),(11,.av (.ownd 11)),(13,.av (.own 13)),(112,.av (.val (.slice I))),(113,.av (.val I)),(114,.av (.val I))] [(6,.box [.ownd 700000]),(700000,.deep .bool),(10,.arr yQ2),(11,.deep I),(13,.arr I)],[(.exit 6,sh [(10,.av (.own 10))] [(10,.arr yQ2)])],uB⟩
def nj (x:Q23):Option (Q23⊕(((List (List Bool))×(List Q2)×(List (List Int))×List Int×Unit)⊕Empty)) :=
 let (a,b,c,d,e,f,_):=x; cond (ltI f e) ((aO c.length f).bind fun j1=>some (.inl (a,b,(c.set j1 [f]),d,e,(aA .i64 f 1),()))) (some (.inr (.inl (a,b,c,d,()))))
def qc:=aa nj
def BV:Ann:=⟨sh [(1,.av (.val (.slice I))),(6,.av (.ptr 6 0)),(10,.av (.own 10)),(11,.av (.ownd 11)),(91,.av (.val I)),(92,.av (.val I))] [(6,.box [.ownd 700000]),(700000,.deep .bool),(10,.arr yQ2),(11,.deep I)],[(.exit 4,sh [(1,.av (.val (.slice I))),(6,.av (.ptr 6 0)),(10,.av (.own 10)),(11,.av (.ownd 11))] [(6,.box [.ownd 700000]),(700000,.deep .bool),(10,.arr yQ2),(11,.deep I)])],qc⟩
def mX (x:Q32):Option (Q32⊕(Q17⊕Empty)) :=
 let (a,b,c,d,e,f,g,h,_):=x; cond (ltI h g) ((aF f h).bind fun y1=>(aO d.length y1.1).bind fun j2=>(aO d.length y1.2.1).bind fun j3=>(aO (aV d j2).length y1.2.1).bind fun j4=>(aO (aV (d.set j2 ((aV d j2).set j4 true)) j3).length y1.1).bind fun j5=>some (.inl (a,b,c,((d.set j2 ((aV d j2).set j4 true)).set j3 ((aV (d.set j2 ((aV d j2).set j4 true)) j3).set j5 true)),e,f,g,(aA .i64 h 1),()))) (some (.inr (.inl (a,b,c,d,e,()))))
def vp:=aa mX
def Cj:Ann:=⟨sh [(1,.av (.val (.slice I))),(2,.av (.ptr 2 0)),(6,.av (.ptr 6 0)),(49,.av (.val (.slice yQ2))),(50,.av (.val I)),(51,.av (.val I))] [(2,.box [.val I,.val (.slice yQ2),.val yQ5]),(6,.box [.ownd 700000]),(700000,.deep .bool)],[(.exit 2,sh [(1,.av (.val (.slice I))),(2,.av (.ptr 2 0)),(6,.av (.ptr 6 0))] [(2,.box [.val I,.val (.slice yQ2),.val yQ5]),(6,.box [.ownd 700000]),(700000,.deep .bool)])],vp⟩
def rj (x:Q27):Option (Q27⊕(Q17⊕Empty)) :=
 let (a,b,c,d,e,f,g,_):=x; cond (ltI g f) ((eN .bool a a).bind fun m1=>(aO d.length g).bind fun j2=>some (.inl (a,b,c,(d.set j2 m1),e,f,(aA .i64 g 1),()))) (some (.inr (.inl (a,b,c,d,e,()))))
def vn:=aa rj
def Gt:Ann:=⟨sh [(1,.av (.val (.slice I))),(2,.av (.ptr 2 0)),(6,.av (.ptr 6 0)),(37,.av (.val I)),(38,.av (.val I))] [(2,.box [.val I,.val (.slice yQ2),.val yQ5]),(6,.box [.ownd 700000]),(700000,.deep .bool)],[(.exit 0,sh [(1,.av (.val (.slice I))),(2,.av (.ptr 2 0)),(6,.av (.ptr 6 0))] [(2,.box [.val I,.val (.slice yQ2),.val yQ5]),(6,.box [.ownd 700000]),(700000,.deep .bool)])],vn⟩
def Zaw (x:Q7):Option ((List Q2)×Int×Unit) :=
 let ((a,b,c,_),d,_):=x; (Zc ((a,b,c,()),())).bind fun r1=>cond (!r1.1) (some ([],13,())) ((Zba ((a,b,c,()),d,())).bind fun r2=>cond (!r2.1) (some ([],1,())) ((eN (.slice .bool) a a).bind fun m3=>(vn (a,b,c,m3,d,(m3.length:Nat),0,())).bind (LV (fun (a_5,b_5,c_5,d_5,e_5,_)=>(vp (a_5,b_5,c_5,d_5,e_5,b_5,(b_5.length:Nat),0,())).bind (LV (fun (a_7,_,_,b_7,c_7,_)=>(eN yQ2 a_7 a_7).bind fun m8=>(aF c_7 1).bind fun y9=>(aF c_7 2).bind fun y10=>(aO m8.length y9).bind fun j11=>(m8[j11]?).bind fun y12=>(aO (m8.set j11 (2,0,())).length y10).bind fun j13=>((m8.set j11 (2,0,()))[j13]?).bind fun y14=>(eN (.slice I) a_7 a_7).bind fun m15=>(qc (b_7,((m8.set j11 (2,0,())).set j13 (1,1,())),m15,c_7,(m15.length:Nat),0,())).bind (LV (fun (a_17,b_17,c_17,d_17,_)=>(aF d_17 0).bind fun y18=>(aF d_17 2).bind fun y19=>(aF d_17 1).bind fun y20=>(co d_17 3 (d_17.length:Nat)).bind fun y21=>(uB (a_17,b_17,c_17,[y18,y19,y20],y21,(y21.length:Nat),0,())).bind (LV (fun z23=>(v7 (z23.1,(z23.1.length:Nat),0,())).bind (LV (fun z25=>some (z25.1,0,())) (fun _=>none))) (fun _=>none))) (fun _=>none))) (fun _=>none))) (fun _=>none))))
def JG:Fn:=mkF { cx [KK,Kn,Li,Ln] with deep:=[35,89],maps:=maps,light:=[14,38] } [(7,Gt),(12,Cj),(20,BV),(26,Bv),(30,Bt),(33,Bd),(40,Cm),(50,BL)] 7 Tryz.f7 [(.rd,yQ9),(.rd,(.slice I))] [(.tmp 4,true,(.slice yQ2)),(.tmp 5,true,I)] Zaw [lp 7 Gt rj,lp 12 Cj mX,lp 20 BV nj,lp 26 Bv jj,lp 30 Bt qg,lp 33 Bd ng,lp 40 Cm nH,lp 50 BL nl] au ah rfl (d:=true)
def qk (x:(Int×(List Q2)×Int×Unit)):Option ((Int×(List Q2)×Int×Unit)⊕((Bool×Unit)⊕(Unit⊕Empty))) :=
 let (a,b,c,_):=x; cond (ltI c (b.length:Nat)) ((aF b c).bind fun y1=>cond (ltI y1.1 0) (some (.inr (.inl (false,())))) (cond (geI y1.1 a) (some (.inr (.inl (false,())))) (cond (ltI y1.2.1 0) (some (.inr (.inl (false,())))) (cond (geI y1.2.1 a) (some (.inr (.inl (false,())))) (some (.inl (a,b,(aA .i64 c 1),()))))))) (some (.inr (.inr (.inl ()))))
def AV:=aa qk
def Gl:Ann:=⟨sh [(1,.av (.ptr 1 0)),(3,.av (.val I))] [(1,.box [.val I,.val (.slice yQ2)])],[(.ret,sh [(2,.av (.val .bool))] []),(.exit 0,sh [] [])],AV⟩
def Zab (x:((Int×(List Q2)×Unit)×Unit)):Option (Bool×Unit) :=
 let ((a,b,_),_):=x; cond (ltI a 0) (some (false,())) (cond (gtI a 64) (some (false,())) (cond (gtI (b.length:Nat) 256) (some (false,())) ((AV (a,b,0,())).bind (LV (fun z2=>some (z2.1,())) (LV (fun z3=>some (true,())) (fun _=>none))))))
def KA:Fn:=mkF { cx [] with maps:=maps } [(4,Gl)] 28 Tryz.f28 [(.rd,G6)] [(.tmp 2,true,.bool)] Zab [lp 4 Gl qk] au ah rfl
def Zad (x:(Q2×Unit)):Option (Bool×Unit) :=
 let ((a,b,_),_):=x; cond (geI a (-268435456)) (cond (leI a 268435456) (cond (geI b (-268435456)) (some ((leI b 268435456),())) (some (false,()))) (some (false,()))) (some (false,()))
def Bq:Fn:=mkF { cx [] with maps:=maps } [] 29 Tryz.f29 [(.rd,yQ2)] [(.tmp 2,true,.bool)] Zad [] au ah rfl
def Zr (x:Q3):Option (Bool×Unit) :=
 let ((a,b,_),(c,d,_),_):=x; cond (neI a c) (cond (neI a d) (cond (neI b c) (some ((neI b d),())) (some (false,()))) (some (false,()))) (some (false,()))
def KZ:Fn:=mkF { cx [] with maps:=maps } [] 30 Tryz.f30 [(.rd,yQ2),(.rd,yQ2)] [(.tmp 4,true,.bool)] Zr [] au ah rfl
def Zy (x:(Q3×Unit)):Option (Bool×Unit) :=
 let (((a,b,_),(c,d,_),_),_):=x; (Zad ((a,b,()),())).bind fun r1=>cond r1.1 ((Zad ((c,d,()),())).bind fun r2=>some (r2.1,())) (some (false,()))
def Jb:Fn:=mkF { cx [Bq] with maps:=maps } [] 61 Tryz.f61 [(.rd,yQ4)] [(.tmp 2,true,.bool)] Zy [] au ah rfl
def Zao (x:(Int×Unit)):Option (Int×Unit) :=
 cond (ltI x.1 0) (some ((-1),())) (cond (gtI x.1 0) (some (1,())) (some (0,())))
def Kf:Fn:=mkF { cx [] with maps:=maps } [] 92 Tryz.f92 [(.rd,I)] [(.tmp 2,true,I)] Zao [] au ah rfl
def Zp (x:(Q2×Q2×Q2×Unit)):Option (Int×Unit) :=
 let ((a,b,_),(c,d,_),(e,f,_),_):=x; (Zad ((a,b,()),())).bind fun r1=>cond (!r1.1) (some (0,())) ((Zad ((c,d,()),())).bind fun r2=>cond (!r2.1) (some (0,())) ((Zad ((e,f,()),())).bind fun r3=>cond (!r3.1) (some (0,())) ((Zao ((bE .i64 (dK .i64 (bE .i64 c a) (bE .i64 f b)) (dK .i64 (bE .i64 d b) (bE .i64 e a))),())).bind fun r4=>some (r4.1,()))))
def KI:Fn:=mkF { cx [Bq,Kf] with maps:=maps } [] 62 Tryz.f62 [(.rd,yQ2),(.rd,yQ2),(.rd,yQ2)] [(.tmp 6,true,I)] Zp [] au ah rfl
def Zae (x:(Q3×Q3×Unit)):Option (Bool×Unit) :=
 let (((a,b,_),(c,d,_),_),((e,f,_),(g,h,_),_),_):=x; (Zy (((a,b,()),(c,d,()),()),())).bind fun r1=>cond (!r1.1) (some (false,())) ((Zy (((e,f,()),(g,h,()),()),())).bind fun r2=>cond (!r2.1) (some (false,())) ((Zp ((a,b,()),(c,d,()),(e,f,()),())).bind fun r3=>(Zp ((a,b,()),(c,d,()),(g,h,()),())).bind fun r4=>cond (ltI (dK .i64 r3.1 r4.1) 0) ((Zp ((e,f,()),(g,h,()),(a,b,()),())).bind fun r5=>(Zp ((e,f,()),(g,h,()),(c,d,()),())).bind fun r6=>some ((ltI (dK .i64 r5.1 r6.1) 0),())) (some (false,()))))
def J3:Fn:=mkF { cx [Jb,KI] with maps:=maps } [] 60 Tryz.f60 [(.rd,yQ4),(.rd,yQ4)] [(.tmp 4,true,.bool)] Zae [] au ah rfl
def Zau (x:(Q2×Q3×Unit)):Option (Bool×Unit) :=
 let ((a,b,_),((c,d,_),(e,f,_),_),_):=x; (Zad ((a,b,()),())).bind fun r1=>cond (!r1.1) (some (false,())) ((Zy (((c,d,()),(e,f,()),()),())).bind fun r2=>cond (!r2.1) (some (false,())) ((Zp ((c,d,()),(e,f,()),(a,b,()),())).bind fun r3=>cond (neI r3.1 0) (some (false,())) (cond (geI a (eR c e)) (cond (leI a (maxI c e)) (cond (geI b (eR d f)) (some ((leI b (maxI d f)),())) (some (false,()))) (some (false,()))) (some (false,())))))
def H5:Fn:=mkF { cx [Bq,Jb,KI] with maps:=maps } [] 32 Tryz.f32 [(.rd,yQ2),(.rd,yQ4)] [(.tmp 4,true,.bool)] Zau [] au ah rfl
def Zaf (x:(Q3×Q3×Unit)):Option (Bool×Unit) :=
 let (((a,b,_),(c,d,_),_),((e,f,_),(g,h,_),_),_):=x; let t_2:=(Zau ((g,h,()),((a,b,()),(c,d,()),()),())).bind fun r8=>cond r8.1 ((Zy (((e,f,()),(g,h,()),()),())).bind fun r9=>some (r9.1,())) (some (false,())); let t_1:=(Zau ((e,f,()),((a,b,()),(c,d,()),()),())).bind fun r6=>cond r6.1 ((Zy (((e,f,()),(g,h,()),()),())).bind fun r7=>cond r7.1 (some (true,())) t_2) t_2; let t_0:=(Zau ((c,d,()),((e,f,()),(g,h,()),()),())).bind fun r4=>cond r4.1 ((Zy (((a,b,()),(c,d,()),()),())).bind fun r5=>cond r5.1 (some (true,())) t_1) t_1; (Zae (((a,b,()),(c,d,()),()),((e,f,()),(g,h,()),()),())).bind fun r1=>cond r1.1 (some (true,())) ((Zau ((a,b,()),((e,f,()),(g,h,()),()),())).bind fun r2=>cond r2.1 ((Zy (((a,b,()),(c,d,()),()),())).bind fun r3=>cond r3.1 (some (true,())) t_0) t_0)
def KC:Fn:=mkF { cx [H5,J3,Jb] with maps:=maps } [] 31 Tryz.f31 [(.rd,yQ4),(.rd,yQ4)] [(.tmp 4,true,.bool)] Zaf [] au ah rfl
def sA (x:Q28):Option (Q28⊕(Q8⊕Empty)) :=
 let (a,b,c,d,e,f,g,h,i,k,l,m,_):=x; cond (ltI m a) (cond (neI m c) (cond (neI m d) ((aF i m).bind fun y1=>(Zau (y1,((e,f,()),(g,h,()),()),())).bind fun r2=>cond r2.1 (some (.inl (a,b,c,d,e,f,g,h,i,(aA .i64 k 1),l,(aA .i64 m 1),()))) (some (.inl (a,b,c,d,e,f,g,h,i,k,l,(aA .i64 m 1),())))) (some (.inl (a,b,c,d,e,f,g,h,i,k,l,(aA .i64 m 1),())))) (some (.inl (a,b,c,d,e,f,g,h,i,k,l,(aA .i64 m 1),())))) (some (.inr (.inl (a,b,i,k,l,()))))
def zA:=aa sA
def EL:Ann:=⟨sh [(1,.av (.val (.slice yQ2))),(2,.av (.ptr 2 0)),(6,.av (.val I)),(7,.av (.val I)),(8,.av (.ptr 8 0)),(9,.av (.ptr 9 0)),(12,.av (.val I))] [(2,.box [.val I,.val (.slice yQ2)]),(8,.box [.val I,.val I]),(9,.box [.val I,.val I,.val I,.val I])],[(.exit 6,sh [(1,.av (.val (.slice yQ2))),(2,.av (.ptr 2 0)),(6,.av (.val I)),(7,.av (.val I))] [(2,.box [.val I,.val (.slice yQ2)])])],zA⟩
def rn (x:Q28):Option (Q28⊕((Int×(List Q2)×Int×Int×Int×Int×Int×Int×(List Q2)×Int×Int×Unit)⊕Empty)) :=
 let (a,b,c,d,e,f,g,h,i,k,l,m,_):=x; cond (ltI m l) ((aF b m).bind fun y1=>(Zr ((c,d,()),(y1.1,y1.2.1,()),())).bind fun r2=>cond r2.1 ((aF i y1.1).bind fun y3=>(aF i y1.2.1).bind fun y4=>(Zaf (((e,f,()),(g,h,()),()),((y3.1,y3.2.1,()),(y4.1,y4.2.1,()),()),())).bind fun r5=>cond r5.1 (some (.inl (a,b,c,d,e,f,g,h,i,(aA .i64 k 1),l,(aA .i64 m 1),()))) (some (.inl (a,b,c,d,e,f,g,h,i,k,l,(aA .i64 m 1),())))) (some (.inl (a,b,c,d,e,f,g,h,i,k,l,(aA .i64 m 1),())))) (some (.inr (.inl (a,b,c,d,e,f,g,h,i,k,l,()))))
def AS:=aa rn
def Fe:Ann:=⟨sh [(1,.av (.val (.slice yQ2))),(2,.av (.ptr 2 0)),(6,.av (.val I)),(7,.av (.val I)),(8,.av (.ptr 8 0)),(9,.av (.ptr 9 0)),(10,.av (.val I))] [(2,.box [.val I,.val (.slice yQ2)]),(8,.box [.val I,.val I]),(9,.box [.val I,.val I,.val I,.val I])],[(.exit 4,sh [(1,.av (.val (.slice yQ2))),(2,.av (.ptr 2 0)),(6,.av (.val I)),(7,.av (.val I)),(8,.av (.ptr 8 0)),(9,.av (.ptr 9 0))] [(2,.box [.val I,.val (.slice yQ2)]),(8,.box [.val I,.val I]),(9,.box [.val I,.val I,.val I,.val I])])],AS⟩
def sE (x:Q8):Option (Q8⊕((Int×Unit)⊕Empty)) :=
 let (a,b,c,d,e,_):=x; cond (ltI e (b.length:Nat)) ((aF b e).bind fun y1=>(aF c y1.1).bind fun y2=>(aF c y1.2.1).bind fun y3=>(AS (a,b,y1.1,y1.2.1,y2.1,y2.2.1,y3.1,y3.2.1,c,d,e,0,())).bind (LV (fun (a_5,b_5,c_5,d_5,e_5,f_5,g_5,h_5,i_5,k_5,l_5,_)=>(zA (a_5,b_5,c_5,d_5,e_5,f_5,g_5,h_5,i_5,k_5,l_5,0,())).bind (LV (fun z7=>some (.inl (z7.1,z7.2.1,z7.2.2.1,z7.2.2.2.1,(aA .i64 z7.2.2.2.2.1 1),()))) (fun _=>none))) (fun _=>none))) (some (.inr (.inl (d,()))))
def zn:=aa sE
def Fb:Ann:=⟨sh [(1,.av (.val (.slice yQ2))),(2,.av (.ptr 2 0)),(6,.av (.val I)),(7,.av (.val I))] [(2,.box [.val I,.val (.slice yQ2)])],[(.exit 2,sh [(6,.av (.val I))] [])],zn⟩
def wM (x:(Int×(List Q2)×(List Q2)×Int×Unit)):Option ((Int×(List Q2)×(List Q2)×Int×Unit)⊕((Int×Unit)⊕((Int×(List Q2)×(List Q2)×Unit)⊕Empty))) :=
 let (a,b,c,d,_):=x; cond (ltI d a) ((aF c d).bind fun y1=>(Zad (y1,())).bind fun r2=>cond (!r2.1) (some (.inr (.inl ((-1),())))) (some (.inl (a,b,c,(aA .i64 d 1),())))) (some (.inr (.inr (.inl (a,b,c,())))))
def By:=aa wM
def In:Ann:=⟨sh [(1,.av (.val (.slice yQ2))),(2,.av (.ptr 2 0)),(5,.av (.val I))] [(2,.box [.val I,.val (.slice yQ2)])],[(.ret,sh [(4,.av (.val I))] []),(.exit 0,sh [(1,.av (.val (.slice yQ2))),(2,.av (.ptr 2 0))] [(2,.box [.val I,.val (.slice yQ2)])])],By⟩
def Zf (x:((Int×(List Q2)×Unit)×(List Q2)×Unit)):Option (Int×Unit) :=
 let ((a,b,_),c,_):=x; (Zab ((a,b,()),())).bind fun r1=>cond (!r1.1) (some ((-1),())) (cond (neI (c.length:Nat) a) (some ((-1),())) ((By (a,b,c,0,())).bind (LV (fun z3=>some (z3.1,())) (LV (fun z4=>(zn (z4.1,z4.2.1,z4.2.2.1,0,0,())).bind (LV (fun z6=>some (z6.1,())) (fun _=>none))) (fun _=>none)))))
def Lv:Fn:=mkF { cx [KA,Bq,KZ,KC,H5] with maps:=maps } [(4,In),(10,Fb),(15,Fe),(21,EL)] 12 Tryz.f12 [(.rd,G6),(.rd,(.slice yQ2))] [(.tmp 4,true,I)] Zf [lp 4 In wM,lp 10 Fb sE,lp 15 Fe rn,lp 21 EL sA] au ah rfl
def xo (x:((List Q2)×List Int×Int×Int×Unit)):Option (((List Q2)×List Int×Int×Int×Unit)⊕((Bool×Unit)⊕(((List Q2)×List Int×Int×Unit)⊕Empty))) :=
 let (a,b,c,d,_):=x; cond (ltI d c) ((aO a.length d).bind fun j1=>(a[j1]?).bind fun y2=>cond (ltI y2.1 0) (some (.inr (.inl (false,())))) ((aO a.length d).bind fun j3=>(a[j3]?).bind fun y4=>cond (gtI y4.1 (bE .i64 (dK .i64 2 c) 4)) (some (.inr (.inl (false,())))) ((aO a.length d).bind fun j5=>(a[j5]?).bind fun y6=>cond (gtI y6.2.1 0) (some (.inr (.inl (false,())))) ((aO a.length d).bind fun j7=>(a[j7]?).bind fun y8=>cond (ltI y8.2.1 (bE .i64 2 c)) (some (.inr (.inl (false,())))) (some (.inl (a,b,c,(aA .i64 d 1),()))))))) (some (.inr (.inr (.inl (a,b,c,())))))
def EG:=aa xo
def Ip:Ann:=⟨sh [(1,.av (.val (.slice I))),(5,.av (.own 5)),(7,.av (.val I)),(8,.av (.val I))] [(5,.arr yQ2)],[(.ret,sh [(4,.av (.val .bool))] []),(.exit 0,sh [(1,.av (.val (.slice I))),(5,.av (.own 5)),(7,.av (.val I))] [(5,.arr yQ2)])],EG⟩
def Zd (x:Q7):Option (Bool×Unit) :=
 let ((a,b,c,_),d,_):=x; (Zs ((a,b,c,()),())).bind fun r1=>cond (!r1.1) ((Zq ()).bind fun r2=>some (r2.1,())) (cond (gtI (d.length:Nat) 20) ((Zq ()).bind fun r3=>some (r3.1,())) ((Zb ((a,b,c,()),())).bind fun r4=>cond (!r4.1) ((Zq ()).bind fun r5=>some (r5.1,())) ((Zac ((a,b,c,()),d,())).bind fun r6=>cond (!r6.1) ((Zq ()).bind fun r7=>some (r7.1,())) ((Zaw ((a,b,c,()),d,())).bind fun r8=>cond (neI r8.2.1 0) (some (false,())) (cond (neI (r8.1.length:Nat) a) (some (false,())) ((Zf ((a,b,()),r8.1,())).bind fun r9=>cond (neI r9.1 0) (some (false,())) ((EG (r8.1,d,a,0,())).bind (LV (fun z11=>some (z11.1,())) (LV (fun (a_12,b_12,c_12,_)=>(aF b_12 0).bind fun y13=>(aO a_12.length y13).bind fun j14=>(a_12[j14]?).bind fun y15=>cond ((eqI y15.1 0) && ((eqI y15.2.1 0) && true)) ((aF b_12 1).bind fun y16=>(aO a_12.length y16).bind fun j17=>(a_12[j17]?).bind fun y18=>cond ((eqI y18.1 (bE .i64 (dK .i64 2 c_12) 4)) && ((eqI y18.2.1 0) && true)) ((aF b_12 (bE .i64 c_12 1)).bind fun y19=>(aO a_12.length y19).bind fun j20=>(a_12[j20]?).bind fun y21=>cond ((eqI y21.1 (bE .i64 c_12 2)) && ((eqI y21.2.1 (bE .i64 2 c_12)) && true)) ((Zq ()).bind fun r22=>some (r22.1,())) (some (false,()))) (some (false,()))) (some (false,()))) (fun _=>none))))))))))
def Zd_h:Fn:=mkF { cx [LA,LF,JG,JT,KM,Lv] with maps:=maps } [(8,Ip)] 4 Tryz.f4 [(.rd,yQ9),(.rd,(.slice I))] [(.tmp 4,true,.bool)] Zd [lp 8 Ip xo] au ah rfl
def Zd_c:Con:={ ins:=[(.rd,yQ9),(.rd,(.slice I))],outs:=[(true,.bool)],fn:=Zd }
theorem EJ:Con.Holds Tryz.prog glob 4 Zd_c:=Zd_h.ok
end
end Go.Vm

/-
 The functions that the law reaches, as functions on values, and the proofs that the machine computes them.
-/
import Derived.Test.YtnkjongpfleloaaGreatDoorVmPack
import Derived.Test.YtnkjongpfleloaaGreatDoorSA
import Derived.Test.YtnkjongpfleloaaGreatDoorXG
import Derived.Test.YtnkjongpfleloaaGreatDoorVmExt2
import Derived.Test.YtnkjongpfleloaaGreatDoorVmExt3
import Derived.Test.YtnkjongpfleloaaGreatDoorVmExt4
import Derived.Test.YtnkjongpfleloaaGreatDoorProg
import Derived.KernelRfl
open Sum renaming elim->sw
open Nat renaming ble->RD
set_option linter.unusedVariables false
set_option linter.unusedSimpArgs false
namespace Go.Vm
open Go.Proofs
abbrev I:Ty:=.int .i64
abbrev yQ1:Ty:=.prod I .unit
abbrev yQ2:Ty:=.prod I yQ1
abbrev yQ3:Ty:=.prod I yQ2
abbrev yQ4:Ty:=.prod I yQ3
abbrev yQ5:Ty:=.prod yQ2 .unit
abbrev yQ6:Ty:=.prod yQ2 yQ5
abbrev yQ7:Ty:=.prod yQ6 .unit
abbrev yQ8:Ty:=.prod I yQ7
abbrev yQ9:Ty:=.prod I yQ8
abbrev aN:Ty:=.slice (.slice I)
abbrev HR:Ty:=.prod aN .unit
abbrev Qg:Ty:=.prod .bool .unit
abbrev QC:Ty:=.prod I Qg
abbrev QE:Ty:=.prod I QC
abbrev Qp:Ty:=.prod I QE
abbrev Qx:Ty:=.prod I Qp
abbrev gM:Ty:=.prod I Qx
abbrev fi:Ty:=.slice (.slice yQ2)
abbrev Qz:Ty:=.prod (.ptr I) .unit
abbrev Km:Ty:=.prod (.slice yQ2) HR
abbrev cT:Ty:=.prod I Km
abbrev QI:Ty:=.prod (.slice .str) yQ1
abbrev QF:Ty:=.prod (.slice I) QI
abbrev bg:Ty:=.prod cT QF
abbrev Qj:Ty:=.prod (.slice yQ2) .unit
abbrev gL:Ty:=.prod I Qj
abbrev QM:Ty:=.prod (.slice yQ4) .unit
abbrev pi:Ty:=.prod (.slice I) QM
abbrev QJ:Ty:=.prod (.clo 196 .unit) .unit
abbrev CV:Ty:=.prod (.slice gM) QJ
abbrev tk:Ty:=.prod (.ptr (.slice I)) Qz
abbrev JL:Ty:=.prod (.ptr (.slice I)) .unit
abbrev Gb:Ty:=.prod (.slice I) (.prod (.slice I) .unit)
abbrev NO:Ty:=.prod I (.prod aN (.prod (.slice .bool) (.prod (.slice (.slice .bool)) HR)))
abbrev Q1:=List Int×Unit
abbrev Q2:=Int×Int×Unit
abbrev Q3:=Q2×Q2×Unit
abbrev Q4:=(List Q2)×Unit
abbrev Q5:=Int×Int×Q3×Unit
abbrev Q6:=List Int×Int×Unit
abbrev Q7:=List Int×Q6×Unit
abbrev Q8:=Int×(List Q2)×Unit
abbrev Q9:=(List Q2)×Int×Unit
abbrev Q10:=Int×Int×Int×Unit
abbrev Q11:=(List (List Int))×Unit
abbrev Q12:=List Int×Int×Int×Unit
abbrev Q13:=Int×(List Q2)×Int×Unit
abbrev Q14:=Int×Int×Int×Int×Unit
abbrev Q15:=List Int×(List Q14)×Unit
abbrev Q16:=List (Unit×ByteArray×Int)
abbrev Q17:=List Int×Q6×Int×Int×Unit
abbrev Q18:=List Int×Int×Int×Int×Unit
abbrev Q19:=(List Q2)×(List Q2)×Int×Unit
abbrev Q20:=(List Q2)×Unit×Int×Int×Unit
abbrev Q21:=Int×Int×(List Q2)×Int×Int×Unit
abbrev Q22:=(List Q2)×(List Q2)×Int×Int×Unit
abbrev Q23:=Q8×(List Q2)×(List (List Q2))×Unit
abbrev Q24:=Int×Int×Int×Int×Int×Bool×Unit
abbrev Q25:=Int×(List Q2)×(List (List Int))×Unit
abbrev Q26:=Q25×Int×Unit
abbrev Q27:=Q25×Int×Int×Unit
abbrev Q28:=Q25×List Int×List ByteArray×Int×Unit
abbrev Q29:=Int×(List Q2)×(List Q2)×Int×Int×Unit
abbrev Q30:=Int×Int×(List Q2)×(List Q2)×Int×Unit
abbrev Q31:=List Int×(List (List Int))×Int×Int×Unit
abbrev Q32:=Int×(List Q2)×(List (List Int))×Int×Unit
abbrev Q33:=List Int×List Int×List Int×Int×Int×Unit
abbrev Q34:=(List Q24)×Unit×List Int×List Int×Bool×Unit
abbrev Q35:=List Int×List Int×List Int×Int×Int×Int×Unit
abbrev Q36:=Int×(List Q2)×(List Q2)×(List (List Q2))×Int×Unit
abbrev Q37:=Int×(List Q2)×(List Q2)×(List (List Q2))×Int×Int×Unit
abbrev Q38:=Int×(List Q2)×(List Q2)×(List (List Q2))×Int×Int×Int×Unit
abbrev Q39:=Int×(List Q2)×(List (List Int))×List Bool×List Int×Int×Unit
abbrev Q40:=Int×(List Q2)×(List (List Int))×List Bool×Int×Int×Int×Unit
abbrev Q41:=Int×Int×(List Q2)×List Int×(List Q2)×(List Q2)×Int×Int×Unit
abbrev Q42:=Int×(List Q2)×(List (List Int))×List Int×List Int×List Int×Unit
abbrev Q43:=(List Q24)×Unit×List Int×List Int×Int×List Int×Int×Int×Unit
abbrev Q44:=List Int×List Bool×(List (List Int))×List Int×Int×Int×Int×Unit
abbrev Q45:=List Int×(List (List Int))×Int×Int×Int×List Int×Int×Int×Unit
abbrev Q46:=Int×(List Q2)×(List Q5)×(List Q2)×(List (List Q2))×Int×Int×Unit
abbrev Q47:=Int×(List Q2)×(List Q2)×(List (List Q2))×(List Q2)×Int×Int×Unit
abbrev Q48:=Int×(List Q2)×(List Q2)×(List (List Q2))×Int×Int×Int×Int×Unit
abbrev Q49:=(List Q24)×Unit×List Int×List Int×Bool×(List Q24)×Int×Int×Unit
abbrev Q50:=Int×(List Q2)×(List (List Int))×Int×(List (List Int))×Int×Int×Unit
abbrev Q51:=Int×Int×(List Q2)×(List (List Int))×(List (List Int))×Int×Int×Unit
abbrev Q52:=List Int×List Int×(List (List Int))×Int×Int×List Int×Int×Int×Unit
abbrev Q53:=Int×Int×Int×Int×Int×Int×Int×Int×Int×Int×(List Q2)×Int×Unit
abbrev Q54:=Int×(List Q2)×(List (List Int))×List Bool×List Int×Int×Int×Int×Unit
abbrev Q55:=Int×(List Q2)×(List (List Int))×List Int×List Int×List Int×Int×Int×Unit
abbrev Q56:=Int×List Int×Int×(List Q2)×(List (List Int))×List Int×List Int×Int×Unit
abbrev Q57:=Int×(List Q2)×(List (List Int))×List Int×List ByteArray×Int×Int×Int×Unit
abbrev Q58:=Int×List Int×Int×(List Q2)×(List (List Int))×List Int×Int×Int×Int×Unit
abbrev Q59:=Int×(List Q2)×(List Q5)×(List Q2)×(List (List Q2))×(List Q2)×Int×Int×Unit
abbrev Q60:=Int×(List Q2)×(List (List Int))×List Int×List Int×(List Q14)×Int×Int×Unit
abbrev Q61:=Int×(List Q2)×(List (List Int))×List Bool×Int×(List (List Int))×Int×Int×Unit
abbrev Q62:=Int×(List Q2)×(List (List Int))×List Int×List Int×Int×List Int×List Int×Unit
abbrev Q63:=Int×(List Q2)×(List (List Int))×List Int×List Int×List Int×Int×Int×Int×Unit
abbrev Q64:=Int×(List Q2)×(List (List Int))×List Bool×List Int×Int×List Int×Int×Int×Unit
abbrev Q65:=Int×(List Q2)×(List (List Int))×List Int×List ByteArray×Int×Int×Int×Bool×Unit
abbrev Q66:=Int×(List Q2)×(List (List Int))×List Int×List ByteArray×Int×List Int×List Int×Unit
abbrev Q67:=Int×(List Q2)×(List (List Int))×List Int×List Int×List Int×List Int×Int×Int×Unit
abbrev Q68:=Int×(List Q2)×(List (List Int))×List Int×List ByteArray×Int×List Int×Int×Int×Unit
abbrev Q69:=Int×(List Q2)×(List (List Int))×(List (List Int))×Int×(List (List Int))×Int×Int×Unit
abbrev Q70:=Int×(List Q2)×(List Q5)×(List Q2)×(List (List Q2))×Int×Int×(List Q2)×Int×Int×Unit
abbrev Q71:=Int×(List Q2)×(List (List Int))×List Int×List Int×(List (List Int))×Int×Int×Int×Unit
abbrev Q72:=Int×(List Q2)×(List (List Int))×List Int×List ByteArray×Int×Int×List Int×Int×Int×Unit
abbrev Q73:=Int×(List Q2)×(List (List Int))×List Int×List Int×List Int×Int×Int×Int×Int×Int×Unit
abbrev Q74:=Int×(List Q2)×(List (List Int))×List Bool×List Int×Int×Int×Int×List Int×Int×Int×Unit
abbrev Q75:=Int×(List Q2)×(List (List Int))×List Int×List ByteArray×Int×Int×Int×Int×Int×Int×Unit
abbrev Q76:=Int×(List Q2)×(List (List Int))×List Int×List ByteArray×Int×(List (List Int))×Int×Int×Unit
abbrev Q77:=Int×(List Q2)×(List (List Int))×List Int×List ByteArray×Int×List Int×List Int×Int×Bool×Unit
abbrev Q78:=Int×(List Q2)×(List (List Int))×(List (List Int))×List Int×Int×(List (List Int))×Int×Int×Unit
abbrev Q79:=Int×(List Q2)×(List (List Int))×List Int×List ByteArray×Int×List Int×List Int×Int×Int×Int×Unit
abbrev Q80:=Int×(List Q2)×(List (List Int))×List Int×List ByteArray×Int×List Int×(List (List Int))×Int×Int×Unit
abbrev Q81:=Int×(List Q2)×(List (List Int))×List Bool×Int×Int×(List (List Int))×Int×Int×List Int×Int×Int×Unit
abbrev Q82:=Int×(List Q2)×(List (List Int))×List Int×List ByteArray×Int×Int×Int×List Int×Int×Int×Int×Int×Unit
abbrev Q83:=Int×(List Q2)×(List (List Int))×List Int×List ByteArray×Int×Int×(List Q2)×(List (List Int))×Int×Int×Unit
abbrev Q84:=Int×(List Q2)×(List (List Int))×List Int×List ByteArray×Int×Int×Int×(List (List Int))×Bool×Int×Int×Unit
abbrev Q85:=Int×(List Q2)×(List (List Int))×List Int×List ByteArray×Int×List Int×List Int×List Int×Int×Int×Int×Unit
abbrev Q86:=Int×(List Q2)×(List (List Int))×List Int×List ByteArray×Int×List Int×List Int×Int×Int×Int×Int×Int×Unit
abbrev Q87:=Int×(List Q2)×(List (List Int))×List Int×List ByteArray×Int×List Int×List Int×Int×Bool×List Int×Int×Int×Unit
abbrev Q88:=Int×(List Q2)×(List (List Int))×List Int×List ByteArray×Int×List Int×Q16×List Int×(List (List Int))×Int×Int×Unit
abbrev Q89:=Int×(List Q2)×(List Q5)×Int×Int×Int×Int×Int×Int×(List Q2)×(List (List Q2))×Int×Int×Int×Int×Int×Int×Unit
abbrev Q90:=Int×(List Q2)×(List (List Int))×List Int×List Int×(List (List Int))×Int×Int×List Int×Int×Int×List Int×Int×Int×Unit
abbrev Q91:=Int×(List Q2)×(List (List Int))×List Int×List ByteArray×Int×(List (List Int))×Int×Int×Int×Int×List Int×Int×Int×Unit
abbrev Q92:=Int×(List Q2)×(List (List Int))×List Int×List ByteArray×Int×List Int×Int×(List (List Int))×Int×Int×List Int×Int×Int×Unit
abbrev Q93:=Int×(List Q2)×(List (List Int))×List Int×List ByteArray×Int×(List (List Int))×List Int×Int×Int×Int×List Int×Int×Int×Unit
abbrev Q94:=Int×(List Q2)×(List (List Int))×List Int×List ByteArray×Int×List Int×List Int×List Int×Int×Int×Int×List Int×Int×Int×Unit
abbrev Q95:=Int×(List Q2)×(List Q5)×Int×Int×Int×Int×Int×Int×Int×Int×(List Q2)×(List (List Q2))×Int×Int×Int×(List Q2)×Int×Int×Unit
abbrev Q96:=Int×(List Q2)×(List (List Int))×List Int×List ByteArray×Int×Int×Int×Int×Int×(List (List Int))×(List Q2)×(List (List Int))×(List Q2)×Int×Int×Unit
abbrev Q97:=Int×(List Q2)×(List (List Int))×List Int×List ByteArray×Int×Int×Int×Int×Int×(List (List Int))×Int×Int×List Int×Q16×(List Q2)×(List (List Int))×Int×(List Q2)×Int×Int×Unit
abbrev Q98:=Int×(List Q2)×(List (List Int))×List Int×List ByteArray×Int×Int×Int×Int×Int×(List (List Int))×(List Q2)×(List (List Int))×List Int×(List (List Int))×(List (List Int))×Int×Int×Unit
abbrev Q99:=Int×(List Q2)×(List (List Int))×List Int×List ByteArray×Int×Int×Int×Int×Int×(List (List Int))×List Int×(List Q2)×(List (List Int))×List Int×(List (List Int))×(List (List Int))×Int×Int×List Int×Int×Int×Unit
noncomputable section
def tab:Tab:=[(2,I),(3,I),(4,.bool),(5,(.int .u8)),(6,(.int .u8)),(7,(.prod I (.prod I (.prod .bool (.prod (.int .u8) .unit))))),(8,(.prod I (.prod I (.prod .bool (.prod (.int .u8) .unit))))),(9,.str),(10,.str),(11,.str),(12,(.int .u64)),(13,(.prod .str (.prod (.int .u64) .unit))),(14,(.prod .str (.prod (.int .u64) .unit))),(21,(.int .i32)),(22,(.slice yQ2)),(23,gL),(24,gL),(25,(.slice yQ2)),(26,fi),(31,I),(35,yQ2),(36,yQ2),(40,yQ2),(41,yQ2),(44,(.slice yQ9)),(46,yQ6),(47,yQ6),(48,yQ9),(49,yQ9),(57,aN),(58,cT),(59,cT),(60,(.prod cT (.prod I HR))),(61,(.prod cT (.prod I HR))),(64,(.slice I)),(65,(.slice .str)),(66,bg),(67,bg),(87,yQ6),(88,yQ6),(140,(.slice yQ4)),(141,pi),(142,pi),(152,(.slice .bool)),(159,(.arr 2 I)),(160,(.arr 2 (.arr 2 I))),(176,(.slice (.slice .bool))),(177,NO),(178,NO),(189,yQ4),(190,yQ4),(192,(.slice gM)),(193,(.clo 196 .unit)),(194,CV),(195,CV),(198,gM),(199,gM),(200,(.int .u64)),(205,(.slice (.int .u8))),(222,Km),(223,Km),(230,(.slice Gb)),(232,Gb),(233,Gb),(240,(.int .u32)),(243,(.int .u64)),(250,I),(269,(.int .u64)),(291,(.int .u8)),(292,(.int .u8)),(294,(.int .i32)),(295,(.int .i32))]
def eqs:List Nat:=[36,41,159]
def glob:List (Nat×(Σ t:Ty,t.den)):=[(0,⟨(.arr 2 I),[16384,32768]⟩)]
theorem seat_ok:SeatOK Tryz.prog tab eqs:=⟨by kernel_rfl,by kernel_rfl,by kernel_rfl⟩
abbrev Fn:=FnC Tryz.prog glob
def cx(l:List Fn):Ctx:={ tab:=tab,con:=so l,glob:=glob,eqs:=eqs }
def QK(l:List Fn)(r:List (Nat×Fn)):Ctx:={ cx l with con:=AD l r }
set_option maxRecDepth 100000
def Zbx(x:(Q8×Int×Int×Unit)):Option (Bool×Unit):=
 cond (leI x.1.1 x.2.1) (some ((leI (x.1.2.1.length:Nat) x.2.2.1),())) (some (false,()))
def Qb:Fn:=mkF (cx []) [] 4 Tryz.f4 [(.rd,gL),(.rd,I),(.rd,I)] [(.tmp 6,true,.bool)] Zbx [] seat_ok ab rfl
def zM(x:((List Q2)×(List (List Q2))×Int×Unit)):Option (((List Q2)×(List (List Q2))×Int×Unit)⊕((Bool×Unit)⊕(((List Q2)×(List (List Q2))×Unit)⊕Empty))):=
 let(a,b,c,_):=x;cond (ltI c (b.length:Nat)) (cond (ltI c 13) ((ao b c).bind λy1=>cond (gtI (y1.length:Nat) 20) (some (.inr (.inl (false,())))) (some (.inl (a,b,(ae .i64 c 1),())))) (some (.inr (.inr (.inl (a,b,())))))) (some (.inr (.inr (.inl (a,b,())))))
def Il:=ac zM
def LS:Ann:=⟨sh [(0,.av (.val (.slice yQ2))),(1,.av (.val fi)),(5,.av (.val I))] [],[(.ret,sh [(4,.av (.val .bool))] []),(.exit 0,sh [(0,.av (.val (.slice yQ2))),(1,.av (.val fi))] [])],Il⟩
def Zu(x:((List Q2)×(List (List Q2))×Unit)):Option (Bool×Unit):=
 (Il (x.1,x.2.1,0,())).bind (sw (λz2=>some (z2.1,())) (sw (λz3=>cond (leI (z3.2.1.length:Nat) 12) (some ((leI (z3.1.length:Nat) 12),())) (some (false,()))) (λ_=>none)))
def Qt:Fn:=mkF (cx []) [(2,LS)] 5 Tryz.f5 [(.rd,(.slice yQ2)),(.rd,fi)] [(.tmp 4,true,.bool)] Zu [lp 2 LS zM] seat_ok ab rfl
def rv(x:Q29):Option (Q29⊕((Bool×Unit)⊕(Unit⊕Empty))):=
 let(a,b,c,d,e,_):=x;cond (ltI e d) ((ao c e).bind λy1=>cond (ltI (bU y1.1 y1.2.1) 0) (some (.inr (.inl (false,())))) (cond (geI (cE y1.1 y1.2.1) a) (some (.inr (.inl (false,())))) (some (.inl (a,b,c,d,(ae .i64 e 1),()))))) (some (.inr (.inr (.inl ()))))
def xK:=ac rv
def G7:Ann:=⟨sh [(1,.av (.ptr 1 0)),(20,.av (.val (.slice yQ2))),(21,.av (.val I)),(22,.av (.val I))] [(1,.box [.val I,.val (.slice yQ2)])],[(.ret,sh [(2,.av (.val .bool))] []),(.exit 0,sh [] [])],xK⟩
def Zdc(x:(Q8×Unit)):Option (Bool×Unit):=
 let((a,b,_),_):=x;cond (ltI a 0) (some (false,())) (cond (gtI a 64) (some (false,())) (cond (gtI (b.length:Nat) 256) (some (false,())) ((xK (a,b,b,(b.length:Nat),0,())).bind (sw (λz2=>some (z2.1,())) (sw (λz3=>some (true,())) (λ_=>none))))))
def ur:Fn:=mkF (cx []) [(4,G7)] 11 Tryz.f11 [(.rd,gL)] [(.tmp 2,true,.bool)] Zdc [lp 4 G7 rv] seat_ok ab rfl
def Rf:Con:={ ins:=[(.rd,gL)],outs:=[(true,.bool)],fn:=Zdc }
def Zen(x:(Q2×Unit)):Option (Bool×Unit):=
 some ((eqI x.1.1 x.1.2.1),())
def K3:Fn:=mkF (cx []) [] 13 Tryz.f13 [(.rd,yQ2)] [(.tmp 2,true,.bool)] Zen [] seat_ok ab rfl
def Rk:Con:={ ins:=[(.rd,yQ2)],outs:=[(true,.bool)],fn:=Zen }
def AS(x:Q20):Option (Q20⊕((Int×Unit)⊕(Unit⊕Empty))):=
 let(a,b,c,d,_):=x;cond (ltI d c) ((ao a d).bind λy1=>(Zen (y1,())).bind λr2=>cond r2.1 (some (.inr (.inl (d,())))) (some (.inl (a,b,c,(ae .i64 d 1),())))) (some (.inr (.inr (.inl ()))))
def F3:=ac AS
def KX:Ann:=⟨sh [(0,.av (.val (.slice yQ2))),(1,.av (.val (.clo 13 .unit))),(7,.av (.val I)),(8,.av (.val I))] [],[(.ret,sh [(4,.av (.val I))] []),(.exit 0,sh [] [])],F3⟩
def Zi(x:((List Q2)×Unit×Unit)):Option (Int×Unit):=
 (F3 (x.1,x.2.1,(x.1.length:Nat),0,())).bind (sw (λz2=>some (z2.1,())) (sw (λz3=>some ((-1),())) (λ_=>none)))
def OM:Fn:=mkF (cx [K3]) [(2,KX)] 36 Tryz.f36 [(.rd,(.slice yQ2)),(.rd,(.clo 13 .unit))] [(.tmp 4,true,I)] Zi [lp 2 KX AS] seat_ok ab rfl
def Zf(x:((List Q2)×Unit×Unit)):Option (Bool×Unit):=
 (Zi (x.1,x.2.1,())).bind λr1=>some ((geI r1.1 0),())
def OB:Fn:=mkF (cx [OM]) [] 12 Tryz.f12 [(.rd,(.slice yQ2)),(.rd,(.clo 13 .unit))] [(.tmp 4,true,.bool)] Zf [] seat_ok ab rfl
def Zeh(x:(Q2×Unit)):Option (Bool×Unit):=
 let((a,b,_),_):=x;cond (geI a (-268435456)) (cond (leI a 268435456) (cond (geI b (-268435456)) (some ((leI b 268435456),())) (some (false,()))) (some (false,()))) (some (false,()))
def sk:Fn:=mkF (cx []) [] 14 Tryz.f14 [(.rd,yQ2)] [(.tmp 2,true,.bool)] Zeh [] seat_ok ab rfl
def QR:Con:={ ins:=[(.rd,yQ2)],outs:=[(true,.bool)],fn:=Zeh }
def tK(x:Q21):Option (Q21⊕((Int×Unit)⊕(Unit⊕Empty))):=
 let(a,b,c,d,e,_):=x;cond (ltI e d) ((ao c e).bind λy1=>cond ((eqI a y1.1)&&((eqI b y1.2.1)&&true)) (some (.inr (.inl (e,())))) (some (.inl (a,b,c,d,(ae .i64 e 1),())))) (some (.inr (.inr (.inl ()))))
def xx:=ac tK
def HJ:Ann:=⟨sh [(0,.av (.val (.slice yQ2))),(3,.av (.ptr 3 0)),(7,.av (.val I)),(8,.av (.val I))] [(3,.box [.val I,.val I])],[(.ret,sh [(4,.av (.val I))] []),(.exit 0,sh [] [])],xx⟩
def Zai(x:((List Q2)×Q2×Unit)):Option (Int×Unit):=
 (xx (x.2.1.1,x.2.1.2.1,x.1,(x.1.length:Nat),0,())).bind (sw (λz2=>some (z2.1,())) (sw (λz3=>some ((-1),())) (λ_=>none)))
def OD:Fn:=mkF (cx []) [(2,HJ)] 37 Tryz.f37 [(.rd,(.slice yQ2)),(.rd,yQ2)] [(.tmp 4,true,I)] Zai [lp 2 HJ tK] seat_ok ab rfl
def Zp(x:((List Q2)×Q2×Unit)):Option (Bool×Unit):=
 (Zai (x.1,(x.2.1.1,x.2.1.2.1,()),())).bind λr1=>some ((geI r1.1 0),())
def PU:Fn:=mkF (cx [OD]) [] 15 Tryz.f15 [(.rd,(.slice yQ2)),(.rd,yQ2)] [(.tmp 4,true,.bool)] Zp [] seat_ok ab rfl
def Rz:Con:={ ins:=[(.rd,(.slice yQ2)),(.rd,yQ2)],outs:=[(true,.bool)],fn:=Zp }
def tm(x:Q9):Option (Q9⊕((Bool×Unit)⊕(Unit⊕Empty))):=
 let(a,b,_):=x;cond (ltI b (a.length:Nat)) ((ao a (aK .i64 b 1)).bind λy1=>(ao a b).bind λy2=>cond ((eqI y1.1 y2.1)&&((eqI y1.2.1 y2.2.1)&&true)) (some (.inr (.inl (false,())))) (some (.inl (a,(ae .i64 b 1),())))) (some (.inr (.inr (.inl ()))))
def wx:=ac tm
def GY:Ann:=⟨sh [(0,.av (.val (.slice yQ2))),(3,.av (.val I))] [],[(.ret,sh [(2,.av (.val .bool))] []),(.exit 0,sh [] [])],wx⟩
def Zda(x:Q4):Option (Bool×Unit):=
 (wx (x.1,1,())).bind (sw (λz2=>some (z2.1,())) (sw (λz3=>some (true,())) (λ_=>none)))
def Pl:Fn:=mkF (cx []) [(2,GY)] 85 Tryz.f85 [(.rd,(.slice yQ2))] [(.tmp 2,true,.bool)] Zda [lp 2 GY tm] seat_ok ab rfl
def Zdb(x:(Q2×Unit)):Option (Bool×Unit):=
 (Zeh ((x.1.1,x.1.2.1,()),())).bind λr1=>some ((!r1.1),())
def OL:Fn:=mkF (cx [sk]) [] 124 Tryz.f124 [(.rd,yQ2)] [(.tmp 2,true,.bool)] Zdb [] seat_ok ab rfl
def zZ(x:Q20):Option (Q20⊕((Int×Unit)⊕(Unit⊕Empty))):=
 let(a,b,c,d,_):=x;cond (ltI d c) ((ao a d).bind λy1=>(Zdb (y1,())).bind λr2=>cond r2.1 (some (.inr (.inl (d,())))) (some (.inl (a,b,c,(ae .i64 d 1),())))) (some (.inr (.inr (.inl ()))))
def FK:=ac zZ
def Li:Ann:=⟨sh [(0,.av (.val (.slice yQ2))),(1,.av (.val (.clo 124 .unit))),(7,.av (.val I)),(8,.av (.val I))] [],[(.ret,sh [(4,.av (.val I))] []),(.exit 0,sh [] [])],FK⟩
def Ze(x:((List Q2)×Unit×Unit)):Option (Int×Unit):=
 (FK (x.1,x.2.1,(x.1.length:Nat),0,())).bind (sw (λz2=>some (z2.1,())) (sw (λz3=>some ((-1),())) (λ_=>none)))
def Qw:Fn:=mkF (cx [OL]) [(2,Li)] 177 Tryz.f177 [(.rd,(.slice yQ2)),(.rd,(.clo 124 .unit))] [(.tmp 4,true,I)] Ze [lp 2 Li zZ] seat_ok ab rfl
def Za(x:((List Q2)×Unit×Unit)):Option (Bool×Unit):=
 (Ze (x.1,x.2.1,())).bind λr1=>some ((geI r1.1 0),())
def Qs:Fn:=mkF (cx [Qw]) [] 123 Tryz.f123 [(.rd,(.slice yQ2)),(.rd,(.clo 124 .unit))] [(.tmp 4,true,.bool)] Za [] seat_ok ab rfl
def Zdr(x:Q4):Option (Bool×Unit):=
 cond (geI (x.1.length:Nat) 1) (cond (leI (x.1.length:Nat) 512) ((Za (x.1,(),())).bind λr1=>some ((!r1.1),())) (some (false,()))) (some (false,()))
def K5:Fn:=mkF (cx [Qs]) [] 81 Tryz.f81 [(.rd,(.slice yQ2))] [(.tmp 2,true,.bool)] Zdr [] seat_ok ab rfl
def Zep(x:Q4):Option (Bool×Unit):=
 (Zda (x.1,())).bind λr1=>cond r1.1 ((Zdr (x.1,())).bind λr2=>some (r2.1,())) (some (false,()))
def Zep_h:Fn:=mkF (cx [K5,Pl]) [] 38 Tryz.f38 [(.rd,(.slice yQ2))] [(.tmp 2,true,.bool)] Zep [] seat_ok ab rfl
def QZ:Con:={ ins:=[(.rd,(.slice yQ2))],outs:=[(true,.bool)],fn:=Zep }
def Zbo(x:Q4):Option (Bool×Unit):=(xN Zep).fn x
def LB:Fn:=⟨39,(xN Zep),D1 Zep_h.ok⟩
def Zah(x:Q4):Option Q4:=
 cond x.1.isEmpty (lW (some ([],())) ((app [] x.1).bind λa1=>some (a1,()))) ((app [] x.1).bind λa1=>some (a1,()))
def LJ:Fn:=mkF (cx []) [] 34 Tryz.f34 [(.rd,(.slice yQ2))] [(.tmp 2,true,(.slice yQ2))] Zah [] seat_ok ab rfl
def QX:Con:={ ins:=[(.rd,(.slice yQ2))],outs:=[(true,(.slice yQ2))],fn:=Zah }
def Ly(x:((List Q2)×Int×Int×Int×Int×Unit)):Option (((List Q2)×Int×Int×Int×Int×Unit)⊕(Q9⊕Empty)):=
 let(a,b,c,d,e,_):=x;cond (ltI e (d.toNat:Nat)) ((az d.toNat e).bind λj1=>(a[(c.toNat+j1)]?).bind λy2=>(az d.toNat (aK .i64 e 1)).bind λj3=>(a[(c.toNat+j3)]?).bind λy4=>cond (!((eqI y2.1 y4.1)&&((eqI y2.2.1 y4.2.1)&&true))) ((az d.toNat e).bind λj5=>(a[(c.toNat+j5)]?).bind λy6=>(az a.length b).bind λj7=>(a[j7]?).bind λy8=>some (.inl ((a.set j7 y6),(ae .i64 b 1),((c.toNat:Nat):Int),((d.toNat:Nat):Int),(ae .i64 e 1),()))) (some (.inl (a,b,((c.toNat:Nat):Int),((d.toNat:Nat):Int),(ae .i64 e 1),())))) (some (.inr (.inl (a,b,()))))
def LH:=ac Ly
def K2:Ann:=⟨sh [(0,.av (.own 0)),(3,.av (.val I)),(4,.view 0),(5,.av (.val I))] [(0,.arr yQ2)],[(.exit 2,sh [(0,.av (.own 0)),(3,.av (.val I))] [(0,.arr yQ2)])],LH⟩
def An(x:Q9):Option (Q9⊕(Q4⊕(Q4⊕Empty))):=
 let(a,b,_):=x;cond (ltI b (a.length:Nat)) ((az a.length b).bind λj1=>(a[j1]?).bind λy2=>(az a.length (aK .i64 b 1)).bind λj3=>(a[j3]?).bind λy4=>cond ((eqI y2.1 y4.1)&&((eqI y2.2.1 y4.2.1)&&true)) ((gE a.length b (a.length:Nat)).bind λv5=>(LH (a,b,((v5.1:Nat):Int),((v5.2:Nat):Int),1,())).bind (sw (λz7=>(gE z7.1.length z7.2.1 (z7.1.length:Nat)).bind λv8=>cond (RD (v8.1+v8.2) z7.1.length&&RD 1 v8.2) ((gE (eY yQ2 z7.1 v8.1 v8.2).length 0 z7.2.1).bind λv9=>some (.inr (.inl ((((eY yQ2 z7.1 v8.1 v8.2).drop v9.1).take v9.2),())))) none) (λ_=>none))) (some (.inl (a,(ae .i64 b 1),())))) (some (.inr (.inr (.inl (a,())))))
def Fx:=ac An
def Lb:Ann:=⟨sh [(0,.av (.own 0)),(3,.av (.val I))] [(0,.arr yQ2)],[(.ret,sh [(2,.av (.own 2))] [(2,.arr yQ2)]),(.exit 0,sh [(0,.av (.own 0))] [(0,.arr yQ2)])],Fx⟩
def Zw(x:Q4):Option Q4:=
 cond (ltI (x.1.length:Nat) 2) (some (x.1,())) ((Fx (x.1,1,())).bind (sw (λz2=>some (z2.1,())) (sw (λz3=>some (z3.1,())) (λ_=>none))))
def Qy:Fn:=mkF (cx []) [(4,Lb),(9,K2)] 82 Tryz.f82 [(.take,(.slice yQ2))] [(.tmp 2,true,(.slice yQ2))] Zw [lp 4 Lb An,lp 9 K2 Ly] seat_ok ab rfl
def Zbt(x:(Q3×Q2×Unit)):Option (Int×Unit):=
 let(((a,b,_),(c,d,_),_),(e,f,_),_):=x;cond (gtI (aK .i64 (aT .i64 (aK .i64 c a) (aK .i64 f b)) (aT .i64 (aK .i64 d b) (aK .i64 e a))) 0) (some (1,())) (cond (ltI (aK .i64 (aT .i64 (aK .i64 c a) (aK .i64 f b)) (aT .i64 (aK .i64 d b) (aK .i64 e a))) 0) (some ((-1),())) (some (0,())))
def Dn:Fn:=mkF (cx []) [] 90 Tryz.f90 [(.rd,yQ6),(.rd,yQ2)] [(.tmp 4,true,I)] Zbt [] seat_ok ab rfl
def Zdp(x:(Q2×Q2×Q2×Unit)):Option (Int×Unit):=
 let((a,b,_),(c,d,_),(e,f,_),_):=x;(Zeh ((a,b,()),())).bind λr1=>cond (!r1.1) (some (0,())) ((Zeh ((c,d,()),())).bind λr2=>cond (!r2.1) (some (0,())) ((Zeh ((e,f,()),())).bind λr3=>cond (!r3.1) (some (0,())) ((Zbt (((a,b,()),(c,d,()),()),(e,f,()),())).bind λr4=>some (r4.1,()))))
def O6:Fn:=mkF (cx [sk,Dn]) [] 125 Tryz.f125 [(.rd,yQ2),(.rd,yQ2),(.rd,yQ2)] [(.tmp 6,true,I)] Zdp [] seat_ok ab rfl
def Zex(x:(Q2×Q2×Q2×Unit)):Option (Bool×Unit):=
 let((a,b,_),(c,d,_),(e,f,_),_):=x;(Zdp ((a,b,()),(c,d,()),(e,f,()),())).bind λr1=>cond (neI r1.1 0) (some (true,())) (some ((gtI (ae .i64 (aT .i64 (aK .i64 a c) (aK .i64 e c)) (aT .i64 (aK .i64 b d) (aK .i64 f d))) 0),()))
def P9:Fn:=mkF (cx [O6]) [] 83 Tryz.f83 [(.rd,yQ2),(.rd,yQ2),(.rd,yQ2)] [(.tmp 6,true,.bool)] Zex [] seat_ok ab rfl
def tH(x:Q22):Option (Q22⊕(Q4⊕Empty)):=
 let(a,b,c,d,_):=x;cond (ltI d c) ((az a.length d).bind λj1=>(a[j1]?).bind λy2=>cond (eqI d 0) ((app b [(y2.1,y2.2.1,())]).bind λa3=>some (.inl (a,a3,c,(ae .i64 d 1),()))) (cond (eqI d (aK .i64 (a.length:Nat) 1)) ((app b [(y2.1,y2.2.1,())]).bind λa4=>some (.inl (a,a4,c,(ae .i64 d 1),()))) ((az a.length (aK .i64 d 1)).bind λj5=>(a[j5]?).bind λy6=>(az a.length (ae .i64 d 1)).bind λj7=>(a[j7]?).bind λy8=>(Zex (y6,(y2.1,y2.2.1,()),y8,())).bind λr9=>cond r9.1 ((app b [(y2.1,y2.2.1,())]).bind λa10=>some (.inl (a,a10,c,(ae .i64 d 1),()))) (some (.inl (a,b,c,(ae .i64 d 1),())))))) (some (.inr (.inl (b,()))))
def wm:=ac tH
def GR:Ann:=⟨sh [(0,.av (.own 0)),(3,.av (.own 3)),(12,.av (.own 0)),(13,.av (.val I)),(14,.av (.val I))] [(0,.arr yQ2),(3,.arr yQ2)],[(.exit 0,sh [(3,.av (.own 3))] [(3,.arr yQ2)])],wm⟩
def Zcy(x:Q4):Option Q4:=
 (Zdr (x.1,())).bind λr1=>cond (!r1.1) (some ([],())) ((Zah (x.1,())).bind λr2=>(Zw (r2.1,())).bind λr3=>(wm (r3.1,[],(r3.1.length:Nat),0,())).bind (sw (λz5=>some (z5.1,())) (λ_=>none)))
def Lp:Fn:=mkF (cx [LJ,K5,Qy,P9]) [(6,GR)] 33 Tryz.f33 [(.rd,(.slice yQ2))] [(.tmp 2,true,(.slice yQ2))] Zcy [lp 6 GR tH] seat_ok ab rfl
def QP:Con:={ ins:=[(.rd,(.slice yQ2))],outs:=[(true,(.slice yQ2))],fn:=Zcy }
def ue(x:Q22):Option (Q22⊕((Bool×Unit)⊕(Unit⊕Empty))):=
 let(a,b,c,d,_):=x;cond (ltI d c) ((ao a d).bind λy1=>(ao b d).bind λy2=>cond (!((eqI y1.1 y2.1)&&((eqI y1.2.1 y2.2.1)&&true))) (some (.inr (.inl (false,())))) (some (.inl (a,b,c,(ae .i64 d 1),())))) (some (.inr (.inr (.inl ()))))
def yb:=ac ue
def EL:Ann:=⟨sh [(0,.av (.val (.slice yQ2))),(1,.av (.val (.slice yQ2))),(12,.av (.val I)),(13,.av (.val I))] [],[(.ret,sh [(4,.av (.val .bool))] []),(.exit 0,sh [] [])],yb⟩
def Zaj(x:((List Q2)×(List Q2)×Unit)):Option (Bool×Unit):=
 cond (neI (x.1.length:Nat) (x.2.1.length:Nat)) (some (false,())) ((yb (x.1,x.2.1,(x.1.length:Nat),0,())).bind (sw (λz2=>some (z2.1,())) (sw (λz3=>some (true,())) (λ_=>none))))
def Pn:Fn:=mkF (cx []) [(4,EL)] 87 Tryz.f87 [(.rd,(.slice yQ2)),(.rd,(.slice yQ2))] [(.tmp 4,true,.bool)] Zaj [lp 4 EL ue] seat_ok ab rfl
def Zey(x:((List Q2)×(List Q2)×Unit)):Option (Bool×Unit):=
 (Zaj (x.1,x.2.1,())).bind λr1=>some (r1.1,())
def KR:Fn:=mkF (cx [Pn]) [] 40 Tryz.f40 [(.rd,(.slice yQ2)),(.rd,(.slice yQ2))] [(.tmp 4,true,.bool)] Zey [] seat_ok ab rfl
def Rm:Con:={ ins:=[(.rd,(.slice yQ2)),(.rd,(.slice yQ2))],outs:=[(true,.bool)],fn:=Zey }
def Zej(x:((List Q2)×Q2×Q2×Unit)):Option (Bool×Unit):=
 let(a,(b,c,_),(d,e,_),_):=x;(Zep (a,())).bind λr1=>cond r1.1 ((Zbo (a,())).bind λr2=>cond r2.1 ((Zcy (a,())).bind λr3=>(Zey (r3.1,a,())).bind λr4=>cond r4.1 ((ao a 0).bind λy5=>cond ((eqI y5.1 b)&&((eqI y5.2.1 c)&&true)) ((ao a (aK .i64 (a.length:Nat) 1)).bind λy6=>some (((eqI y6.1 d)&&((eqI y6.2.1 e)&&true)),())) (some (false,()))) (some (false,()))) (some (false,()))) (some (false,()))
def Lc:Fn:=mkF (cx [Lp,Zep_h,LB,KR]) [] 16 Tryz.f16 [(.rd,(.slice yQ2)),(.rd,yQ2),(.rd,yQ2)] [(.tmp 6,true,.bool)] Zej [] seat_ok ab rfl
def Zdf(x:(Q3×Q3×Unit)):Option (Int×Q2×Unit):=
 let(((a,b,_),(c,d,_),_),((e,f,_),(g,h,_),_),_):=x;cond (gtI (cE (bU a c) (bU e g)) (bU (cE a c) (cE e g))) (some (0,(0,0,()),())) (cond (gtI (cE (bU b d) (bU f h)) (bU (cE b d) (cE f h))) (some (0,(0,0,()),())) (cond (eqI (cE (bU a c) (bU e g)) (bU (cE a c) (cE e g))) (cond (eqI (cE (bU b d) (bU f h)) (bU (cE b d) (cE f h))) (some (1,((cE (bU a c) (bU e g)),(cE (bU b d) (bU f h)),()),())) (some (2,((cE (bU a c) (bU e g)),(cE (bU b d) (bU f h)),()),()))) (some (2,((cE (bU a c) (bU e g)),(cE (bU b d) (bU f h)),()),()))))
def Pj:Fn:=mkF (cx []) [] 41 Tryz.f41 [(.rd,yQ6),(.rd,yQ6)] [(.tmp 4,true,I),(.cell 5 41,true,yQ2)] Zdf [] seat_ok ab rfl
def Zfc(x:(Q3×Unit)):Option (Q3×Bool×Unit):=
 let(((a,b,_),(c,d,_),_),_):=x;(Zeh ((a,b,()),())).bind λr1=>cond r1.1 ((Zeh ((c,d,()),())).bind λr2=>some (((a,b,()),(c,d,()),()),r2.1,())) (some (((a,b,()),(c,d,()),()),false,()))
def Lw:Fn:=mkF (cx [sk]) [] 45 Tryz.f45 [(.rd,yQ6)] [(.cell 2 88,true,yQ6),(.tmp 3,true,.bool)] Zfc [] seat_ok ab rfl
def Zaz(x:(Q3×Q3×Unit)):Option (Bool×Unit):=
 let(((a,b,_),(c,d,_),_),((e,f,_),(g,h,_),_),_):=x;(Zbt (((a,b,()),(c,d,()),()),(e,f,()),())).bind λr1=>(Zbt (((a,b,()),(c,d,()),()),(g,h,()),())).bind λr2=>some ((ltI (aT .i64 r1.1 r2.1) 0),())
def PJ:Fn:=mkF (cx [Dn]) [] 88 Tryz.f88 [(.rd,yQ6),(.rd,yQ6)] [(.tmp 4,true,.bool)] Zaz [] seat_ok ab rfl
def Zei(x:(Q3×Q3×Unit)):Option (Bool×Unit):=
 let(((a,b,_),(c,d,_),_),((e,f,_),(g,h,_),_),_):=x;(Zfc (((a,b,()),(c,d,()),()),())).bind λr1=>(Zfc (((e,f,()),(g,h,()),()),())).bind λr2=>cond r1.2.1 (cond r2.2.1 ((Zaz (((r1.1.1.1,r1.1.1.2.1,()),(r1.1.2.1.1,r1.1.2.1.2.1,()),()),((r2.1.1.1,r2.1.1.2.1,()),(r2.1.2.1.1,r2.1.2.1.2.1,()),()),())).bind λr3=>cond r3.1 ((Zaz (((r2.1.1.1,r2.1.1.2.1,()),(r2.1.2.1.1,r2.1.2.1.2.1,()),()),((r1.1.1.1,r1.1.1.2.1,()),(r1.1.2.1.1,r1.1.2.1.2.1,()),()),())).bind λr4=>some (r4.1,())) (some (false,()))) (some (false,()))) (some (false,()))
def O1:Fn:=mkF (cx [Lw,PJ]) [] 42 Tryz.f42 [(.rd,yQ6),(.rd,yQ6)] [(.tmp 4,true,.bool)] Zei [] seat_ok ab rfl
def Zer(x:(Q2×Q3×Unit)):Option (Bool×Unit):=
 let((a,b,_),((c,d,_),(e,f,_),_),_):=x;cond ((eqI a c)&&((eqI b d)&&true)) (some (true,())) (some (((eqI a e)&&((eqI b f)&&true)),()))
def OV:Fn:=mkF (cx []) [] 43 Tryz.f43 [(.rd,yQ2),(.rd,yQ6)] [(.tmp 4,true,.bool)] Zer [] seat_ok ab rfl
def sY(x:(Int×Int×Int×Int×List Int×(List Q2)×Int×Int×Unit)):Option ((Int×Int×Int×Int×List Int×(List Q2)×Int×Int×Unit)⊕((Bool×Unit)⊕(Unit⊕Empty))):=
 let(a,b,c,d,e,f,g,h,_):=x;cond (ltI h g) ((az e.length h).bind λj1=>(e[j1]?).bind λy2=>let t_0:=(ao f y2).bind λy3=>cond ((eqI y3.1 c)&&((eqI y3.2.1 d)&&true)) (some (.inr (.inl (true,())))) (some (.inl (a,b,c,d,e,f,g,(ae .i64 h 1),())));cond (eqI y2 a) t_0 (cond (eqI y2 b) t_0 (some (.inl (a,b,c,d,e,f,g,(ae .i64 h 1),()))))) (some (.inr (.inr (.inl ()))))
def xz:=ac sY
def IK:Ann:=⟨sh [(2,.av (.val (.slice yQ2))),(5,.av (.ptr 5 0)),(7,.av (.ptr 7 0)),(15,.av (.own 15)),(16,.av (.val I)),(17,.av (.val I))] [(5,.box [.val I,.val I]),(7,.box [.val I,.val I]),(15,.arr I)],[(.ret,sh [(8,.av (.val .bool))] []),(.exit 0,sh [] [])],xz⟩
def Zdj(x:(Q2×Q2×(List Q2)×Q2×Unit)):Option (Bool×Unit):=
 let((a,b,_),(c,d,_),e,(f,g,_),_):=x;(xz (c,d,f,g,[a,b],e,([a,b].length:Nat),0,())).bind (sw (λz2=>some (z2.1,())) (sw (λz3=>some (false,())) (λ_=>none)))
def OH:Fn:=mkF (cx []) [(2,IK)] 44 Tryz.f44 [(.rd,yQ2),(.rd,yQ2),(.rd,(.slice yQ2)),(.rd,yQ2)] [(.tmp 8,true,.bool)] Zdj [lp 2 IK sY] seat_ok ab rfl
def Zds(x:(Q8×(List Q2)×Q5×Q5×Unit)):Option (Bool×Unit):=
 let((_,a,_),b,(c,d,((e,f,_),(g,h,_),_),_),(i,k,((l,m,_),(n,o,_),_),_),_):=x;(Zdf (((e,f,()),(g,h,()),()),((l,m,()),(n,o,()),()),())).bind λr1=>cond (eqI c i) (cond (eqI (aK .i64 d k) 1) (some ((eqI r1.1 1),())) (cond (eqI (aK .i64 k d) 1) (some ((eqI r1.1 1),())) (some ((eqI r1.1 0),())))) (cond (eqI r1.1 0) (some (true,())) ((Zei (((e,f,()),(g,h,()),()),((l,m,()),(n,o,()),()),())).bind λr2=>cond r2.1 (some (true,())) (cond (eqI r1.1 1) ((Zer ((r1.2.1.1,r1.2.1.2.1,()),((e,f,()),(g,h,()),()),())).bind λr3=>cond r3.1 ((Zer ((r1.2.1.1,r1.2.1.2.1,()),((l,m,()),(n,o,()),()),())).bind λr4=>cond r4.1 ((ao a c).bind λy5=>(ao a i).bind λy6=>(Zdj (y5,y6,b,(r1.2.1.1,r1.2.1.2.1,()),())).bind λr7=>some (r7.1,())) (some (false,()))) (some (false,()))) (some (false,())))))
def La:Fn:=mkF (cx [Pj,O1,OV,OH]) [] 17 Tryz.f17 [(.rd,gL),(.rd,(.slice yQ2)),(.rd,yQ9),(.rd,yQ9)] [(.tmp 8,true,.bool)] Zds [] seat_ok ab rfl
def Rs:Con:={ ins:=[(.rd,gL),(.rd,(.slice yQ2)),(.rd,yQ9),(.rd,yQ9)],outs:=[(true,.bool)],fn:=Zds }
def Zay(x:(Q3×Q2×Unit)):Option (Bool×Unit):=
 let(((a,b,_),(c,d,_),_),(e,f,_),_):=x;cond (geI e (bU a c)) (cond (leI e (cE a c)) (cond (geI f (bU b d)) (some ((leI f (cE b d)),())) (some (false,()))) (some (false,()))) (some (false,()))
def P2:Fn:=mkF (cx []) [] 89 Tryz.f89 [(.rd,yQ6),(.rd,yQ2)] [(.tmp 4,true,.bool)] Zay [] seat_ok ab rfl
def Zcz(x:(Q3×Q2×Unit)):Option (Bool×Unit):=
 let(((a,b,_),(c,d,_),_),(e,f,_),_):=x;(Zay (((a,b,()),(c,d,()),()),(e,f,()),())).bind λr1=>cond r1.1 ((Zbt (((a,b,()),(c,d,()),()),(e,f,()),())).bind λr2=>some ((eqI r2.1 0),())) (some (false,()))
def Pi:Fn:=mkF (cx [P2,Dn]) [] 46 Tryz.f46 [(.rd,yQ6),(.rd,yQ2)] [(.tmp 4,true,.bool)] Zcz [] seat_ok ab rfl
def Zfb(x:(Q2×Q3×Unit)):Option (Bool×Unit):=
 let((a,b,_),((c,d,_),(e,f,_),_),_):=x;(Zfc (((c,d,()),(e,f,()),()),())).bind λr1=>cond r1.2.1 ((Zeh ((a,b,()),())).bind λr2=>cond r2.1 ((Zcz (((r1.1.1.1,r1.1.1.2.1,()),(r1.1.2.1.1,r1.1.2.1.2.1,()),()),(a,b,()),())).bind λr3=>some (r3.1,())) (some (false,()))) (some (false,()))
def K1:Fn:=mkF (cx [sk,Lw,Pi]) [] 18 Tryz.f18 [(.rd,yQ2),(.rd,yQ6)] [(.tmp 4,true,.bool)] Zfb [] seat_ok ab rfl
def Ri:Con:={ ins:=[(.rd,yQ2),(.rd,yQ6)],outs:=[(true,.bool)],fn:=Zfb }
def mR(x:Q95):Option (Q95⊕((Bool×Unit)⊕(Q46⊕Empty))):=
 let(a,b,c,d,e,f,g,h,i,k,l,m,n,o,p,q,s,t,u,_):=x;cond (ltI u t) ((ao s u).bind λy1=>let t_3:=cond (!((eqI y1.1 h)&&((eqI y1.2.1 i)&&true))) (some (.inr (.inl (false,())))) (some (.inl (a,b,c,d,e,f,g,h,i,k,l,m,n,o,p,q,s,t,(ae .i64 u 1),())));let t_2:=(Zfb ((y1.1,y1.2.1,()),((f,g,()),(h,i,()),()),())).bind λr6=>cond r6.1 (some (.inr (.inl (false,())))) (some (.inl (a,b,c,d,e,f,g,h,i,k,l,m,n,o,p,q,s,t,(ae .i64 u 1),())));let t_1:=(Zfb ((y1.1,y1.2.1,()),((f,g,()),(h,i,()),()),())).bind λr3=>cond r3.1 (cond (!((eqI y1.1 f)&&((eqI y1.2.1 g)&&true))) (some (.inr (.inl (false,())))) (some (.inl (a,b,c,d,e,f,g,h,i,k,l,m,n,o,p,q,s,t,(ae .i64 u 1),())))) (some (.inl (a,b,c,d,e,f,g,h,i,k,l,m,n,o,p,q,s,t,(ae .i64 u 1),())));let t_0:=cond (eqI u l) (cond (eqI e o) ((Zfb ((y1.1,y1.2.1,()),((f,g,()),(h,i,()),()),())).bind λr5=>cond r5.1 t_3 (some (.inl (a,b,c,d,e,f,g,h,i,k,l,m,n,o,p,q,s,t,(ae .i64 u 1),())))) t_2) t_2;cond (eqI u k) (cond (eqI e 1) (cond (eqI u l) (cond (eqI e o) ((Zfb ((y1.1,y1.2.1,()),((f,g,()),(h,i,()),()),())).bind λr2=>cond r2.1 (cond (!((eqI y1.1 f)&&((eqI y1.2.1 g)&&true))) t_3 (some (.inl (a,b,c,d,e,f,g,h,i,k,l,m,n,o,p,q,s,t,(ae .i64 u 1),())))) (some (.inl (a,b,c,d,e,f,g,h,i,k,l,m,n,o,p,q,s,t,(ae .i64 u 1),())))) t_1) t_1) t_0) t_0) (some (.inr (.inr (.inl (a,b,c,m,n,p,q,())))))
def tc:=ac mR
def yI:Ann:=⟨sh [(1,.av (.val (.slice yQ2))),(2,.av (.val fi)),(3,.av (.ptr 3 0)),(9,.av (.own 9)),(14,.av (.ptr 14 0)),(17,.av (.ptr 17 0)),(18,.av (.val I)),(120,.av (.own 9)),(121,.av (.val I)),(122,.av (.val I)),(155,.av (.val (.slice yQ2))),(156,.av (.val I)),(157,.av (.val I))] [(3,.box [.val I,.val (.slice yQ2)]),(9,.arr yQ9),(14,.box [.val I,.val I,.val I,.val I,.val I,.val I]),(17,.box [.val I,.val I])],[(.ret,sh [(6,.av (.val .bool))] []),(.exit 10,sh [(1,.av (.val (.slice yQ2))),(2,.av (.val fi)),(3,.av (.ptr 3 0)),(9,.av (.own 9)),(120,.av (.own 9)),(121,.av (.val I)),(122,.av (.val I))] [(3,.box [.val I,.val (.slice yQ2)]),(9,.arr yQ9)])],tc⟩
def m7(x:Q89):Option (Q89⊕((Bool×Unit)⊕((Int×(List Q2)×(List Q5)×Int×Int×Int×Int×Int×Int×(List Q2)×(List (List Q2))×Int×Int×Unit)⊕Empty))):=
 let(a,b,c,d,e,f,g,h,i,k,l,m,n,o,p,q,s,_):=x;cond (ltI s q) ((az p.toNat s).bind λj1=>(c[(o.toNat+j1)]?).bind λy2=>(Zds ((a,b,()),k,(d,e,((f,g,()),(h,i,()),()),()),(y2.1,y2.2.1,((y2.2.2.1.1.1,y2.2.2.1.1.2.1,()),(y2.2.2.1.2.1.1,y2.2.2.1.2.1.2.1,()),()),()),())).bind λr3=>cond (!r3.1) (some (.inr (.inl (false,())))) (some (.inl (a,b,c,d,e,f,g,h,i,k,l,m,n,((o.toNat:Nat):Int),((p.toNat:Nat):Int),q,(ae .i64 s 1),())))) (some (.inr (.inr (.inl (a,b,c,d,e,f,g,h,i,k,l,m,n,())))))
def tP:=ac m7
def B0:Ann:=⟨sh [(1,.av (.val (.slice yQ2))),(2,.av (.val fi)),(3,.av (.ptr 3 0)),(9,.av (.own 9)),(14,.av (.ptr 14 0)),(120,.av (.own 9)),(121,.av (.val I)),(122,.av (.val I)),(129,.view 9),(130,.av (.val I)),(131,.av (.val I))] [(3,.box [.val I,.val (.slice yQ2)]),(9,.arr yQ9),(14,.box [.val I,.val I,.val I,.val I,.val I,.val I])],[(.ret,sh [(6,.av (.val .bool))] []),(.exit 8,sh [(1,.av (.val (.slice yQ2))),(2,.av (.val fi)),(3,.av (.ptr 3 0)),(9,.av (.own 9)),(14,.av (.ptr 14 0)),(120,.av (.own 9)),(121,.av (.val I)),(122,.av (.val I))] [(3,.box [.val I,.val (.slice yQ2)]),(9,.arr yQ9),(14,.box [.val I,.val I,.val I,.val I,.val I,.val I])])],tP⟩
def nG(x:Q46):Option (Q46⊕((Bool×Unit)⊕(Unit⊕Empty))):=
 let(a,b,c,d,e,f,g,_):=x;cond (ltI g f) ((az c.length g).bind λj1=>(c[j1]?).bind λy2=>(gE c.length 0 g).bind λv3=>(tP (a,b,c,y2.1,y2.2.1,y2.2.2.1.1.1,y2.2.2.1.1.2.1,y2.2.2.1.2.1.1,y2.2.2.1.2.1.2.1,d,e,f,g,((v3.1:Nat):Int),((v3.2:Nat):Int),(v3.2:Nat),0,())).bind (sw (λz5=>some (.inr (.inl (z5.1,())))) (sw (λ(a_6,b_6,c_6,d_6,e_6,f_6,g_6,h_6,i_6,k_6,l_6,m_6,n_6,_)=>(ao b_6 d_6).bind λy7=>(ao l_6 d_6).bind λy8=>(tc (a_6,b_6,c_6,d_6,e_6,f_6,g_6,h_6,i_6,y7.1,y7.2.1,k_6,l_6,(aK .i64 (y8.length:Nat) 1),m_6,n_6,k_6,(k_6.length:Nat),0,())).bind (sw (λz10=>some (.inr (.inl (z10.1,())))) (sw (λ(a_11,b_11,c_11,d_11,e_11,f_11,g_11,_)=>some (.inl (a_11,b_11,c_11,d_11,e_11,f_11,(ae .i64 g_11 1),()))) (λ_=>none)))) (λ_=>none)))) (some (.inr (.inr (.inl ()))))
def s8:=ac nG
def AI:Ann:=⟨sh [(1,.av (.val (.slice yQ2))),(2,.av (.val fi)),(3,.av (.ptr 3 0)),(9,.av (.own 9)),(120,.av (.own 9)),(121,.av (.val I)),(122,.av (.val I))] [(3,.box [.val I,.val (.slice yQ2)]),(9,.arr yQ9)],[(.ret,sh [(6,.av (.val .bool))] []),(.exit 6,sh [] [])],s8⟩
def pq(x:Q70):Option (Q70⊕(Q59⊕Empty)):=
 let(a,b,c,d,e,f,g,h,i,k,_):=x;(ao e f).bind λy1=>cond (ltI g (y1.length:Nat)) ((ao e f).bind λy2=>(ao y2 (aK .i64 g 1)).bind λy3=>(ao e f).bind λy4=>(ao y4 g).bind λy5=>(app c [(f,g,((y3.1,y3.2.1,()),(y5.1,y5.2.1,()),()),())]).bind λa6=>some (.inl (a,b,a6,d,e,f,(ae .i64 g 1),h,i,k,()))) (some (.inr (.inl (a,b,c,d,e,h,i,k,()))))
def tj:=ac pq
def Ar:Ann:=⟨sh [(1,.av (.val (.slice yQ2))),(2,.av (.val fi)),(3,.av (.ptr 3 0)),(9,.av (.own 9)),(10,.av (.val I)),(12,.av (.val I)),(65,.av (.val (.slice yQ2))),(66,.av (.val I)),(67,.av (.val I))] [(3,.box [.val I,.val (.slice yQ2)]),(9,.arr yQ9)],[(.exit 4,sh [(1,.av (.val (.slice yQ2))),(2,.av (.val fi)),(3,.av (.ptr 3 0)),(9,.av (.own 9)),(65,.av (.val (.slice yQ2))),(66,.av (.val I)),(67,.av (.val I))] [(3,.box [.val I,.val (.slice yQ2)]),(9,.arr yQ9)])],tj⟩
def pH(x:Q59):Option (Q59⊕((Bool×Unit)⊕((Int×(List Q2)×(List Q5)×(List Q2)×(List (List Q2))×Unit)⊕Empty))):=
 let(a,b,c,d,e,f,g,h,_):=x;cond (ltI h g) ((ao f h).bind λy1=>(ao e h).bind λy2=>(ao d y1.1).bind λy3=>(ao d y1.2.1).bind λy4=>(Zej (y2,y3,y4,())).bind λr5=>cond (!r5.1) (some (.inr (.inl (false,())))) ((tj (a,b,c,d,e,h,1,f,g,h,())).bind (sw (λ(a_7,b_7,c_7,d_7,e_7,f_7,g_7,h_7,_)=>some (.inl (a_7,b_7,c_7,d_7,e_7,f_7,g_7,(ae .i64 h_7 1),()))) (λ_=>none)))) (some (.inr (.inr (.inl (a,b,c,d,e,())))))
def pD:=ac pH
def zo:Ann:=⟨sh [(1,.av (.val (.slice yQ2))),(2,.av (.val fi)),(3,.av (.ptr 3 0)),(9,.av (.own 9)),(65,.av (.val (.slice yQ2))),(66,.av (.val I)),(67,.av (.val I))] [(3,.box [.val I,.val (.slice yQ2)]),(9,.arr yQ9)],[(.ret,sh [(6,.av (.val .bool))] []),(.exit 2,sh [(1,.av (.val (.slice yQ2))),(2,.av (.val fi)),(3,.av (.ptr 3 0)),(9,.av (.own 9))] [(3,.box [.val I,.val (.slice yQ2)]),(9,.arr yQ9)])],pD⟩
def rm(x:Q47):Option (Q47⊕((Bool×Unit)⊕((Int×(List Q2)×(List Q2)×(List (List Q2))×Unit)⊕Empty))):=
 let(a,b,c,d,e,f,g,_):=x;cond (ltI g f) ((ao e g).bind λy1=>(Zeh ((y1.1,y1.2.1,()),())).bind λr2=>cond (!r2.1) (some (.inr (.inl (false,())))) ((pS c 0 g).bind λy3=>(Zp (y3,(y1.1,y1.2.1,()),())).bind λr4=>cond r4.1 (some (.inr (.inl (false,())))) (some (.inl (a,b,c,d,e,f,(ae .i64 g 1),()))))) (some (.inr (.inr (.inl (a,b,c,d,())))))
def ws:=ac rm
def IH:Ann:=⟨sh [(1,.av (.val (.slice yQ2))),(2,.av (.val fi)),(3,.av (.ptr 3 0)),(46,.av (.val (.slice yQ2))),(47,.av (.val I)),(48,.av (.val I))] [(3,.box [.val I,.val (.slice yQ2)])],[(.ret,sh [(6,.av (.val .bool))] []),(.exit 0,sh [(1,.av (.val (.slice yQ2))),(2,.av (.val fi)),(3,.av (.ptr 3 0))] [(3,.box [.val I,.val (.slice yQ2)])])],ws⟩
def Zeg(x:Q23):Option (Bool×Unit):=
 let((a,b,_),c,d,_):=x;(Zdc ((a,b,()),())).bind λr1=>cond (!r1.1) (some (false,())) ((Zf (b,(),())).bind λr2=>cond r2.1 (some (false,())) (cond (neI (c.length:Nat) a) (some (false,())) (cond (neI (d.length:Nat) (b.length:Nat)) (some (false,())) ((ws (a,b,c,d,c,(c.length:Nat),0,())).bind (sw (λz4=>some (z4.1,())) (sw (λ(a_5,b_5,c_5,d_5,_)=>(pD (a_5,b_5,[],c_5,d_5,b_5,(b_5.length:Nat),0,())).bind (sw (λz7=>some (z7.1,())) (sw (λ(a_8,b_8,c_8,d_8,e_8,_)=>(s8 (a_8,b_8,c_8,d_8,e_8,(c_8.length:Nat),0,())).bind (sw (λz10=>some (z10.1,())) (sw (λz11=>some (true,())) (λ_=>none)))) (λ_=>none)))) (λ_=>none)))))))
def LT:Fn:=mkF (cx [ur,OB,sk,PU,Lc,La,K1]) [(4,IH),(11,zo),(16,Ar),(21,AI),(24,B0),(31,yI)] 7 Tryz.f7 [(.rd,gL),(.rd,(.slice yQ2)),(.rd,fi)] [(.tmp 6,true,.bool)] Zeg [lp 4 IH rm,lp 11 zo pH,lp 16 Ar pq,lp 21 AI nG,lp 24 B0 m7,lp 31 yI mR] seat_ok ab rfl
def qY(x:Q13):Option (Q13⊕((Bool×Unit)⊕(Unit⊕Empty))):=
 let(a,b,c,_):=x;cond (ltI c (b.length:Nat)) ((ao b c).bind λy1=>cond (ltI y1.1 0) (some (.inr (.inl (false,())))) (cond (geI y1.1 a) (some (.inr (.inl (false,())))) (cond (ltI y1.2.1 0) (some (.inr (.inl (false,())))) (cond (geI y1.2.1 a) (some (.inr (.inl (false,())))) (some (.inl (a,b,(ae .i64 c 1),()))))))) (some (.inr (.inr (.inl ()))))
def wI:=ac qY
def Et:Ann:=⟨sh [(1,.av (.ptr 1 0)),(3,.av (.val I))] [(1,.box [.val I,.val (.slice yQ2)])],[(.ret,sh [(2,.av (.val .bool))] []),(.exit 0,sh [] [])],wI⟩
def Zap(x:(Q8×Unit)):Option (Bool×Unit):=
 let((a,b,_),_):=x;cond (ltI a 0) (some (false,())) (cond (gtI a 64) (some (false,())) (cond (gtI (b.length:Nat) 256) (some (false,())) ((wI (a,b,0,())).bind (sw (λz2=>some (z2.1,())) (sw (λz3=>some (true,())) (λ_=>none))))))
def Pb:Fn:=mkF (cx []) [(4,Et)] 19 Tryz.f19 [(.rd,gL)] [(.tmp 2,true,.bool)] Zap [lp 4 Et qY] seat_ok ab rfl
def Zaq(x:(Q2×Unit)):Option (Bool×Unit):=
 let((a,b,_),_):=x;cond (geI a (-268435456)) (cond (leI a 268435456) (cond (geI b (-268435456)) (some ((leI b 268435456),())) (some (false,()))) (some (false,()))) (some (false,()))
def Ae:Fn:=mkF (cx []) [] 47 Tryz.f47 [(.rd,yQ2)] [(.tmp 2,true,.bool)] Zaq [] seat_ok ab rfl
def pW(x:(Int×(List Q2)×Int×Int×Unit)):Option ((Int×(List Q2)×Int×Int×Unit)⊕((Bool×Unit)⊕(Q13⊕Empty))):=
 let(a,b,c,d,_):=x;cond (ltI d c) ((ao b d).bind λy1=>(ao b c).bind λy2=>cond ((eqI y1.1 y2.1)&&((eqI y1.2.1 y2.2.1)&&true)) (some (.inr (.inl (false,())))) (some (.inl (a,b,c,(ae .i64 d 1),())))) (some (.inr (.inr (.inl (a,b,c,())))))
def yh:=ac pW
def GN:Ann:=⟨sh [(0,.av (.val I)),(1,.av (.val (.slice yQ2))),(5,.av (.val I)),(6,.av (.val I))] [],[(.ret,sh [(4,.av (.val .bool))] []),(.exit 2,sh [(0,.av (.val I)),(1,.av (.val (.slice yQ2))),(5,.av (.val I))] [])],yh⟩
def qr(x:Q13):Option (Q13⊕((Bool×Unit)⊕(Q8⊕Empty))):=
 let(a,b,c,_):=x;cond (ltI c (b.length:Nat)) ((ao b c).bind λy1=>(Zaq (y1,())).bind λr2=>cond (!r2.1) (some (.inr (.inl (false,())))) ((yh (a,b,c,0,())).bind (sw (λz4=>some (.inr (.inl (z4.1,())))) (sw (λz5=>some (.inl (z5.1,z5.2.1,(ae .i64 z5.2.2.1 1),()))) (λ_=>none))))) (some (.inr (.inr (.inl (a,b,())))))
def xT:=ac qr
def Jz:Ann:=⟨sh [(0,.av (.val I)),(1,.av (.val (.slice yQ2))),(5,.av (.val I))] [],[(.ret,sh [(4,.av (.val .bool))] []),(.exit 0,sh [(0,.av (.val I)),(1,.av (.val (.slice yQ2)))] [])],xT⟩
def Zag(x:Q8):Option (Bool×Unit):=
 (xT (x.1,x.2.1,0,())).bind (sw (λz2=>some (z2.1,())) (sw (λz3=>some ((eqI (z3.2.1.length:Nat) z3.1),())) (λ_=>none)))
def Ot:Fn:=mkF (cx [Ae]) [(2,Jz),(7,GN)] 20 Tryz.f20 [(.rd,I),(.rd,(.slice yQ2))] [(.tmp 4,true,.bool)] Zag [lp 2 Jz qr,lp 7 GN pW] seat_ok ab rfl
def Zav(x:(Q2×Unit)):Option (Bool×Unit):=
 let((a,b,_),_):=x;cond (geI a (-268435456)) (cond (leI a 268435456) (cond (geI b (-268435456)) (some ((leI b 268435456),())) (some (false,()))) (some (false,()))) (some (false,()))
def LW:Fn:=mkF (cx []) [] 91 Tryz.f91 [(.rd,yQ2)] [(.tmp 2,true,.bool)] Zav [] seat_ok ab rfl
def td(x:Q9):Option (Q9⊕((Bool×Unit)⊕(Unit⊕Empty))):=
 let(a,b,_):=x;cond (ltI b (a.length:Nat)) ((ao a b).bind λy1=>(Zav (y1,())).bind λr2=>cond (!r2.1) (some (.inr (.inl (false,())))) (cond (gtI b 0) ((ao a b).bind λy3=>(ao a (aK .i64 b 1)).bind λy4=>cond ((eqI y3.1 y4.1)&&((eqI y3.2.1 y4.2.1)&&true)) (some (.inr (.inl (false,())))) (some (.inl (a,(ae .i64 b 1),())))) (some (.inl (a,(ae .i64 b 1),()))))) (some (.inr (.inr (.inl ()))))
def wy:=ac td
def G4:Ann:=⟨sh [(0,.av (.val (.slice yQ2))),(3,.av (.val I))] [],[(.ret,sh [(2,.av (.val .bool))] []),(.exit 0,sh [] [])],wy⟩
def Zar(x:Q4):Option (Bool×Unit):=
 cond (ltI (x.1.length:Nat) 1) (some (false,())) (cond (gtI (x.1.length:Nat) 512) (some (false,())) ((wy (x.1,0,())).bind (sw (λz2=>some (z2.1,())) (sw (λz3=>some (true,())) (λ_=>none)))))
def KT:Fn:=mkF (cx [LW]) [(4,G4)] 48 Tryz.f48 [(.rd,(.slice yQ2))] [(.tmp 2,true,.bool)] Zar [lp 4 G4 td] seat_ok ab rfl
def u6(x:Q9):Option (Q9⊕((Bool×Unit)⊕(Unit⊕Empty))):=
 let(a,b,_):=x;cond (ltI b (a.length:Nat)) ((ao a b).bind λy1=>(ao a (aK .i64 b 1)).bind λy2=>cond (neI y1.1 y2.1) ((ao a b).bind λy3=>(ao a (aK .i64 b 1)).bind λy4=>cond (neI y3.2.1 y4.2.1) (some (.inr (.inl (false,())))) (some (.inl (a,(ae .i64 b 1),())))) (some (.inl (a,(ae .i64 b 1),())))) (some (.inr (.inr (.inl ()))))
def DK:=ac u6
def Me:Ann:=⟨sh [(0,.av (.val (.slice yQ2))),(3,.av (.val I))] [],[(.ret,sh [(2,.av (.val .bool))] []),(.exit 0,sh [] [])],DK⟩
def Zo(x:Q4):Option (Bool×Unit):=
 (Zar (x.1,())).bind λr1=>cond (!r1.1) (some (false,())) ((DK (x.1,1,())).bind (sw (λz3=>some (z3.1,())) (sw (λz4=>some (true,())) (λ_=>none))))
def QH:Fn:=mkF (cx [KT]) [(4,Me)] 49 Tryz.f49 [(.rd,(.slice yQ2))] [(.tmp 2,true,.bool)] Zo [lp 4 Me u6] seat_ok ab rfl
def Zaf(x:(Q2×Q2×Q2×Unit)):Option (Int×Unit):=
 let((a,b,_),(c,d,_),(e,f,_),_):=x;some ((aK .i64 (aT .i64 (aK .i64 c a) (aK .i64 f b)) (aT .i64 (aK .i64 d b) (aK .i64 e a))),())
def PK:Fn:=mkF (cx []) [] 133 Tryz.f133 [(.rd,yQ2),(.rd,yQ2),(.rd,yQ2)] [(.tmp 6,true,I)] Zaf [] seat_ok ab rfl
def Zbe(x:(Q2×Q2×Q2×Unit)):Option (Bool×Unit):=
 let((a,b,_),(c,d,_),(e,f,_),_):=x;(Zaf ((a,b,()),(c,d,()),(e,f,()),())).bind λr1=>cond (neI r1.1 0) (some (true,())) (some ((ltI (ae .i64 (aT .i64 (aK .i64 c a) (aK .i64 e c)) (aT .i64 (aK .i64 d b) (aK .i64 f d))) 0),()))
def OZ:Fn:=mkF (cx [PK]) [] 92 Tryz.f92 [(.rd,yQ2),(.rd,yQ2),(.rd,yQ2)] [(.tmp 6,true,.bool)] Zbe [] seat_ok ab rfl
def uk(x:Q19):Option (Q19⊕(Q4⊕Empty)):=
 let(a,b,c,_):=x;let t_0:=(az a.length c).bind λj1=>(a[j1]?).bind λy2=>(app b [y2]).bind λa3=>some (.inl (a,a3,(ae .i64 c 1),()));cond (ltI c (a.length:Nat)) (cond (eqI c 0) t_0 (cond (eqI (ae .i64 c 1) (a.length:Nat)) t_0 ((az a.length (aK .i64 c 1)).bind λj7=>(a[j7]?).bind λy8=>(az a.length c).bind λj9=>(a[j9]?).bind λy10=>(az a.length (ae .i64 c 1)).bind λj11=>(a[j11]?).bind λy12=>(Zbe (y8,y10,y12,())).bind λr13=>cond r13.1 t_0 (some (.inl (a,b,(ae .i64 c 1),())))))) (some (.inr (.inl (b,()))))
def xZ:=ac uk
def Dz:Ann:=⟨sh [(3,.av (.own 3)),(5,.av (.own 5)),(6,.av (.val I))] [(3,.arr yQ2),(5,.arr yQ2)],[(.exit 2,sh [(5,.av (.own 5))] [(5,.arr yQ2)])],xZ⟩
def Bf(x:Q19):Option (Q19⊕(Unit⊕(Q4⊕Empty))):=
 let(a,b,c,_):=x;cond (ltI c (b.length:Nat)) ((ao b c).bind λy1=>(Zav (y1,())).bind λr2=>cond (!r2.1) (some (.inr (.inl ()))) (cond (eqI c 0) ((ao b c).bind λy3=>(app a [y3]).bind λa4=>some (.inl (a4,b,(ae .i64 c 1),()))) ((ao b c).bind λy5=>(ao b (aK .i64 c 1)).bind λy6=>cond (!((eqI y5.1 y6.1)&&((eqI y5.2.1 y6.2.1)&&true))) ((ao b c).bind λy7=>(app a [y7]).bind λa8=>some (.inl (a8,b,(ae .i64 c 1),()))) (some (.inl (a,b,(ae .i64 c 1),())))))) (some (.inr (.inr (.inl (a,())))))
def D2:=ac Bf
def Mg:Ann:=⟨sh [(0,.av (.val (.slice yQ2))),(3,.av (.own 3)),(4,.av (.val I))] [(3,.arr yQ2)],[(.ret,sh [(2,.av (.nils))] []),(.exit 0,sh [(3,.av (.own 3))] [(3,.arr yQ2)])],D2⟩
def Zv(x:Q4):Option Q4:=
 cond (ltI (x.1.length:Nat) 1) (some ([],())) (cond (gtI (x.1.length:Nat) 512) (some ([],())) ((D2 ([],x.1,0,())).bind (sw (λz2=>some ([],())) (sw (λz3=>(xZ (z3.1,[],0,())).bind (sw (λz5=>some (z5.1,())) (λ_=>none))) (λ_=>none)))))
def Qk:Fn:=mkF (cx [LW,OZ]) [(5,Mg),(13,Dz)] 51 Tryz.f51 [(.rd,(.slice yQ2))] [(.tmp 2,true,(.slice yQ2))] Zv [lp 5 Mg Bf,lp 13 Dz uk] seat_ok ab rfl
def tg(x:Q19):Option (Q19⊕((Bool×Unit)⊕(Unit⊕Empty))):=
 let(a,b,c,_):=x;cond (ltI c (a.length:Nat)) ((ao a c).bind λy1=>(ao b c).bind λy2=>cond (!((eqI y1.1 y2.1)&&((eqI y1.2.1 y2.2.1)&&true))) (some (.inr (.inl (false,())))) (some (.inl (a,b,(ae .i64 c 1),())))) (some (.inr (.inr (.inl ()))))
def xk:=ac tg
def GC:Ann:=⟨sh [(0,.av (.val (.slice yQ2))),(1,.av (.val (.slice yQ2))),(5,.av (.val I))] [],[(.ret,sh [(4,.av (.val .bool))] []),(.exit 0,sh [] [])],xk⟩
def Zbn(x:((List Q2)×(List Q2)×Unit)):Option (Bool×Unit):=
 cond (neI (x.1.length:Nat) (x.2.1.length:Nat)) (some (false,())) ((xk (x.1,x.2.1,0,())).bind (sw (λz2=>some (z2.1,())) (sw (λz3=>some (true,())) (λ_=>none))))
def PO:Fn:=mkF (cx []) [(4,GC)] 50 Tryz.f50 [(.rd,(.slice yQ2)),(.rd,(.slice yQ2))] [(.tmp 4,true,.bool)] Zbn [lp 4 GC tg] seat_ok ab rfl
def Zy(x:Q9):Option (Q3×Unit):=
 (ao x.1 x.2.1).bind λy1=>(ao x.1 (ae .i64 x.2.1 1)).bind λy2=>some (((y1.1,y1.2.1,()),(y2.1,y2.2.1,()),()),())
def NI:Fn:=mkF (cx []) [] 24 Tryz.f24 [(.rd,(.slice yQ2)),(.rd,I)] [(.cell 4 47,true,yQ6)] Zy [] seat_ok ab rfl
def Zam(x:(Q3×Unit)):Option (Bool×Unit):=
 let(((a,b,_),(c,d,_),_),_):=x;(Zaq ((a,b,()),())).bind λr1=>cond r1.1 ((Zaq ((c,d,()),())).bind λr2=>some (r2.1,())) (some (false,()))
def En:Fn:=mkF (cx [Ae]) [] 93 Tryz.f93 [(.rd,yQ6)] [(.tmp 2,true,.bool)] Zam [] seat_ok ab rfl
def Zbf(x:(Int×Unit)):Option (Int×Unit):=
 cond (ltI x.1 0) (some ((-1),())) (cond (gtI x.1 0) (some (1,())) (some (0,())))
def PP:Fn:=mkF (cx []) [] 134 Tryz.f134 [(.rd,I)] [(.tmp 2,true,I)] Zbf [] seat_ok ab rfl
def Zak(x:(Q2×Q2×Q2×Unit)):Option (Int×Unit):=
 let((a,b,_),(c,d,_),(e,f,_),_):=x;(Zaq ((a,b,()),())).bind λr1=>cond (!r1.1) (some (0,())) ((Zaq ((c,d,()),())).bind λr2=>cond (!r2.1) (some (0,())) ((Zaq ((e,f,()),())).bind λr3=>cond (!r3.1) (some (0,())) ((Zbf ((aK .i64 (aT .i64 (aK .i64 c a) (aK .i64 f b)) (aT .i64 (aK .i64 d b) (aK .i64 e a))),())).bind λr4=>some (r4.1,()))))
def Lg:Fn:=mkF (cx [Ae,PP]) [] 94 Tryz.f94 [(.rd,yQ2),(.rd,yQ2),(.rd,yQ2)] [(.tmp 6,true,I)] Zak [] seat_ok ab rfl
def Zas(x:(Q3×Q3×Unit)):Option (Bool×Unit):=
 let(((a,b,_),(c,d,_),_),((e,f,_),(g,h,_),_),_):=x;(Zam (((a,b,()),(c,d,()),()),())).bind λr1=>cond (!r1.1) (some (false,())) ((Zam (((e,f,()),(g,h,()),()),())).bind λr2=>cond (!r2.1) (some (false,())) ((Zak ((a,b,()),(c,d,()),(e,f,()),())).bind λr3=>(Zak ((a,b,()),(c,d,()),(g,h,()),())).bind λr4=>cond (ltI (aT .i64 r3.1 r4.1) 0) ((Zak ((e,f,()),(g,h,()),(a,b,()),())).bind λr5=>(Zak ((e,f,()),(g,h,()),(c,d,()),())).bind λr6=>some ((ltI (aT .i64 r5.1 r6.1) 0),())) (some (false,()))))
def KN:Fn:=mkF (cx [En,Lg]) [] 55 Tryz.f55 [(.rd,yQ6),(.rd,yQ6)] [(.tmp 4,true,.bool)] Zas [] seat_ok ab rfl
def Zce(x:(Q2×Q3×Unit)):Option (Bool×Unit):=
 let((a,b,_),((c,d,_),(e,f,_),_),_):=x;(Zaq ((a,b,()),())).bind λr1=>cond (!r1.1) (some (false,())) ((Zam (((c,d,()),(e,f,()),()),())).bind λr2=>cond (!r2.1) (some (false,())) ((Zak ((c,d,()),(e,f,()),(a,b,()),())).bind λr3=>cond (neI r3.1 0) (some (false,())) (cond (geI a (bU c e)) (cond (leI a (cE c e)) (cond (geI b (bU d f)) (some ((leI b (cE d f)),())) (some (false,()))) (some (false,()))) (some (false,())))))
def I8:Fn:=mkF (cx [Ae,En,Lg]) [] 54 Tryz.f54 [(.rd,yQ2),(.rd,yQ6)] [(.tmp 4,true,.bool)] Zce [] seat_ok ab rfl
def Zbm(x:(Q3×Q3×Unit)):Option (Bool×Unit):=
 let(((a,b,_),(c,d,_),_),((e,f,_),(g,h,_),_),_):=x;let t_2:=(Zce ((g,h,()),((a,b,()),(c,d,()),()),())).bind λr8=>cond r8.1 ((Zam (((e,f,()),(g,h,()),()),())).bind λr9=>some (r9.1,())) (some (false,()));let t_1:=(Zce ((e,f,()),((a,b,()),(c,d,()),()),())).bind λr6=>cond r6.1 ((Zam (((e,f,()),(g,h,()),()),())).bind λr7=>cond r7.1 (some (true,())) t_2) t_2;let t_0:=(Zce ((c,d,()),((e,f,()),(g,h,()),()),())).bind λr4=>cond r4.1 ((Zam (((a,b,()),(c,d,()),()),())).bind λr5=>cond r5.1 (some (true,())) t_1) t_1;(Zas (((a,b,()),(c,d,()),()),((e,f,()),(g,h,()),()),())).bind λr1=>cond r1.1 (some (true,())) ((Zce ((a,b,()),((e,f,()),(g,h,()),()),())).bind λr2=>cond r2.1 ((Zam (((a,b,()),(c,d,()),()),())).bind λr3=>cond r3.1 (some (true,())) t_0) t_0)
def Mb:Fn:=mkF (cx [I8,KN,En]) [] 52 Tryz.f52 [(.rd,yQ6),(.rd,yQ6)] [(.tmp 4,true,.bool)] Zbm [] seat_ok ab rfl
def jh(x:Q53):Option (Q53⊕((Int×Int×Bool×Unit)⊕(Q2⊕Empty))):=
 let(a,b,c,d,e,f,g,h,i,k,l,m,_):=x;cond (ltI m 2) ((az l.length m).bind λj1=>(l[j1]?).bind λy2=>let t_0:=(az l.length (aK .i64 1 m)).bind λj3=>(l[j3]?).bind λy4=>cond ((eqI y2.1 e)&&((eqI y2.2.1 f)&&true)) ((Zce ((y4.1,y4.2.1,()),((e,f,()),(g,h,()),()),())).bind λr5=>cond (!r5.1) ((Zce ((g,h,()),((a,b,()),(c,d,()),()),())).bind λr6=>some (.inr (.inl (y2.1,y2.2.1,(!r6.1),())))) (some (.inr (.inl (y2.1,y2.2.1,false,()))))) ((Zce ((y4.1,y4.2.1,()),((e,f,()),(g,h,()),()),())).bind λr7=>cond (!r7.1) ((Zce ((e,f,()),((a,b,()),(c,d,()),()),())).bind λr8=>some (.inr (.inl (y2.1,y2.2.1,(!r8.1),())))) (some (.inr (.inl (y2.1,y2.2.1,false,())))));cond (!((eqI y2.1 e)&&((eqI y2.2.1 f)&&true))) (cond (!((eqI y2.1 g)&&((eqI y2.2.1 h)&&true))) (some (.inl (a,b,c,d,e,f,g,h,i,k,l,(ae .i64 m 1),()))) t_0) t_0) (some (.inr (.inr (.inl (i,k,())))))
def tv:=ac jh
def DE:Ann:=⟨sh [(2,.av (.ptr 2 0)),(3,.av (.ptr 3 0)),(4,.av (.ptr 4 0)),(6,.av (.own 6)),(7,.av (.val I))] [(2,.box [.val I,.val I,.val I,.val I]),(3,.box [.val I,.val I,.val I,.val I]),(4,.box [.val I,.val I]),(6,.arr yQ2)],[(.ret,sh [(4,.av (.ptr 4 0)),(5,.av (.val .bool))] [(4,.box [.val I,.val I])]),(.exit 0,sh [(4,.av (.ptr 4 0))] [(4,.box [.val I,.val I])])],tv⟩
def Zao(x:(Q3×Q3×Unit)):Option (Q2×Bool×Unit):=
 let(((a,b,_),(c,d,_),_),((e,f,_),(g,h,_),_),_):=x;(tv (a,b,c,d,e,f,g,h,0,0,[(a,b,()),(c,d,())],0,())).bind (sw (λz2=>some ((z2.1,z2.2.1,()),z2.2.2.1,())) (sw (λz3=>some ((0,0,()),false,())) (λ_=>none)))
def Lt:Fn:=mkF (cx [I8]) [(3,DE)] 53 Tryz.f53 [(.rd,yQ6),(.rd,yQ6)] [(.cell 4 41,true,yQ2),(.tmp 5,true,.bool)] Zao [lp 3 DE jh] seat_ok ab rfl
def qe(x:((List Q2)×Int×Int×Unit)):Option (((List Q2)×Int×Int×Unit)⊕((Bool×Unit)⊕(Q9⊕Empty))):=
 let(a,b,c,_):=x;cond (ltI c b) ((Zy (a,c,())).bind λr1=>(Zy (a,b,())).bind λr2=>let t_1:=(((r1.1.1.1,r1.1.1.2.1,()),(r1.1.2.1.1,r1.1.2.1.2.1,()),()),((r2.1.1.1,r2.1.1.2.1,()),(r2.1.2.1.1,r2.1.2.1.2.1,()),()),());let t_0:=cond (eqI (ae .i64 c 1) b) ((Zao t_1).bind λr4=>cond (!r4.2.1) (some (.inr (.inl (false,())))) (some (.inl (a,b,(ae .i64 c 1),())))) (some (.inl (a,b,(ae .i64 c 1),())));cond (ltI (ae .i64 c 1) b) ((Zbm t_1).bind λr3=>cond r3.1 (some (.inr (.inl (false,())))) t_0) t_0) (some (.inr (.inr (.inl (a,b,())))))
def xV:=ac qe
def Df:Ann:=⟨sh [(0,.av (.val (.slice yQ2))),(7,.av (.val I)),(8,.av (.val I))] [],[(.ret,sh [(6,.av (.val .bool))] []),(.exit 2,sh [(0,.av (.val (.slice yQ2))),(7,.av (.val I))] [])],xV⟩
def qd(x:Q9):Option (Q9⊕((Bool×Unit)⊕(Unit⊕Empty))):=
 cond (ltI (ae .i64 x.2.1 1) (x.1.length:Nat)) ((xV (x.1,x.2.1,0,())).bind (sw (λz2=>some (.inr (.inl (z2.1,())))) (sw (λz3=>some (.inl (z3.1,(ae .i64 z3.2.1 1),()))) (λ_=>none)))) (some (.inr (.inr (.inl ()))))
def re:=ac qd
def GV:Ann:=⟨sh [(0,.av (.val (.slice yQ2))),(7,.av (.val I))] [],[(.ret,sh [(6,.av (.val .bool))] []),(.exit 0,sh [] [])],re⟩
def Zbh(x:((List Q2)×Q2×Q2×Unit)):Option (Bool×Unit):=
 let(a,(b,c,_),(d,e,_),_):=x;(Zar (a,())).bind λr1=>cond (!r1.1) (some (false,())) ((Zo (a,())).bind λr2=>cond (!r2.1) (some (false,())) ((Zv (a,())).bind λr3=>(Zbn (r3.1,a,())).bind λr4=>cond (!r4.1) (some (false,())) ((ao a 0).bind λy5=>cond (!((eqI y5.1 b)&&((eqI y5.2.1 c)&&true))) (some (false,())) ((ao a (aK .i64 (a.length:Nat) 1)).bind λy6=>cond (!((eqI y6.1 d)&&((eqI y6.2.1 e)&&true))) (some (false,())) ((re (a,0,())).bind (sw (λz8=>some (z8.1,())) (sw (λz9=>some (true,())) (λ_=>none))))))))
def Qe:Fn:=mkF (cx [NI,KT,QH,PO,Qk,Mb,Lt]) [(4,GV),(7,Df)] 21 Tryz.f21 [(.rd,(.slice yQ2)),(.rd,yQ2),(.rd,yQ2)] [(.tmp 6,true,.bool)] Zbh [lp 4 GV qd,lp 7 Df qe] seat_ok ab rfl
def qw(x:(Int×Int×(List Q2)×(List Q2)×Int×Int×Unit)):Option ((Int×Int×(List Q2)×(List Q2)×Int×Int×Unit)⊕((Bool×Unit)⊕(Q30⊕Empty))):=
 let(a,b,c,d,e,f,_):=x;let t_2:=(ao c e).bind λy19=>(Zy (d,f,())).bind λr20=>(Zce (y19,((r20.1.1.1,r20.1.1.2.1,()),(r20.1.2.1.1,r20.1.2.1.2.1,()),()),())).bind λr21=>cond r21.1 (some (.inr (.inl (false,())))) (some (.inl (a,b,c,d,e,(ae .i64 f 1),())));let t_0:=cond (eqI (ae .i64 f 2) (d.length:Nat)) (cond (eqI e b) ((ao c e).bind λy14=>(ao d (ae .i64 f 1)).bind λy15=>(ao c e).bind λy16=>(Zy (d,f,())).bind λr17=>(Zce (y16,((r17.1.1.1,r17.1.1.2.1,()),(r17.1.2.1.1,r17.1.2.1.2.1,()),()),())).bind λr18=>cond r18.1 (cond (!((eqI y14.1 y15.1)&&((eqI y14.2.1 y15.2.1)&&true))) (some (.inr (.inl (false,())))) (some (.inl (a,b,c,d,e,(ae .i64 f 1),())))) (some (.inl (a,b,c,d,e,(ae .i64 f 1),())))) t_2) t_2;cond (ltI (ae .i64 f 1) (d.length:Nat)) (cond (eqI f 0) (cond (eqI e a) ((ao c e).bind λy1=>(ao d 0).bind λy2=>let t_1:=(ao c e).bind λy8=>(Zy (d,f,())).bind λr9=>(Zce (y8,((r9.1.1.1,r9.1.1.2.1,()),(r9.1.2.1.1,r9.1.2.1.2.1,()),()),())).bind λr10=>cond r10.1 (cond (!((eqI y1.1 y2.1)&&((eqI y1.2.1 y2.2.1)&&true))) (some (.inr (.inl (false,())))) (some (.inl (a,b,c,d,e,(ae .i64 f 1),())))) (some (.inl (a,b,c,d,e,(ae .i64 f 1),())));cond (eqI (ae .i64 f 2) (d.length:Nat)) (cond (eqI e b) ((ao c e).bind λy3=>(ao d (ae .i64 f 1)).bind λy4=>(ao c e).bind λy5=>(Zy (d,f,())).bind λr6=>(Zce (y5,((r6.1.1.1,r6.1.1.2.1,()),(r6.1.2.1.1,r6.1.2.1.2.1,()),()),())).bind λr7=>cond r7.1 (cond (!((eqI y1.1 y2.1)&&((eqI y1.2.1 y2.2.1)&&true))) (cond (!((eqI y3.1 y4.1)&&((eqI y3.2.1 y4.2.1)&&true))) (some (.inr (.inl (false,())))) (some (.inl (a,b,c,d,e,(ae .i64 f 1),())))) (some (.inl (a,b,c,d,e,(ae .i64 f 1),())))) (some (.inl (a,b,c,d,e,(ae .i64 f 1),())))) t_1) t_1) t_0) t_0) (some (.inr (.inr (.inl (a,b,c,d,e,())))))
def wU:=ac qw
def Dy:Ann:=⟨sh [(0,.av (.val (.slice yQ2))),(2,.av (.val (.slice yQ2))),(4,.av (.ptr 4 0)),(7,.av (.val I)),(8,.av (.val I))] [(4,.box [.val I,.val I])],[(.ret,sh [(6,.av (.val .bool))] []),(.exit 2,sh [(0,.av (.val (.slice yQ2))),(2,.av (.val (.slice yQ2))),(4,.av (.ptr 4 0)),(7,.av (.val I))] [(4,.box [.val I,.val I])])],wU⟩
def qE(x:Q30):Option (Q30⊕((Bool×Unit)⊕(Unit⊕Empty))):=
 let(a,b,c,d,e,_):=x;cond (ltI e (c.length:Nat)) ((wU (a,b,c,d,e,0,())).bind (sw (λz2=>some (.inr (.inl (z2.1,())))) (sw (λz3=>some (.inl (z3.1,z3.2.1,z3.2.2.1,z3.2.2.2.1,(ae .i64 z3.2.2.2.2.1 1),()))) (λ_=>none)))) (some (.inr (.inr (.inl ()))))
def yg:=ac qE
def GP:Ann:=⟨sh [(0,.av (.val (.slice yQ2))),(2,.av (.val (.slice yQ2))),(4,.av (.ptr 4 0)),(7,.av (.val I))] [(4,.box [.val I,.val I])],[(.ret,sh [(6,.av (.val .bool))] []),(.exit 0,sh [] [])],yg⟩
def Zbj(x:((List Q2)×Q2×(List Q2)×Unit)):Option (Bool×Unit):=
 (yg (x.2.1.1,x.2.1.2.1,x.1,x.2.2.1,0,())).bind (sw (λz2=>some (z2.1,())) (sw (λz3=>some (true,())) (λ_=>none)))
def Oc:Fn:=mkF (cx [NI,I8]) [(2,GP),(5,Dy)] 22 Tryz.f22 [(.rd,(.slice yQ2)),(.rd,yQ2),(.rd,(.slice yQ2))] [(.tmp 6,true,.bool)] Zbj [lp 2 GP qE,lp 5 Dy qw] seat_ok ab rfl
def Zau(x:((List Q2)×Q2×Q2×Q3×Q3×Unit)):Option (Bool×Unit):=
 let(a,(b,c,_),(d,e,_),((f,g,_),(h,i,_),_),((k,l,_),(m,n,_),_),_):=x;(Zbm (((f,g,()),(h,i,()),()),((k,l,()),(m,n,()),()),())).bind λr1=>cond (!r1.1) (some (true,())) ((Zas (((f,g,()),(h,i,()),()),((k,l,()),(m,n,()),()),())).bind λr2=>cond r2.1 (some (true,())) ((Zao (((f,g,()),(h,i,()),()),((k,l,()),(m,n,()),()),())).bind λr3=>let t_0:=(ao a d).bind λy5=>cond ((eqI r3.1.1 y5.1)&&((eqI r3.1.2.1 y5.2.1)&&true)) (some (true,())) ((ao a e).bind λy6=>some (((eqI r3.1.1 y6.1)&&((eqI r3.1.2.1 y6.2.1)&&true)),()));cond (!r3.2.1) (some (false,())) ((ao a b).bind λy4=>cond ((eqI r3.1.1 y4.1)&&((eqI r3.1.2.1 y4.2.1)&&true)) t_0 ((ao a c).bind λy7=>cond ((eqI r3.1.1 y7.1)&&((eqI r3.1.2.1 y7.2.1)&&true)) t_0 (some (false,()))))))
def Pw:Fn:=mkF (cx [Mb,Lt,KN]) [] 23 Tryz.f23 [(.rd,(.slice yQ2)),(.rd,yQ2),(.rd,yQ2),(.rd,yQ6),(.rd,yQ6)] [(.tmp 10,true,.bool)] Zau [] seat_ok ab rfl
def nC(x:Q48):Option (Q48⊕((Bool×Unit)⊕(Q38⊕Empty))):=
 let(a,b,c,d,e,f,g,h,_):=x;(ao d f).bind λy1=>cond (ltI (ae .i64 h 1) (y1.length:Nat)) ((ao b e).bind λy2=>(ao b f).bind λy3=>(ao d e).bind λy4=>(Zy (y4,g,())).bind λr5=>(ao d f).bind λy6=>(Zy (y6,h,())).bind λr7=>(Zau (c,y2,y3,((r5.1.1.1,r5.1.1.2.1,()),(r5.1.2.1.1,r5.1.2.1.2.1,()),()),((r7.1.1.1,r7.1.1.2.1,()),(r7.1.2.1.1,r7.1.2.1.2.1,()),()),())).bind λr8=>cond (!r8.1) (some (.inr (.inl (false,())))) (some (.inl (a,b,c,d,e,f,g,(ae .i64 h 1),())))) (some (.inr (.inr (.inl (a,b,c,d,e,f,g,())))))
def tW:=ac nC
def AM:Ann:=⟨sh [(1,.av (.val (.slice yQ2))),(2,.av (.val fi)),(3,.av (.ptr 3 0)),(9,.av (.val I)),(10,.av (.val I)),(11,.av (.val I)),(12,.av (.val I))] [(3,.box [.val I,.val (.slice yQ2)])],[(.ret,sh [(6,.av (.val .bool))] []),(.exit 8,sh [(1,.av (.val (.slice yQ2))),(2,.av (.val fi)),(3,.av (.ptr 3 0)),(9,.av (.val I)),(10,.av (.val I)),(11,.av (.val I))] [(3,.box [.val I,.val (.slice yQ2)])])],tW⟩
def nr(x:Q38):Option (Q38⊕((Bool×Unit)⊕(Q37⊕Empty))):=
 let(a,b,c,d,e,f,g,_):=x;(ao d e).bind λy1=>cond (ltI (ae .i64 g 1) (y1.length:Nat)) ((tW (a,b,c,d,e,f,g,0,())).bind (sw (λz3=>some (.inr (.inl (z3.1,())))) (sw (λ(a_4,b_4,c_4,d_4,e_4,f_4,g_4,_)=>some (.inl (a_4,b_4,c_4,d_4,e_4,f_4,(ae .i64 g_4 1),()))) (λ_=>none)))) (some (.inr (.inr (.inl (a,b,c,d,e,f,())))))
def tn:=ac nr
def AJ:Ann:=⟨sh [(1,.av (.val (.slice yQ2))),(2,.av (.val fi)),(3,.av (.ptr 3 0)),(9,.av (.val I)),(10,.av (.val I)),(11,.av (.val I))] [(3,.box [.val I,.val (.slice yQ2)])],[(.ret,sh [(6,.av (.val .bool))] []),(.exit 6,sh [(1,.av (.val (.slice yQ2))),(2,.av (.val fi)),(3,.av (.ptr 3 0)),(9,.av (.val I)),(10,.av (.val I))] [(3,.box [.val I,.val (.slice yQ2)])])],tn⟩
def nt(x:Q37):Option (Q37⊕((Bool×Unit)⊕(Q36⊕Empty))):=
 let(a,b,c,d,e,f,_):=x;cond (ltI f e) ((tn (a,b,c,d,e,f,0,())).bind (sw (λz2=>some (.inr (.inl (z2.1,())))) (sw (λ(a_3,b_3,c_3,d_3,e_3,f_3,_)=>some (.inl (a_3,b_3,c_3,d_3,e_3,(ae .i64 f_3 1),()))) (λ_=>none)))) (some (.inr (.inr (.inl (a,b,c,d,e,())))))
def um:=ac nt
def Ab:Ann:=⟨sh [(1,.av (.val (.slice yQ2))),(2,.av (.val fi)),(3,.av (.ptr 3 0)),(9,.av (.val I)),(10,.av (.val I))] [(3,.box [.val I,.val (.slice yQ2)])],[(.ret,sh [(6,.av (.val .bool))] []),(.exit 4,sh [(1,.av (.val (.slice yQ2))),(2,.av (.val fi)),(3,.av (.ptr 3 0)),(9,.av (.val I))] [(3,.box [.val I,.val (.slice yQ2)])])],um⟩
def nB(x:Q36):Option (Q36⊕((Bool×Unit)⊕(Unit⊕Empty))):=
 let(a,b,c,d,e,_):=x;cond (ltI e (d.length:Nat)) ((um (a,b,c,d,e,0,())).bind (sw (λz2=>some (.inr (.inl (z2.1,())))) (sw (λz3=>some (.inl (z3.1,z3.2.1,z3.2.2.1,z3.2.2.2.1,(ae .i64 z3.2.2.2.2.1 1),()))) (λ_=>none)))) (some (.inr (.inr (.inl ()))))
def nA:=ac nB
def AW:Ann:=⟨sh [(1,.av (.val (.slice yQ2))),(2,.av (.val fi)),(3,.av (.ptr 3 0)),(9,.av (.val I))] [(3,.box [.val I,.val (.slice yQ2)])],[(.ret,sh [(6,.av (.val .bool))] []),(.exit 2,sh [] [])],nA⟩
def pU(x:Q36):Option (Q36⊕((Bool×Unit)⊕((Int×(List Q2)×(List Q2)×(List (List Q2))×Unit)⊕Empty))):=
 let(a,b,c,d,e,_):=x;cond (ltI e (b.length:Nat)) ((ao b e).bind λy1=>cond (eqI y1.1 y1.2.1) (some (.inr (.inl (false,())))) ((ao d e).bind λy2=>(ao c y1.1).bind λy3=>(ao c y1.2.1).bind λy4=>(Zbh (y2,y3,y4,())).bind λr5=>cond (!r5.1) (some (.inr (.inl (false,())))) ((ao d e).bind λy6=>(Zbj (c,(y1.1,y1.2.1,()),y6,())).bind λr7=>cond (!r7.1) (some (.inr (.inl (false,())))) (some (.inl (a,b,c,d,(ae .i64 e 1),())))))) (some (.inr (.inr (.inl (a,b,c,d,())))))
def wl:=ac pU
def Hj:Ann:=⟨sh [(1,.av (.val (.slice yQ2))),(2,.av (.val fi)),(3,.av (.ptr 3 0)),(7,.av (.val I))] [(3,.box [.val I,.val (.slice yQ2)])],[(.ret,sh [(6,.av (.val .bool))] []),(.exit 0,sh [(1,.av (.val (.slice yQ2))),(2,.av (.val fi)),(3,.av (.ptr 3 0))] [(3,.box [.val I,.val (.slice yQ2)])])],wl⟩
def Zat(x:Q23):Option (Bool×Unit):=
 let((a,b,_),c,d,_):=x;(Zap ((a,b,()),())).bind λr1=>cond (!r1.1) (some (false,())) ((Zag (a,c,())).bind λr2=>cond (!r2.1) (some (false,())) (cond (neI (d.length:Nat) (b.length:Nat)) (some (false,())) ((wl (a,b,c,d,0,())).bind (sw (λz4=>some (z4.1,())) (sw (λz5=>(nA (z5.1,z5.2.1,z5.2.2.1,z5.2.2.2.1,0,())).bind (sw (λz7=>some (z7.1,())) (sw (λz8=>some (true,())) (λ_=>none)))) (λ_=>none))))))
def P7:Fn:=mkF (cx [Pb,Ot,Qe,Oc,Pw,NI]) [(4,Hj),(10,AW),(13,Ab),(16,AJ),(19,AM)] 8 Tryz.f8 [(.rd,gL),(.rd,(.slice yQ2)),(.rd,fi)] [(.tmp 6,true,.bool)] Zat [lp 4 Hj pU,lp 10 AW nB,lp 13 Ab nt,lp 16 AJ nr,lp 19 AM nC] seat_ok ab rfl
def Zcs(x:(Q2×Int×Unit)):Option (Int×Unit):=
 cond (eqI x.2.1 0) (some (x.1.1,())) (some (x.1.2.1,()))
def AZ:Fn:=mkF (cx []) [] 174 Tryz.f174 [(.rd,yQ2),(.rd,I)] [(.tmp 4,true,I)] Zcs [] seat_ok ab rfl
def zT(x:Q81):Option (Q81⊕((Bool×Unit)⊕(Q61⊕Empty))):=
 let(a,b,c,d,e,f,g,h,i,k,l,m,_):=x;cond (ltI m l) ((ao k m).bind λy1=>cond (ltI y1 0) (some (.inr (.inl (false,())))) (cond (geI y1 (d.length:Nat)) (some (.inr (.inl (false,())))) ((az d.length y1).bind λj2=>(d[j2]?).bind λy3=>cond y3 (some (.inr (.inl (false,())))) ((ao b (fB .i64 y1 2)).bind λy4=>(Zcs (y4,(kk y1 2),())).bind λr5=>cond (neI r5.1 f) (some (.inr (.inl (false,())))) ((az d.length y1).bind λj6=>(d[j6]?).bind λy7=>some (.inl (a,b,c,(d.set j6 true),(ae .i64 e 1),f,g,h,i,k,l,(ae .i64 m 1),()))))))) (some (.inr (.inr (.inl (a,b,c,d,e,g,h,i,())))))
def zu:=ac zT
def BV:Ann:=⟨sh [(1,.av (.ptr 1 0)),(5,.av (.own 5)),(6,.av (.val I)),(7,.av (.val I)),(80,.av (.val aN)),(81,.av (.val I)),(82,.av (.val I)),(87,.av (.val (.slice I))),(88,.av (.val I)),(89,.av (.val I))] [(1,.box [.val I,.val (.slice yQ2),.val aN]),(5,.arr .bool)],[(.ret,sh [(2,.av (.val .bool))] []),(.exit 4,sh [(1,.av (.ptr 1 0)),(5,.av (.own 5)),(6,.av (.val I)),(80,.av (.val aN)),(81,.av (.val I)),(82,.av (.val I))] [(1,.box [.val I,.val (.slice yQ2),.val aN]),(5,.arr .bool)])],zu⟩
def zd(x:Q61):Option (Q61⊕((Bool×Unit)⊕((List Bool×Int×Unit)⊕Empty))):=
 let(a,b,c,d,e,f,g,h,_):=x;cond (ltI h g) ((ao f h).bind λy1=>(zu (a,b,c,d,e,h,f,g,h,y1,(y1.length:Nat),0,())).bind (sw (λz3=>some (.inr (.inl (z3.1,())))) (sw (λ(a_4,b_4,c_4,d_4,e_4,f_4,g_4,h_4,_)=>some (.inl (a_4,b_4,c_4,d_4,e_4,f_4,g_4,(ae .i64 h_4 1),()))) (λ_=>none)))) (some (.inr (.inr (.inl (d,e,())))))
def Bt:=ac zd
def zk:Ann:=⟨sh [(1,.av (.ptr 1 0)),(5,.av (.own 5)),(6,.av (.val I)),(80,.av (.val aN)),(81,.av (.val I)),(82,.av (.val I))] [(1,.box [.val I,.val (.slice yQ2),.val aN]),(5,.arr .bool)],[(.ret,sh [(2,.av (.val .bool))] []),(.exit 2,sh [(5,.av (.own 5)),(6,.av (.val I))] [(5,.arr .bool)])],Bt⟩
def H4(x:(Int×(List Q2)×(List (List Int))×(List Q2)×Int×Int×Unit)):Option ((Int×(List Q2)×(List (List Int))×(List Q2)×Int×Int×Unit)⊕((Bool×Unit)⊕(Q25⊕Empty))):=
 let(a,b,c,d,e,f,_):=x;cond (ltI f e) ((ao d f).bind λy1=>cond (ltI y1.1 0) (some (.inr (.inl (false,())))) (cond (geI y1.1 a) (some (.inr (.inl (false,())))) (cond (ltI y1.2.1 0) (some (.inr (.inl (false,())))) (cond (geI y1.2.1 a) (some (.inr (.inl (false,())))) (cond (eqI y1.1 y1.2.1) (some (.inr (.inl (false,())))) (some (.inl (a,b,c,d,e,(ae .i64 f 1),())))))))) (some (.inr (.inr (.inl (a,b,c,())))))
def HN:=ac H4
def E4:Ann:=⟨sh [(1,.av (.ptr 1 0)),(38,.av (.val (.slice yQ2))),(39,.av (.val I)),(40,.av (.val I))] [(1,.box [.val I,.val (.slice yQ2),.val aN])],[(.ret,sh [(2,.av (.val .bool))] []),(.exit 0,sh [(1,.av (.ptr 1 0))] [(1,.box [.val I,.val (.slice yQ2),.val aN])])],HN⟩
def Zca(x:(Q25×Unit)):Option (Bool×Unit):=
 let((a,b,c,_),_):=x;cond (ltI a 0) (some (false,())) ((ao [16384,32768] 0).bind λy1=>cond (gtI a y1) (some (false,())) ((ao [16384,32768] 1).bind λy2=>cond (gtI (b.length:Nat) y2) (some (false,())) (cond (neI (c.length:Nat) a) (some (false,())) ((HN (a,b,c,b,(b.length:Nat),0,())).bind (sw (λz4=>some (z4.1,())) (sw (λ(a_5,b_5,c_5,_)=>(dk .bool (aT .i64 2 (b_5.length:Nat)) (aT .i64 2 (b_5.length:Nat))).bind λm6=>(Bt (a_5,b_5,c_5,m6,0,c_5,(c_5.length:Nat),0,())).bind (sw (λz8=>some (z8.1,())) (sw (λz9=>some ((eqI z9.2.1 (z9.1.length:Nat)),())) (λ_=>none)))) (λ_=>none)))))))
def nn:Fn:=mkF (cx [AZ]) [(4,E4),(12,zk),(15,BV)] 112 Tryz.f112 [(.rd,cT)] [(.tmp 2,true,.bool)] Zca [lp 4 E4 H4,lp 12 zk zd,lp 15 BV zT] seat_ok ab rfl
def HS(x:Q52):Option (Q52⊕(Q31⊕Empty)):=
 let(a,b,c,d,e,f,g,h,_):=x;cond (ltI h g) ((ao f h).bind λy1=>cond (eqI (b.length:Nat) 0) none ((ao b (kk (ae .i64 h 1) (b.length:Nat))).bind λy2=>(az a.length (gw .i64 y1 1)).bind λj3=>(a[j3]?).bind λy4=>some (.inl ((a.set j3 y2),b,c,d,e,f,g,(ae .i64 h 1),())))) (some (.inr (.inl (a,c,d,e,()))))
def Fd:=ac HS
def Hl:Ann:=⟨sh [(3,.av (.own 3)),(5,.av (.val (.slice I))),(14,.av (.val aN)),(15,.av (.val I)),(16,.av (.val I)),(20,.av (.val (.slice I))),(21,.av (.val I)),(22,.av (.val I))] [(3,.arr I)],[(.exit 2,sh [(3,.av (.own 3)),(14,.av (.val aN)),(15,.av (.val I)),(16,.av (.val I))] [(3,.arr I)])],Fd⟩
def DT(x:Q31):Option (Q31⊕(Q1⊕Empty)):=
 let(a,b,c,d,_):=x;cond (ltI d c) ((ao b d).bind λy1=>(Fd (a,y1,b,c,d,y1,(y1.length:Nat),0,())).bind (sw (λz3=>some (.inl (z3.1,z3.2.1,z3.2.2.1,(ae .i64 z3.2.2.2.1 1),()))) (λ_=>none))) (some (.inr (.inl (a,()))))
def IE:=ac DT
def Gx:Ann:=⟨sh [(3,.av (.own 3)),(14,.av (.val aN)),(15,.av (.val I)),(16,.av (.val I))] [(3,.arr I)],[(.exit 0,sh [(3,.av (.own 3))] [(3,.arr I)])],IE⟩
def Zbw(x:(Q25×Unit)):Option Q1:=
 let((_,a,b,_),_):=x;(dk I (aT .i64 2 (a.length:Nat)) (aT .i64 2 (a.length:Nat))).bind λm1=>(IE (m1,b,(b.length:Nat),0,())).bind (sw (λz3=>some (z3.1,())) (λ_=>none))
def Ou:Fn:=mkF (cx []) [(3,Gx),(6,Hl)] 113 Tryz.f113 [(.rd,cT)] [(.tmp 2,true,(.slice I))] Zbw [lp 3 Gx DT,lp 6 Hl HS] seat_ok ab rfl
def Be(x:Q44):Option (Q44⊕((List Int×List Bool×(List (List Int))×List Int×Int×Int×Unit)⊕Empty)):=
 let(a,b,c,d,e,f,g,_):=x;(az b.length e).bind λj1=>(b[j1]?).bind λy2=>cond (!y2) ((az b.length e).bind λj3=>(b[j3]?).bind λy4=>(app d [e]).bind λa5=>(az a.length e).bind λj6=>(a[j6]?).bind λy7=>some (.inl (a,(b.set j3 true),c,a5,y7,f,g,()))) (some (.inr (.inl (a,b,c,d,f,g,()))))
def Bm:=ac Be
def Bq:Ann:=⟨sh [(3,.av (.own 3)),(4,.av (.own 4)),(5,.av (.own 5)),(7,.av (.own 7)),(8,.av (.val I)),(18,.av (.val I)),(19,.av (.val I))] [(3,.arr I),(4,.arr .bool),(5,.arr (.slice I)),(7,.arr I)],[(.exit 2,sh [(3,.av (.own 3)),(4,.av (.own 4)),(5,.av (.own 5)),(7,.av (.own 7)),(18,.av (.val I)),(19,.av (.val I))] [(3,.arr I),(4,.arr .bool),(5,.arr (.slice I)),(7,.arr I)])],Bm⟩
def FM(x:(List Int×List Bool×(List (List Int))×Int×Int×Unit)):Option ((List Int×List Bool×(List (List Int))×Int×Int×Unit)⊕(Q11⊕Empty)):=
 let(a,b,c,d,e,_):=x;cond (ltI e d) ((Bm (a,b,c,[],e,d,e,())).bind (sw (λ(a_2,b_2,c_2,d_2,e_2,f_2,_)=>cond (gtI (d_2.length:Nat) 0) ((app c_2 [d_2]).bind λa3=>some (.inl (a_2,b_2,a3,e_2,(ae .i64 f_2 1),()))) (some (.inl (a_2,b_2,c_2,e_2,(ae .i64 f_2 1),())))) (λ_=>none))) (some (.inr (.inl (c,()))))
def GB:=ac FM
def EV:Ann:=⟨sh [(3,.av (.own 3)),(4,.av (.own 4)),(5,.av (.own 5)),(18,.av (.val I)),(19,.av (.val I))] [(3,.arr I),(4,.arr .bool),(5,.arr (.slice I))],[(.exit 0,sh [(5,.av (.own 5))] [(5,.arr (.slice I))])],GB⟩
def Zcj(x:(Q25×Unit)):Option Q11:=
 let((a,b,c,_),_):=x;(Zca ((a,b,c,()),())).bind λr1=>cond (!r1.1) (some ([],())) ((Zbw ((a,b,c,()),())).bind λr2=>(dk .bool (r2.1.length:Nat) (r2.1.length:Nat)).bind λm3=>(GB (r2.1,m3,[],(r2.1.length:Nat),0,())).bind (sw (λz5=>some (z5.1,())) (λ_=>none)))
def mU:Fn:=mkF (cx [nn,Ou]) [(7,EV),(11,Bq)] 67 Tryz.f67 [(.rd,cT)] [(.tmp 2,true,aN)] Zcj [lp 7 EV FM,lp 11 Bq Be] seat_ok ab rfl
def Gj(x:((List (List Int))×Int×Int×Int×Int×Unit)):Option (((List (List Int))×Int×Int×Int×Int×Unit)⊕((Int×Unit)⊕Empty)):=
 let(a,b,c,d,e,_):=x;cond (ltI e d) ((az a.length e).bind λj1=>(a[j1]?).bind λy2=>cond (gtI (y2.length:Nat) b) ((ao y2 0).bind λy3=>some (.inl (a,(y2.length:Nat),y3,d,(ae .i64 e 1),()))) (some (.inl (a,b,c,d,(ae .i64 e 1),())))) (some (.inr (.inl (c,()))))
def DN:=ac Gj
def Ef:Ann:=⟨sh [(3,.av (.val I)),(4,.av (.val I)),(8,.av (.own 8)),(9,.av (.val I)),(10,.av (.val I))] [(8,.arr (.slice I))],[(.exit 0,sh [(4,.av (.val I))] [])],DN⟩
def Zdt(x:(Q25×Unit)):Option (Int×Unit):=
 (Zcj ((x.1.1,x.1.2.1,x.1.2.2.1,()),())).bind λr1=>(DN (r1.1,0,0,(r1.1.length:Nat),0,())).bind (sw (λz3=>some (z3.1,())) (λ_=>none))
def P8:Fn:=mkF (cx [mU]) [(3,Ef)] 28 Tryz.f28 [(.rd,cT)] [(.tmp 2,true,I)] Zdt [lp 3 Ef Gj] seat_ok ab rfl
def QN:Con:={ ins:=[(.rd,cT)],outs:=[(true,I)],fn:=Zdt }
def Zcx(x:Q26):Option (Int×Unit):=
 let((a,b,c,_),d,_):=x;(Zca ((a,b,c,()),())).bind λr1=>cond (!r1.1) (some ((-1),())) (cond (ltI d 0) (some ((-1),())) (cond (geI d (aT .i64 2 (b.length:Nat))) (some ((-1),())) ((ao b (fB .i64 d 2)).bind λy2=>(Zcs (y2,(kk d 2),())).bind λr3=>some (r3.1,()))))
def ve:Fn:=mkF (cx [nn,AZ]) [] 116 Tryz.f116 [(.rd,cT),(.rd,I)] [(.tmp 4,true,I)] Zcx [] seat_ok ab rfl
def zm(x:Q64):Option (Q64⊕(Q39⊕Empty)):=
 let(a,b,c,d,e,f,g,h,i,_):=x;cond (ltI i h) ((ao g i).bind λy1=>(Zcx ((a,b,c,()),(gw .i64 y1 1),())).bind λr2=>(az d.length r2.1).bind λj3=>(d[j3]?).bind λy4=>cond (!y4) ((az d.length r2.1).bind λj5=>(d[j5]?).bind λy6=>(app e [r2.1]).bind λa7=>some (.inl (a,b,c,(d.set j5 true),a7,f,g,h,(ae .i64 i 1),()))) (some (.inl (a,b,c,d,e,f,g,h,(ae .i64 i 1),())))) (some (.inr (.inl (a,b,c,d,e,f,()))))
def BX:=ac zm
def Ai:Ann:=⟨sh [(1,.av (.ptr 1 0)),(3,.av (.own 3)),(4,.av (.own 4)),(5,.av (.val I)),(39,.av (.val (.slice I))),(40,.av (.val I)),(41,.av (.val I))] [(1,.box [.val I,.val (.slice yQ2),.val aN]),(3,.arr .bool),(4,.arr I)],[(.exit 2,sh [(1,.av (.ptr 1 0)),(3,.av (.own 3)),(4,.av (.own 4)),(5,.av (.val I))] [(1,.box [.val I,.val (.slice yQ2),.val aN]),(3,.arr .bool),(4,.arr I)])],BX⟩
def Fs(x:Q39):Option (Q39⊕(Q32⊕Empty)):=
 let(a,b,c,d,e,f,_):=x;cond (gtI (e.length:Nat) 0) ((az e.length (aK .i64 (e.length:Nat) 1)).bind λj1=>(e[j1]?).bind λy2=>(gE e.length 0 (aK .i64 (e.length:Nat) 1)).bind λv3=>(ao c y2).bind λy4=>(BX (a,b,c,d,((e.drop v3.1).take v3.2),(ae .i64 f 1),y4,(y4.length:Nat),0,())).bind (sw (λ(a_6,b_6,c_6,d_6,e_6,f_6,_)=>some (.inl (a_6,b_6,c_6,d_6,e_6,f_6,()))) (λ_=>none))) (some (.inr (.inl (a,b,c,f,()))))
def DH:=ac Fs
def E3:Ann:=⟨sh [(1,.av (.ptr 1 0)),(3,.av (.own 3)),(4,.av (.own 4)),(5,.av (.val I))] [(1,.box [.val I,.val (.slice yQ2),.val aN]),(3,.arr .bool),(4,.arr I)],[(.exit 0,sh [(1,.av (.ptr 1 0)),(5,.av (.val I))] [(1,.box [.val I,.val (.slice yQ2),.val aN])])],DH⟩
def Zbr(x:(Q25×Unit)):Option (Bool×Unit):=
 let((a,b,c,_),_):=x;cond (eqI a 0) (some (false,())) ((dk .bool a a).bind λm1=>(az m1.length 0).bind λj2=>(m1[j2]?).bind λy3=>(DH (a,b,c,(m1.set j2 true),[0],0,())).bind (sw (λz5=>some ((eqI z5.2.2.2.1 z5.1),())) (λ_=>none)))
def Ow:Fn:=mkF (cx [ve]) [(6,E3),(11,Ai)] 126 Tryz.f126 [(.rd,cT)] [(.tmp 2,true,.bool)] Zbr [lp 6 E3 Fs,lp 11 Ai zm] seat_ok ab rfl
def E6(x:Q74):Option (Q74⊕(Q54⊕Empty)):=
 let(a,b,c,d,e,f,g,h,i,k,l,_):=x;cond (ltI l k) ((ao i l).bind λy1=>(ao b (fB .i64 y1 2)).bind λy2=>(Zcs (y2,(gw .i64 (kk y1 2) 1),())).bind λr3=>(az d.length r3.1).bind λj4=>(d[j4]?).bind λy5=>cond (!y5) ((az d.length r3.1).bind λj6=>(d[j6]?).bind λy7=>(app e [r3.1]).bind λa8=>some (.inl (a,b,c,(d.set j6 true),a8,f,g,h,i,k,(ae .i64 l 1),()))) (some (.inl (a,b,c,d,e,f,g,h,i,k,(ae .i64 l 1),())))) (some (.inr (.inl (a,b,c,d,e,f,g,h,()))))
def GF:=ac E6
def Ec:Ann:=⟨sh [(1,.av (.ptr 1 0)),(3,.av (.own 3)),(4,.av (.val I)),(6,.av (.own 6)),(14,.av (.val I)),(15,.av (.val I)),(40,.av (.val (.slice I))),(41,.av (.val I)),(42,.av (.val I))] [(1,.box [.val I,.val (.slice yQ2),.val aN]),(3,.arr .bool),(6,.arr I)],[(.exit 4,sh [(1,.av (.ptr 1 0)),(3,.av (.own 3)),(4,.av (.val I)),(6,.av (.own 6)),(14,.av (.val I)),(15,.av (.val I))] [(1,.box [.val I,.val (.slice yQ2),.val aN]),(3,.arr .bool),(6,.arr I)])],GF⟩
def HY(x:Q54):Option (Q54⊕(Q40⊕Empty)):=
 let(a,b,c,d,e,f,g,h,_):=x;cond (gtI (e.length:Nat) 0) ((az e.length 0).bind λj1=>(e[j1]?).bind λy2=>(ao c y2).bind λy3=>(GF (a,b,c,d,e,f,g,h,y3,(y3.length:Nat),0,())).bind (sw (λ(a_5,b_5,c_5,d_5,e_5,f_5,g_5,h_5,_)=>(gE e_5.length 1 (e_5.length:Nat)).bind λv6=>some (.inl (a_5,b_5,c_5,d_5,((e_5.drop v6.1).take v6.2),f_5,g_5,h_5,()))) (λ_=>none))) (some (.inr (.inl (a,b,c,d,f,g,h,()))))
def Gl:=ac HY
def Gn:Ann:=⟨sh [(1,.av (.ptr 1 0)),(3,.av (.own 3)),(4,.av (.val I)),(6,.av (.own 6)),(14,.av (.val I)),(15,.av (.val I))] [(1,.box [.val I,.val (.slice yQ2),.val aN]),(3,.arr .bool),(6,.arr I)],[(.exit 2,sh [(1,.av (.ptr 1 0)),(3,.av (.own 3)),(4,.av (.val I)),(14,.av (.val I)),(15,.av (.val I))] [(1,.box [.val I,.val (.slice yQ2),.val aN]),(3,.arr .bool)])],Gl⟩
def LK(x:Q40):Option (Q40⊕((Int×Unit)⊕Empty)):=
 let(a,b,c,d,e,f,g,_):=x;cond (ltI g f) ((az d.length g).bind λj1=>(d[j1]?).bind λy2=>cond y2 (some (.inl (a,b,c,d,e,f,(ae .i64 g 1),()))) ((az d.length g).bind λj3=>(d[j3]?).bind λy4=>(Gl (a,b,c,(d.set j3 true),[g],(ae .i64 e 1),f,g,())).bind (sw (λ(a_6,b_6,c_6,d_6,e_6,f_6,g_6,_)=>some (.inl (a_6,b_6,c_6,d_6,e_6,f_6,(ae .i64 g_6 1),()))) (λ_=>none)))) (some (.inr (.inl (e,()))))
def LO:=ac LK
def Le:Ann:=⟨sh [(1,.av (.ptr 1 0)),(3,.av (.own 3)),(4,.av (.val I)),(14,.av (.val I)),(15,.av (.val I))] [(1,.box [.val I,.val (.slice yQ2),.val aN]),(3,.arr .bool)],[(.exit 0,sh [(4,.av (.val I))] [])],LO⟩
def Zx(x:(Q25×Unit)):Option (Int×Unit):=
 let((a,b,c,_),_):=x;(dk .bool a a).bind λm1=>(LO (a,b,c,m1,0,a,0,())).bind (sw (λz3=>some (z3.1,())) (λ_=>none))
def Qn:Fn:=mkF (cx [AZ]) [(4,Le),(10,Gn),(13,Ec)] 178 Tryz.f178 [(.rd,cT)] [(.tmp 2,true,I)] Zx [lp 4 Le LK,lp 10 Gn HY,lp 13 Ec E6] seat_ok ab rfl
def Ig(x:Q50):Option (Q50⊕(Q32⊕Empty)):=
 let(a,b,c,d,e,f,g,_):=x;cond (ltI g f) ((ao e g).bind λy1=>cond (eqI (y1.length:Nat) 0) (some (.inl (a,b,c,(ae .i64 d 1),e,f,(ae .i64 g 1),()))) (some (.inl (a,b,c,d,e,f,(ae .i64 g 1),())))) (some (.inr (.inl (a,b,c,d,()))))
def EU:=ac Ig
def Eq:Ann:=⟨sh [(1,.av (.ptr 1 0)),(3,.av (.val I)),(13,.av (.val aN)),(14,.av (.val I)),(15,.av (.val I))] [(1,.box [.val I,.val (.slice yQ2),.val aN])],[(.exit 0,sh [(1,.av (.ptr 1 0)),(3,.av (.val I))] [(1,.box [.val I,.val (.slice yQ2),.val aN])])],EU⟩
def Zch(x:(Q25×Unit)):Option (Int×Unit):=
 let((a,b,c,_),_):=x;(Zca ((a,b,c,()),())).bind λr1=>cond (!r1.1) (some ((-1),())) ((Zcj ((a,b,c,()),())).bind λr2=>(EU (a,b,c,(r2.1.length:Nat),c,(c.length:Nat),0,())).bind (sw (λz4=>(Zx ((z4.1,z4.2.1,z4.2.2.1,()),())).bind λr5=>some ((aK .i64 r5.1 (fB .i64 (ae .i64 (aK .i64 z4.1 (z4.2.1.length:Nat)) z4.2.2.2.1) 2)),())) (λ_=>none)))
def IJ:Fn:=mkF (cx [mU,nn,Qn]) [(5,Eq)] 127 Tryz.f127 [(.rd,cT)] [(.tmp 2,true,I)] Zch [lp 5 Eq Ig] seat_ok ab rfl
def FS(x:Q92):Option (Q92⊕((Bool×Unit)⊕((Int×(List Q2)×(List (List Int))×List Int×List ByteArray×Int×List Int×Int×(List (List Int))×Int×Int×Unit)⊕Empty))):=
 let(a,b,c,d,e,f,g,h,i,k,l,m,n,o,_):=x;cond (ltI o n) ((ao m o).bind λy1=>(ao d y1).bind λy2=>cond (ltI y2 1) (some (.inr (.inl (false,())))) ((ao d y1).bind λy3=>cond (gtI y3 4) (some (.inr (.inl (false,())))) ((ao d y1).bind λy4=>some (.inl (a,b,c,d,e,f,g,(ae .i64 h y4),i,k,l,m,n,(ae .i64 o 1),()))))) (some (.inr (.inr (.inl (a,b,c,d,e,f,g,h,i,k,l,())))))
def FI:=ac FS
def FA:Ann:=⟨sh [(1,.av (.ptr 1 0)),(4,.av (.val (.slice I))),(5,.av (.val I)),(10,.av (.val aN)),(11,.av (.val I)),(12,.av (.val I)),(16,.av (.val (.slice I))),(17,.av (.val I)),(18,.av (.val I))] [(1,.box [.val I,.val (.slice yQ2),.val aN,.val (.slice I),.val (.slice .str),.val I])],[(.ret,sh [(2,.av (.val .bool))] []),(.exit 2,sh [(1,.av (.ptr 1 0)),(4,.av (.val (.slice I))),(5,.av (.val I)),(10,.av (.val aN)),(11,.av (.val I)),(12,.av (.val I))] [(1,.box [.val I,.val (.slice yQ2),.val aN,.val (.slice I),.val (.slice .str),.val I])])],FI⟩
def DM(x:Q76):Option (Q76⊕((Bool×Unit)⊕(Unit⊕Empty))):=
 let(a,b,c,d,e,f,g,h,i,_):=x;cond (ltI i h) ((ao g i).bind λy1=>(FI (a,b,c,d,e,f,y1,0,g,h,i,y1,(y1.length:Nat),0,())).bind (sw (λz3=>some (.inr (.inl (z3.1,())))) (sw (λ(a_4,b_4,c_4,d_4,e_4,f_4,g_4,h_4,i_4,k_4,l_4,_)=>cond (gtI (g_4.length:Nat) 0) (cond (neI h_4 4) (some (.inr (.inl (false,())))) (some (.inl (a_4,b_4,c_4,d_4,e_4,f_4,i_4,k_4,(ae .i64 l_4 1),())))) (some (.inl (a_4,b_4,c_4,d_4,e_4,f_4,i_4,k_4,(ae .i64 l_4 1),())))) (λ_=>none)))) (some (.inr (.inr (.inl ()))))
def FZ:=ac DM
def Gt:Ann:=⟨sh [(1,.av (.ptr 1 0)),(10,.av (.val aN)),(11,.av (.val I)),(12,.av (.val I))] [(1,.box [.val I,.val (.slice yQ2),.val aN,.val (.slice I),.val (.slice .str),.val I])],[(.ret,sh [(2,.av (.val .bool))] []),(.exit 0,sh [] [])],FZ⟩
def Zdm(x:(Q28×Unit)):Option (Bool×Unit):=
 let(((a,b,c,_),d,e,f,_),_):=x;(FZ (a,b,c,d,e,f,c,(c.length:Nat),0,())).bind (sw (λz2=>some (z2.1,())) (sw (λz3=>some (true,())) (λ_=>none)))
def PI:Fn:=mkF (cx []) [(2,Gt),(6,FA)] 128 Tryz.f128 [(.rd,bg)] [(.tmp 2,true,.bool)] Zdm [lp 2 Gt DM,lp 6 FA FS] seat_ok ab rfl
def Zcq(x:(Int×Unit)):Option (Int×Bool×Unit):=
 cond (eqI x.1 76) (some (82,true,())) (cond (eqI x.1 82) (some (76,true,())) (some (x.1,false,())))
def LL:Fn:=mkF (cx []) [] 179 Tryz.f179 [(.rd,(.int .u8))] [(.tmp 2,true,(.int .u8)),(.tmp 3,true,.bool)] Zcq [] seat_ok ab rfl
def Hx(x:Q12):Option (Q12⊕((Bool×Unit)⊕(Unit⊕Empty))):=
 let(a,b,c,_):=x;cond (ltI c b) ((az a.length c).bind λj1=>(a[j1]?).bind λy2=>(Zcq (y2,())).bind λr3=>cond (!r3.2.1) (some (.inr (.inl (false,())))) (some (.inl (a,b,(ae .i64 c 1),())))) (some (.inr (.inr (.inl ()))))
def Jp:=ac Hx
def DD:Ann:=⟨sh [(11,.av (.own 11)),(12,.av (.val I)),(13,.av (.val I))] [(11,.arr (.int .u8))],[(.ret,sh [(2,.av (.val .bool))] []),(.exit 0,sh [] [])],Jp⟩
def Zel(x:(ByteArray×Unit)):Option (Bool×Unit):=
 cond (gtI (x.1.size:Nat) 64) (some (false,())) ((Jp ((eF x.1),((eF x.1).length:Nat),0,())).bind (sw (λz2=>some (z2.1,())) (sw (λz3=>some (true,())) (λ_=>none))))
def PV:Fn:=mkF (cx [LL]) [(4,DD)] 129 Tryz.f129 [(.rd,.str)] [(.tmp 2,true,.bool)] Zel [lp 4 DD Hx] seat_ok ab rfl
def K4(x:Q12):Option (Q12⊕(Q1⊕Empty)):=
 let(a,b,c,_):=x;cond (ltI b c) ((az a.length c).bind λj1=>(a[j1]?).bind λy2=>(az a.length b).bind λj3=>(a[j3]?).bind λy4=>(az a.length b).bind λj5=>(a[j5]?).bind λy6=>(az (a.set j5 y2).length c).bind λj7=>((a.set j5 y2)[j7]?).bind λy8=>some (.inl (((a.set j5 y2).set j7 y4),(ae .i64 b 1),(aK .i64 c 1),()))) (some (.inr (.inl (a,()))))
def LC:=ac K4
def LD:Ann:=⟨⟨[(0,.av (.own 0)),(2,.av (.val I)),(3,.av (.val I))],[(0,.arr (.int .u8))],[0]⟩,[(.exit 0,⟨[(0,.av (.own 0))],[(0,.arr (.int .u8))],[0]⟩)],LC⟩
def Zz(x:Q1):Option Q1:=
 (LC (x.1,0,(aK .i64 (x.1.length:Nat) 1),())).bind (sw (λz2=>some (z2.1,())) (λ_=>none))
def Qr:Fn:=mkF (cx []) [(1,LD)] 180 Tryz.f180 [(.upd,(.slice (.int .u8)))] [] Zz [lp 1 LD K4] seat_ok ab rfl
def E1(x:Q12):Option (Q12⊕(Q1⊕Empty)):=
 let(a,b,c,_):=x;cond (ltI c b) ((az a.length c).bind λj1=>(a[j1]?).bind λy2=>(Zcq (y2,())).bind λr3=>(az a.length c).bind λj4=>(a[j4]?).bind λy5=>some (.inl ((a.set j4 r3.1),b,(ae .i64 c 1),()))) (some (.inr (.inl (a,()))))
def Dj:=ac E1
def He:Ann:=⟨sh [(3,.av (.own 3)),(10,.av (.own 3)),(11,.av (.val I)),(12,.av (.val I))] [(3,.arr (.int .u8))],[(.exit 0,sh [(3,.av (.own 3))] [(3,.arr (.int .u8))])],Dj⟩
def Zcr(x:(ByteArray×Unit)):Option (ByteArray×Unit):=
 (Zz ((eF x.1),())).bind λr1=>(Dj (r1.1,(r1.1.length:Nat),0,())).bind (sw (λz3=>some ((lF z3.1),())) (λ_=>none))
def Ph:Fn:=mkF (cx [LL,Qr]) [(4,He)] 130 Tryz.f130 [(.rd,.str)] [(.tmp 2,true,.str)] Zcr [lp 4 He E1] seat_ok ab rfl
def Dk(x:Q18):Option (Q18⊕((Int×Unit)⊕(Unit⊕Empty))):=
 let(a,b,c,d,_):=x;cond (ltI d c) ((ao a d).bind λy1=>cond (eqI b y1) (some (.inr (.inl (d,())))) (some (.inl (a,b,c,(ae .i64 d 1),())))) (some (.inr (.inr (.inl ()))))
def Ja:=ac Dk
def GZ:Ann:=⟨sh [(0,.av (.val (.slice I))),(1,.av (.val I)),(7,.av (.val I)),(8,.av (.val I))] [],[(.ret,sh [(4,.av (.val I))] []),(.exit 0,sh [] [])],Ja⟩
def Zba(x:Q6):Option (Int×Unit):=
 (Ja (x.1,x.2.1,(x.1.length:Nat),0,())).bind (sw (λz2=>some (z2.1,())) (sw (λz3=>some ((-1),())) (λ_=>none)))
def sJ:Fn:=mkF (cx []) [(2,GZ)] 102 Tryz.f102 [(.rd,(.slice I)),(.rd,I)] [(.tmp 4,true,I)] Zba [lp 2 GZ Dk] seat_ok ab rfl
def QV:Con:={ ins:=[(.rd,(.slice I)),(.rd,I)],outs:=[(true,I)],fn:=Zba }
def Zac(x:Q6):Option (Bool×Unit):=
 (Zba (x.1,x.2.1,())).bind λr1=>some ((geI r1.1 0),())
def Br:Fn:=mkF (cx [sJ]) [] 61 Tryz.f61 [(.rd,(.slice I)),(.rd,I)] [(.tmp 4,true,.bool)] Zac [] seat_ok ab rfl
def QY:Con:={ ins:=[(.rd,(.slice I)),(.rd,I)],outs:=[(true,.bool)],fn:=Zac }
def FO(x:Q18):Option (Q18⊕((Int×Unit)⊕Empty)):=
 let(a,b,c,d,_):=x;cond (ltI d c) ((az a.length d).bind λj1=>(a[j1]?).bind λy2=>cond (eqI y2 76) (some (.inl (a,(ae .i64 b 1),c,(ae .i64 d 1),()))) (some (.inl (a,(aK .i64 b 1),c,(ae .i64 d 1),())))) (some (.inr (.inl (b,()))))
def Jq:=ac FO
def Jf:Ann:=⟨sh [(5,.av (.val I)),(20,.av (.own 20)),(21,.av (.val I)),(22,.av (.val I))] [(20,.arr (.int .u8))],[(.exit 0,sh [(5,.av (.val I))] [])],Jq⟩
def Zeo(x:(Q28×Int×Unit)):Option (Int×Unit):=
 (ao x.1.2.1 (gw .i64 x.2.1 1)).bind λy1=>(ao x.1.2.2.1 x.2.1).bind λy2=>(Jq ((eF y2),(aK .i64 2 y1),((eF y2).length:Nat),0,())).bind (sw (λz4=>some (z4.1,())) (λ_=>none))
def O2:Fn:=mkF (cx []) [(3,Jf)] 181 Tryz.f181 [(.rd,bg),(.rd,I)] [(.tmp 4,true,I)] Zeo [lp 3 Jf FO] seat_ok ab rfl
def DC(x:Q72):Option (Q72⊕((Int×Unit)⊕Empty)):=
 let(a,b,c,d,e,f,g,h,i,k,_):=x;cond (ltI k i) ((ao h k).bind λy1=>(Zeo (((a,b,c,()),d,e,f,()),y1,())).bind λr2=>some (.inl (a,b,c,d,e,f,(ae .i64 g r2.1),h,i,(ae .i64 k 1),()))) (some (.inr (.inl (g,()))))
def ID:=ac DC
def Dh:Ann:=⟨sh [(2,.av (.ptr 2 0)),(5,.av (.val I)),(8,.av (.val (.slice I))),(9,.av (.val I)),(10,.av (.val I))] [(2,.box [.val I,.val (.slice yQ2),.val aN,.val (.slice I),.val (.slice .str),.val I])],[(.exit 0,sh [(5,.av (.val I))] [])],ID⟩
def Zeb(x:(Q28×List Int×Unit)):Option (Int×Unit):=
 let(((a,b,c,_),d,e,f,_),g,_):=x;(ID (a,b,c,d,e,f,0,g,(g.length:Nat),0,())).bind (sw (λz2=>some (z2.1,())) (λ_=>none))
def OW:Fn:=mkF (cx [O2]) [(3,Dh)] 131 Tryz.f131 [(.rd,bg),(.rd,(.slice I))] [(.tmp 4,true,I)] Zeb [lp 3 Dh DC] seat_ok ab rfl
def Ay(x:Q76):Option (Q76⊕((Bool×Unit)⊕(Unit⊕Empty))):=
 let(a,b,c,d,e,f,g,h,i,_):=x;cond (ltI i h) ((az g.length i).bind λj1=>(g[j1]?).bind λy2=>(Zac (y2,f,())).bind λr3=>cond r3.1 ((Zeb (((a,b,c,()),d,e,f,()),y2,())).bind λr4=>cond (neI r4.1 (-4)) (some (.inr (.inl (false,())))) (some (.inl (a,b,c,d,e,f,g,h,(ae .i64 i 1),())))) ((Zeb (((a,b,c,()),d,e,f,()),y2,())).bind λr5=>cond (neI r5.1 4) (some (.inr (.inl (false,())))) (some (.inl (a,b,c,d,e,f,g,h,(ae .i64 i 1),()))))) (some (.inr (.inr (.inl ()))))
def AU:=ac Ay
def AV:Ann:=⟨sh [(1,.av (.ptr 1 0)),(85,.av (.own 85)),(86,.av (.val I)),(87,.av (.val I))] [(1,.box [.val I,.val (.slice yQ2),.val aN,.val (.slice I),.val (.slice .str),.val I]),(85,.arr (.slice I))],[(.ret,sh [(2,.av (.val .bool))] []),(.exit 2,sh [] [])],AU⟩
def Ep(x:Q83):Option (Q83⊕((Bool×Unit)⊕((Int×(List Q2)×(List (List Int))×List Int×List ByteArray×Int×Int×(List Q2)×(List (List Int))×Unit)⊕Empty))):=
 let(a,b,c,d,e,f,g,h,i,k,l,_):=x;cond (ltI l k) ((ao e l).bind λy1=>(Zel (y1,())).bind λr2=>cond (!r2.1) (some (.inr (.inl (false,())))) ((ao e (ae .i64 l 1)).bind λy3=>(ao e l).bind λy4=>(Zcr (y4,())).bind λr5=>cond (neS y3 r5.1) (some (.inr (.inl (false,())))) (some (.inl (a,b,c,d,e,f,g,h,i,k,(ae .i64 l 2),()))))) (some (.inr (.inr (.inl (a,b,c,d,e,f,g,h,i,())))))
def Ge:=ac Ep
def Ie:Ann:=⟨sh [(1,.av (.ptr 1 0)),(3,.av (.ptr 3 0)),(4,.av (.val I)),(5,.av (.val I))] [(1,.box [.val I,.val (.slice yQ2),.val aN,.val (.slice I),.val (.slice .str),.val I]),(3,.box [.val I,.val (.slice yQ2),.val aN])],[(.ret,sh [(2,.av (.val .bool))] []),(.exit 0,sh [(1,.av (.ptr 1 0)),(3,.av (.ptr 3 0))] [(1,.box [.val I,.val (.slice yQ2),.val aN,.val (.slice I),.val (.slice .str),.val I]),(3,.box [.val I,.val (.slice yQ2),.val aN])])],Ge⟩
def Zdo(x:(Q28×Unit)):Option (Bool×Unit):=
 let(((a,b,c,_),d,e,f,_),_):=x;(Zca ((a,b,c,()),())).bind λr1=>cond (!r1.1) (some (false,())) ((Zbr ((a,b,c,()),())).bind λr2=>cond (!r2.1) (some (false,())) ((Zch ((a,b,c,()),())).bind λr3=>cond (neI r3.1 0) (some (false,())) (cond (neI (d.length:Nat) (aT .i64 2 (b.length:Nat))) (some (false,())) (cond (neI (e.length:Nat) (aT .i64 2 (b.length:Nat))) (some (false,())) (cond (ltI f 0) (some (false,())) (cond (geI f (cE (aT .i64 2 (b.length:Nat)) 1)) (some (false,())) ((Zdm (((a,b,c,()),d,e,f,()),())).bind λr4=>cond (!r4.1) (some (false,())) ((Ge (a,b,c,d,e,f,a,b,c,(aT .i64 2 (b.length:Nat)),0,())).bind (sw (λz6=>some (z6.1,())) (sw (λ(a_7,b_7,c_7,d_7,e_7,f_7,g_7,h_7,i_7,_)=>(Zcj ((g_7,h_7,i_7,()),())).bind λr8=>(AU (a_7,b_7,c_7,d_7,e_7,f_7,r8.1,(r8.1.length:Nat),0,())).bind (sw (λz10=>some (z10.1,())) (sw (λz11=>some (true,())) (λ_=>none)))) (λ_=>none)))))))))))
def LM:Fn:=mkF (cx [Br,mU,nn,Ow,IJ,PI,PV,Ph,OW]) [(8,Ie),(13,AV)] 84 Tryz.f84 [(.rd,bg)] [(.tmp 2,true,.bool)] Zdo [lp 8 Ie Ep,lp 13 AV Ay] seat_ok ab rfl
def Zea(x:(Q28×Unit)):Option (Int×Unit):=
 let(((a,b,c,_),d,e,f,_),_):=x;(Zdo (((a,b,c,()),d,e,f,()),())).bind λr1=>cond (!r1.1) (some (13,())) (some (0,()))
def zl:Fn:=mkF (cx [LM]) [] 68 Tryz.f68 [(.rd,bg)] [(.tmp 2,true,I)] Zea [] seat_ok ab rfl
def Fj(x:Q88):Option (Q88⊕(Q80⊕Empty)):=
 let(a,b,c,d,e,f,g,h,i,k,l,m,_):=x;(vE .unit (.prod .str I) h).bind λq1=>cond (mu q1) ((ao i q1.2).bind λy2=>(ao i (ae .i64 q1.2 1)).bind λy3=>(az g.length (ae .i64 y2 1)).bind λj4=>(g[j4]?).bind λy5=>(az (g.set j4 1).length y3).bind λj6=>((g.set j4 1)[j6]?).bind λy7=>cond (eqI (ld q1) 82) ((ao i q1.2).bind λy8=>(ao i (ae .i64 q1.2 1)).bind λy9=>(az ((g.set j4 1).set j6 3).length (ae .i64 y8 1)).bind λj10=>(((g.set j4 1).set j6 3)[j10]?).bind λy11=>(az (((g.set j4 1).set j6 3).set j10 3).length y9).bind λj12=>((((g.set j4 1).set j6 3).set j10 3)[j12]?).bind λy13=>some (.inl (a,b,c,d,e,f,((((g.set j4 1).set j6 3).set j10 3).set j12 1),[((),mq q1)],i,k,l,m,()))) (some (.inl (a,b,c,d,e,f,((g.set j4 1).set j6 3),[((),mq q1)],i,k,l,m,())))) (some (.inr (.inl (a,b,c,d,e,f,g,k,l,m,()))))
def HM:=ac Fj
def Ht:Ann:=⟨sh [(3,.av (.ptr 3 0)),(7,.av (.own 7)),(9,.av (.val (.slice I))),(15,.av (.val aN)),(16,.av (.val I)),(17,.av (.val I)),(55,.av (.ownm 55))] [(3,.box [.val I,.val (.slice yQ2),.val aN,.val (.slice I),.val (.slice .str),.val I]),(7,.arr I),(55,.map .unit (.prod .str I))],[(.exit 2,sh [(3,.av (.ptr 3 0)),(7,.av (.own 7)),(15,.av (.val aN)),(16,.av (.val I)),(17,.av (.val I))] [(3,.box [.val I,.val (.slice yQ2),.val aN,.val (.slice I),.val (.slice .str),.val I]),(7,.arr I)])],HM⟩
def EH(x:Q80):Option (Q80⊕(Q1⊕Empty)):=
 let(a,b,c,d,e,f,g,h,i,k,_):=x;cond (ltI k i) ((ao h k).bind λy1=>(ao y1 0).bind λy2=>(ao d (aT .i64 2 k)).bind λy3=>(az g.length y2).bind λj4=>(g[j4]?).bind λy5=>(ao y1 (aK .i64 (y1.length:Nat) 1)).bind λy6=>(ao d (ae .i64 (aT .i64 2 k) 1)).bind λy7=>(az (g.set j4 y3).length (ae .i64 y6 1)).bind λj8=>((g.set j4 y3)[j8]?).bind λy9=>(ao e (aT .i64 2 k)).bind λy10=>(HM (a,b,c,d,e,f,((g.set j4 y3).set j8 y7),[((),y10,0)],y1,h,i,k,())).bind (sw (λ(a_12,b_12,c_12,d_12,e_12,f_12,g_12,h_12,i_12,k_12,_)=>some (.inl (a_12,b_12,c_12,d_12,e_12,f_12,g_12,h_12,i_12,(ae .i64 k_12 1),()))) (λ_=>none))) (some (.inr (.inl (g,()))))
def Dq:=ac EH
def ES:Ann:=⟨sh [(3,.av (.ptr 3 0)),(7,.av (.own 7)),(15,.av (.val aN)),(16,.av (.val I)),(17,.av (.val I))] [(3,.box [.val I,.val (.slice yQ2),.val aN,.val (.slice I),.val (.slice .str),.val I]),(7,.arr I)],[(.exit 0,sh [(7,.av (.own 7))] [(7,.arr I)])],Dq⟩
def Zcg(x:(Q28×(List (List Int))×Int×Unit)):Option Q1:=
 let(((a,b,c,_),d,e,f,_),g,h,_):=x;(dk I (aT .i64 2 h) (aT .i64 2 h)).bind λm1=>(Dq (a,b,c,d,e,f,m1,g,(g.length:Nat),0,())).bind (sw (λz3=>some (z3.1,())) (λ_=>none))
def OS:Fn:=mkF (cx []) [(3,ES),(8,Ht)] 69 Tryz.f69 [(.rd,bg),(.rd,aN),(.rd,I)] [(.tmp 6,true,(.slice I))] Zcg [lp 3 ES EH,lp 8 Ht Fj] seat_ok ab rfl
def Zt(x:(Int×(List (List Int))×Unit)):Option (Int×Unit):=
 let(a,b,_):=x;cond (eqI (kk a 2) 0) ((ao b (fB .i64 a 2)).bind λy1=>(ao y1 0).bind λy2=>some (y2,())) ((ao b (fB .i64 a 2)).bind λy3=>(ao b (fB .i64 a 2)).bind λy4=>(ao y3 (aK .i64 (y4.length:Nat) 1)).bind λy5=>some ((ae .i64 y5 1),()))
def Qu:Fn:=mkF (cx []) [] 70 Tryz.f70 [(.rd,I),(.rd,(.ptr aN))] [(.tmp 3,true,I)] Zt [] seat_ok ab rfl
def zt(x:Q99):Option (Q99⊕((Int×(List Q2)×(List (List Int))×List Int×List ByteArray×Int×Int×Int×Int×Int×(List (List Int))×List Int×(List Q2)×(List (List Int))×List Int×(List (List Int))×(List (List Int))×Int×Int×Unit)⊕Empty)):=
 let(a,b,c,d,e,f,g,h,i,k,l,m,n,o,p,q,s,t,u,w,w0,w1,_):=x;cond (ltI w1 w0) ((ao w w1).bind λy1=>(Zt (y1,q,())).bind λr2=>(app m [r2.1]).bind λa3=>some (.inl (a,b,c,d,e,f,g,h,i,k,l,a3,n,o,p,q,s,t,u,w,w0,(ae .i64 w1 1),()))) (some (.inr (.inl (a,b,c,d,e,f,g,h,i,k,l,m,n,o,p,q,s,t,u,()))))
def zV:=ac zt
def zO:Ann:=⟨sh [(1,.av (.ptr 1 0)),(2,.av (.ptr 2 0)),(5,.av (.ptr 5 0)),(6,.av (.ptr 6 0)),(7,.av (.own 7)),(14,.av (.clo 70 [6])),(17,.av (.own 17)),(123,.av (.val aN)),(124,.av (.val I)),(125,.av (.val I)),(129,.av (.val (.slice I))),(130,.av (.val I)),(131,.av (.val I))] [(1,.box [.val I,.val (.slice yQ2),.val aN,.val (.slice I),.val (.slice .str),.val I]),(2,.box [.val I,.nils,.nils,.nils,.nils,.val I]),(5,.box [.val I,.own 600001,.own 600002,.own 600003,.nils,.val I]),(6,.box [.own 700000]),(7,.arr (.slice I)),(17,.arr I),(600001,.arr yQ2),(600002,.arr (.slice I)),(600003,.arr I),(700000,.arr (.slice I))],[(.exit 6,sh [(1,.av (.ptr 1 0)),(2,.av (.ptr 2 0)),(5,.av (.ptr 5 0)),(6,.av (.ptr 6 0)),(7,.av (.own 7)),(14,.av (.clo 70 [6])),(17,.av (.own 17)),(123,.av (.val aN)),(124,.av (.val I)),(125,.av (.val I))] [(1,.box [.val I,.val (.slice yQ2),.val aN,.val (.slice I),.val (.slice .str),.val I]),(2,.box [.val I,.nils,.nils,.nils,.nils,.val I]),(5,.box [.val I,.own 600001,.own 600002,.own 600003,.nils,.val I]),(6,.box [.own 700000]),(7,.arr (.slice I)),(17,.arr I),(600001,.arr yQ2),(600002,.arr (.slice I)),(600003,.arr I),(700000,.arr (.slice I))])],zV⟩
def yL(x:Q98):Option (Q98⊕((Int×(List Q2)×(List (List Int))×List Int×List ByteArray×Int×Int×Int×Int×Int×(List (List Int))×(List Q2)×(List (List Int))×List Int×(List (List Int))×Unit)⊕Empty)):=
 let(a,b,c,d,e,f,g,h,i,k,l,m,n,o,p,q,s,t,_):=x;cond (ltI t s) ((ao q t).bind λy1=>(zV (a,b,c,d,e,f,g,h,i,k,l,[],m,n,o,p,q,s,t,y1,(y1.length:Nat),0,())).bind (sw (λ(a_3,b_3,c_3,d_3,e_3,f_3,g_3,h_3,i_3,k_3,l_3,m_3,n_3,o_3,p_3,q_3,s_3,t_3,u_3,_)=>(app o_3 [m_3]).bind λa4=>some (.inl (a_3,b_3,c_3,d_3,e_3,f_3,g_3,h_3,i_3,k_3,l_3,n_3,a4,p_3,q_3,s_3,t_3,(ae .i64 u_3 1),()))) (λ_=>none))) (some (.inr (.inl (a,b,c,d,e,f,g,h,i,k,l,m,n,o,p,()))))
def AY:=ac yL
def zY:Ann:=⟨sh [(1,.av (.ptr 1 0)),(2,.av (.ptr 2 0)),(5,.av (.ptr 5 0)),(6,.av (.ptr 6 0)),(7,.av (.own 7)),(14,.av (.clo 70 [6])),(123,.av (.val aN)),(124,.av (.val I)),(125,.av (.val I))] [(1,.box [.val I,.val (.slice yQ2),.val aN,.val (.slice I),.val (.slice .str),.val I]),(2,.box [.val I,.nils,.nils,.nils,.nils,.val I]),(5,.box [.val I,.own 600001,.own 600002,.own 600003,.nils,.val I]),(6,.box [.own 700000]),(7,.arr (.slice I)),(600001,.arr yQ2),(600002,.arr (.slice I)),(600003,.arr I),(700000,.arr (.slice I))],[(.exit 4,sh [(1,.av (.ptr 1 0)),(2,.av (.ptr 2 0)),(5,.av (.ptr 5 0)),(6,.av (.ptr 6 0)),(7,.av (.own 7)),(14,.av (.clo 70 [6]))] [(1,.box [.val I,.val (.slice yQ2),.val aN,.val (.slice I),.val (.slice .str),.val I]),(2,.box [.val I,.nils,.nils,.nils,.nils,.val I]),(5,.box [.val I,.own 600001,.own 600002,.own 600003,.nils,.val I]),(6,.box [.own 700000]),(7,.arr (.slice I)),(600001,.arr yQ2),(600002,.arr (.slice I)),(600003,.arr I),(700000,.arr (.slice I))])],AY⟩
def AH(x:Q97):Option (Q97⊕((Int×(List Q2)×(List (List Int))×List Int×List ByteArray×Int×Int×Int×Int×Int×(List (List Int))×Int×Int×List Int×(List Q2)×(List (List Int))×Int×(List Q2)×Int×Int×Unit)⊕Empty)):=
 let(a,b,c,d,e,f,g,h,i,k,l,m,n,o,p,q,s,t,u,w,w0,_):=x;(vE .unit (.prod .str I) p).bind λq1=>cond (mu q1) ((app o [(aT .i64 2 (q.length:Nat))]).bind λa2=>(app q [(t,i,())]).bind λa3=>(app l [[(ae .i64 (aT .i64 2 (q.length:Nat)) 1),(ae .i64 (aT .i64 2 (q.length:Nat)) 2)]]).bind λa4=>some (.inl (a,b,c,d,e,f,g,h,(ae .i64 i 1),k,a4,m,n,a2,[((),mq q1)],a3,s,i,u,w,w0,()))) (some (.inr (.inl (a,b,c,d,e,f,g,h,i,k,l,m,n,o,q,s,t,u,w,w0,()))))
def Bw:=ac AH
def Ad:Ann:=⟨sh [(1,.av (.ptr 1 0)),(2,.av (.ptr 2 0)),(5,.av (.ptr 5 0)),(6,.av (.ptr 6 0)),(7,.av (.own 7)),(9,.av (.ptr 9 0)),(10,.av (.val I)),(11,.av (.own 11)),(31,.av (.val (.slice yQ2))),(32,.av (.val I)),(33,.av (.val I)),(46,.av (.ownm 46))] [(1,.box [.val I,.val (.slice yQ2),.val aN,.val (.slice I),.val (.slice .str),.val I]),(2,.box [.val I,.nils,.nils,.nils,.nils,.val I]),(5,.box [.val I,.own 600001,.nils,.nils,.nils,.val I]),(6,.box [.own 700000]),(7,.arr (.slice I)),(9,.box [.val I,.val I]),(11,.arr I),(46,.map .unit (.prod .str I)),(600001,.arr yQ2),(700000,.arr (.slice I))],[(.exit 2,sh [(1,.av (.ptr 1 0)),(2,.av (.ptr 2 0)),(5,.av (.ptr 5 0)),(6,.av (.ptr 6 0)),(7,.av (.own 7)),(9,.av (.ptr 9 0)),(10,.av (.val I)),(11,.av (.own 11)),(31,.av (.val (.slice yQ2))),(32,.av (.val I)),(33,.av (.val I))] [(1,.box [.val I,.val (.slice yQ2),.val aN,.val (.slice I),.val (.slice .str),.val I]),(2,.box [.val I,.nils,.nils,.nils,.nils,.val I]),(5,.box [.val I,.own 600001,.nils,.nils,.nils,.val I]),(6,.box [.own 700000]),(7,.arr (.slice I)),(9,.box [.val I,.val I]),(11,.arr I),(600001,.arr yQ2),(700000,.arr (.slice I))])],Bw⟩
def Hr(x:Q96):Option (Q96⊕((Int×(List Q2)×(List (List Int))×List Int×List ByteArray×Int×Int×Int×Int×Int×(List (List Int))×(List Q2)×(List (List Int))×Unit)⊕Empty)):=
 let(a,b,c,d,e,f,g,h,i,k,l,m,n,o,p,q,_):=x;cond (ltI q p) ((ao o q).bind λy1=>(ao e (aT .i64 2 q)).bind λy2=>(Bw (a,b,c,d,e,f,g,h,i,k,l,y1.1,y1.2.1,[],[((),y2,0)],m,n,y1.1,o,p,q,())).bind (sw (λ(a_4,b_4,c_4,d_4,e_4,f_4,g_4,h_4,i_4,k_4,l_4,_,m_4,n_4,o_4,p_4,q_4,s_4,t_4,u_4,_)=>(app n_4 [(aT .i64 2 (o_4.length:Nat))]).bind λa5=>(app o_4 [(q_4,m_4,())]).bind λa6=>(app p_4 [a5]).bind λa7=>some (.inl (a_4,b_4,c_4,d_4,e_4,f_4,g_4,h_4,i_4,k_4,l_4,a6,a7,s_4,t_4,(ae .i64 u_4 1),()))) (λ_=>none))) (some (.inr (.inl (a,b,c,d,e,f,g,h,i,k,l,m,n,()))))
def FX:=ac Hr
def Dv:Ann:=⟨sh [(1,.av (.ptr 1 0)),(2,.av (.ptr 2 0)),(5,.av (.ptr 5 0)),(6,.av (.ptr 6 0)),(7,.av (.own 7)),(31,.av (.val (.slice yQ2))),(32,.av (.val I)),(33,.av (.val I))] [(1,.box [.val I,.val (.slice yQ2),.val aN,.val (.slice I),.val (.slice .str),.val I]),(2,.box [.val I,.nils,.nils,.nils,.nils,.val I]),(5,.box [.val I,.own 600001,.nils,.nils,.nils,.val I]),(6,.box [.own 700000]),(7,.arr (.slice I)),(600001,.arr yQ2),(700000,.arr (.slice I))],[(.exit 0,sh [(1,.av (.ptr 1 0)),(2,.av (.ptr 2 0)),(5,.av (.ptr 5 0)),(6,.av (.ptr 6 0)),(7,.av (.own 7))] [(1,.box [.val I,.val (.slice yQ2),.val aN,.val (.slice I),.val (.slice .str),.val I]),(2,.box [.val I,.nils,.nils,.nils,.nils,.val I]),(5,.box [.val I,.own 600001,.nils,.nils,.nils,.val I]),(6,.box [.own 700000]),(7,.arr (.slice I)),(600001,.arr yQ2),(700000,.arr (.slice I))])],FX⟩
def Zad(x:(Q28×Unit)):Option (Q28×(List (List Int))×Int×Unit):=
 let(((a,b,c,_),d,e,f,_),_):=x;(Zea (((a,b,c,()),d,e,f,()),())).bind λr1=>cond (neI r1.1 0) (some (((0,[],[],()),[],[],0,()),[],13,())) ((FX (a,b,c,d,e,f,0,0,a,0,[],[],[],b,(b.length:Nat),0,())).bind (sw (λ(a_3,b_3,c_3,d_3,e_3,f_3,g_3,h_3,i_3,k_3,l_3,m_3,n_3,_)=>(Zcg (((a_3,b_3,c_3,()),d_3,e_3,f_3,()),n_3,(m_3.length:Nat),())).bind λr4=>(AY (a_3,b_3,c_3,d_3,e_3,f_3,g_3,h_3,i_3,k_3,l_3,m_3,[],r4.1,n_3,c_3,(c_3.length:Nat),0,())).bind (sw (λ(_,a_6,_,_,_,b_6,_,_,c_6,d_6,e_6,f_6,g_6,h_6,i_6,_)=>(app g_6 e_6).bind λa7=>(dk .str (aT .i64 2 (f_6.length:Nat)) (aT .i64 2 (f_6.length:Nat))).bind λm8=>cond (gtI (a_6.length:Nat) 0) ((Zt (b_6,i_6,())).bind λr9=>some (((c_6,f_6,a7,()),h_6,m8,r9.1,()),i_6,0,())) (some (((c_6,f_6,a7,()),h_6,m8,d_6,()),i_6,0,()))) (λ_=>none))) (λ_=>none)))
def O0:Fn:=mkF { cx [zl,OS,Qu]with light:=[41],vars:=[2] } [(7,Dv),(12,Ad),(27,zY),(31,zO)] 29 Tryz.f29 [(.rd,bg)] [(.cell 2 67,true,bg),(.tmp 3,true,aN),(.tmp 4,true,I)] Zad [lp 7 Dv Hr,lp 12 Ad AH,lp 27 zY yL,lp 31 zO zt] seat_ok ab rfl
def Rp:Con:={ ins:=[(.rd,bg)],outs:=[(true,bg),(true,aN),(true,I)],fn:=Zad }
def Fh(x:Q57):Option (Q57⊕((Int×Unit)⊕Empty)):=
 let(a,b,c,d,e,f,g,h,_):=x;cond (ltI h (e.length:Nat)) ((ao e h).bind λy1=>some (.inl (a,b,c,d,e,f,(ae .i64 g (y1.size:Nat)),(ae .i64 h 2),()))) (some (.inr (.inl (g,()))))
def Hd:=ac Fh
def IY:Ann:=⟨sh [(1,.av (.ptr 1 0)),(3,.av (.val I)),(4,.av (.val I))] [(1,.box [.val I,.val (.slice yQ2),.val aN,.val (.slice I),.val (.slice .str),.val I])],[(.exit 0,sh [(3,.av (.val I))] [])],Hd⟩
def Zec(x:(Q28×Unit)):Option (Int×Unit):=
 let(((a,b,c,_),d,e,f,_),_):=x;(Zdo (((a,b,c,()),d,e,f,()),())).bind λr1=>cond (!r1.1) (some (0,())) ((Hd (a,b,c,d,e,f,0,0,())).bind (sw (λz3=>some (z3.1,())) (λ_=>none)))
def Jw:Fn:=mkF (cx [LM]) [(5,IY)] 35 Tryz.f35 [(.rd,bg)] [(.tmp 2,true,I)] Zec [lp 5 IY Fh] seat_ok ab rfl
def QQ:Con:={ ins:=[(.rd,bg)],outs:=[(true,I)],fn:=Zec }
def Zcf(x:Unit):Option (Q28×Unit):=
 (dk .str 8 8).bind λm1=>some (((4,[(0,1,()),(1,2,()),(2,3,()),(3,0,())],[[0,7],[2,1],[4,3],[6,5]],()),[3,1,3,1,3,1,3,1],m1,1,()),())
def OP:Fn:=mkF (cx []) [] 71 Tryz.f71 [] [(.cell 0 67,true,bg)] Zcf [] seat_ok ab rfl
def Zcw(x:Q26):Option (Int×Unit):=
 let((a,b,c,_),d,_):=x;(Zca ((a,b,c,()),())).bind λr1=>cond (!r1.1) (some ((-1),())) (cond (ltI d 0) (some ((-1),())) (cond (geI d (aT .i64 2 (b.length:Nat))) (some ((-1),())) ((ao b (fB .i64 d 2)).bind λy2=>(Zcs (y2,(gw .i64 (kk d 2) 1),())).bind λr3=>(ao c r3.1).bind λy4=>(Zba (y4,(gw .i64 d 1),())).bind λr5=>cond (eqI (y4.length:Nat) 0) none ((ao y4 (kk (ae .i64 r5.1 1) (y4.length:Nat))).bind λy6=>some (y6,())))))
def FQ:Fn:=mkF (cx [sJ,nn,AZ]) [] 115 Tryz.f115 [(.rd,cT),(.rd,I)] [(.tmp 4,true,I)] Zcw [] seat_ok ab rfl
def Em(x:(Int×(List Q2)×(List (List Int))×Int×Int×Int×Unit)):Option ((Int×(List Q2)×(List (List Int))×Int×Int×Int×Unit)⊕((Bool×Unit)⊕Empty)):=
 let(a,b,c,d,e,f,_):=x;cond (eqI f e) (some (.inr (.inl (true,())))) ((Zcw ((a,b,c,()),f,())).bind λr1=>cond (eqI r1.1 d) (some (.inr (.inl (false,())))) (some (.inl (a,b,c,d,e,r1.1,()))))
def EX:=ac Em
def Gp:Ann:=⟨sh [(1,.av (.val I)),(2,.av (.val I)),(3,.av (.ptr 3 0)),(7,.av (.val I))] [(3,.box [.val I,.val (.slice yQ2),.val aN])],[(.ret,sh [(6,.av (.val .bool))] [])],EX⟩
def Zbg(x:Q27):Option (Bool×Unit):=
 let((a,b,c,_),d,e,_):=x;(EX (a,b,c,d,e,d,())).bind (sw (λz2=>some (z2.1,())) (λ_=>none))
def PM:Fn:=mkF (cx [FQ]) [(2,Gp)] 114 Tryz.f114 [(.rd,cT),(.rd,I),(.rd,I)] [(.tmp 6,true,.bool)] Zbg [lp 2 Gp Em] seat_ok ab rfl
def Zbk(x:Q4):Option Q4:=
 cond x.1.isEmpty (lW (some ([],())) ((app [] x.1).bind λa1=>some (a1,()))) ((app [] x.1).bind λa1=>some (a1,()))
def Zbk_h:Fn:=mkF (cx []) [] 99 Tryz.f99 [(.rd,(.slice yQ2))] [(.tmp 2,true,(.slice yQ2))] Zbk [] seat_ok ab rfl
def Zbk_c:Con:={ ins:=[(.rd,(.slice yQ2))],outs:=[(true,(.slice yQ2))],fn:=Zbk }
theorem CI:Con.Holds Tryz.prog glob 99 Zbk_c:=Zbk_h.ok
def Zq(x:Q11):Option Q11:=
 cond x.1.isEmpty (lW (some ([],())) ((app [] x.1).bind λa1=>some (a1,()))) ((app [] x.1).bind λa1=>some (a1,()))
def Qm:Fn:=mkF (cx []) [] 117 Tryz.f117 [(.rd,aN)] [(.tmp 2,true,aN)] Zq [] seat_ok ab rfl
def Zbb(x:Q1):Option Q1:=
 cond x.1.isEmpty (lW (some ([],())) ((app [] x.1).bind λa1=>some (a1,()))) ((app [] x.1).bind λa1=>some (a1,()))
def Zbb_h:Fn:=mkF (cx []) [] 64 Tryz.f64 [(.rd,(.slice I))] [(.tmp 2,true,(.slice I))] Zbb [] seat_ok ab rfl
def Zbb_c:Con:={ ins:=[(.rd,(.slice I))],outs:=[(true,(.slice I))],fn:=Zbb }
theorem Ct:Con.Holds Tryz.prog glob 64 Zbb_c:=Zbb_h.ok
def Zaw(x:(List Int×Int×List Int×Unit)):Option Q1:=insertC.fn x
def Lj:Fn:=⟨175,insertC,Cg glob⟩
def Zdy(x:Q12):Option Q1:=
 (Zbb (x.1,())).bind λr1=>(Zba (x.1,x.2.2.1,())).bind λr2=>(Zaw (r1.1,r2.1,[x.2.1],())).bind λr3=>some (r3.1,())
def Pp:Fn:=mkF (cx [Zbb_h,sJ,Lj]) [] 118 Tryz.f118 [(.rd,(.slice I)),(.rd,I),(.rd,I)] [(.tmp 6,true,(.slice I))] Zdy [] seat_ok ab rfl
def Ee(x:Q75):Option (Q75⊕((Int×(List Q2)×(List (List Int))×List Int×List ByteArray×Int×Int×Int×Int×Unit)⊕Empty)):=
 let(a,b,c,d,e,f,g,h,i,k,l,_):=x;cond (ltI l k) ((ao d (gw .i64 l 1)).bind λy1=>cond (gtI y1 2) ((Zbg ((a,b,c,()),l,f,())).bind λr2=>cond r2.1 (some (.inr (.inl (a,b,c,d,e,f,g,h,l,())))) (some (.inl (a,b,c,d,e,f,g,h,i,k,(ae .i64 l 1),())))) (some (.inl (a,b,c,d,e,f,g,h,i,k,(ae .i64 l 1),())))) (some (.inr (.inl (a,b,c,d,e,f,g,h,i,()))))
def D6:=ac Ee
def Jg:Ann:=⟨sh [(1,.av (.ptr 1 0)),(2,.av (.ptr 2 0)),(3,.av (.val I)),(13,.av (.val I)),(14,.av (.val I))] [(1,.box [.val I,.val (.slice yQ2),.val aN,.val (.slice I),.val (.slice .str),.val I]),(2,.box [.val I,.nils,.nils,.nils,.nils,.val I])],[(.exit 0,sh [(1,.av (.ptr 1 0)),(2,.av (.ptr 2 0)),(3,.av (.val I))] [(1,.box [.val I,.val (.slice yQ2),.val aN,.val (.slice I),.val (.slice .str),.val I]),(2,.box [.val I,.nils,.nils,.nils,.nils,.val I])])],D6⟩
def Zbu(x:(Q28×Unit)):Option (Q28×Unit):=
 let(((a,b,c,_),d,e,f,_),_):=x;(D6 (a,b,c,d,e,f,0,0,(-1),(d.length:Nat),0,())).bind (sw (λ(a_2,b_2,c_2,d_2,_,_,_,_,e_2,_)=>(Zcw ((a_2,b_2,c_2,()),e_2,())).bind λr3=>(Zcx ((a_2,b_2,c_2,()),r3.1,())).bind λr4=>(Zbk (b_2,())).bind λr5=>(Zq (c_2,())).bind λr6=>(Zbb (d_2,())).bind λr7=>(app r5.1 [(r4.1,a_2,()),(a_2,(ae .i64 a_2 1),()),((ae .i64 a_2 1),(ae .i64 a_2 2),()),((ae .i64 a_2 2),(ae .i64 a_2 3),()),((ae .i64 a_2 3),(ae .i64 a_2 4),()),((ae .i64 a_2 4),a_2,())]).bind λa8=>(ao c_2 r4.1).bind λy9=>(Zdy (y9,(aT .i64 2 (b_2.length:Nat)),r3.1,())).bind λr10=>(az r6.1.length r4.1).bind λj11=>(r6.1[j11]?).bind λy12=>(ao d_2 (gw .i64 e_2 1)).bind λy13=>(az r7.1.length (gw .i64 e_2 1)).bind λj14=>(r7.1[j14]?).bind λy15=>(app (r6.1.set j11 r10.1) [[(ae .i64 (aT .i64 2 (b_2.length:Nat)) 2),(ae .i64 (aT .i64 2 (b_2.length:Nat)) 11),(ae .i64 (aT .i64 2 (b_2.length:Nat)) 1)],[(ae .i64 (aT .i64 2 (b_2.length:Nat)) 3),(ae .i64 (aT .i64 2 (b_2.length:Nat)) 4)],[(ae .i64 (aT .i64 2 (b_2.length:Nat)) 5),(ae .i64 (aT .i64 2 (b_2.length:Nat)) 6)],[(ae .i64 (aT .i64 2 (b_2.length:Nat)) 7),(ae .i64 (aT .i64 2 (b_2.length:Nat)) 8)],[(ae .i64 (aT .i64 2 (b_2.length:Nat)) 9),(ae .i64 (aT .i64 2 (b_2.length:Nat)) 10)]]).bind λa16=>(app (r7.1.set j14 2) [(aK .i64 y13 2),1,2,1,3,1,3,1,3,1,3,1]).bind λa17=>(dk .str (a17.length:Nat) (a17.length:Nat)).bind λm18=>some ((((ae .i64 a_2 5),a8,a16,()),a17,m18,(ae .i64 (aT .i64 2 (b_2.length:Nat)) 3),()),())) (λ_=>none))
def LU:Fn:=mkF (cx [Zbb_h,Zbk_h,PM,FQ,ve,Qm,Pp]) [(3,Jg)] 72 Tryz.f72 [(.rd,bg)] [(.cell 2 67,true,bg)] Zbu [lp 3 Jg Ee] seat_ok ab rfl
def Zbd(x:(Int×Q28×Unit)):Option (Bool×Unit):=
 (ao x.2.1.2.1 (gw .i64 x.1 1)).bind λy1=>some ((gtI y1 2),())
def PH:Fn:=mkF (cx []) [] 120 Tryz.f120 [(.rd,I),(.rd,(.ptr bg))] [(.tmp 3,true,.bool)] Zbd [] seat_ok ab rfl
def LR(x:(List Int×(Q28×Unit)×Int×Int×Unit)):Option ((List Int×(Q28×Unit)×Int×Int×Unit)⊕((Int×Unit)⊕(Unit⊕Empty))):=
 let(a,b,c,d,_):=x;cond (ltI d c) ((ao a d).bind λy1=>(Zbd (y1,b.1,())).bind λr2=>cond r2.1 (some (.inr (.inl (d,())))) (some (.inl (a,b,c,(ae .i64 d 1),())))) (some (.inr (.inr (.inl ()))))
def Ld:=ac LR
def KQ:Ann:=⟨sh [(0,.av (.val (.slice I))),(1,.av (.val (.clo 120 (.prod (.ptr bg) .unit)))),(7,.av (.val I)),(8,.av (.val I))] [],[(.ret,sh [(4,.av (.val I))] []),(.exit 0,sh [] [])],Ld⟩
def Zc(x:(List Int×(Q28×Unit)×Unit)):Option (Int×Unit):=
 (Ld (x.1,x.2.1,(x.1.length:Nat),0,())).bind (sw (λz2=>some (z2.1,())) (sw (λz3=>some ((-1),())) (λ_=>none)))
def QB:Fn:=mkF (cx [PH]) [(2,KQ)] 119 Tryz.f119 [(.rd,(.slice I)),(.rd,(.clo 120 (.prod (.ptr bg) .unit)))] [(.tmp 4,true,I)] Zc [lp 2 KQ LR] seat_ok ab rfl
def Zcl(x:(Q28×List Int×Unit)):Option (Int×Unit):=
 let(((a,b,c,_),d,e,f,_),g,_):=x;(Zc (g,(((a,b,c,()),d,e,f,()),()),())).bind λr1=>some (r1.1,())
def Ll:Fn:=mkF (cx [QB]) [] 73 Tryz.f73 [(.rd,bg),(.rd,(.slice I))] [(.tmp 4,true,I)] Zcl [] seat_ok ab rfl
def GJ(x:Q51):Option (Q51⊕((Int×Int×(List Q2)×(List (List Int))×Unit)⊕Empty)):=
 let(a,b,c,d,e,f,g,_):=x;cond (ltI g f) ((ao e g).bind λy1=>(Zbb (y1,())).bind λr2=>(app d [r2.1]).bind λa3=>some (.inl (a,b,c,a3,e,f,(ae .i64 g 1),()))) (some (.inr (.inl (a,b,c,d,()))))
def D8:=ac GJ
def Ho:Ann:=⟨sh [(2,.av (.ptr 2 0)),(3,.av (.ptr 3 0)),(13,.av (.val aN)),(14,.av (.val I)),(15,.av (.val I))] [(2,.box [.val I,.nils,.nils]),(3,.box [.val I,.own 400001,.ownd 400002]),(400001,.arr yQ2),(400002,.deep I)],[(.exit 0,sh [(2,.av (.ptr 2 0)),(3,.av (.ptr 3 0))] [(2,.box [.val I,.nils,.nils]),(3,.box [.val I,.own 400001,.ownd 400002]),(400001,.arr yQ2),(400002,.deep I)])],D8⟩
def Zcu(x:(Q25×Unit)):Option (Q25×Unit):=
 let((a,b,c,_),_):=x;(Zbk (b,())).bind λr1=>(D8 (0,a,r1.1,[],c,(c.length:Nat),0,())).bind (sw (λz3=>some ((z3.2.1,z3.2.2.1,z3.2.2.2.1,()),())) (λ_=>none))
def KU:Fn:=mkF { cx [Zbb_h,Zbk_h]with deep:=[23] } [(3,Ho)] 154 Tryz.f154 [(.rd,cT)] [(.cell 2 59,true,cT)] Zcu [lp 3 Ho GJ] seat_ok ab rfl (d:=true)
def Zdd(x:Q26):Option Q26:=
 let((a,b,c,_),d,_):=x;(Zca ((a,b,c,()),())).bind λr1=>cond (!r1.1) (some ((0,[],[],()),13,())) (cond (ltI d 0) (some ((0,[],[],()),3,())) (cond (geI d (b.length:Nat)) (some ((0,[],[],()),3,())) (cond (geI a 16384) (some ((0,[],[],()),2,())) (cond (geI (b.length:Nat) 32768) (some ((0,[],[],()),2,())) ((Zcu ((a,b,c,()),())).bind λr2=>(ao b d).bind λy3=>(az r2.1.2.1.length d).bind λj4=>(r2.1.2.1[j4]?).bind λy5=>(app (r2.1.2.1.set j4 (y5.1,a,y5.2.2)) [(a,y3.2.1,())]).bind λa6=>(az r2.1.2.2.1.length y3.2.1).bind λj7=>(Zba ((ji r2.1.2.2.1 j7),(ae .i64 (aT .i64 2 d) 1),())).bind λr8=>(az (ji r2.1.2.2.1 j7).length r8.1).bind λj9=>(app (r2.1.2.2.1.set j7 ((ji r2.1.2.2.1 j7).set j9 (ae .i64 (aT .i64 2 (b.length:Nat)) 1))) [[(ae .i64 (aT .i64 2 d) 1),(aT .i64 2 (b.length:Nat))]]).bind λa10=>some (((ae .i64 r2.1.1 1),a6,a10,()),0,()))))))
def LF:Fn:=mkF { cx [sJ,nn,KU]with deep:=[87] } [] 104 Tryz.f104 [(.rd,cT),(.rd,I)] [(.cell 4 59,true,cT),(.tmp 5,true,I)] Zdd [] seat_ok ab rfl (d:=true)
def Zbi(x:Q10):Option (Int×Unit):=
 cond (eqI x.1 (ae .i64 (aT .i64 2 x.2.1) 1)) (some ((ae .i64 x.2.2.1 1),())) (some (x.1,()))
def P3:Fn:=mkF (cx []) [] 121 Tryz.f121 [(.rd,I),(.rd,(.ptr I)),(.rd,(.ptr I))] [(.tmp 4,true,I)] Zbi [] seat_ok ab rfl
def Hp(x:Q45):Option (Q45⊕(Q31⊕Empty)):=
 let(a,b,c,d,e,f,g,h,_):=x;cond (ltI h g) ((ao f h).bind λy1=>(az a.length y1).bind λj2=>(a[j2]?).bind λy3=>some (.inl ((a.set j2 c),b,c,d,e,f,g,(ae .i64 h 1),()))) (some (.inr (.inl (a,b,d,e,()))))
def DP:=ac Hp
def Jj:Ann:=⟨sh [(3,.av (.own 3)),(4,.av (.val I)),(14,.av (.own 14)),(15,.av (.val I)),(16,.av (.val I)),(21,.av (.val (.slice I))),(22,.av (.val I)),(23,.av (.val I))] [(3,.arr I),(14,.arr (.slice I))],[(.exit 2,sh [(3,.av (.own 3)),(14,.av (.own 14)),(15,.av (.val I)),(16,.av (.val I))] [(3,.arr I),(14,.arr (.slice I))])],DP⟩
def II(x:Q31):Option (Q31⊕(Q1⊕Empty)):=
 let(a,b,c,d,_):=x;cond (ltI d c) ((az b.length d).bind λj1=>(b[j1]?).bind λy2=>(DP (a,b,d,c,d,y2,(y2.length:Nat),0,())).bind (sw (λz4=>some (.inl (z4.1,z4.2.1,z4.2.2.1,(ae .i64 z4.2.2.2.1 1),()))) (λ_=>none))) (some (.inr (.inl (a,()))))
def FD:=ac II
def Fl:Ann:=⟨sh [(3,.av (.own 3)),(14,.av (.own 14)),(15,.av (.val I)),(16,.av (.val I))] [(3,.arr I),(14,.arr (.slice I))],[(.exit 0,sh [(3,.av (.own 3))] [(3,.arr I)])],FD⟩
def Zdi(x:(Q25×Unit)):Option Q1:=
 let((a,b,c,_),_):=x;(dk I (aT .i64 2 (b.length:Nat)) (aT .i64 2 (b.length:Nat))).bind λm1=>(Zcj ((a,b,c,()),())).bind λr2=>(FD (m1,r2.1,(r2.1.length:Nat),0,())).bind (sw (λz4=>some (z4.1,())) (λ_=>none))
def KO:Fn:=mkF (cx [mU]) [(3,Fl),(6,Jj)] 155 Tryz.f155 [(.rd,cT)] [(.tmp 2,true,(.slice I))] Zdi [lp 3 Fl II,lp 6 Jj Hp] seat_ok ab rfl
def Zco(x:Q12):Option Q1:=
 (Zba (x.1,x.2.2.1,())).bind λr1=>(Zaw (x.1,r1.1,[x.2.1],())).bind λr2=>some (r2.1,())
def PE:Fn:=mkF (cx [sJ,Lj]) [] 176 Tryz.f176 [(.take,(.slice I)),(.rd,I),(.rd,I)] [(.tmp 6,true,(.slice I))] Zco [] seat_ok ab rfl
def Zdv(x:Q27):Option Q26:=
 let((a,b,c,_),d,e,_):=x;(Zca ((a,b,c,()),())).bind λr1=>cond (!r1.1) (some ((0,[],[],()),13,())) (cond (ltI (bU d e) 0) (some ((0,[],[],()),3,())) (cond (geI (cE d e) (aT .i64 2 (b.length:Nat))) (some ((0,[],[],()),3,())) ((Zcx ((a,b,c,()),d,())).bind λr2=>(Zcx ((a,b,c,()),e,())).bind λr3=>cond (eqI r2.1 r3.1) (some ((0,[],[],()),8,())) ((Zdi ((a,b,c,()),())).bind λr4=>(az r4.1.length d).bind λj5=>(r4.1[j5]?).bind λy6=>(az r4.1.length e).bind λj7=>(r4.1[j7]?).bind λy8=>cond (neI y6 y8) (some ((0,[],[],()),15,())) (cond (geI (b.length:Nat) 32768) (some ((0,[],[],()),2,())) ((Zcu ((a,b,c,()),())).bind λr9=>(app r9.1.2.1 [(r2.1,r3.1,())]).bind λa10=>(az r9.1.2.2.1.length r2.1).bind λj11=>(Zco ((ji r9.1.2.2.1 j11),(aT .i64 2 (b.length:Nat)),d,())).bind λr12=>(az r9.1.2.2.1.length r2.1).bind λj13=>if j11=j13 then(az (r9.1.2.2.1.set j13 r12.1).length r3.1).bind λj14=>(Zco ((ji (r9.1.2.2.1.set j13 r12.1) j14),(ae .i64 (aT .i64 2 (b.length:Nat)) 1),e,())).bind λr15=>(az (r9.1.2.2.1.set j13 r12.1).length r3.1).bind λj16=>if j14=j16 then some ((r9.1.1,a10,((r9.1.2.2.1.set j13 r12.1).set j16 r15.1),()),0,())else none else none))))))
def Lz:Fn:=mkF { cx [nn,ve,KU,KO,PE]with light:=[16,17] } [] 122 Tryz.f122 [(.rd,cT),(.rd,I),(.rd,I)] [(.cell 6 59,false,cT),(.tmp 7,true,I)] Zdv [] seat_ok ab rfl
def Es(x:Q82):Option (Q82⊕(Q10⊕((Int×(List Q2)×(List (List Int))×List Int×List ByteArray×Int×Int×Int×List Int×Int×Int×Int×Unit)⊕Empty))):=
 let(a,b,c,d,e,f,g,h,i,k,l,m,n,_):=x;cond (neI n 1) (cond (eqI l 0) none ((ao i (kk m l)).bind λy1=>(ao d (gw .i64 y1 1)).bind λy2=>cond (gtI (ae .i64 m 1) (ae .i64 k l)) (some (.inr (.inl (0,0,13,())))) (some (.inl (a,b,c,d,e,f,g,h,i,k,l,(ae .i64 m 1),(ae .i64 n (aK .i64 2 y2)),()))))) (some (.inr (.inr (.inl (a,b,c,d,e,f,g,h,i,k,l,m,())))))
def EN:=ac Es
def Hf:Ann:=⟨sh [(1,.av (.val (.slice I))),(2,.av (.val I)),(3,.av (.ptr 3 0)),(6,.av (.ptr 6 0)),(8,.av (.val I)),(9,.av (.val I)),(10,.av (.val I))] [(3,.box [.val I,.val (.slice yQ2),.val aN,.val (.slice I),.val (.slice .str),.val I]),(6,.box [.val I,.nils,.nils,.nils,.nils,.val I])],[(.ret,sh [(6,.av (.ptr 6 0)),(7,.av (.val I))] [(6,.box [.val I,.nils,.nils,.nils,.nils,.val I])]),(.exit 0,sh [(1,.av (.val (.slice I))),(2,.av (.val I)),(3,.av (.ptr 3 0)),(6,.av (.ptr 6 0)),(8,.av (.val I)),(9,.av (.val I))] [(3,.box [.val I,.val (.slice yQ2),.val aN,.val (.slice I),.val (.slice .str),.val I]),(6,.box [.val I,.nils,.nils,.nils,.nils,.val I])])],EN⟩
def Zby(x:(Q28×List Int×Int×Unit)):Option (Q28×Int×Unit):=
 let(((a,b,c,_),d,e,f,_),g,h,_):=x;(EN (a,b,c,d,e,f,0,0,g,h,(g.length:Nat),h,0,())).bind (sw (λz2=>some (((z2.1,[],[],()),[],[],z2.2.1,()),z2.2.2.1,())) (sw (λ(a_3,b_3,c_3,d_3,_,e_3,_,_,f_3,g_3,h_3,i_3,_)=>(ao f_3 g_3).bind λy4=>cond (eqI h_3 0) none ((ao f_3 (kk (ae .i64 g_3 1) h_3)).bind λy5=>cond (eqI h_3 0) none ((ao f_3 (kk i_3 h_3)).bind λy6=>(Zdd ((a_3,b_3,c_3,()),(fB .i64 y6 2),())).bind λr7=>cond (neI r7.2.1 0) (some (((0,[],[],()),[],[],0,()),r7.2.1,())) ((Zbb (d_3,())).bind λr8=>(ao d_3 (ae .i64 (aT .i64 2 (fB .i64 y6 2)) 1)).bind λy9=>(app r8.1 [2,y9,0,0]).bind λa10=>(az a10.length (ae .i64 (aT .i64 2 (fB .i64 y6 2)) 1)).bind λj11=>(a10[j11]?).bind λy12=>cond (eqI (kk y6 2) 1) ((Zbi ((gw .i64 y4 1),(fB .i64 y6 2),(aT .i64 2 (b_3.length:Nat)),())).bind λr13=>(az (a10.set j11 2).length r13.1).bind λj14=>((a10.set j11 2)[j14]?).bind λy15=>(Zbi (y5,(fB .i64 y6 2),(aT .i64 2 (b_3.length:Nat)),())).bind λr16=>(Zdv ((r7.1.1,r7.1.2.1,r7.1.2.2.1,()),r16.1,(ae .i64 (aT .i64 2 (fB .i64 y6 2)) 1),())).bind λr17=>cond (neI r17.2.1 0) (some (((0,[],[],()),[],[],0,()),r17.2.1,())) ((az (a10.set j11 2).length r13.1).bind λj18=>((a10.set j11 2)[j18]?).bind λy19=>(az ((a10.set j11 2).set j18 2).length (ae .i64 (aT .i64 2 (b_3.length:Nat)) 2)).bind λj20=>(((a10.set j11 2).set j18 2)[j20]?).bind λy21=>(az (((a10.set j11 2).set j18 2).set j20 (aK .i64 y15 2)).length (aT .i64 2 (b_3.length:Nat))).bind λj22=>((((a10.set j11 2).set j18 2).set j20 (aK .i64 y15 2))[j22]?).bind λy23=>(az ((((a10.set j11 2).set j18 2).set j20 (aK .i64 y15 2)).set j22 1).length (ae .i64 (aT .i64 2 (b_3.length:Nat)) 3)).bind λj24=>(((((a10.set j11 2).set j18 2).set j20 (aK .i64 y15 2)).set j22 1)[j24]?).bind λy25=>(az (((((a10.set j11 2).set j18 2).set j20 (aK .i64 y15 2)).set j22 1).set j24 1).length (ae .i64 (aT .i64 2 (fB .i64 y6 2)) 1)).bind λj26=>((((((a10.set j11 2).set j18 2).set j20 (aK .i64 y15 2)).set j22 1).set j24 1)[j26]?).bind λy27=>(dk .str (((((((a10.set j11 2).set j18 2).set j20 (aK .i64 y15 2)).set j22 1).set j24 1).set j26 2).length:Nat) (((((((a10.set j11 2).set j18 2).set j20 (aK .i64 y15 2)).set j22 1).set j24 1).set j26 2).length:Nat)).bind λm28=>(Zbi (e_3,(fB .i64 y6 2),(aT .i64 2 (b_3.length:Nat)),())).bind λr29=>some (((r17.1.1,r17.1.2.1,r17.1.2.2.1,()),((((((a10.set j11 2).set j18 2).set j20 (aK .i64 y15 2)).set j22 1).set j24 1).set j26 2),m28,r29.1,()),0,()))) ((Zbi ((gw .i64 y4 1),(fB .i64 y6 2),(aT .i64 2 (b_3.length:Nat)),())).bind λr30=>(az (a10.set j11 2).length r30.1).bind λj31=>((a10.set j11 2)[j31]?).bind λy32=>(Zbi (y5,(fB .i64 y6 2),(aT .i64 2 (b_3.length:Nat)),())).bind λr33=>(Zdv ((r7.1.1,r7.1.2.1,r7.1.2.2.1,()),r33.1,(aT .i64 2 (b_3.length:Nat)),())).bind λr34=>cond (neI r34.2.1 0) (some (((0,[],[],()),[],[],0,()),r34.2.1,())) ((az (a10.set j11 2).length r30.1).bind λj35=>((a10.set j11 2)[j35]?).bind λy36=>(az ((a10.set j11 2).set j35 2).length (ae .i64 (aT .i64 2 (b_3.length:Nat)) 2)).bind λj37=>(((a10.set j11 2).set j35 2)[j37]?).bind λy38=>(az (((a10.set j11 2).set j35 2).set j37 (aK .i64 y32 2)).length (ae .i64 (aT .i64 2 (fB .i64 y6 2)) 1)).bind λj39=>((((a10.set j11 2).set j35 2).set j37 (aK .i64 y32 2))[j39]?).bind λy40=>(az ((((a10.set j11 2).set j35 2).set j37 (aK .i64 y32 2)).set j39 1).length (ae .i64 (aT .i64 2 (b_3.length:Nat)) 3)).bind λj41=>(((((a10.set j11 2).set j35 2).set j37 (aK .i64 y32 2)).set j39 1)[j41]?).bind λy42=>(az (((((a10.set j11 2).set j35 2).set j37 (aK .i64 y32 2)).set j39 1).set j41 1).length (aT .i64 2 (b_3.length:Nat))).bind λj43=>((((((a10.set j11 2).set j35 2).set j37 (aK .i64 y32 2)).set j39 1).set j41 1)[j43]?).bind λy44=>(dk .str (((((((a10.set j11 2).set j35 2).set j37 (aK .i64 y32 2)).set j39 1).set j41 1).set j43 2).length:Nat) (((((((a10.set j11 2).set j35 2).set j37 (aK .i64 y32 2)).set j39 1).set j41 1).set j43 2).length:Nat)).bind λm45=>(Zbi (e_3,(fB .i64 y6 2),(aT .i64 2 (b_3.length:Nat)),())).bind λr46=>some (((r34.1.1,r34.1.2.1,r34.1.2.2.1,()),((((((a10.set j11 2).set j35 2).set j37 (aK .i64 y32 2)).set j39 1).set j41 1).set j43 2),m45,r46.1,()),0,()))))))) (λ_=>none)))
def Zby_h:Fn:=mkF { cx [Zbb_h,LF,P3,Lz]with frz:=[21],light:=[14,24,25],hold:=[(21,97),(21,98)] } [(3,Hf)] 74 Tryz.f74 [(.rd,bg),(.rd,(.slice I)),(.rd,I)] [(.cell 6 67,false,bg),(.tmp 7,true,I)] Zby [lp 3 Hf Es] seat_ok ab rfl
def yU(x:Q84):Option (Q84⊕(Q10⊕(Q65⊕Empty))):=
 let(a,b,c,d,e,f,g,h,i,k,l,m,_):=x;cond (ltI m l) ((az i.length m).bind λj1=>(i[j1]?).bind λy2=>(Zac (y2,f,())).bind λr3=>cond r3.1 (some (.inl (a,b,c,d,e,f,g,h,i,k,l,(ae .i64 m 1),()))) ((Zcl (((a,b,c,()),d,e,f,()),y2,())).bind λr4=>cond (ltI r4.1 0) (some (.inl (a,b,c,d,e,f,g,h,i,k,l,(ae .i64 m 1),()))) ((Zby (((a,b,c,()),d,e,f,()),y2,r4.1,())).bind λr5=>cond (neI r5.2.1 0) (some (.inr (.inl (0,0,r5.2.1,())))) (some (.inr (.inr (.inl (r5.1.1.1,r5.1.1.2.1,r5.1.1.2.2.1,r5.1.2.1,r5.1.2.2.1,r5.1.2.2.2.1,g,h,true,())))))))) (some (.inr (.inr (.inl (a,b,c,d,e,f,g,h,k,())))))
def yV:=ac yU
def yY:Ann:=⟨sh [(1,.av (.ptr 1 0)),(2,.av (.ptr 2 0)),(4,.av (.val .bool)),(32,.av (.own 32)),(33,.av (.val I)),(34,.av (.val I))] [(1,.box [.val I,.val (.slice yQ2),.val aN,.val (.slice I),.val (.slice .str),.val I]),(2,.box [.val I,.nils,.nils,.nils,.nils,.val I]),(32,.arr (.slice I))],[(.ret,sh [(2,.av (.ptr 2 0)),(3,.av (.val I))] [(2,.box [.val I,.nils,.nils,.nils,.nils,.val I])]),(.exit 3,sh [(1,.av (.ptr 1 0)),(2,.av (.ptr 2 0)),(4,.av (.val .bool))] [(1,.box [.val I,.val (.slice yQ2),.val aN,.val (.slice I),.val (.slice .str),.val I]),(2,.box [.val I,.nils,.nils,.nils,.nils,.val I])])],yV⟩
def Eu(x:Q65):Option (Q65⊕(Q10⊕(Q57⊕Empty))):=
 let(a,b,c,d,e,f,g,h,i,_):=x;cond i ((Zcj ((a,b,c,()),())).bind λr1=>(yV (a,b,c,d,e,f,g,h,r1.1,false,(r1.1.length:Nat),0,())).bind (sw (λz3=>some (.inr (.inl (z3.1,z3.2.1,z3.2.2.1,())))) (sw (λ(a_4,b_4,c_4,d_4,e_4,f_4,g_4,h_4,i_4,_)=>some (.inl (a_4,b_4,c_4,d_4,e_4,f_4,g_4,h_4,i_4,()))) (λ_=>none)))) (some (.inr (.inr (.inl (a,b,c,d,e,f,g,h,())))))
def I5:=ac Eu
def Ft:Ann:=⟨sh [(1,.av (.ptr 1 0)),(2,.av (.ptr 2 0)),(4,.av (.val .bool))] [(1,.box [.val I,.val (.slice yQ2),.val aN,.val (.slice I),.val (.slice .str),.val I]),(2,.box [.val I,.nils,.nils,.nils,.nils,.val I])],[(.ret,sh [(2,.av (.ptr 2 0)),(3,.av (.val I))] [(2,.box [.val I,.nils,.nils,.nils,.nils,.val I])]),(.exit 1,sh [(1,.av (.ptr 1 0)),(2,.av (.ptr 2 0))] [(1,.box [.val I,.val (.slice yQ2),.val aN,.val (.slice I),.val (.slice .str),.val I]),(2,.box [.val I,.nils,.nils,.nils,.nils,.val I])])],I5⟩
def Zcd(x:(Q28×Unit)):Option (Q28×Int×Unit):=
 let(((a,b,c,_),d,e,f,_),_):=x;(Zea (((a,b,c,()),d,e,f,()),())).bind λr1=>cond (neI r1.1 0) (some (((0,[],[],()),[],[],0,()),13,())) ((Zec (((a,b,c,()),d,e,f,()),())).bind λr2=>cond (neI r2.1 0) (some (((0,[],[],()),[],[],0,()),13,())) (cond (eqI (b.length:Nat) 0) ((Zcf ()).bind λr3=>some (((r3.1.1.1,r3.1.1.2.1,r3.1.1.2.2.1,()),r3.1.2.1,r3.1.2.2.1,r3.1.2.2.2.1,()),0,())) ((Zbu (((a,b,c,()),d,e,f,()),())).bind λr4=>(I5 (r4.1.1.1,r4.1.1.2.1,r4.1.1.2.2.1,r4.1.2.1,r4.1.2.2.1,r4.1.2.2.2.1,0,0,true,())).bind (sw (λz6=>some (((z6.1,[],[],()),[],[],z6.2.1,()),z6.2.2.1,())) (sw (λ(a_7,b_7,c_7,d_7,e_7,f_7,_)=>some (((a_7,b_7,c_7,()),d_7,e_7,f_7,()),0,())) (λ_=>none))))))
def Zcd_h:Fn:=mkF (cx [Jw,Br,mU,zl,OP,LU,Ll,Zby_h]) [(7,Ft),(10,yY)] 30 Tryz.f30 [(.rd,bg)] [(.cell 2 67,false,bg),(.tmp 3,true,I)] Zcd [lp 7 Ft Eu,lp 10 yY yU] seat_ok ab rfl
def Ra:Con:={ ins:=[(.rd,bg)],outs:=[(false,bg),(true,I)],fn:=Zcd }
def Zbc(x:(Q28×Unit)):Option (Bool×Unit):=
 let(((a,b,c,_),d,e,f,_),_):=x;(Zea (((a,b,c,()),d,e,f,()),())).bind λr1=>cond (eqI r1.1 0) ((Zec (((a,b,c,()),d,e,f,()),())).bind λr2=>some ((eqI r2.1 0),())) (some (false,()))
def Of:Fn:=mkF (cx [Jw,zl]) [] 75 Tryz.f75 [(.rd,bg)] [(.tmp 2,true,.bool)] Zbc [] seat_ok ab rfl
def zj(x:Q91):Option (Q91⊕((Bool×Unit)⊕((Int×(List Q2)×(List (List Int))×List Int×List ByteArray×Int×(List (List Int))×Int×Int×Int×Unit)⊕Empty))):=
 let(a,b,c,d,e,f,g,h,i,k,l,m,n,o,_):=x;cond (ltI o n) ((ao m o).bind λy1=>(ao d (gw .i64 y1 1)).bind λy2=>cond (eqI (aK .i64 2 y2) 0) (some (.inl (a,b,c,d,e,f,g,h,i,k,l,m,n,(ae .i64 o 1),()))) (cond (eqI (aK .i64 2 y2) h) (some (.inl (a,b,c,d,e,f,g,h,(ae .i64 i 1),k,l,m,n,(ae .i64 o 1),()))) (some (.inr (.inl (false,())))))) (some (.inr (.inr (.inl (a,b,c,d,e,f,g,i,k,l,())))))
def Bv:=ac zj
def Az:Ann:=⟨sh [(1,.av (.ptr 1 0)),(5,.av (.val I)),(8,.av (.val I)),(17,.av (.own 17)),(18,.av (.val I)),(19,.av (.val I)),(34,.av (.val (.slice I))),(35,.av (.val I)),(36,.av (.val I))] [(1,.box [.val I,.val (.slice yQ2),.val aN,.val (.slice I),.val (.slice .str),.val I]),(17,.arr (.slice I))],[(.ret,sh [(2,.av (.val .bool))] []),(.exit 4,sh [(1,.av (.ptr 1 0)),(8,.av (.val I)),(17,.av (.own 17)),(18,.av (.val I)),(19,.av (.val I))] [(1,.box [.val I,.val (.slice yQ2),.val aN,.val (.slice I),.val (.slice .str),.val I]),(17,.arr (.slice I))])],Bv⟩
def Js(x:Q93):Option (Q93⊕((Int×(List Q2)×(List (List Int))×List Int×List ByteArray×Int×(List (List Int))×List Int×Int×Int×Int×Unit)⊕Empty)):=
 let(a,b,c,d,e,f,g,h,i,k,l,m,n,o,_):=x;cond (ltI o n) ((ao m o).bind λy1=>cond (eqI y1 f) (some (.inl (a,b,c,d,e,f,g,h,(-1),k,l,m,n,(ae .i64 o 1),()))) (some (.inl (a,b,c,d,e,f,g,h,i,k,l,m,n,(ae .i64 o 1),())))) (some (.inr (.inl (a,b,c,d,e,f,g,h,i,k,l,()))))
def I9:=ac Js
def H0:Ann:=⟨sh [(1,.av (.ptr 1 0)),(4,.av (.val (.slice I))),(5,.av (.val I)),(17,.av (.own 17)),(18,.av (.val I)),(19,.av (.val I)),(23,.av (.val (.slice I))),(24,.av (.val I)),(25,.av (.val I))] [(1,.box [.val I,.val (.slice yQ2),.val aN,.val (.slice I),.val (.slice .str),.val I]),(17,.arr (.slice I))],[(.exit 2,sh [(1,.av (.ptr 1 0)),(4,.av (.val (.slice I))),(5,.av (.val I)),(17,.av (.own 17)),(18,.av (.val I)),(19,.av (.val I))] [(1,.box [.val I,.val (.slice yQ2),.val aN,.val (.slice I),.val (.slice .str),.val I]),(17,.arr (.slice I))])],I9⟩
def GE(x:Q76):Option (Q76⊕((Bool×Unit)⊕(Unit⊕Empty))):=
 let(a,b,c,d,e,f,g,h,i,_):=x;cond (ltI i h) ((az g.length i).bind λj1=>(g[j1]?).bind λy2=>(I9 (a,b,c,d,e,f,g,y2,1,h,i,y2,(y2.length:Nat),0,())).bind (sw (λ(a_4,b_4,c_4,d_4,e_4,f_4,g_4,h_4,i_4,k_4,l_4,_)=>(Bv (a_4,b_4,c_4,d_4,e_4,f_4,g_4,i_4,0,k_4,l_4,h_4,(h_4.length:Nat),0,())).bind (sw (λz6=>some (.inr (.inl (z6.1,())))) (sw (λ(a_7,b_7,c_7,d_7,e_7,f_7,g_7,h_7,i_7,k_7,_)=>cond (neI h_7 4) (some (.inr (.inl (false,())))) (some (.inl (a_7,b_7,c_7,d_7,e_7,f_7,g_7,i_7,(ae .i64 k_7 1),())))) (λ_=>none)))) (λ_=>none))) (some (.inr (.inr (.inl ()))))
def H6:=ac GE
def H7:Ann:=⟨sh [(1,.av (.ptr 1 0)),(17,.av (.own 17)),(18,.av (.val I)),(19,.av (.val I))] [(1,.box [.val I,.val (.slice yQ2),.val aN,.val (.slice I),.val (.slice .str),.val I]),(17,.arr (.slice I))],[(.ret,sh [(2,.av (.val .bool))] []),(.exit 0,sh [] [])],H6⟩
def Zaa(x:(Q28×Unit)):Option (Bool×Unit):=
 let(((a,b,c,_),d,e,f,_),_):=x;cond (eqI (d.length:Nat) 0) (some (false,())) ((Zcj ((a,b,c,()),())).bind λr1=>(H6 (a,b,c,d,e,f,r1.1,(r1.1.length:Nat),0,())).bind (sw (λz3=>some (z3.1,())) (sw (λz4=>some (true,())) (λ_=>none))))
def O7:Fn:=mkF (cx [mU]) [(4,H7),(8,H0),(15,Az)] 76 Tryz.f76 [(.rd,bg)] [(.tmp 2,true,.bool)] Zaa [lp 4 H7 GE,lp 8 H0 Js,lp 15 Az zj] seat_ok ab rfl
def yR(x:Q86):Option (Q86⊕(Q66⊕Empty)):=
 let(a,b,c,d,e,f,g,h,i,k,l,m,n,_):=x;cond (ltI n 2) (cond (eqI n 0) ((az g.length i).bind λj1=>(g[j1]?).bind λy2=>cond (ltI y2 0) ((az g.length i).bind λj3=>(g[j3]?).bind λy4=>(app h [i]).bind λa5=>some (.inl (a,b,c,d,e,f,(g.set j3 (kk k 4)),a5,i,k,l,m,(ae .i64 n 1),()))) (some (.inl (a,b,c,d,e,f,g,h,i,k,l,m,(ae .i64 n 1),())))) (cond (eqI n 1) ((az g.length l).bind λj6=>(g[j6]?).bind λy7=>cond (ltI y7 0) ((az g.length l).bind λj8=>(g[j8]?).bind λy9=>(app h [l]).bind λa10=>some (.inl (a,b,c,d,e,f,(g.set j8 (kk m 4)),a10,i,k,l,m,(ae .i64 n 1),()))) (some (.inl (a,b,c,d,e,f,g,h,i,k,l,m,(ae .i64 n 1),())))) (none))) (some (.inr (.inl (a,b,c,d,e,f,g,h,()))))
def AF:=ac yR
def Ax:Ann:=⟨sh [(1,.av (.ptr 1 0)),(3,.av (.own 3)),(5,.av (.own 5)),(68,.agg [.val I,.val I,.val I,.val I]),(69,.av (.val I))] [(1,.box [.val I,.val (.slice yQ2),.val aN,.val (.slice I),.val (.slice .str),.val I]),(3,.arr I),(5,.arr I)],[(.exit 4,sh [(1,.av (.ptr 1 0)),(3,.av (.own 3)),(5,.av (.own 5))] [(1,.box [.val I,.val (.slice yQ2),.val aN,.val (.slice I),.val (.slice .str),.val I]),(3,.arr I),(5,.arr I)])],AF⟩
def Af(x:Q66):Option (Q66⊕(Q1⊕Empty)):=
 let(a,b,c,d,e,f,g,h,_):=x;cond (gtI (h.length:Nat) 0) ((az h.length (aK .i64 (h.length:Nat) 1)).bind λj1=>(h[j1]?).bind λy2=>(gE h.length 0 (aK .i64 (h.length:Nat) 1)).bind λv3=>(Zcw ((a,b,c,()),(gw .i64 y2 1),())).bind λr4=>(az g.length y2).bind λj5=>(g[j5]?).bind λy6=>(ao d y2).bind λy7=>(az g.length y2).bind λj8=>(g[j8]?).bind λy9=>(AF (a,b,c,d,e,f,g,((h.drop v3.1).take v3.2),r4.1,(ae .i64 y6 y7),(gw .i64 y2 1),(ae .i64 y9 2),0,())).bind (sw (λ(a_11,b_11,c_11,d_11,e_11,f_11,g_11,h_11,_)=>some (.inl (a_11,b_11,c_11,d_11,e_11,f_11,g_11,h_11,()))) (λ_=>none))) (some (.inr (.inl (g,()))))
def yN:=ac Af
def BH:Ann:=⟨sh [(1,.av (.ptr 1 0)),(3,.av (.own 3)),(5,.av (.own 5))] [(1,.box [.val I,.val (.slice yQ2),.val aN,.val (.slice I),.val (.slice .str),.val I]),(3,.arr I),(5,.arr I)],[(.exit 2,sh [(3,.av (.own 3))] [(3,.arr I)])],yN⟩
def Dx(x:Q68):Option (Q68⊕((Int×(List Q2)×(List (List Int))×List Int×List ByteArray×Int×List Int×Unit)⊕Empty)):=
 let(a,b,c,d,e,f,g,h,i,_):=x;cond (ltI i h) ((az g.length i).bind λj1=>(g[j1]?).bind λy2=>some (.inl (a,b,c,d,e,f,(g.set j1 (-1)),h,(ae .i64 i 1),()))) (some (.inr (.inl (a,b,c,d,e,f,g,()))))
def D3:=ac Dx
def Hm:Ann:=⟨sh [(1,.av (.ptr 1 0)),(3,.av (.own 3)),(15,.av (.val I)),(16,.av (.val I))] [(1,.box [.val I,.val (.slice yQ2),.val aN,.val (.slice I),.val (.slice .str),.val I]),(3,.arr I)],[(.exit 0,sh [(1,.av (.ptr 1 0)),(3,.av (.own 3))] [(1,.box [.val I,.val (.slice yQ2),.val aN,.val (.slice I),.val (.slice .str),.val I]),(3,.arr I)])],D3⟩
def Zax(x:(Q28×Unit)):Option Q1:=
 let(((a,b,c,_),d,e,f,_),_):=x;(dk I (d.length:Nat) (d.length:Nat)).bind λm1=>(D3 (a,b,c,d,e,f,m1,(m1.length:Nat),0,())).bind (sw (λ(a_3,b_3,c_3,d_3,e_3,f_3,g_3,_)=>cond (eqI (g_3.length:Nat) 0) (some ([],())) ((az g_3.length 0).bind λj4=>(g_3[j4]?).bind λy5=>(yN (a_3,b_3,c_3,d_3,e_3,f_3,(g_3.set j4 1),[0],())).bind (sw (λz7=>some (z7.1,())) (λ_=>none)))) (λ_=>none))
def OU:Fn:=mkF (cx [FQ]) [(3,Hm),(11,BH),(16,Ax)] 77 Tryz.f77 [(.rd,bg)] [(.tmp 2,true,(.slice I))] Zax [lp 3 Hm Dx,lp 11 BH Af,lp 16 Ax yR] seat_ok ab rfl
def AX(x:Q87):Option (Q87⊕(Q77⊕Empty)):=
 let(a,b,c,d,e,f,g,h,i,k,l,m,n,_):=x;cond (ltI n m) ((ao l n).bind λy1=>(Zcx ((a,b,c,()),n,())).bind λr2=>(Zcx ((a,b,c,()),(gw .i64 n 1),())).bind λr3=>cond (eqI y1 i) ((az g.length r2.1).bind λj4=>(g[j4]?).bind λy5=>(az g.length r3.1).bind λj6=>(g[j6]?).bind λy7=>cond (neI y5 y7) ((az g.length r2.1).bind λj8=>(g[j8]?).bind λy9=>(az g.length r3.1).bind λj10=>(g[j10]?).bind λy11=>(az g.length r2.1).bind λj12=>(g[j12]?).bind λy13=>(az (g.set j12 (bU y9 y11)).length r2.1).bind λj14=>((g.set j12 (bU y9 y11))[j14]?).bind λy15=>(az (g.set j12 (bU y9 y11)).length r3.1).bind λj16=>((g.set j12 (bU y9 y11))[j16]?).bind λy17=>some (.inl (a,b,c,d,e,f,((g.set j12 (bU y9 y11)).set j16 y15),h,i,true,l,m,(ae .i64 n 1),()))) (some (.inl (a,b,c,d,e,f,g,h,i,k,l,m,(ae .i64 n 1),())))) (some (.inl (a,b,c,d,e,f,g,h,i,k,l,m,(ae .i64 n 1),())))) (some (.inr (.inl (a,b,c,d,e,f,g,h,i,k,()))))
def zJ:=ac AX
def Bj:Ann:=⟨sh [(1,.av (.val (.slice I))),(2,.av (.val I)),(3,.av (.ptr 3 0)),(7,.av (.own 7)),(9,.av (.val .bool)),(29,.av (.val (.slice I))),(30,.av (.val I)),(31,.av (.val I))] [(3,.box [.val I,.val (.slice yQ2),.val aN,.val (.slice I),.val (.slice .str),.val I]),(7,.arr I)],[(.exit 4,sh [(1,.av (.val (.slice I))),(2,.av (.val I)),(3,.av (.ptr 3 0)),(7,.av (.own 7)),(9,.av (.val .bool))] [(3,.box [.val I,.val (.slice yQ2),.val aN,.val (.slice I),.val (.slice .str),.val I]),(7,.arr I)])],zJ⟩
def GG(x:Q77):Option (Q77⊕(Q1⊕Empty)):=
 let(a,b,c,d,e,f,g,h,i,k,_):=x;cond k ((zJ (a,b,c,d,e,f,g,h,i,false,h,(h.length:Nat),0,())).bind (sw (λ(a_2,b_2,c_2,d_2,e_2,f_2,g_2,h_2,i_2,k_2,_)=>some (.inl (a_2,b_2,c_2,d_2,e_2,f_2,g_2,h_2,i_2,k_2,()))) (λ_=>none))) (some (.inr (.inl (g,()))))
def Ir:=ac GG
def HA:Ann:=⟨sh [(1,.av (.val (.slice I))),(2,.av (.val I)),(3,.av (.ptr 3 0)),(7,.av (.own 7)),(9,.av (.val .bool))] [(3,.box [.val I,.val (.slice yQ2),.val aN,.val (.slice I),.val (.slice .str),.val I]),(7,.arr I)],[(.exit 2,sh [(7,.av (.own 7))] [(7,.arr I)])],Ir⟩
def Ip(x:Q79):Option (Q79⊕((Int×(List Q2)×(List (List Int))×List Int×List ByteArray×Int×List Int×List Int×Int×Unit)⊕Empty)):=
 let(a,b,c,d,e,f,g,h,i,k,l,_):=x;cond (ltI l k) ((az g.length l).bind λj1=>(g[j1]?).bind λy2=>some (.inl (a,b,c,d,e,f,(g.set j1 l),h,i,k,(ae .i64 l 1),()))) (some (.inr (.inl (a,b,c,d,e,f,g,h,i,()))))
def Jc:=ac Ip
def ED:Ann:=⟨sh [(1,.av (.val (.slice I))),(2,.av (.val I)),(3,.av (.ptr 3 0)),(7,.av (.own 7)),(19,.av (.val I)),(20,.av (.val I))] [(3,.box [.val I,.val (.slice yQ2),.val aN,.val (.slice I),.val (.slice .str),.val I]),(7,.arr I)],[(.exit 0,sh [(1,.av (.val (.slice I))),(2,.av (.val I)),(3,.av (.ptr 3 0)),(7,.av (.own 7))] [(3,.box [.val I,.val (.slice yQ2),.val aN,.val (.slice I),.val (.slice .str),.val I]),(7,.arr I)])],Jc⟩
def Zbq(x:(Q28×List Int×Int×Unit)):Option Q1:=
 let(((a,b,c,_),d,e,f,_),g,h,_):=x;(dk I a a).bind λm1=>(Jc (a,b,c,d,e,f,m1,g,h,(m1.length:Nat),0,())).bind (sw (λ(a_3,b_3,c_3,d_3,e_3,f_3,g_3,h_3,i_3,_)=>(Ir (a_3,b_3,c_3,d_3,e_3,f_3,g_3,h_3,i_3,true,())).bind (sw (λz5=>some (z5.1,())) (λ_=>none))) (λ_=>none))
def PW:Fn:=mkF (cx [ve]) [(3,ED),(8,HA),(11,Bj)] 79 Tryz.f79 [(.rd,bg),(.rd,(.slice I)),(.rd,I)] [(.tmp 6,true,(.slice I))] Zbq [lp 3 ED Ip,lp 8 HA GG,lp 11 Bj AX] seat_ok ab rfl
def AQ(x:Q33):Option (Q33⊕(Q1⊕Empty)):=
 let(a,b,c,d,e,_):=x;cond (ltI e d) ((ao c e).bind λy1=>(az a.length y1).bind λj2=>(a[j2]?).bind λy3=>(az b.length e).bind λj4=>(b[j4]?).bind λy5=>some (.inl (a,(b.set j4 y3),c,d,(ae .i64 e 1),()))) (some (.inr (.inl (b,()))))
def Ca:=ac AQ
def zQ:Ann:=⟨sh [(2,.av (.val (.slice I))),(9,.av (.own 9)),(14,.av (.own 14)),(70,.av (.val I)),(71,.av (.val I))] [(9,.arr I),(14,.arr I)],[(.exit 4,sh [(14,.av (.own 14))] [(14,.arr I)])],Ca⟩
def EJ(x:Q94):Option (Q94⊕(Q85⊕Empty)):=
 let(a,b,c,d,e,f,g,h,i,k,l,m,n,o,p,_):=x;cond (ltI p o) ((ao n p).bind λy1=>(Zcx ((a,b,c,()),p,())).bind λr2=>(ao i r2.1).bind λy3=>(Zcx ((a,b,c,()),(gw .i64 p 1),())).bind λr4=>(ao i r4.1).bind λy5=>cond (eqI y1 k) ((az g.length y5).bind λj6=>(g[j6]?).bind λy7=>(az g.length y3).bind λj8=>(g[j8]?).bind λy9=>(az g.length y5).bind λj10=>(g[j10]?).bind λy11=>some (.inl (a,b,c,d,e,f,(g.set j10 (cE y7 (ae .i64 y9 1))),h,i,k,l,m,n,o,(ae .i64 p 1),()))) (some (.inl (a,b,c,d,e,f,g,h,i,k,l,m,n,o,(ae .i64 p 1),())))) (some (.inr (.inl (a,b,c,d,e,f,g,h,i,k,l,m,()))))
def IQ:=ac EJ
def HD:Ann:=⟨sh [(1,.av (.val (.slice I))),(2,.av (.val (.slice I))),(3,.av (.val I)),(4,.av (.ptr 4 0)),(9,.av (.own 9)),(22,.av (.val I)),(23,.av (.val I)),(25,.av (.val (.slice I))),(26,.av (.val I)),(27,.av (.val I))] [(4,.box [.val I,.val (.slice yQ2),.val aN,.val (.slice I),.val (.slice .str),.val I]),(9,.arr I)],[(.exit 2,sh [(1,.av (.val (.slice I))),(2,.av (.val (.slice I))),(3,.av (.val I)),(4,.av (.ptr 4 0)),(9,.av (.own 9)),(22,.av (.val I)),(23,.av (.val I))] [(4,.box [.val I,.val (.slice yQ2),.val aN,.val (.slice I),.val (.slice .str),.val I]),(9,.arr I)])],IQ⟩
def Jn(x:Q85):Option (Q85⊕(Q66⊕Empty)):=
 let(a,b,c,d,e,f,g,h,i,k,l,m,_):=x;cond (ltI m l) ((IQ (a,b,c,d,e,f,g,h,i,k,l,m,h,(h.length:Nat),0,())).bind (sw (λ(a_2,b_2,c_2,d_2,e_2,f_2,g_2,h_2,i_2,k_2,l_2,m_2,_)=>some (.inl (a_2,b_2,c_2,d_2,e_2,f_2,g_2,h_2,i_2,k_2,l_2,(ae .i64 m_2 1),()))) (λ_=>none))) (some (.inr (.inl (a,b,c,d,e,f,g,i,()))))
def Hz:=ac Jn
def HT:Ann:=⟨sh [(1,.av (.val (.slice I))),(2,.av (.val (.slice I))),(3,.av (.val I)),(4,.av (.ptr 4 0)),(9,.av (.own 9)),(22,.av (.val I)),(23,.av (.val I))] [(4,.box [.val I,.val (.slice yQ2),.val aN,.val (.slice I),.val (.slice .str),.val I]),(9,.arr I)],[(.exit 0,sh [(2,.av (.val (.slice I))),(4,.av (.ptr 4 0)),(9,.av (.own 9))] [(4,.box [.val I,.val (.slice yQ2),.val aN,.val (.slice I),.val (.slice .str),.val I]),(9,.arr I)])],Hz⟩
def Zcn(x:(Q28×List Int×List Int×Int×Unit)):Option Q1:=
 let(((a,b,c,_),d,e,f,_),g,h,i,_):=x;(dk I a a).bind λm1=>(Hz (a,b,c,d,e,f,m1,g,h,i,a,0,())).bind (sw (λ(a_3,_,_,_,_,_,b_3,c_3,_)=>(dk I a_3 a_3).bind λm4=>(Ca (b_3,m4,c_3,(m4.length:Nat),0,())).bind (sw (λz6=>some (z6.1,())) (λ_=>none))) (λ_=>none))
def Qc:Fn:=mkF (cx [ve]) [(3,HT),(5,HD),(14,zQ)] 78 Tryz.f78 [(.rd,bg),(.rd,(.slice I)),(.rd,(.slice I)),(.rd,I)] [(.tmp 8,true,(.slice I))] Zcn [lp 3 HT Jn,lp 5 HD EJ,lp 14 zQ AQ] seat_ok ab rfl
def Jt(x:(List Int×List Int×(List Q2)×Int×Int×Unit)):Option ((List Int×List Int×(List Q2)×Int×Int×Unit)⊕(Q4⊕Empty)):=
 let(a,b,c,d,e,_):=x;cond (ltI e d) ((az a.length e).bind λj1=>(a[j1]?).bind λy2=>(az b.length e).bind λj3=>(b[j3]?).bind λy4=>(az c.length e).bind λj5=>(c[j5]?).bind λy6=>some (.inl (a,b,(c.set j5 (y2,y4,())),d,(ae .i64 e 1),()))) (some (.inr (.inl (c,()))))
def Hh:=ac Jt
def Ih:Ann:=⟨sh [(5,.av (.own 5)),(6,.av (.own 6)),(7,.av (.own 7)),(36,.av (.val I)),(37,.av (.val I))] [(5,.arr I),(6,.arr I),(7,.arr yQ2)],[(.exit 0,sh [(7,.av (.own 7))] [(7,.arr yQ2)])],Hh⟩
def Zcv(x:(Q28×Unit)):Option Q9:=
 let(((a,b,c,_),d,e,f,_),_):=x;(Zbc (((a,b,c,()),d,e,f,()),())).bind λr1=>cond (!r1.1) (some ([],13,())) ((Zaa (((a,b,c,()),d,e,f,()),())).bind λr2=>cond (!r2.1) (some ([],13,())) ((Zax (((a,b,c,()),d,e,f,()),())).bind λr3=>(Zbq (((a,b,c,()),d,e,f,()),r3.1,0,())).bind λr4=>(Zcn (((a,b,c,()),d,e,f,()),r3.1,r4.1,1,())).bind λr5=>(Zbq (((a,b,c,()),d,e,f,()),r3.1,1,())).bind λr6=>(Zcn (((a,b,c,()),d,e,f,()),r3.1,r6.1,2,())).bind λr7=>(dk yQ2 a a).bind λm8=>(Hh (r5.1,r7.1,m8,(m8.length:Nat),0,())).bind (sw (λz10=>some (z10.1,0,())) (λ_=>none))))
def Zcv_h:Fn:=mkF (cx [Of,O7,OU,Qc,PW]) [(8,Ih)] 31 Tryz.f31 [(.rd,bg)] [(.tmp 2,true,(.slice yQ2)),(.tmp 3,true,I)] Zcv [lp 8 Ih Jt] seat_ok ab rfl
def Rn:Con:={ ins:=[(.rd,bg)],outs:=[(true,(.slice yQ2)),(true,I)],fn:=Zcv }
def FR(x:Q12):Option (Q12⊕(Q1⊕Empty)):=
 let(a,b,c,_):=x;cond (ltI b c) ((az a.length c).bind λj1=>(a[j1]?).bind λy2=>(az a.length b).bind λj3=>(a[j3]?).bind λy4=>(az a.length b).bind λj5=>(a[j5]?).bind λy6=>(az (a.set j5 y2).length c).bind λj7=>((a.set j5 y2)[j7]?).bind λy8=>some (.inl (((a.set j5 y2).set j7 y4),(ae .i64 b 1),(aK .i64 c 1),()))) (some (.inr (.inl (a,()))))
def Fo:=ac FR
def DL:Ann:=⟨⟨[(0,.av (.own 0)),(2,.av (.val I)),(3,.av (.val I))],[(0,.arr I)],[0]⟩,[(.exit 0,⟨[(0,.av (.own 0))],[(0,.arr I)],[0]⟩)],Fo⟩
def Zae(x:Q1):Option Q1:=
 (Fo (x.1,0,(aK .i64 (x.1.length:Nat) 1),())).bind (sw (λz2=>some (z2.1,())) (λ_=>none))
def LG:Fn:=mkF (cx []) [(1,DL)] 80 Tryz.f80 [(.upd,(.slice I))] [] Zae [lp 1 DL FR] seat_ok ab rfl
def QU:Con:={ ins:=[(.upd,(.slice I))],outs:=[],fn:=Zae }
def E5(x:Q12):Option (Q12⊕(Q1⊕Empty)):=
 let(a,b,c,_):=x;cond (ltI c b) ((az a.length c).bind λj1=>(a[j1]?).bind λy2=>(az a.length c).bind λj3=>(a[j3]?).bind λy4=>some (.inl ((a.set j3 (gw .i64 y2 1)),b,(ae .i64 c 1),()))) (some (.inr (.inl (a,()))))
def Gc:=ac E5
def Gu:Ann:=⟨sh [(5,.av (.own 5)),(19,.av (.val I)),(20,.av (.val I))] [(5,.arr I)],[(.exit 0,sh [(5,.av (.own 5))] [(5,.arr I)])],Gc⟩
def Zdq(x:((List (List Int))×Int×Unit)):Option Q1:=
 (ao x.1 (fB .i64 x.2.1 2)).bind λy1=>(Zbb (y1,())).bind λr2=>cond (eqI (kk x.2.1 2) 1) ((Zae (r2.1,())).bind λr3=>(Gc (r3.1,(r3.1.length:Nat),0,())).bind (sw (λz5=>some (z5.1,())) (λ_=>none))) (some (r2.1,()))
def ON:Fn:=mkF (cx [Zbb_h,LG]) [(5,Gu)] 32 Tryz.f32 [(.rd,aN),(.rd,I)] [(.tmp 4,true,(.slice I))] Zdq [lp 5 Gu E5] seat_ok ab rfl
def Rb:Con:={ ins:=[(.rd,aN),(.rd,I)],outs:=[(true,(.slice I))],fn:=Zdq }
def Fb(x:Q21):Option (Q21⊕((Int×Unit)⊕(Unit⊕Empty))):=
 let(a,b,c,d,e,_):=x;cond (ltI e d) ((ao c e).bind λy1=>cond ((eqI a y1.1)&&((eqI b y1.2.1)&&true)) (some (.inr (.inl (e,())))) (some (.inl (a,b,c,d,(ae .i64 e 1),())))) (some (.inr (.inr (.inl ()))))
def Gy:=ac Fb
def EY:Ann:=⟨sh [(0,.av (.val (.slice yQ2))),(3,.av (.ptr 3 0)),(7,.av (.val I)),(8,.av (.val I))] [(3,.box [.val I,.val I])],[(.ret,sh [(4,.av (.val I))] []),(.exit 0,sh [] [])],Gy⟩
def Zbl(x:((List Q2)×Q2×Unit)):Option (Int×Unit):=
 (Gy (x.2.1.1,x.2.1.2.1,x.1,(x.1.length:Nat),0,())).bind (sw (λz2=>some (z2.1,())) (sw (λz3=>some ((-1),())) (λ_=>none)))
def Pg:Fn:=mkF (cx []) [(2,EY)] 135 Tryz.f135 [(.rd,(.slice yQ2)),(.rd,yQ2)] [(.tmp 4,true,I)] Zbl [lp 2 EY Fb] seat_ok ab rfl
def Zab(x:((List Q2)×Q2×Unit)):Option (Bool×Unit):=
 (Zbl (x.1,(x.2.1.1,x.2.1.2.1,()),())).bind λr1=>some ((geI r1.1 0),())
def Pc:Fn:=mkF (cx [Pg]) [] 95 Tryz.f95 [(.rd,(.slice yQ2)),(.rd,yQ2)] [(.tmp 4,true,.bool)] Zab [] seat_ok ab rfl
def G5(x:Q41):Option (Q41⊕((Int×Int×List Int×(List Q2)×Unit)⊕Empty)):=
 let(a,b,c,d,e,f,g,h,_):=x;cond (ltI h g) ((ao f h).bind λy1=>cond (eqI (bU y1.1 y1.2.1) (cE y1.1 y1.2.1)) ((az d.length h).bind λj2=>(d[j2]?).bind λy3=>some (.inl (a,b,c,(d.set j2 (-1)),e,f,g,(ae .i64 h 1),()))) ((Zab (c,((bU y1.1 y1.2.1),(cE y1.1 y1.2.1),()),())).bind λr4=>cond r4.1 ((az d.length h).bind λj5=>(d[j5]?).bind λy6=>some (.inl (a,b,c,(d.set j5 (-1)),e,f,g,(ae .i64 h 1),()))) ((az d.length h).bind λj7=>(d[j7]?).bind λy8=>(app c [((bU y1.1 y1.2.1),(cE y1.1 y1.2.1),())]).bind λa9=>(app e [(y1.1,y1.2.1,())]).bind λa10=>some (.inl (a,b,a9,(d.set j7 (c.length:Nat)),a10,f,g,(ae .i64 h 1),()))))) (some (.inr (.inl (a,b,d,e,()))))
def EB:=ac G5
def Dd:Ann:=⟨sh [(2,.av (.ptr 2 0)),(4,.av (.ptr 4 0)),(5,.av (.own 5)),(6,.av (.own 6)),(22,.av (.val (.slice yQ2))),(23,.av (.val I)),(24,.av (.val I))] [(2,.box [.val I,.nils]),(4,.box [.val I,.own 500001]),(5,.arr yQ2),(6,.arr I),(500001,.arr yQ2)],[(.exit 0,sh [(2,.av (.ptr 2 0)),(4,.av (.ptr 4 0)),(6,.av (.own 6))] [(2,.box [.val I,.nils]),(4,.box [.val I,.own 500001]),(6,.arr I),(500001,.arr yQ2)])],EB⟩
def Zcb(x:(Q8×Unit)):Option (Q8×List Int×Unit):=
 let((a,b,_),_):=x;(Zdc ((a,b,()),())).bind λr1=>cond (!r1.1) (some ((0,[],()),[],())) ((dk I (b.length:Nat) (b.length:Nat)).bind λm2=>(EB (0,a,[],m2,[],b,(b.length:Nat),0,())).bind (sw (λz4=>some ((z4.2.1,z4.2.2.2.1,()),z4.2.2.1,())) (λ_=>none)))
def LN:Fn:=mkF (cx [ur,Pc]) [(7,Dd)] 56 Tryz.f56 [(.rd,gL)] [(.cell 2 24,true,gL),(.tmp 3,true,(.slice I))] Zcb [lp 7 Dd G5] seat_ok ab rfl
def Rj:Con:={ ins:=[(.rd,gL)],outs:=[(true,gL),(true,(.slice I))],fn:=Zcb }
def Zck(x:(Q8×Int×Unit)):Option (Bool×Unit):=
 let((a,b,_),c,_):=x;(Zdc ((a,b,()),())).bind λr1=>cond r1.1 (cond (geI c 0) (some ((ltI c a),())) (some (false,()))) (some (false,()))
def Pr:Fn:=mkF (cx [ur]) [] 97 Tryz.f97 [(.rd,gL),(.rd,I)] [(.tmp 4,true,.bool)] Zck [] seat_ok ab rfl
def I6(x:Q21):Option (Q21⊕((Int×Unit)⊕Empty)):=
 let(a,b,c,d,e,_):=x;cond (ltI e d) ((ao c e).bind λy1=>cond (eqI y1.1 a) (cond (eqI y1.2.1 a) (some (.inl (a,(ae .i64 (ae .i64 b 1) 1),c,d,(ae .i64 e 1),()))) (some (.inl (a,(ae .i64 b 1),c,d,(ae .i64 e 1),())))) (cond (eqI y1.2.1 a) (some (.inl (a,(ae .i64 b 1),c,d,(ae .i64 e 1),()))) (some (.inl (a,b,c,d,(ae .i64 e 1),()))))) (some (.inr (.inl (b,()))))
def GT:=ac I6
def GH:Ann:=⟨sh [(1,.av (.val I)),(5,.av (.val I)),(13,.av (.val (.slice yQ2))),(14,.av (.val I)),(15,.av (.val I))] [],[(.exit 0,sh [(5,.av (.val I))] [])],GT⟩
def Zcm(x:(Q8×Int×Unit)):Option (Int×Unit):=
 let((a,b,_),c,_):=x;(Zck ((a,b,()),c,())).bind λr1=>cond (!r1.1) (some (0,())) ((GT (c,0,b,(b.length:Nat),0,())).bind (sw (λz3=>some (z3.1,())) (λ_=>none)))
def Oe:Fn:=mkF (cx [Pr]) [(5,GH)] 58 Tryz.f58 [(.rd,gL),(.rd,I)] [(.tmp 4,true,I)] Zcm [lp 5 GH I6] seat_ok ab rfl
def Rg:Con:={ ins:=[(.rd,gL),(.rd,I)],outs:=[(true,I)],fn:=Zcm }
def BI(x:Q64):Option (Q64⊕(Q39⊕Empty)):=
 let(a,b,c,d,e,f,g,h,i,_):=x;cond (ltI i h) ((ao g i).bind λy1=>(ao b (fB .i64 y1 2)).bind λy2=>(az e.length f).bind λj3=>(e[j3]?).bind λy4=>(az d.length (aK .i64 (ae .i64 y2.1 y2.2.1) y4)).bind λj5=>(d[j5]?).bind λy6=>cond (!y6) ((az d.length (aK .i64 (ae .i64 y2.1 y2.2.1) y4)).bind λj7=>(d[j7]?).bind λy8=>(app e [(aK .i64 (ae .i64 y2.1 y2.2.1) y4)]).bind λa9=>some (.inl (a,b,c,(d.set j7 true),a9,f,g,h,(ae .i64 i 1),()))) (some (.inl (a,b,c,d,e,f,g,h,(ae .i64 i 1),())))) (some (.inr (.inl (a,b,c,d,e,f,()))))
def zN:=ac BI
def zU:Ann:=⟨sh [(1,.av (.ptr 1 0)),(3,.av (.own 3)),(4,.av (.own 4)),(5,.av (.val I)),(32,.av (.val (.slice I))),(33,.av (.val I)),(34,.av (.val I))] [(1,.box [.val I,.val (.slice yQ2),.val aN]),(3,.arr .bool),(4,.arr I)],[(.exit 2,sh [(1,.av (.ptr 1 0)),(3,.av (.own 3)),(4,.av (.own 4)),(5,.av (.val I))] [(1,.box [.val I,.val (.slice yQ2),.val aN]),(3,.arr .bool),(4,.arr I)])],zN⟩
def FB(x:Q39):Option (Q39⊕((Int×(List Q2)×(List (List Int))×List Int×Unit)⊕Empty)):=
 let(a,b,c,d,e,f,_):=x;cond (ltI f (e.length:Nat)) ((az e.length f).bind λj1=>(e[j1]?).bind λy2=>(ao c y2).bind λy3=>(zN (a,b,c,d,e,f,y3,(y3.length:Nat),0,())).bind (sw (λ(a_5,b_5,c_5,d_5,e_5,f_5,_)=>some (.inl (a_5,b_5,c_5,d_5,e_5,(ae .i64 f_5 1),()))) (λ_=>none))) (some (.inr (.inl (a,b,c,e,()))))
def DZ:=ac FB
def FN:Ann:=⟨sh [(1,.av (.ptr 1 0)),(3,.av (.own 3)),(4,.av (.own 4)),(5,.av (.val I))] [(1,.box [.val I,.val (.slice yQ2),.val aN]),(3,.arr .bool),(4,.arr I)],[(.exit 0,sh [(1,.av (.ptr 1 0)),(4,.av (.own 4))] [(1,.box [.val I,.val (.slice yQ2),.val aN]),(4,.arr I)])],DZ⟩
def Zcc(x:(Q25×Unit)):Option (Bool×Unit):=
 let((a,b,c,_),_):=x;cond (eqI a 0) (some (false,())) ((dk .bool a a).bind λm1=>(az m1.length 0).bind λj2=>(m1[j2]?).bind λy3=>(DZ (a,b,c,(m1.set j2 true),[0],0,())).bind (sw (λz5=>some ((eqI (z5.2.2.2.1.length:Nat) z5.1),())) (λ_=>none)))
def PN:Fn:=mkF (cx []) [(7,FN),(10,zU)] 193 Tryz.f193 [(.rd,cT)] [(.tmp 2,true,.bool)] Zcc [lp 7 FN FB,lp 10 zU BI] seat_ok ab rfl
def Zet(x:(Q25×Unit)):Option (Int×Unit):=
 let((a,b,c,_),_):=x;(Zca ((a,b,c,()),())).bind λr1=>cond (!r1.1) (some (13,())) ((Zch ((a,b,c,()),())).bind λr2=>cond (neI r2.1 0) (some (13,())) ((Zcc ((a,b,c,()),())).bind λr3=>cond (!r3.1) (some (12,())) (some (0,()))))
def PL:Fn:=mkF (cx [nn,IJ,PN]) [] 145 Tryz.f145 [(.rd,cT)] [(.tmp 2,true,I)] Zet [] seat_ok ab rfl
def Du(x:Q45):Option (Q45⊕(Q31⊕Empty)):=
 let(a,b,c,d,e,f,g,h,_):=x;cond (ltI h g) ((ao f h).bind λy1=>(az a.length y1).bind λj2=>(a[j2]?).bind λy3=>some (.inl ((a.set j2 c),b,c,d,e,f,g,(ae .i64 h 1),()))) (some (.inr (.inl (a,b,d,e,()))))
def Ic:=ac Du
def Jb:Ann:=⟨sh [(4,.av (.own 4)),(5,.av (.own 5)),(6,.av (.val I)),(17,.av (.own 5)),(18,.av (.val I)),(19,.av (.val I)),(24,.av (.val (.slice I))),(25,.av (.val I)),(26,.av (.val I))] [(4,.arr I),(5,.arr (.slice I))],[(.exit 2,sh [(4,.av (.own 4)),(5,.av (.own 5)),(17,.av (.own 5)),(18,.av (.val I)),(19,.av (.val I))] [(4,.arr I),(5,.arr (.slice I))])],Ic⟩
def Di(x:Q31):Option (Q31⊕((List Int×(List (List Int))×Unit)⊕Empty)):=
 let(a,b,c,d,_):=x;cond (ltI d c) ((az b.length d).bind λj1=>(b[j1]?).bind λy2=>(Ic (a,b,d,c,d,y2,(y2.length:Nat),0,())).bind (sw (λz4=>some (.inl (z4.1,z4.2.1,z4.2.2.1,(ae .i64 z4.2.2.2.1 1),()))) (λ_=>none))) (some (.inr (.inl (a,b,()))))
def EP:=ac Di
def IS:Ann:=⟨sh [(4,.av (.own 4)),(5,.av (.own 5)),(17,.av (.own 5)),(18,.av (.val I)),(19,.av (.val I))] [(4,.arr I),(5,.arr (.slice I))],[(.exit 0,sh [(4,.av (.own 4)),(5,.av (.own 5))] [(4,.arr I),(5,.arr (.slice I))])],EP⟩
def Zdh(x:(Q25×Unit)):Option Q6:=
 let((a,b,c,_),_):=x;(dk I (aT .i64 2 (b.length:Nat)) (aT .i64 2 (b.length:Nat))).bind λm1=>(Zcj ((a,b,c,()),())).bind λr2=>(EP (m1,r2.1,(r2.1.length:Nat),0,())).bind (sw (λz4=>some (z4.1,(cE 1 (z4.2.1.length:Nat)),())) (λ_=>none))
def O9:Fn:=mkF (cx [mU]) [(4,IS),(7,Jb)] 146 Tryz.f146 [(.rd,cT)] [(.tmp 2,true,(.slice I)),(.tmp 3,true,I)] Zdh [lp 4 IS Di,lp 7 Jb Du] seat_ok ab rfl
def Zbs(x:Q1):Option Q1:=sortC.fn x
def LQ:Fn:=⟨139,sortC,Ks glob⟩
def Zal(x:Q1):Option Q1:=compactC.fn x
def Ov:Fn:=⟨194,compactC,xj glob⟩
def Im(x:Q33):Option (Q33⊕(Q1⊕Empty)):=
 let(a,b,c,d,e,_):=x;cond (ltI e d) ((ao c e).bind λy1=>(ao b y1).bind λy2=>(app a [y2]).bind λa3=>some (.inl (a3,b,c,d,(ae .i64 e 1),()))) (some (.inr (.inl (a,()))))
def FP:=ac Im
def D7:Ann:=⟨sh [(1,.av (.val (.slice I))),(7,.av (.own 7)),(14,.av (.val (.slice I))),(15,.av (.val I)),(16,.av (.val I))] [(7,.arr I)],[(.exit 0,sh [(7,.av (.own 7))] [(7,.arr I)])],FP⟩
def Zdx(x:(Q25×List Int×Int×Unit)):Option Q1:=
 (ao x.1.2.2.1 x.2.2.1).bind λy1=>(FP ([],x.2.1,y1,(y1.length:Nat),0,())).bind (sw (λz3=>cond (eqI (z3.1.length:Nat) 0) ((Zbs ([0],())).bind λr4=>(Zal (r4.1,())).bind λr5=>some (r5.1,())) ((Zbs (z3.1,())).bind λr6=>(Zal (r6.1,())).bind λr7=>some (r7.1,()))) (λ_=>none))
def OG:Fn:=mkF (cx [LQ,Ov]) [(3,D7)] 148 Tryz.f148 [(.rd,cT),(.rd,(.slice I)),(.rd,I)] [(.tmp 6,true,(.slice I))] Zdx [lp 3 D7 Im] seat_ok ab rfl
def yJ(x:Q73):Option (Q73⊕(Q63⊕Empty)):=
 let(a,b,c,d,e,f,g,h,i,k,l,_):=x;cond (leI i (ae .i64 (aT .i64 2 h) 1)) ((ao f (gw .i64 i 1)).bind λy1=>(ao f i).bind λy2=>cond (eqI y2 g) ((az d.length y1).bind λj3=>(d[j3]?).bind λy4=>cond (ltI y4 0) ((az d.length g).bind λj5=>(d[j5]?).bind λy6=>(az d.length y1).bind λj7=>(d[j7]?).bind λy8=>(app e [y1]).bind λa9=>some (.inl (a,b,c,(d.set j7 (ae .i64 y6 1)),a9,f,g,h,(ae .i64 i 1),k,l,()))) (some (.inl (a,b,c,d,e,f,g,h,(ae .i64 i 1),k,l,())))) (some (.inl (a,b,c,d,e,f,g,h,(ae .i64 i 1),k,l,())))) (some (.inr (.inl (a,b,c,d,e,f,g,k,l,()))))
def zp:=ac yJ
def yO:Ann:=⟨sh [(1,.av (.val (.slice I))),(4,.av (.ptr 4 0)),(9,.av (.own 9)),(11,.av (.own 11)),(14,.av (.val I)),(15,.av (.val I)),(16,.av (.val I)),(51,.av (.val I)),(52,.av (.val I))] [(4,.box [.val I,.val (.slice yQ2),.val aN]),(9,.arr I),(11,.arr I)],[(.exit 8,sh [(1,.av (.val (.slice I))),(4,.av (.ptr 4 0)),(9,.av (.own 9)),(11,.av (.own 11)),(14,.av (.val I)),(51,.av (.val I)),(52,.av (.val I))] [(4,.box [.val I,.val (.slice yQ2),.val aN]),(9,.arr I),(11,.arr I)])],zp⟩
def BB(x:Q63):Option (Q63⊕(Q42⊕Empty)):=
 let(a,b,c,d,e,f,g,h,i,_):=x;cond (ltI i h) ((zp (a,b,c,d,e,f,g,i,(aT .i64 2 i),h,i,())).bind (sw (λ(a_2,b_2,c_2,d_2,e_2,f_2,g_2,h_2,i_2,_)=>some (.inl (a_2,b_2,c_2,d_2,e_2,f_2,g_2,h_2,(ae .i64 i_2 1),()))) (λ_=>none))) (some (.inr (.inl (a,b,c,d,e,f,()))))
def AC:=ac BB
def Bl:Ann:=⟨sh [(1,.av (.val (.slice I))),(4,.av (.ptr 4 0)),(9,.av (.own 9)),(11,.av (.own 11)),(14,.av (.val I)),(51,.av (.val I)),(52,.av (.val I))] [(4,.box [.val I,.val (.slice yQ2),.val aN]),(9,.arr I),(11,.arr I)],[(.exit 6,sh [(1,.av (.val (.slice I))),(4,.av (.ptr 4 0)),(9,.av (.own 9)),(11,.av (.own 11))] [(4,.box [.val I,.val (.slice yQ2),.val aN]),(9,.arr I),(11,.arr I)])],AC⟩
def Bi(x:Q42):Option (Q42⊕(Q1⊕Empty)):=
 let(a,b,c,d,e,f,_):=x;cond (gtI (e.length:Nat) 0) ((az e.length 0).bind λj1=>(e[j1]?).bind λy2=>(AC (a,b,c,d,e,f,y2,(b.length:Nat),0,())).bind (sw (λ(a_4,b_4,c_4,d_4,e_4,f_4,_)=>(gE e_4.length 1 (e_4.length:Nat)).bind λv5=>some (.inl (a_4,b_4,c_4,d_4,((e_4.drop v5.1).take v5.2),f_4,()))) (λ_=>none))) (some (.inr (.inl (d,()))))
def Al:=ac Bi
def BE:Ann:=⟨sh [(1,.av (.val (.slice I))),(4,.av (.ptr 4 0)),(9,.av (.own 9)),(11,.av (.own 11))] [(4,.box [.val I,.val (.slice yQ2),.val aN]),(9,.arr I),(11,.arr I)],[(.exit 4,sh [(9,.av (.own 9))] [(9,.arr I)])],Al⟩
def HL(x:Q67):Option (Q67⊕(Q42⊕Empty)):=
 let(a,b,c,d,e,f,g,h,i,_):=x;cond (ltI i h) ((ao g i).bind λy1=>(az d.length y1).bind λj2=>(d[j2]?).bind λy3=>some (.inl (a,b,c,(d.set j2 0),e,f,g,h,(ae .i64 i 1),()))) (some (.inr (.inl (a,b,c,d,e,f,()))))
def EA:=ac HL
def Hw:Ann:=⟨sh [(1,.av (.val (.slice I))),(4,.av (.ptr 4 0)),(9,.av (.own 9)),(11,.av (.own 11)),(31,.av (.val (.slice I))),(32,.av (.val I)),(33,.av (.val I))] [(4,.box [.val I,.val (.slice yQ2),.val aN]),(9,.arr I),(11,.arr I)],[(.exit 2,sh [(1,.av (.val (.slice I))),(4,.av (.ptr 4 0)),(9,.av (.own 9)),(11,.av (.own 11))] [(4,.box [.val I,.val (.slice yQ2),.val aN]),(9,.arr I),(11,.arr I)])],EA⟩
def IG(x:Q55):Option (Q55⊕(Q42⊕Empty)):=
 let(a,b,c,d,e,f,g,h,_):=x;cond (ltI h g) ((az d.length h).bind λj1=>(d[j1]?).bind λy2=>some (.inl (a,b,c,(d.set j1 (-1)),e,f,g,(ae .i64 h 1),()))) (some (.inr (.inl (a,b,c,d,e,f,()))))
def Do:=ac IG
def F6:Ann:=⟨sh [(1,.av (.val (.slice I))),(3,.av (.val (.slice I))),(4,.av (.ptr 4 0)),(9,.av (.own 9)),(21,.av (.val I)),(22,.av (.val I))] [(4,.box [.val I,.val (.slice yQ2),.val aN]),(9,.arr I)],[(.exit 0,sh [(1,.av (.val (.slice I))),(3,.av (.val (.slice I))),(4,.av (.ptr 4 0)),(9,.av (.own 9))] [(4,.box [.val I,.val (.slice yQ2),.val aN]),(9,.arr I)])],Do⟩
def Zbz(x:(Q25×List Int×Int×List Int×Unit)):Option Q1:=
 let((a,b,c,_),d,e,f,_):=x;(dk I e e).bind λm1=>(Do (a,b,c,m1,d,f,(m1.length:Nat),0,())).bind (sw (λ(a_3,b_3,c_3,d_3,e_3,f_3,_)=>(Zbb (f_3,())).bind λr4=>(EA (a_3,b_3,c_3,d_3,r4.1,e_3,f_3,(f_3.length:Nat),0,())).bind (sw (λ(a_6,b_6,c_6,d_6,e_6,f_6,_)=>(Al (a_6,b_6,c_6,d_6,e_6,f_6,())).bind (sw (λz8=>some (z8.1,())) (λ_=>none))) (λ_=>none))) (λ_=>none))
def Px:Fn:=mkF (cx [Zbb_h]) [(3,F6),(9,Hw),(13,BE),(17,Bl),(20,yO)] 147 Tryz.f147 [(.rd,cT),(.rd,(.slice I)),(.rd,I),(.rd,(.slice I))] [(.tmp 8,true,(.slice I))] Zbz [lp 3 F6 IG,lp 9 Hw HL,lp 13 BE Bi,lp 17 Bl BB,lp 20 yO yJ] seat_ok ab rfl
def Zdk(x:(Int×Int×List Int×Unit)):Option (Int×Unit):=
 let(a,b,c,_):=x;(ao c a).bind λy1=>(ao c b).bind λy2=>some ((aK .i64 y1 y2),())
def Pq:Fn:=mkF (cx []) [] 150 Tryz.f150 [(.rd,I),(.rd,I),(.rd,(.ptr (.slice I)))] [(.tmp 5,true,I)] Zdk [] seat_ok ab rfl
def LV(x:(List Int×Q1×Int×Int×Unit)):Option ((List Int×Q1×Int×Int×Unit)⊕((Int×Unit)⊕Empty)):=
 let(a,b,c,d,_):=x;cond (ltI d (a.length:Nat)) ((ao a d).bind λy1=>(Zdk (y1,c,b.1,())).bind λr2=>cond (ltI r2.1 0) ((ao a d).bind λy3=>some (.inl (a,b,y3,(ae .i64 d 1),()))) (some (.inl (a,b,c,(ae .i64 d 1),())))) (some (.inr (.inl (c,()))))
def LZ:=ac LV
def KW:Ann:=⟨sh [(0,.av (.val (.slice I))),(1,.av (.val (.clo 150 JL))),(5,.av (.val I)),(6,.av (.val I))] [],[(.exit 0,sh [(5,.av (.val I))] [])],LZ⟩
def Zj(x:(List Int×Q1×Unit)):Option (Int×Unit):=
 cond (ltI (x.1.length:Nat) 1) (none) ((ao x.1 0).bind λy1=>(LZ (x.1,x.2.1,y1,1,())).bind (sw (λz3=>some (z3.1,())) (λ_=>none)))
def QD:Fn:=mkF (cx [Pq]) [(5,KW)] 149 Tryz.f149 [(.rd,(.slice I)),(.rd,(.clo 150 JL))] [(.tmp 4,true,I)] Zj [lp 5 KW LV] seat_ok ab rfl
def Zdl(x:(Int×List Int×Int×Unit)):Option (Bool×Unit):=
 (ao x.2.1 x.1).bind λy1=>some ((neI y1 x.2.2.1),())
def Lr:Fn:=mkF (cx []) [] 152 Tryz.f152 [(.rd,I),(.rd,(.ptr (.slice I))),(.rd,(.ptr I))] [(.tmp 4,true,.bool)] Zdl [] seat_ok ab rfl
def Ma(x:Q17):Option (Q17⊕((Int×Unit)⊕(Unit⊕Empty))):=
 let(a,b,c,d,_):=x;cond (ltI d c) ((ao a d).bind λy1=>(Zdl (y1,b.1,b.2.1,())).bind λr2=>cond r2.1 (some (.inr (.inl (d,())))) (some (.inl (a,b,c,(ae .i64 d 1),())))) (some (.inr (.inr (.inl ()))))
def Md:=ac Ma
def KZ:Ann:=⟨sh [(0,.av (.val (.slice I))),(1,.av (.val (.clo 152 tk))),(7,.av (.val I)),(8,.av (.val I))] [],[(.ret,sh [(4,.av (.val I))] []),(.exit 0,sh [] [])],Md⟩
def Zh(x:Q7):Option (Int×Unit):=
 (Md (x.1,x.2.1,(x.1.length:Nat),0,())).bind (sw (λz2=>some (z2.1,())) (sw (λz3=>some ((-1),())) (λ_=>none)))
def Qi:Fn:=mkF (cx [Lr]) [(2,KZ)] 119 Tryz.f119 [(.rd,(.slice I)),(.rd,(.clo 152 tk))] [(.tmp 4,true,I)] Zh [lp 2 KZ Ma] seat_ok ab rfl
def LA(x:Q17):Option (Q17⊕(Q6⊕Empty)):=
 let(a,b,c,d,_):=x;cond (ltI d (a.length:Nat)) ((az a.length d).bind λj1=>(a[j1]?).bind λy2=>(Zdl (y2,b.1,b.2.1,())).bind λr3=>cond (!r3.1) ((az a.length c).bind λj4=>(a[j4]?).bind λy5=>some (.inl ((a.set j4 y2),b,(ae .i64 c 1),(ae .i64 d 1),()))) (some (.inl (a,b,c,(ae .i64 d 1),())))) (some (.inr (.inl (a,c,()))))
def LY:=ac LA
def KS:Ann:=⟨sh [(0,.av (.own 0)),(1,.av (.val (.clo 152 tk))),(5,.av (.val I)),(6,.av (.val I))] [(0,.arr I)],[(.exit 0,sh [(0,.av (.own 0)),(5,.av (.val I))] [(0,.arr I)])],LY⟩
def Zg(x:Q7):Option Q1:=
 (Zh (x.1,x.2.1,())).bind λr1=>cond (eqI r1.1 (-1)) (some (x.1,())) ((LY (x.1,x.2.1,r1.1,(ae .i64 r1.1 1),())).bind (sw (λz3=>(gE z3.1.length z3.2.1 (z3.1.length:Nat)).bind λv4=>cond (RD (v4.1+v4.2) z3.1.length&&RD 1 v4.2) ((gE (eY I z3.1 v4.1 v4.2).length 0 z3.2.1).bind λv5=>some ((((eY I z3.1 v4.1 v4.2).drop v5.1).take v5.2),())) none) (λ_=>none)))
def Ql:Fn:=mkF (cx [Qi,Lr]) [(5,KS)] 151 Tryz.f151 [(.take,(.slice I)),(.rd,(.clo 152 tk))] [(.tmp 4,true,(.slice I))] Zg [lp 5 KS LA] seat_ok ab rfl
def IM(x:(List Int×List Int×List Int×Int×Int×Int×Int×Int×Unit)):Option ((List Int×List Int×List Int×Int×Int×Int×Int×Int×Unit)⊕(Q2⊕(Q35⊕Empty))):=
 let(a,b,c,d,e,f,g,h,_):=x;cond (leI f (ae .i64 (aT .i64 2 e) 1)) ((ao a f).bind λy1=>(ao a (gw .i64 f 1)).bind λy2=>(Zac (c,y1,())).bind λr3=>cond r3.1 ((ao b y1).bind λy4=>(ao b y2).bind λy5=>cond ((eqI y4 d)&&((eqI y5 (aK .i64 d 1))&&true)) (some (.inr (.inl (e,y2,())))) (some (.inl (a,b,c,d,e,(ae .i64 f 1),g,h,())))) (some (.inl (a,b,c,d,e,(ae .i64 f 1),g,h,())))) (some (.inr (.inr (.inl (a,b,c,d,g,h,())))))
def Eb:=ac IM
def Ea:Ann:=⟨sh [(1,.av (.val (.slice I))),(2,.av (.val (.slice I))),(3,.av (.val (.slice I))),(4,.av (.val I)),(12,.av (.val I)),(13,.av (.val I)),(18,.av (.val I)),(19,.av (.val I))] [],[(.ret,sh [(10,.av (.val I)),(11,.av (.val I))] []),(.exit 2,sh [(1,.av (.val (.slice I))),(2,.av (.val (.slice I))),(3,.av (.val (.slice I))),(4,.av (.val I)),(18,.av (.val I)),(19,.av (.val I))] [])],Eb⟩
def Dl(x:Q35):Option (Q35⊕(Q2⊕(Unit⊕Empty))):=
 let(a,b,c,d,e,f,_):=x;cond (ltI f e) ((Eb (a,b,c,d,f,(aT .i64 2 f),e,f,())).bind (sw (λz2=>some (.inr (.inl (z2.1,z2.2.1,())))) (sw (λ(a_3,b_3,c_3,d_3,e_3,f_3,_)=>some (.inl (a_3,b_3,c_3,d_3,e_3,(ae .i64 f_3 1),()))) (λ_=>none)))) (some (.inr (.inr (.inl ()))))
def IV:=ac Dl
def GI:Ann:=⟨sh [(1,.av (.val (.slice I))),(2,.av (.val (.slice I))),(3,.av (.val (.slice I))),(4,.av (.val I)),(18,.av (.val I)),(19,.av (.val I))] [],[(.ret,sh [(10,.av (.val I)),(11,.av (.val I))] []),(.exit 0,sh [] [])],IV⟩
def Zeu(x:(Q25×List Int×List Int×List Int×Int×Unit)):Option Q2:=
 let((_,a,_),b,c,d,e,_):=x;(IV (b,c,d,e,(a.length:Nat),0,())).bind (sw (λz2=>some (z2.1,z2.2.1,())) (sw (λz3=>some ((-1),0,())) (λ_=>none)))
def Pe:Fn:=mkF (cx [Br]) [(2,GI),(5,Ea)] 153 Tryz.f153 [(.rd,cT),(.rd,(.slice I)),(.rd,(.slice I)),(.rd,(.slice I)),(.rd,I)] [(.tmp 10,true,I),(.tmp 11,true,I)] Zeu [lp 2 GI Dl,lp 5 Ea IM] seat_ok ab rfl
def AL(x:Q62):Option (Q62⊕(Q1⊕Empty)):=
 let(a,b,c,d,e,f,g,h,_):=x;cond (gtI f 0) ((Zeu ((a,b,c,()),d,h,e,f,())).bind λr1=>(app g [r1.1]).bind λa2=>some (.inl (a,b,c,d,[r1.2.1],(aK .i64 f 1),a2,h,()))) (some (.inr (.inl (g,()))))
def Cb:=ac AL
def yB:Ann:=⟨sh [(3,.av (.ptr 3 0)),(9,.av (.own 9)),(11,.av (.ptr 11 0)),(12,.av (.own 12)),(13,.av (.ptr 13 0)),(14,.av (.own 14))] [(3,.box [.val I,.val (.slice yQ2),.val aN]),(9,.arr I),(11,.box [.own 1200000]),(12,.arr I),(13,.box [.val I]),(14,.arr I),(1200000,.arr I)],[(.exit 0,sh [(14,.av (.own 14))] [(14,.arr I)])],Cb⟩
def Zem(x:Q27):Option Q6:=
 let((a,b,c,_),d,e,_):=x;(Zet ((a,b,c,()),())).bind λr1=>cond (neI r1.1 0) (some ([],r1.1,())) (cond (ltI d 0) (some ([],3,())) (cond (geI d a) (some ([],3,())) (cond (ltI e 0) (some ([],3,())) (cond (geI e a) (some ([],3,())) (cond (eqI d e) (some ([],0,())) ((Zdh ((a,b,c,()),())).bind λr2=>(Zdx ((a,b,c,()),r2.1,e,())).bind λr3=>(Zbz ((a,b,c,()),r2.1,r2.2.1,r3.1,())).bind λr4=>(Zdx ((a,b,c,()),r2.1,d,())).bind λr5=>(Zj (r5.1,(r4.1,()),())).bind λr6=>(az r4.1.length r6.1).bind λj7=>(r4.1[j7]?).bind λy8=>(Zg (r5.1,(r4.1,y8,()),())).bind λr9=>(Cb (a,b,c,r2.1,r9.1,y8,[],r4.1,())).bind (sw (λz11=>some (z11.1,0,())) (λ_=>none))))))))
def OO:Fn:=mkF (cx [PL,O9,Px,OG,QD,Ql,Pe]) [(14,yB)] 103 Tryz.f103 [(.rd,cT),(.rd,I),(.rd,I)] [(.tmp 6,true,(.slice I)),(.tmp 7,true,I)] Zem [lp 14 yB AL] seat_ok ab rfl
def Zbv(x:(Int×List Int×Int×Unit)):Option (Bool×Unit):=
 (ao x.2.1 x.1).bind λy1=>(ao x.2.1 x.2.2.1).bind λy2=>some ((eqI y1 y2),())
def PZ:Fn:=mkF (cx []) [] 159 Tryz.f159 [(.rd,I),(.rd,(.ptr (.slice I))),(.rd,(.ptr I))] [(.tmp 4,true,.bool)] Zbv [] seat_ok ab rfl
def K9(x:Q17):Option (Q17⊕((Int×Unit)⊕(Unit⊕Empty))):=
 let(a,b,c,d,_):=x;cond (ltI d c) ((ao a d).bind λy1=>(Zbv (y1,b.1,b.2.1,())).bind λr2=>cond r2.1 (some (.inr (.inl (d,())))) (some (.inl (a,b,c,(ae .i64 d 1),())))) (some (.inr (.inr (.inl ()))))
def LP:=ac K9
def Mf:Ann:=⟨sh [(0,.av (.val (.slice I))),(1,.av (.val (.clo 159 tk))),(7,.av (.val I)),(8,.av (.val I))] [],[(.ret,sh [(4,.av (.val I))] []),(.exit 0,sh [] [])],LP⟩
def Zd(x:Q7):Option (Int×Unit):=
 (LP (x.1,x.2.1,(x.1.length:Nat),0,())).bind (sw (λz2=>some (z2.1,())) (sw (λz3=>some ((-1),())) (λ_=>none)))
def Qo:Fn:=mkF (cx [PZ]) [(2,Mf)] 119 Tryz.f119 [(.rd,(.slice I)),(.rd,(.clo 159 tk))] [(.tmp 4,true,I)] Zd [lp 2 Mf K9] seat_ok ab rfl
def Zb(x:Q7):Option (Bool×Unit):=
 (Zd (x.1,x.2.1,())).bind λr1=>some ((geI r1.1 0),())
def Qq:Fn:=mkF (cx [Qo]) [] 158 Tryz.f158 [(.rd,(.slice I)),(.rd,(.clo 159 tk))] [(.tmp 4,true,.bool)] Zb [] seat_ok ab rfl
def Zcp(x:(Int×Q25×Int×List Int×Unit)):Option (Bool×Unit):=
 (ao x.2.1.2.2.1 x.2.2.1).bind λy1=>(Zb (y1,(x.2.2.2.1,x.1,()),())).bind λr2=>some (r2.1,())
def OK:Fn:=mkF (cx [Qq]) [] 157 Tryz.f157 [(.rd,I),(.rd,(.ptr cT)),(.rd,(.ptr I)),(.rd,(.ptr (.slice I)))] [(.tmp 5,true,.bool)] Zcp [] seat_ok ab rfl
def KV(x:((Q25×Int×List Int×Unit)×Int×List Int×Int×Int×Unit)):Option (((Q25×Int×List Int×Unit)×Int×List Int×Int×Int×Unit)⊕((Int×Unit)⊕Empty)):=
 let(a,b,c,d,e,_):=x;cond (ltI e d) ((ao c e).bind λy1=>(Zcp (y1,a.1,a.2.1,a.2.2.1,())).bind λr2=>cond r2.1 (cond (ltI b 0) (some (.inl (a,y1,c,d,(ae .i64 e 1),()))) (cond (ltI y1 b) (some (.inl (a,y1,c,d,(ae .i64 e 1),()))) (some (.inl (a,b,c,d,(ae .i64 e 1),()))))) (some (.inl (a,b,c,d,(ae .i64 e 1),())))) (some (.inr (.inl (b,()))))
def Lv:=ac KV
def L0:Ann:=⟨sh [(1,.av (.val (.clo 157 (.prod (.ptr cT) (.prod (.ptr I) JL))))),(5,.av (.val I)),(8,.av (.val (.slice I))),(9,.av (.val I)),(10,.av (.val I))] [],[(.exit 0,sh [(5,.av (.val I))] [])],Lv⟩
def Zk(x:(List Int×(Q25×Int×List Int×Unit)×Unit)):Option (Int×Unit):=
 (Lv (x.2.1,(-1),x.1,(x.1.length:Nat),0,())).bind (sw (λz2=>some (z2.1,())) (λ_=>none))
def Qv:Fn:=mkF (cx [OK]) [(3,L0)] 156 Tryz.f156 [(.rd,(.slice I)),(.rd,(.clo 157 (.prod (.ptr cT) (.prod (.ptr I) JL))))] [(.tmp 4,true,I)] Zk [lp 3 L0 KV] seat_ok ab rfl
def Zct(x:(Int×List Int×Int×Unit)):Option (Bool×Unit):=
 (ao x.2.1 x.1).bind λy1=>(ao x.2.1 x.2.2.1).bind λy2=>some ((eqI y1 y2),())
def Ol:Fn:=mkF (cx []) [] 160 Tryz.f160 [(.rd,I),(.rd,(.ptr (.slice I))),(.rd,(.ptr I))] [(.tmp 4,true,.bool)] Zct [] seat_ok ab rfl
def Lh(x:(Q6×Int×List Int×Int×Int×Unit)):Option ((Q6×Int×List Int×Int×Int×Unit)⊕((Int×Unit)⊕Empty)):=
 let(a,b,c,d,e,_):=x;cond (ltI e d) ((ao c e).bind λy1=>(Zct (y1,a.1,a.2.1,())).bind λr2=>cond r2.1 (cond (ltI b 0) (some (.inl (a,y1,c,d,(ae .i64 e 1),()))) (cond (ltI y1 b) (some (.inl (a,y1,c,d,(ae .i64 e 1),()))) (some (.inl (a,b,c,d,(ae .i64 e 1),()))))) (some (.inl (a,b,c,d,(ae .i64 e 1),())))) (some (.inr (.inl (b,()))))
def LX:=ac Lh
def Lx:Ann:=⟨sh [(1,.av (.val (.clo 160 tk))),(5,.av (.val I)),(8,.av (.val (.slice I))),(9,.av (.val I)),(10,.av (.val I))] [],[(.exit 0,sh [(5,.av (.val I))] [])],LX⟩
def Zl(x:Q7):Option (Int×Unit):=
 (LX (x.2.1,(-1),x.1,(x.1.length:Nat),0,())).bind (sw (λz2=>some (z2.1,())) (λ_=>none))
def Qh:Fn:=mkF (cx [Ol]) [(3,Lx)] 156 Tryz.f156 [(.rd,(.slice I)),(.rd,(.clo 160 tk))] [(.tmp 4,true,I)] Zl [lp 3 Lx Lh] seat_ok ab rfl
def Zdu(x:Q27):Option Q26:=
 let((a,b,c,_),d,e,_):=x;(Zdi ((a,b,c,()),())).bind λr1=>(ao c d).bind λy2=>(Zk (y2,((a,b,c,()),e,r1.1,()),())).bind λr3=>cond (ltI r3.1 0) (some ((0,[],[],()),15,())) ((ao c e).bind λy4=>(Zl (y4,(r1.1,r3.1,()),())).bind λr5=>(Zdv ((a,b,c,()),r3.1,r5.1,())).bind λr6=>some ((r6.1.1,r6.1.2.1,r6.1.2.2.1,()),r6.2.1,()))
def P5:Fn:=mkF (QK [Lz,KO] [(18,Qv),(30,Qh)]) [] 105 Tryz.f105 [(.rd,cT),(.rd,I),(.rd,I)] [(.cell 6 59,false,cT),(.tmp 7,true,I)] Zdu [] seat_ok uz rfl
def Aa(x:Q56):Option (Q56⊕(Q10⊕((Int×List Int×Int×(List Q2)×(List (List Int))×List Int×Unit)⊕Empty))):=
 let(a,b,c,d,e,f,g,h,_):=x;cond (ltI h (f.length:Nat)) ((app g [(aT .i64 2 (d.length:Nat))]).bind λa1=>(az f.length (aK .i64 h 1)).bind λj2=>(f[j2]?).bind λy3=>(az f.length h).bind λj4=>(f[j4]?).bind λy5=>(Zdu ((c,d,e,()),y3,y5,())).bind λr6=>cond (neI r6.2.1 0) (some (.inr (.inl (0,0,r6.2.1,())))) (some (.inl (a,b,r6.1.1,r6.1.2.1,r6.1.2.2.1,f,a1,(ae .i64 h 1),())))) (some (.inr (.inr (.inl (a,b,c,d,e,g,())))))
def yW:=ac Aa
def BS:Ann:=⟨sh [(6,.av (.ptr 6 0)),(10,.av (.own 10)),(12,.av (.ptr 12 0)),(13,.av (.own 13)),(16,.av (.own 16)),(17,.av (.val I))] [(6,.box [.val I,.nils,.nils]),(10,.arr I),(12,.box [.val I,.val (.slice yQ2),.val aN]),(13,.arr I),(16,.arr I)],[(.ret,sh [(6,.av (.ptr 6 0)),(7,.av (.nils)),(8,.av (.val I)),(9,.av (.val I))] [(6,.box [.val I,.nils,.nils])]),(.exit 2,sh [(6,.av (.ptr 6 0)),(10,.av (.own 10)),(12,.av (.ptr 12 0)),(16,.av (.own 16))] [(6,.box [.val I,.nils,.nils]),(10,.arr I),(12,.box [.val I,.val (.slice yQ2),.val aN]),(16,.arr I)])],yW⟩
def Ds(x:Q58):Option (Q58⊕(Q10⊕((Int×List Int×Int×(List Q2)×(List (List Int))×List Int×Int×Unit)⊕Empty))):=
 let(a,b,c,d,e,f,g,h,i,_):=x;cond (ltI i h) ((az b.length i).bind λj1=>(b[j1]?).bind λy2=>(app f [c]).bind λa3=>(Zdd ((c,d,e,()),y2,())).bind λr4=>cond (neI r4.2.1 0) (some (.inr (.inl (0,0,r4.2.1,())))) (some (.inl (a,b,r4.1.1,r4.1.2.1,r4.1.2.2.1,a3,g,h,(ae .i64 i 1),())))) (some (.inr (.inr (.inl (a,b,c,d,e,f,g,())))))
def IL:=ac Ds
def Fi:Ann:=⟨sh [(2,.av (.val I)),(6,.av (.ptr 6 0)),(10,.av (.own 10)),(12,.av (.ptr 12 0)),(13,.av (.own 13)),(36,.av (.own 10)),(37,.av (.val I)),(38,.av (.val I))] [(6,.box [.val I,.nils,.nils]),(10,.arr I),(12,.box [.val I,.val (.slice yQ2),.val aN]),(13,.arr I)],[(.ret,sh [(6,.av (.ptr 6 0)),(7,.av (.nils)),(8,.av (.val I)),(9,.av (.val I))] [(6,.box [.val I,.nils,.nils])]),(.exit 0,sh [(2,.av (.val I)),(6,.av (.ptr 6 0)),(10,.av (.own 10)),(12,.av (.ptr 12 0)),(13,.av (.own 13))] [(6,.box [.val I,.nils,.nils]),(10,.arr I),(12,.box [.val I,.val (.slice yQ2),.val aN]),(13,.arr I)])],IL⟩
def Zee(x:Q27):Option (Q25×List Int×Int×Int×Unit):=
 let((a,b,c,_),d,e,_):=x;(Zem ((a,b,c,()),d,e,())).bind λr1=>cond (neI r1.2.1 0) (some ((0,[],[],()),[],0,r1.2.1,())) (cond (eqI d e) (some ((0,[],[],()),[],0,8,())) ((IL (0,r1.1,a,b,c,[d],e,(r1.1.length:Nat),0,())).bind (sw (λz3=>some ((z3.1,[],[],()),[],z3.2.1,z3.2.2.1,())) (sw (λ(a_4,b_4,c_4,d_4,e_4,f_4,g_4,_)=>(app f_4 [g_4]).bind λa5=>(yW (a_4,b_4,c_4,d_4,e_4,a5,[],1,())).bind (sw (λz7=>some ((z7.1,[],[],()),[],z7.2.1,z7.2.2.1,())) (sw (λ(_,a_8,b_8,c_8,d_8,e_8,_)=>some ((b_8,c_8,d_8,()),e_8,(a_8.length:Nat),0,())) (λ_=>none)))) (λ_=>none)))))
def Oi:Fn:=mkF (cx [OO,LF,P5]) [(9,Fi),(19,BS)] 62 Tryz.f62 [(.rd,cT),(.rd,I),(.rd,I)] [(.cell 6 59,false,cT),(.tmp 7,false,(.slice I)),(.tmp 8,true,I),(.tmp 9,true,I)] Zee [lp 9 Fi Ds,lp 19 BS Aa] seat_ok ab rfl
def Ro:Con:={ ins:=[(.rd,cT),(.rd,I),(.rd,I)],outs:=[(false,cT),(false,(.slice I)),(true,I),(true,I)],fn:=Zee }
def Ha(x:Q29):Option (Q29⊕((Int×Unit)⊕(Q8⊕Empty))):=
 let(a,b,c,d,e,_):=x;cond (ltI e d) ((ao c e).bind λy1=>cond (eqI y1.1 y1.2.1) (some (.inr (.inl (8,())))) (some (.inl (a,b,c,d,(ae .i64 e 1),())))) (some (.inr (.inr (.inl (a,b,())))))
def Fg:=ac Ha
def DF:Ann:=⟨sh [(1,.av (.ptr 1 0)),(11,.av (.val (.slice yQ2))),(12,.av (.val I)),(13,.av (.val I))] [(1,.box [.val I,.val (.slice yQ2)])],[(.ret,sh [(2,.av (.val I))] []),(.exit 0,sh [(1,.av (.ptr 1 0))] [(1,.box [.val I,.val (.slice yQ2)])])],Fg⟩
def Zdg(x:(Q8×Unit)):Option (Int×Unit):=
 let((a,b,_),_):=x;(Zdc ((a,b,()),())).bind λr1=>cond (!r1.1) (some (1,())) ((Fg (a,b,b,(b.length:Nat),0,())).bind (sw (λz3=>some (z3.1,())) (sw (λz4=>(Zcb ((z4.1,z4.2.1,()),())).bind λr5=>cond (ltI (r5.1.2.1.length:Nat) (z4.2.1.length:Nat)) (some (6,())) (some (0,()))) (λ_=>none))))
def PR:Fn:=mkF (cx [ur,LN]) [(4,DF)] 98 Tryz.f98 [(.rd,gL)] [(.tmp 2,true,I)] Zdg [lp 4 DF Ha] seat_ok ab rfl
def Rl:Con:={ ins:=[(.rd,gL)],outs:=[(true,I)],fn:=Zdg }
def EC(x:Q50):Option (Q50⊕(Q32⊕Empty)):=
 let(a,b,c,d,e,f,g,_):=x;cond (ltI g f) ((ao e g).bind λy1=>cond (eqI (y1.length:Nat) 0) (some (.inl (a,b,c,(ae .i64 d 1),e,f,(ae .i64 g 1),()))) (some (.inl (a,b,c,d,e,f,(ae .i64 g 1),())))) (some (.inr (.inl (a,b,c,d,()))))
def Gh:=ac EC
def IC:Ann:=⟨sh [(1,.av (.val I)),(2,.av (.ptr 2 0)),(8,.av (.val aN)),(9,.av (.val I)),(10,.av (.val I))] [(2,.box [.val I,.val (.slice yQ2),.val aN])],[(.exit 0,sh [(1,.av (.val I)),(2,.av (.ptr 2 0))] [(2,.box [.val I,.val (.slice yQ2),.val aN])])],Gh⟩
def Zbp(x:Q26):Option (Int×Unit):=
 let((a,b,c,_),d,_):=x;(Gh (a,b,c,d,c,(c.length:Nat),0,())).bind (sw (λz2=>some ((fB .i64 (ae .i64 (aK .i64 z2.1 (z2.2.1.length:Nat)) z2.2.2.2.1) 2),())) (λ_=>none))
def OY:Fn:=mkF (cx []) [(2,IC)] 161 Tryz.f161 [(.rd,cT),(.rd,I)] [(.tmp 4,true,I)] Zbp [lp 2 IC EC] seat_ok ab rfl
def Zdz(x:(Q25×Unit)):Option (Bool×Unit):=
 cond (eqI x.1.1 1) (some ((eqI (x.1.2.1.length:Nat) 0),())) (some (false,()))
def PF:Fn:=mkF (cx []) [] 162 Tryz.f162 [(.rd,cT)] [(.tmp 2,true,.bool)] Zdz [] seat_ok ab rfl
def zq(x:Q60):Option (Q60⊕(Q15⊕Empty)):=
 let(a,b,c,d,e,f,g,h,_):=x;cond (ltI h g) ((ao b (fB .i64 h 2)).bind λy1=>cond (eqI (kk h 2) 1) ((az d.length (gw .i64 h 1)).bind λj2=>(d[j2]?).bind λy3=>(az d.length h).bind λj4=>(d[j4]?).bind λy5=>(az d.length (gw .i64 h 1)).bind λj6=>(d[j6]?).bind λy7=>(app f [(y1.2.1,y3,3,0,()),(y5,y7,64,1,())]).bind λa8=>some (.inl (a,b,c,d,e,a8,g,(ae .i64 h 1),()))) ((az d.length (gw .i64 h 1)).bind λj9=>(d[j9]?).bind λy10=>(az d.length h).bind λj11=>(d[j11]?).bind λy12=>(az d.length (gw .i64 h 1)).bind λj13=>(d[j13]?).bind λy14=>(app f [(y1.1,y10,3,0,()),(y12,y14,64,1,())]).bind λa15=>some (.inl (a,b,c,d,e,a15,g,(ae .i64 h 1),())))) (some (.inr (.inl (e,f,()))))
def zf:=ac zq
def Aw:Ann:=⟨sh [(2,.av (.ptr 2 0)),(4,.av (.ptr 4 0)),(9,.av (.ptr 9 0)),(12,.av (.own 12)),(140,.av (.val I)),(141,.av (.val I))] [(2,.box [.val I,.val (.slice yQ2),.val aN]),(4,.box [.nils,.nils]),(9,.box [.own 1000000,.own 1000001]),(12,.arr I),(1000000,.arr I),(1000001,.arr yQ4)],[(.exit 8,sh [(4,.av (.ptr 4 0)),(9,.av (.ptr 9 0))] [(4,.box [.nils,.nils]),(9,.box [.own 1000000,.own 1000001]),(1000000,.arr I),(1000001,.arr yQ4)])],zf⟩
def yG(x:Q90):Option (Q90⊕((Int×(List Q2)×(List (List Int))×List Int×List Int×(List (List Int))×Int×List Int×Int×Int×Unit)⊕Empty)):=
 let(a,b,c,d,e,f,g,h,i,k,l,m,n,o,_):=x;cond (ltI o n) ((ao m o).bind λy1=>(az e.length y1).bind λj2=>(e[j2]?).bind λy3=>some (.inl (a,b,c,d,(e.set j2 (ae .i64 a h)),f,g,h,i,k,l,m,n,(ae .i64 o 1),()))) (some (.inr (.inl (a,b,c,d,e,f,g,i,k,l,()))))
def BU:=ac yG
def BR:Ann:=⟨sh [(1,.av (.val I)),(2,.av (.ptr 2 0)),(4,.av (.ptr 4 0)),(9,.av (.ptr 9 0)),(12,.av (.own 12)),(13,.av (.val I)),(14,.av (.val (.slice I))),(99,.av (.own 99)),(100,.av (.val I)),(101,.av (.val I)),(106,.av (.val (.slice I))),(107,.av (.val I)),(108,.av (.val I))] [(2,.box [.val I,.val (.slice yQ2),.val aN]),(4,.box [.nils,.nils]),(9,.box [.own 1000000,.nils]),(1000000,.arr I),(12,.arr I),(99,.arr (.slice I))],[(.exit 6,sh [(1,.av (.val I)),(2,.av (.ptr 2 0)),(4,.av (.ptr 4 0)),(9,.av (.ptr 9 0)),(12,.av (.own 12)),(14,.av (.val (.slice I))),(99,.av (.own 99)),(100,.av (.val I)),(101,.av (.val I))] [(2,.box [.val I,.val (.slice yQ2),.val aN]),(4,.box [.nils,.nils]),(9,.box [.own 1000000,.nils]),(1000000,.arr I),(12,.arr I),(99,.arr (.slice I))])],BU⟩
def zx(x:Q71):Option (Q71⊕((Int×(List Q2)×(List (List Int))×List Int×List Int×Int×Unit)⊕Empty)):=
 let(a,b,c,d,e,f,g,h,i,_):=x;cond (ltI i h) ((az f.length i).bind λj1=>(f[j1]?).bind λy2=>(BU (a,b,c,d,e,f,g,i,y2,h,i,y2,(y2.length:Nat),0,())).bind (sw (λ(a_4,b_4,c_4,d_4,e_4,f_4,g_4,h_4,i_4,k_4,_)=>(app d_4 [(aK .i64 4 (h_4.length:Nat))]).bind λa5=>some (.inl (a_4,b_4,c_4,a5,e_4,f_4,g_4,i_4,(ae .i64 k_4 1),()))) (λ_=>none))) (some (.inr (.inl (a,b,c,d,e,g,()))))
def zH:=ac zx
def zA:Ann:=⟨sh [(1,.av (.val I)),(2,.av (.ptr 2 0)),(4,.av (.ptr 4 0)),(9,.av (.ptr 9 0)),(12,.av (.own 12)),(99,.av (.own 99)),(100,.av (.val I)),(101,.av (.val I))] [(2,.box [.val I,.val (.slice yQ2),.val aN]),(4,.box [.nils,.nils]),(9,.box [.own 1000000,.nils]),(1000000,.arr I),(12,.arr I),(99,.arr (.slice I))],[(.exit 4,sh [(1,.av (.val I)),(2,.av (.ptr 2 0)),(4,.av (.ptr 4 0)),(9,.av (.ptr 9 0)),(12,.av (.own 12))] [(2,.box [.val I,.val (.slice yQ2),.val aN]),(4,.box [.nils,.nils]),(9,.box [.own 1000000,.nils]),(1000000,.arr I),(12,.arr I)])],zH⟩
def Aj(x:Q78):Option (Q78⊕((Int×(List Q2)×(List (List Int))×(List (List Int))×List Int×Int×Unit)⊕Empty)):=
 let(a,b,c,d,e,f,g,h,i,_):=x;cond (ltI i h) ((ao g i).bind λy1=>(app e [(aK .i64 4 (y1.length:Nat))]).bind λa2=>some (.inl (a,b,c,d,a2,f,g,h,(ae .i64 i 1),()))) (some (.inr (.inl (a,b,c,d,e,f,()))))
def yp:=ac Aj
def Bp:Ann:=⟨sh [(1,.av (.val I)),(2,.av (.ptr 2 0)),(4,.av (.ptr 4 0)),(6,.av (.own 6)),(9,.av (.ptr 9 0)),(79,.av (.val aN)),(80,.av (.val I)),(81,.av (.val I))] [(2,.box [.val I,.val (.slice yQ2),.val aN]),(4,.box [.nils,.nils]),(6,.arr (.slice I)),(9,.box [.own 1000000,.nils]),(1000000,.arr I)],[(.exit 2,sh [(1,.av (.val I)),(2,.av (.ptr 2 0)),(4,.av (.ptr 4 0)),(6,.av (.own 6)),(9,.av (.ptr 9 0))] [(2,.box [.val I,.val (.slice yQ2),.val aN]),(4,.box [.nils,.nils]),(6,.arr (.slice I)),(9,.box [.own 1000000,.nils]),(1000000,.arr I)])],yp⟩
def Ei(x:Q69):Option (Q69⊕((Int×Unit)⊕((Int×(List Q2)×(List (List Int))×(List (List Int))×Int×Unit)⊕Empty))):=
 let(a,b,c,d,e,f,g,h,_):=x;cond (ltI h g) ((ao f h).bind λy1=>cond (gtI (y1.length:Nat) 4) (some (.inr (.inl (11,())))) (some (.inl (a,b,c,d,e,f,g,(ae .i64 h 1),())))) (some (.inr (.inr (.inl (a,b,c,d,e,())))))
def FW:=ac Ei
def Dw:Ann:=⟨sh [(1,.av (.val I)),(2,.av (.ptr 2 0)),(4,.av (.ptr 4 0)),(6,.av (.own 6)),(38,.av (.val aN)),(39,.av (.val I)),(40,.av (.val I))] [(2,.box [.val I,.val (.slice yQ2),.val aN]),(4,.box [.nils,.nils]),(6,.arr (.slice I))],[(.ret,sh [(4,.av (.ptr 4 0)),(5,.av (.val I))] [(4,.box [.nils,.nils])]),(.exit 0,sh [(1,.av (.val I)),(2,.av (.ptr 2 0)),(4,.av (.ptr 4 0)),(6,.av (.own 6))] [(2,.box [.val I,.val (.slice yQ2),.val aN]),(4,.box [.nils,.nils]),(6,.arr (.slice I))])],FW⟩
def Zez(x:Q26):Option (Q15×Int×Unit):=
 let((a,b,c,_),d,_):=x;(Zca ((a,b,c,()),())).bind λr1=>cond (!r1.1) (some (([],[],()),13,())) ((Zch ((a,b,c,()),())).bind λr2=>cond (neI r2.1 0) (some (([],[],()),13,())) ((Zcj ((a,b,c,()),())).bind λr3=>(Zbp ((a,b,c,()),(r3.1.length:Nat),())).bind λr4=>cond (neI r4.1 1) (some (([],[],()),12,())) ((FW (a,b,c,r3.1,d,c,(c.length:Nat),0,())).bind (sw (λz6=>some (([],[],()),z6.1,())) (sw (λ(a_7,b_7,c_7,d_7,e_7,_)=>cond (ltI e_7 0) (some (([],[],()),3,())) (cond (geI e_7 (cE (aT .i64 2 (b_7.length:Nat)) 1)) (some (([],[],()),3,())) ((Zdz ((a_7,b_7,c_7,()),())).bind λr8=>cond r8.1 (some (([],[],()),0,())) (cond (gtI (ae .i64 a_7 (d_7.length:Nat)) 256) (some (([],[],()),2,())) (cond (gtI (aT .i64 4 (b_7.length:Nat)) 2048) (some (([],[],()),2,())) ((yp (a_7,b_7,c_7,d_7,[],e_7,c_7,(c_7.length:Nat),0,())).bind (sw (λ(a_10,b_10,c_10,d_10,e_10,f_10,_)=>(dk I (aT .i64 2 (b_10.length:Nat)) (aT .i64 2 (b_10.length:Nat))).bind λm11=>(zH (a_10,b_10,c_10,e_10,m11,d_10,f_10,(d_10.length:Nat),0,())).bind (sw (λ(a_13,b_13,c_13,d_13,e_13,f_13,_)=>(az e_13.length f_13).bind λj14=>(e_13[j14]?).bind λy15=>(az d_13.length y15).bind λj16=>(d_13[j16]?).bind λy17=>(az d_13.length y15).bind λj18=>(d_13[j18]?).bind λy19=>(zf (a_13,b_13,c_13,e_13,(d_13.set j18 (aK .i64 y17 8)),[],(e_13.length:Nat),0,())).bind (sw (λz21=>some ((z21.1,z21.2.1,()),0,())) (λ_=>none))) (λ_=>none))) (λ_=>none)))))))) (λ_=>none))))))
def Pu:Fn:=mkF (cx [mU,nn,IJ,OY,PF]) [(7,Dw),(20,Bp),(26,zA),(29,BR),(37,Aw)] 106 Tryz.f106 [(.rd,cT),(.rd,I)] [(.cell 4 142,true,pi),(.tmp 5,true,I)] Zez [lp 7 Dw Ei,lp 20 Bp Aj,lp 26 zA zx,lp 29 BR yG,lp 37 Aw zq] seat_ok ab rfl
def QT:Con:={ ins:=[(.rd,cT),(.rd,I)],outs:=[(true,pi),(true,I)],fn:=Zez }
def Zef(x:Q10):Option (Bool×Unit):=
 cond (geI x.1 x.2.1) (some ((leI x.1 x.2.2.1),())) (some (false,()))
def Lf:Fn:=mkF (cx []) [] 195 Tryz.f195 [(.rd,I),(.rd,I),(.rd,I)] [(.tmp 6,true,.bool)] Zef [] seat_ok ab rfl
def Bg(x:(List Int×(List Q14)×Int×(List Q14)×Int×Int×Unit)):Option ((List Int×(List Q14)×Int×(List Q14)×Int×Int×Unit)⊕((Bool×Unit)⊕((Int×Unit)⊕Empty))):=
 let(a,b,c,d,e,f,_):=x;cond (ltI f e) ((ao d f).bind λy1=>(Zef (y1.1,0,(aK .i64 (a.length:Nat) 1),())).bind λr2=>cond (!r2.1) (some (.inr (.inl (false,())))) ((Zef (y1.2.1,0,(aK .i64 (a.length:Nat) 1),())).bind λr3=>cond (!r3.1) (some (.inr (.inl (false,())))) ((Zef (y1.2.2.1,0,1048576,())).bind λr4=>cond (!r4.1) (some (.inr (.inl (false,())))) ((Zef (y1.2.2.2.1,(-1000),1000,())).bind λr5=>cond (!r5.1) (some (.inr (.inl (false,())))) (some (.inl (a,b,c,d,e,(ae .i64 f 1),()))))))) (some (.inr (.inr (.inl (c,())))))
def zw:=ac Bg
def BM:Ann:=⟨sh [(1,.av (.ptr 1 0)),(3,.av (.val I)),(33,.av (.val (.slice yQ4))),(34,.av (.val I)),(35,.av (.val I))] [(1,.box [.val (.slice I),.val (.slice yQ4)])],[(.ret,sh [(2,.av (.val .bool))] []),(.exit 2,sh [(3,.av (.val I))] [])],zw⟩
def DU(x:(List Int×(List Q14)×Int×List Int×Int×Int×Unit)):Option ((List Int×(List Q14)×Int×List Int×Int×Int×Unit)⊕((Bool×Unit)⊕((List Int×(List Q14)×Int×Unit)⊕Empty))):=
 let(a,b,c,d,e,f,_):=x;cond (ltI f e) ((ao d f).bind λy1=>(Zef (y1,(-1048576),1048576,())).bind λr2=>cond (!r2.1) (some (.inr (.inl (false,())))) (some (.inl (a,b,(ae .i64 c y1),d,e,(ae .i64 f 1),())))) (some (.inr (.inr (.inl (a,b,c,())))))
def DX:=ac DU
def HW:Ann:=⟨sh [(1,.av (.ptr 1 0)),(3,.av (.val I)),(19,.av (.val (.slice I))),(20,.av (.val I)),(21,.av (.val I))] [(1,.box [.val (.slice I),.val (.slice yQ4)])],[(.ret,sh [(2,.av (.val .bool))] []),(.exit 0,sh [(1,.av (.ptr 1 0)),(3,.av (.val I))] [(1,.box [.val (.slice I),.val (.slice yQ4)])])],DX⟩
def Zeq(x:(Q15×Unit)):Option (Bool×Unit):=
 let((a,b,_),_):=x;cond (gtI (a.length:Nat) 256) (some (false,())) (cond (gtI (b.length:Nat) 2048) (some (false,())) ((DX (a,b,0,a,(a.length:Nat),0,())).bind (sw (λz2=>some (z2.1,())) (sw (λz3=>(zw (z3.1,z3.2.1,z3.2.2.1,z3.2.1,(z3.2.1.length:Nat),0,())).bind (sw (λz5=>some (z5.1,())) (sw (λz6=>some ((eqI z6.1 0),())) (λ_=>none)))) (λ_=>none)))))
def K7:Fn:=mkF (cx [Lf]) [(5,HW),(12,BM)] 163 Tryz.f163 [(.rd,pi)] [(.tmp 2,true,.bool)] Zeq [lp 5 HW DU,lp 12 BM Bg] seat_ok ab rfl
def Rh:Con:={ ins:=[(.rd,pi)],outs:=[(true,.bool)],fn:=Zeq }
def GX(x:(List Int×(List Q14)×List Int×Int×Int×Unit)):Option ((List Int×(List Q14)×List Int×Int×Int×Unit)⊕((Int×Unit)⊕(Unit⊕Empty))):=
 let(a,b,c,d,e,_):=x;cond (ltI e d) ((ao c e).bind λy1=>(ao b e).bind λy2=>(Zef (y1,0,y2.2.2.1,())).bind λr3=>cond (!r3.1) (some (.inr (.inl (3,())))) (some (.inl (a,b,c,d,(ae .i64 e 1),())))) (some (.inr (.inr (.inl ()))))
def Iy:=ac GX
def IU:Ann:=⟨sh [(2,.av (.ptr 2 0)),(16,.av (.val (.slice I))),(17,.av (.val I)),(18,.av (.val I))] [(2,.box [.val (.slice I),.val (.slice yQ4)])],[(.ret,sh [(4,.av (.val I))] []),(.exit 0,sh [] [])],Iy⟩
def Zev(x:(Q15×List Int×Unit)):Option (Int×Unit):=
 let((a,b,_),c,_):=x;(Zeq ((a,b,()),())).bind λr1=>cond (!r1.1) (some (1,())) (cond (neI (c.length:Nat) (b.length:Nat)) (some (3,())) ((Iy (a,b,c,(c.length:Nat),0,())).bind (sw (λz3=>some (z3.1,())) (sw (λz4=>some (0,())) (λ_=>none)))))
def K8:Fn:=mkF (cx [K7,Lf]) [(6,IU)] 167 Tryz.f167 [(.rd,pi),(.rd,(.slice I))] [(.tmp 4,true,I)] Zev [lp 6 IU GX] seat_ok ab rfl
def Jr(x:(List Int×Int×(List Q14)×Int×Int×Unit)):Option ((List Int×Int×(List Q14)×Int×Int×Unit)⊕((Int×Unit)⊕Empty)):=
 let(a,b,c,d,e,_):=x;cond (ltI e d) ((ao c e).bind λy1=>(ao a e).bind λy2=>some (.inl (a,(ae .i64 b (aT .i64 y2 y1.2.2.2.1)),c,d,(ae .i64 e 1),()))) (some (.inr (.inl (b,()))))
def HP:=ac Jr
def EO:Ann:=⟨sh [(1,.av (.val (.slice I))),(5,.av (.val I)),(13,.av (.val (.slice yQ4))),(14,.av (.val I)),(15,.av (.val I))] [],[(.exit 0,sh [(5,.av (.val I))] [])],HP⟩
def Zew(x:(Q15×List Int×Unit)):Option (Int×Unit):=
 let((a,b,_),c,_):=x;(Zev ((a,b,()),c,())).bind λr1=>cond (neI r1.1 0) (some (0,())) ((HP (c,0,b,(b.length:Nat),0,())).bind (sw (λz3=>some (z3.1,())) (λ_=>none)))
def OF:Fn:=mkF (cx [K8]) [(5,EO)] 108 Tryz.f108 [(.rd,pi),(.rd,(.slice I))] [(.tmp 4,true,I)] Zew [lp 5 EO Jr] seat_ok ab rfl
def QO:Con:={ ins:=[(.rd,pi),(.rd,(.slice I))],outs:=[(true,I)],fn:=Zew }
def BN(x:Q12):Option (Q12⊕((Int×Unit)⊕(Unit⊕Empty))):=
 let(a,b,c,_):=x;cond (ltI c b) ((az a.length c).bind λj1=>(a[j1]?).bind λy2=>cond (neI y2 0) (some (.inr (.inl (15,())))) (some (.inl (a,b,(ae .i64 c 1),())))) (some (.inr (.inr (.inl ()))))
def yz:=ac BN
def Cc:Ann:=⟨sh [(51,.av (.own 51)),(52,.av (.val I)),(53,.av (.val I))] [(51,.arr I)],[(.ret,sh [(4,.av (.val I))] []),(.exit 2,sh [] [])],yz⟩
def Iv(x:(List Int×List Int×(List Q14)×Int×Int×Unit)):Option ((List Int×List Int×(List Q14)×Int×Int×Unit)⊕(Q1⊕Empty)):=
 let(a,b,c,d,e,_):=x;cond (ltI e d) ((ao c e).bind λy1=>(az a.length y1.1).bind λj2=>(a[j2]?).bind λy3=>(ao b e).bind λy4=>(az a.length y1.1).bind λj5=>(a[j5]?).bind λy6=>(az (a.set j5 (aK .i64 y3 y4)).length y1.2.1).bind λj7=>((a.set j5 (aK .i64 y3 y4))[j7]?).bind λy8=>(ao b e).bind λy9=>(az (a.set j5 (aK .i64 y3 y4)).length y1.2.1).bind λj10=>((a.set j5 (aK .i64 y3 y4))[j10]?).bind λy11=>some (.inl (((a.set j5 (aK .i64 y3 y4)).set j10 (ae .i64 y8 y9)),b,c,d,(ae .i64 e 1),()))) (some (.inr (.inl (a,()))))
def F4:=ac Iv
def H8:Ann:=⟨sh [(1,.av (.val (.slice I))),(6,.av (.own 6)),(21,.av (.val (.slice yQ4))),(22,.av (.val I)),(23,.av (.val I))] [(6,.arr I)],[(.exit 0,sh [(6,.av (.own 6))] [(6,.arr I)])],F4⟩
def Zes(x:(Q15×List Int×Unit)):Option (Int×Unit):=
 let((a,b,_),c,_):=x;(Zev ((a,b,()),c,())).bind λr1=>cond (neI r1.1 0) (some (r1.1,())) ((Zbb (a,())).bind λr2=>(F4 (r2.1,c,b,(b.length:Nat),0,())).bind (sw (λz4=>(yz (z4.1,(z4.1.length:Nat),0,())).bind (sw (λz6=>some (z6.1,())) (sw (λz7=>some (0,())) (λ_=>none)))) (λ_=>none)))
def Om:Fn:=mkF (cx [Zbb_h,K8]) [(6,H8),(12,Cc)] 109 Tryz.f109 [(.rd,pi),(.rd,(.slice I))] [(.tmp 4,true,I)] Zes [lp 6 H8 Iv,lp 12 Cc BN] seat_ok ab rfl
def QS:Con:={ ins:=[(.rd,pi),(.rd,(.slice I))],outs:=[(true,I)],fn:=Zes }
def EQ(x:Q51):Option (Q51⊕((Int×Int×(List Q2)×(List (List Int))×Unit)⊕Empty)):=
 let(a,b,c,d,e,f,g,_):=x;cond (ltI g f) ((ao e g).bind λy1=>(app [] y1).bind λa2=>(app d [a2]).bind λa3=>some (.inl (a,b,c,a3,e,f,(ae .i64 g 1),()))) (some (.inr (.inl (a,b,c,d,()))))
def Ia:=ac EQ
def Hu:Ann:=⟨sh [(2,.av (.ptr 2 0)),(3,.av (.ptr 3 0)),(13,.av (.val aN)),(14,.av (.val I)),(15,.av (.val I))] [(2,.box [.val I,.nils,.nils]),(3,.box [.val I,.own 400001,.own 400002]),(400001,.arr yQ2),(400002,.arr (.slice I))],[(.exit 0,sh [(2,.av (.ptr 2 0)),(3,.av (.ptr 3 0))] [(2,.box [.val I,.nils,.nils]),(3,.box [.val I,.own 400001,.own 400002]),(400001,.arr yQ2),(400002,.arr (.slice I))])],Ia⟩
def Zdw(x:(Q25×Unit)):Option (Q25×Unit):=
 let((a,b,c,_),_):=x;(app [] b).bind λa1=>(Ia (0,a,a1,[],c,(c.length:Nat),0,())).bind (sw (λz3=>some ((z3.2.1,z3.2.2.1,z3.2.2.2.1,()),())) (λ_=>none))
def PC:Fn:=mkF (cx []) [(3,Hu)] 110 Tryz.f110 [(.rd,cT)] [(.cell 2 59,true,cT)] Zdw [lp 3 Hu EQ] seat_ok ab rfl
def QW:Con:={ ins:=[(.rd,cT)],outs:=[(true,cT)],fn:=Zdw }
def Zci(x:(ByteArray×Int×Unit)):Option (ByteArray×Unit):=repeatC.fn x
def OX:Fn:=⟨111,repeatC,CY glob⟩
def G3(x:((List (List Int))×(List Q2)×Int×Int×Unit)):Option (((List (List Int))×(List Q2)×Int×Int×Unit)⊕(Q11⊕Empty)):=
 let(a,b,c,d,_):=x;cond (ltI d c) ((ao b d).bind λy1=>(az a.length y1.1).bind λj2=>(az a.length y1.2.1).bind λj3=>(az (ji a j2).length y1.2.1).bind λj4=>(az (ji (a.set j2 ((ji a j2).set j4 (aT .i64 2 d))) j3).length y1.1).bind λj5=>some (.inl (((a.set j2 ((ji a j2).set j4 (aT .i64 2 d))).set j3 ((ji (a.set j2 ((ji a j2).set j4 (aT .i64 2 d))) j3).set j5 (ae .i64 (aT .i64 2 d) 1))),b,c,(ae .i64 d 1),()))) (some (.inr (.inl (a,()))))
def HH:=ac G3
def H5:Ann:=⟨sh [(3,.av (.ownd 3)),(23,.av (.val (.slice yQ2))),(24,.av (.val I)),(25,.av (.val I))] [(3,.deep I)],[(.exit 2,sh [(3,.av (.ownd 3))] [(3,.deep I)])],HH⟩
def Io(x:(Int×(List Q2)×(List (List Int))×Int×Int×Unit)):Option ((Int×(List Q2)×(List (List Int))×Int×Int×Unit)⊕(Q25⊕Empty)):=
 let(a,b,c,d,e,_):=x;cond (ltI e d) ((dk I a a).bind λm1=>(az c.length e).bind λj2=>some (.inl (a,b,(c.set j2 m1),d,(ae .i64 e 1),()))) (some (.inr (.inl (a,b,c,()))))
def Dp:=ac Io
def FE:Ann:=⟨sh [(1,.av (.ptr 1 0)),(3,.av (.ownd 3)),(11,.av (.val I)),(12,.av (.val I))] [(1,.box [.val I,.val (.slice yQ2)]),(3,.deep I)],[(.exit 0,sh [(1,.av (.ptr 1 0)),(3,.av (.ownd 3))] [(1,.box [.val I,.val (.slice yQ2)]),(3,.deep I)])],Dp⟩
def Zde(x:(Q8×Unit)):Option Q11:=
 (dk (.slice I) x.1.1 x.1.1).bind λm1=>(Dp (x.1.1,x.1.2.1,m1,(m1.length:Nat),0,())).bind (sw (λz3=>(HH (z3.2.2.1,z3.2.1,(z3.2.1.length:Nat),0,())).bind (sw (λz5=>some (z5.1,())) (λ_=>none))) (λ_=>none))
def Ox:Fn:=mkF { cx []with deep:=[9],light:=[10] } [(3,FE),(8,H5)] 140 Tryz.f140 [(.rd,gL)] [(.tmp 2,true,aN)] Zde [lp 3 FE Io,lp 8 H5 G3] seat_ok ab rfl (d:=true)
def Rr:Con:={ ins:=[(.rd,gL)],outs:=[(true,aN)],fn:=Zde,deep:=true }
def Zdn(x:(Int×Unit)):Option (Bool×Unit):=
 some ((gtI x.1 0),())
def Oo:Fn:=mkF (cx []) [] 164 Tryz.f164 [(.rd,I)] [(.tmp 2,true,.bool)] Zdn [] seat_ok ab rfl
def Rc:Con:={ ins:=[(.rd,I)],outs:=[(true,.bool)],fn:=Zdn }
def Zed(x:(Q24×Unit)):Option (Int×Unit):=
 let((_,_,a,_,_,b,_),_):=x;cond b (some ((aK .i64 0 a),())) (some (a,()))
def Ob:Fn:=mkF (cx []) [] 196 Tryz.f196 [(.rd,gM)] [(.tmp 2,true,I)] Zed [] seat_ok ab rfl
def DY(x:Q49):Option (Q49⊕(Q34⊕Empty)):=
 let(a,b,c,d,e,f,g,h,_):=x;cond (ltI h g) ((ao f h).bind λy1=>(az c.length y1.1).bind λj2=>(c[j2]?).bind λy3=>cond (eqI y3 1152921504606846976) (some (.inl (a,b,c,d,e,f,g,(ae .i64 h 1),()))) ((az c.length y1.1).bind λj4=>(c[j4]?).bind λy5=>(Zed ((y1.1,y1.2.1,y1.2.2.1,y1.2.2.2.1,y1.2.2.2.2.1,y1.2.2.2.2.2.1,()),())).bind λr6=>(az c.length y1.2.1).bind λj7=>(c[j7]?).bind λy8=>cond (ltI (ae .i64 y5 r6.1) y8) ((az c.length y1.2.1).bind λj9=>(c[j9]?).bind λy10=>(az d.length y1.2.1).bind λj11=>(d[j11]?).bind λy12=>some (.inl (a,b,(c.set j9 (ae .i64 y5 r6.1)),(d.set j11 h),true,f,g,(ae .i64 h 1),()))) (some (.inl (a,b,c,d,e,f,g,(ae .i64 h 1),()))))) (some (.inr (.inl (a,b,c,d,e,()))))
def E0:=ac DY
def Hc:Ann:=⟨sh [(2,.av (.ptr 2 0)),(6,.av (.own 6)),(7,.av (.own 7)),(10,.av (.val .bool)),(38,.av (.val (.slice gM))),(39,.av (.val I)),(40,.av (.val I))] [(2,.box [.val (.slice gM),.val (.clo 196 .unit)]),(6,.arr I),(7,.arr I)],[(.exit 4,sh [(2,.av (.ptr 2 0)),(6,.av (.own 6)),(7,.av (.own 7)),(10,.av (.val .bool))] [(2,.box [.val (.slice gM),.val (.clo 196 .unit)]),(6,.arr I),(7,.arr I)])],E0⟩
def Ff(x:Q34):Option (Q34⊕((List Int×List Int×Unit)⊕Empty)):=
 let(a,b,c,d,e,_):=x;cond e ((E0 (a,b,c,d,false,a,(a.length:Nat),0,())).bind (sw (λz2=>some (.inl (z2.1,z2.2.1,z2.2.2.1,z2.2.2.2.1,z2.2.2.2.2.1,()))) (λ_=>none))) (some (.inr (.inl (c,d,()))))
def Gd:=ac Ff
def I0:Ann:=⟨sh [(2,.av (.ptr 2 0)),(6,.av (.own 6)),(7,.av (.own 7)),(10,.av (.val .bool))] [(2,.box [.val (.slice gM),.val (.clo 196 .unit)]),(6,.arr I),(7,.arr I)],[(.exit 2,sh [(6,.av (.own 6)),(7,.av (.own 7))] [(6,.arr I),(7,.arr I)])],Gd⟩
def Lu(x:((List Q24)×Unit×List Int×List Int×List Int×Int×Int×Unit)):Option (((List Q24)×Unit×List Int×List Int×List Int×Int×Int×Unit)⊕(((List Q24)×Unit×List Int×List Int×Unit)⊕Empty)):=
 let(a,b,c,d,e,f,g,_):=x;cond (ltI g f) ((ao e g).bind λy1=>(az d.length g).bind λj2=>(d[j2]?).bind λy3=>cond (leI y1 0) ((az c.length g).bind λj4=>(c[j4]?).bind λy5=>some (.inl (a,b,(c.set j4 1152921504606846976),(d.set j2 (-1)),e,f,(ae .i64 g 1),()))) (some (.inl (a,b,c,(d.set j2 (-1)),e,f,(ae .i64 g 1),())))) (some (.inr (.inl (a,b,c,d,()))))
def KP:=ac Lu
def KM:Ann:=⟨sh [(2,.av (.ptr 2 0)),(6,.av (.own 6)),(7,.av (.own 7)),(20,.av (.val (.slice I))),(21,.av (.val I)),(22,.av (.val I))] [(2,.box [.val (.slice gM),.val (.clo 196 .unit)]),(6,.arr I),(7,.arr I)],[(.exit 0,sh [(2,.av (.ptr 2 0)),(6,.av (.own 6)),(7,.av (.own 7))] [(2,.box [.val (.slice gM),.val (.clo 196 .unit)]),(6,.arr I),(7,.arr I)])],KP⟩
def Zr(x:(((List Q24)×Unit×Unit)×List Int×Unit)):Option (List Int×List Int×Unit):=
 let((a,b,_),c,_):=x;(dk I (c.length:Nat) (c.length:Nat)).bind λm1=>(dk I (c.length:Nat) (c.length:Nat)).bind λm2=>(KP (a,b,m1,m2,c,(c.length:Nat),0,())).bind (sw (λz4=>(Gd (z4.1,z4.2.1,z4.2.2.1,z4.2.2.2.1,true,())).bind (sw (λz6=>some (z6.1,z6.2.1,())) (λ_=>none))) (λ_=>none))
def QL:Fn:=mkF { cx [Ob]with light:=[18] } [(3,KM),(10,I0),(13,Hc)] 197 Tryz.f197 [(.rd,CV),(.rd,(.slice I))] [(.tmp 4,true,(.slice I)),(.tmp 5,true,(.slice I))] Zr [lp 3 KM Lu,lp 10 I0 Ff,lp 13 Hc DY] seat_ok ab rfl
def Ry:Con:={ ins:=[(.rd,CV),(.rd,(.slice I))],outs:=[(true,(.slice I)),(true,(.slice I))],fn:=Zr }
def Ls(x:((List Q24)×Int×Int×Unit)):Option (((List Q24)×Int×Int×Unit)⊕(((List Q24)×Unit)⊕Empty)):=
 let(a,b,c,_):=x;cond (ltI b c) ((az a.length c).bind λj1=>(a[j1]?).bind λy2=>(az a.length b).bind λj3=>(a[j3]?).bind λy4=>(az a.length b).bind λj5=>(a[j5]?).bind λy6=>(az (a.set j5 y2).length c).bind λj7=>((a.set j5 y2)[j7]?).bind λy8=>some (.inl (((a.set j5 y2).set j7 y4),(ae .i64 b 1),(aK .i64 c 1),()))) (some (.inr (.inl (a,()))))
def KY:=ac Ls
def Lm:Ann:=⟨⟨[(0,.av (.own 0)),(2,.av (.val I)),(3,.av (.val I))],[(0,.arr gM)],[0]⟩,[(.exit 0,⟨[(0,.av (.own 0))],[(0,.arr gM)],[0]⟩)],KY⟩
def Zm(x:((List Q24)×Unit)):Option ((List Q24)×Unit):=
 (KY (x.1,0,(aK .i64 (x.1.length:Nat) 1),())).bind (sw (λz2=>some (z2.1,())) (λ_=>none))
def P4:Fn:=mkF (cx []) [(1,Lm)] 198 Tryz.f198 [(.upd,(.slice gM))] [] Zm [lp 1 Lm Ls] seat_ok ab rfl
def Rt:Con:={ ins:=[(.upd,(.slice gM))],outs:=[],fn:=Zm }
def E8(x:((List Q24)×Unit×List Int×(List Q24)×Int×Unit)):Option (((List Q24)×Unit×List Int×(List Q24)×Int×Unit)⊕(((List Q24)×Unit)⊕Empty)):=
 let(a,b,c,d,e,_):=x;(az c.length e).bind λj1=>(c[j1]?).bind λy2=>cond (geI y2 0) ((az c.length e).bind λj3=>(c[j3]?).bind λy4=>(ao a y4).bind λy5=>(app d [y5]).bind λa6=>(az c.length e).bind λj7=>(c[j7]?).bind λy8=>(ao a y8).bind λy9=>some (.inl (a,b,c,a6,y9.1,()))) (some (.inr (.inl (d,()))))
def Fk:=ac E8
def Fp:Ann:=⟨sh [(2,.av (.ptr 2 0)),(6,.av (.own 6)),(10,.av (.own 10)),(11,.av (.val I))] [(2,.box [.val (.slice gM),.val (.clo 196 .unit)]),(6,.arr I),(10,.arr gM)],[(.exit 2,sh [(10,.av (.own 10))] [(10,.arr gM)])],Fk⟩
def Ln(x:Q43):Option (Q43⊕(((List Q24)×Unit×List Int×Int×Unit)⊕Empty)):=
 let(a,b,c,d,e,f,g,h,_):=x;cond (ltI h g) ((ao f h).bind λy1=>cond (ltI y1 0) ((az c.length h).bind λj2=>(c[j2]?).bind λy3=>cond (ltI y3 1152921504606846976) (cond (ltI e 0) (some (.inl (a,b,c,d,h,f,g,(ae .i64 h 1),()))) ((az c.length h).bind λj4=>(c[j4]?).bind λy5=>(az c.length e).bind λj6=>(c[j6]?).bind λy7=>cond (ltI y5 y7) (some (.inl (a,b,c,d,h,f,g,(ae .i64 h 1),()))) (some (.inl (a,b,c,d,e,f,g,(ae .i64 h 1),()))))) (some (.inl (a,b,c,d,e,f,g,(ae .i64 h 1),())))) (some (.inl (a,b,c,d,e,f,g,(ae .i64 h 1),())))) (some (.inr (.inl (a,b,d,e,()))))
def Lq:=ac Ln
def Lo:Ann:=⟨sh [(2,.av (.ptr 2 0)),(5,.av (.own 5)),(6,.av (.own 6)),(7,.av (.val I)),(18,.av (.val (.slice I))),(19,.av (.val I)),(20,.av (.val I))] [(2,.box [.val (.slice gM),.val (.clo 196 .unit)]),(5,.arr I),(6,.arr I)],[(.exit 0,sh [(2,.av (.ptr 2 0)),(6,.av (.own 6)),(7,.av (.val I))] [(2,.box [.val (.slice gM),.val (.clo 196 .unit)]),(6,.arr I)])],Lq⟩
def Zs(x:(((List Q24)×Unit×Unit)×List Int×Unit)):Option ((List Q24)×Unit):=
 let((a,b,_),c,_):=x;(Zr ((a,b,()),c,())).bind λr1=>(Lq (a,b,r1.1,r1.2.1,(-1),c,(c.length:Nat),0,())).bind (sw (λ(a_3,b_3,c_3,d_3,_)=>cond (ltI d_3 0) (some ([],())) ((Fk (a_3,b_3,c_3,[],d_3,())).bind (sw (λz5=>(Zm (z5.1,())).bind λr6=>some (r6.1,())) (λ_=>none)))) (λ_=>none))
def QG:Fn:=mkF (cx [QL,P4]) [(4,Lo),(13,Fp)] 166 Tryz.f166 [(.rd,CV),(.rd,(.slice I))] [(.tmp 4,true,(.slice gM))] Zs [lp 4 Lo Ln,lp 13 Fp E8] seat_ok ab rfl
def Rw:Con:={ ins:=[(.rd,CV),(.rd,(.slice I))],outs:=[(true,(.slice gM))],fn:=Zs }
def Zek (x:(Int×Unit)):Option (Int×Unit):=
  let t_0:=ByteArray.mk #[0,1,2,2,3,3,3,3,4,4,4,4,4,4,4,4,5,5,5,5,5,5,5,5,5,5,5,5,5,5,5,5,6,6,6,6,6,6,6,6,6,6,6,6,6,6,6,6,6,6,6,6,6,6,6,6,6,6,6,6,6,6,6,6,7,7,7,7,7,7,7,7,7,7,7,7,7,7,7,7,7,7,7,7,7,7,7,7,7,7,7,7,7,7,7,7,7,7,7,7,7,7,7,7,7,7,7,7,7,7,7,7,7,7,7,7,7,7,7,7,7,7,7,7,7,7,7,7,8,8,8,8,8,8,8,8,8,8,8,8,8,8,8,8,8,8,8,8,8,8,8,8,8,8,8,8,8,8,8,8,8,8,8,8,8,8,8,8,8,8,8,8,8,8,8,8,8,8,8,8,8,8,8,8,8,8,8,8,8,8,8,8,8,8,8,8,8,8,8,8,8,8,8,8,8,8,8,8,8,8,8,8,8,8,8,8,8,8,8,8,8,8,8,8,8,8,8,8,8,8,8,8,8,8,8,8,8,8,8,8,8,8,8,8,8,8,8,8,8,8,8,8,8,8,8,8];let(a,_):=x;cond (geI a 4294967296) (cond (geI (i6 .u64 a 32) 65536) (cond (geI (i6 .u64 (i6 .u64 a 32) 16) 256) ((ao t_0.data.toList (IntKind.wrap .u8 (i6 .u64 (i6 .u64 (i6 .u64 a 32) 16) 8))).bind λc1=>some ((ae .i64 (ae .i64 (ae .i64 32 16) 8) (IntKind.wrap .i64 (c1.toNat:Int))),())) ((ao t_0.data.toList (IntKind.wrap .u8 (i6 .u64 (i6 .u64 a 32) 16))).bind λc2=>some ((ae .i64 (ae .i64 32 16) (IntKind.wrap .i64 (c2.toNat:Int))),()))) (cond (geI (i6 .u64 a 32) 256) ((ao t_0.data.toList (IntKind.wrap .u8 (i6 .u64 (i6 .u64 a 32) 8))).bind λc3=>some ((ae .i64 (ae .i64 32 8) (IntKind.wrap .i64 (c3.toNat:Int))),())) ((ao t_0.data.toList (IntKind.wrap .u8 (i6 .u64 a 32))).bind λc4=>some ((ae .i64 32 (IntKind.wrap .i64 (c4.toNat:Int))),())))) (cond (geI a 65536) (cond (geI (i6 .u64 a 16) 256) ((ao t_0.data.toList (IntKind.wrap .u8 (i6 .u64 (i6 .u64 a 16) 8))).bind λc5=>some ((ae .i64 (ae .i64 (ae .i64 0 16) 8) (IntKind.wrap .i64 (c5.toNat:Int))),())) ((ao t_0.data.toList (IntKind.wrap .u8 (i6 .u64 a 16))).bind λc6=>some ((ae .i64 (ae .i64 0 16) (IntKind.wrap .i64 (c6.toNat:Int))),()))) (cond (geI a 256) ((ao t_0.data.toList (IntKind.wrap .u8 (i6 .u64 a 8))).bind λc7=>some ((ae .i64 (ae .i64 0 8) (IntKind.wrap .i64 (c7.toNat:Int))),())) ((ao t_0.data.toList (IntKind.wrap .u8 a)).bind λc8=>some ((ae .i64 0 (IntKind.wrap .i64 (c8.toNat:Int))),()))))
def O3:Fn:=mkF (cx []) [] 216 Tryz.f216 [(.rd,(.int .u64))] [(.tmp 2,true,I)] Zek [] seat_ok ab rfl
def Zfa(x:(Int×Unit)):Option (Int×Unit):=
 (Zek (x.1,())).bind λr1=>some (r1.1,())
def O8:Fn:=mkF (cx [O3]) [] 183 Tryz.f183 [(.rd,(.int .u64))] [(.tmp 2,true,I)] Zfa [] seat_ok ab rfl
def Re:Con:={ ins:=[(.rd,(.int .u64))],outs:=[(true,I)],fn:=Zfa }
end
end Go.Vm

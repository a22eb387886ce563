/-
 Contracts of the functions that the law reaches.
-/
import Derived.Test.YtdijhiodknmjaaaGreatDoorVmPack
import Derived.Test.YtdijhiodknmjaaaGreatDoorSA
import Derived.Test.YtdijhiodknmjaaaGreatDoorProg
import Derived.KernelRfl
open Sum renaming elim->A1
open Nat renaming beq->A3
open Int renaming toNat->A4
set_option linter.unusedVariables false
set_option linter.unusedSimpArgs false
namespace Go.Vm
open Go.Proofs
abbrev I:Ty:=.int .i64
abbrev yQ1:Ty:=.prod I .unit
abbrev yQ2:Ty:=.prod I yQ1
abbrev yQ3:Ty:=.prod I yQ2
abbrev yQ4:Ty:=.prod I yQ3
abbrev yQ5:Ty:=.prod I yQ4
abbrev yQ6:Ty:=.prod .str yQ1
abbrev yQ7:Ty:=.prod .str yQ2
abbrev yQ8:Ty:=.prod I yQ7
abbrev yQ9:Ty:=.prod I yQ8
abbrev US:Ty:=.prod I yQ9
abbrev IR:Ty:=.prod I US
abbrev UK:Ty:=.prod yQ2 .unit
abbrev Fy:Ty:=.prod yQ2 UK
abbrev Uz:Ty:=.prod .bool yQ3
abbrev Ah:Ty:=.prod I Uz
abbrev Fg:Ty:=.slice (.slice I)
abbrev SM:Ty:=.prod Fg .unit
abbrev Uj:Ty:=.prod .bool .unit
abbrev Uc:Ty:=.prod I Uj
abbrev UZ:Ty:=.prod I Uc
abbrev vT:Ty:=.prod I UZ
abbrev UI:Ty:=.prod vT Uj
abbrev UB:Ty:=.prod I UI
abbrev ux:Ty:=.prod I UB
abbrev TU:Ty:=.arr 8 (.arr 8 I)
abbrev Jn:Ty:=.slice (.slice yQ2)
abbrev Pw:Ty:=.prod (.int .u8) .unit
abbrev J2:Ty:=.prod (.slice I) .unit
abbrev N7:Ty:=.prod I J2
abbrev UM:Ty:=.prod I N7
abbrev UP:Ty:=.prod yQ4 UM
abbrev LG:Ty:=.prod TU J2
abbrev PV:Ty:=.prod (.slice I) J2
abbrev Oj:Ty:=.prod (.ptr yQ6) .unit
abbrev UA:Ty:=.prod (.slice yQ4) UP
abbrev Uv:Ty:=.prod Jn UA
abbrev UF:Ty:=.prod (.slice yQ4) Uv
abbrev yQ38:Ty:=.prod (.slice yQ4) UF
abbrev CW:Ty:=.prod (.slice yQ2) SM
abbrev Un:Ty:=.prod (.slice yQ6) .unit
abbrev UW:Ty:=.prod I Un
abbrev UN:Ty:=.prod I UW
abbrev Ut:Ty:=.prod I UN
abbrev UG:Ty:=.prod .str Ut
abbrev yQ45:Ty:=.prod .str UG
abbrev UU:Ty:=.prod (.slice IR) Un
abbrev UV:Ty:=.prod (.slice yQ45) UU
abbrev UC:Ty:=.prod .bool UV
abbrev yQ49:Ty:=.prod .str UC
abbrev TI:Ty:=.prod (.slice yQ4) .unit
abbrev Af:Ty:=.prod I TI
abbrev Ar:Ty:=.prod Af J2
abbrev RY:Ty:=.prod (.slice yQ2) .unit
abbrev nT:Ty:=.prod I RY
abbrev Rg:Ty:=.prod I (.prod yQ4 .unit)
abbrev T7:Ty:=.prod yQ49 (.prod yQ5 (.prod (.slice yQ4) (.prod (.slice (.slice Rg)) RY)))
abbrev TP:Ty:=.prod I (.prod Fg (.prod (.slice .bool) (.prod (.slice (.slice .bool)) SM)))
abbrev Um:Ty:=.prod (.slice (.slice yQ4)) (.prod Fg (.prod (.slice I) (.prod (.slice I) Uc)))
abbrev Q1:=List Int×Unit
abbrev Q2:=Int×Int×Unit
abbrev Q3:=Q2×Q2×Unit
abbrev Q4:=ByteArray×Unit
abbrev Q5:=(List Q2)×Unit
abbrev Q6:=List Int×Int×Unit
abbrev Q7:=List ByteArray×Unit
abbrev Q8:=ByteArray×Int×Unit
abbrev Q9:=Int×(List Q2)×Unit
abbrev Q10:=Q9×List Int×Unit
abbrev Q11:=List Int×Int×Int×Unit
abbrev Q12:=Int×Int×Int×Int×Unit
abbrev Q13:=Int×(List Q12)×Unit
abbrev Q14:=Q13×List Int×Unit
abbrev Q15:=Int×Int×(List Q2)×Unit
abbrev Q16:=(List Q2)×Int×Int×Unit
abbrev Q17:=Int×Int×Int×Bool×Unit
abbrev Q18:=Int×Int×Q17×Bool×Unit
abbrev Q19:=(List Q12)×Int×Int×Unit
abbrev Q20:=(List Q8)×(Q8×Unit)×Unit
abbrev Q21:=List Int×List Int×Int×Unit
abbrev Q22:=Int×Int×Int×Int×Int×Unit
abbrev Q23:=Int×(List Q12)×List Int×Unit
abbrev Q24:=Int×Bool×Int×Int×Int×Unit
abbrev Q25:=(List Q12)×Unit×Int×Int×Unit
abbrev Q26:=List Int×(List Q12)×Int×Int×Unit
abbrev Q27:=(List Q2)×(List Q2)×Int×Int×Unit
abbrev Q28:=Int×(List Q12)×List Int×Int×Unit
abbrev Q29:=Int×(List (List Int))×List Int×Unit
abbrev Q30:=(List Q8)×(Q8×Unit)×Int×Int×Unit
abbrev Q31:=Int×(List Q12)×List Int×List Int×Unit
abbrev Q32:=(List Q12)×Int×(List Q12)×Int×Int×Unit
abbrev Q33:=Int×(List Q2)×List Int×List Int×Int×Unit
abbrev Q34:=Int×Int×Int×Int×ByteArray×Int×Int×Unit
abbrev Q35:=Int×Int×Int×Int×Int×Int×Int×Int×Unit
abbrev Q36:=List Int×List Int×(List Q24)×Int×Int×Int×Unit
abbrev Q37:=ByteArray×ByteArray×Int×Int×Int×(List Q8)×Unit
abbrev Q38:=ByteArray×Bool×(List Q37)×(List Q34)×(List Q8)×Unit
abbrev Q39:=Q38×Int×Unit
abbrev Q40:=ByteArray×Bool×(List Q37)×(List Q34)×(List Q8)×Int×Unit
abbrev Q41:=Int×(List Q12)×List Int×(List Q24)×List Int×Int×Int×Unit
abbrev Q42:=Int×Int×Int×Int×(List Q12)×(List (List Q2))×Int×Int×Unit
abbrev Q43:=(List (List Q17))×(List Q18)×List Bool×Q14×List Int×Int×Unit
abbrev Q44:=ByteArray×Bool×(List Q37)×(List Q34)×(List Q8)×Int×Int×Unit
abbrev Q45:=Int×Int×Int×Int×Int×Int×Int×Int×(List Q2)×Int×Int×Unit
abbrev Q46:=Int×(List Q12)×List Int×List Int×(List Q18)×Int×Int×Int×Unit
abbrev Q47:=(List (List Q17))×(List Q18)×Q14×List Int×List Int×Int×Int×Unit
abbrev Q48:=ByteArray×Bool×(List Q37)×(List Q34)×(List Q8)×List Int×Int×Unit
abbrev Q49:=Int×Int×Int×Int×Int×Int×Int×Int×(List Q12)×Bool×Int×Unit
abbrev Q50:=ByteArray×Bool×(List Q37)×(List Q34)×(List Q8)×ByteArray×Int×Unit
abbrev Q51:=Int×(List Q12)×List Int×List Int×(List Q18)×Int×Int×Int×Int×Unit
abbrev Q52:=Int×Int×Int×Int×Int×Int×Int×Int×Bool×(List Q12)×Int×Int×Unit
abbrev Q53:=ByteArray×Bool×(List Q37)×(List Q34)×(List Q8)×List Int×Int×Int×Unit
abbrev Q54:=ByteArray×Bool×(List Q37)×(List Q34)×(List Q8)×(List Q34)×Int×Int×Unit
abbrev Q55:=ByteArray×Bool×(List Q37)×(List Q34)×(List Q8)×(List Q12)×(List Q12)×Unit
abbrev Q56:=(List Q12)×(List Q12)×(List (List Q2))×(List Q12)×Q12×Int×Int×List Int×Unit
abbrev Q57:=Q38×Q22×Q56×Unit
abbrev Q58:=ByteArray×Bool×(List Q37)×(List Q34)×(List Q8)×ByteArray×Int×Int×Int×Unit
abbrev Q59:=ByteArray×Bool×(List Q37)×(List Q34)×(List Q8)×Int×Int×(List Q2)×Int×Unit
abbrev Q60:=ByteArray×Bool×(List Q37)×(List Q34)×(List Q8)×(List Q12)×(List Q12)×Int×Unit
abbrev Q61:=(List (List Q17))×(List Q18)×List Bool×List Int×Q14×Int×List Int×Int×Int×Unit
abbrev Q62:=Int×Int×Int×Int×(List Q12)×Int×(List Q12)×Int×Int×(List Q12)×Int×Int×Unit
abbrev Q63:=ByteArray×Bool×(List Q37)×(List Q34)×(List Q8)×(List Q12)×(List Q12)×Int×Int×Unit
abbrev Q64:=ByteArray×Bool×(List Q37)×(List Q34)×(List Q8)×List Int×Int×(List Q37)×Int×Int×Unit
abbrev Q65:=(List Q12)×(List Q12)×(List (List Q2))×(List Q12)×Int×Int×Int×Int×Int×Int×List Int×Unit
abbrev Q66:=ByteArray×Bool×(List Q37)×(List Q34)×(List Q8)×List Int×(List Q12)×(List Q12)×Int×Int×Unit
abbrev Q67:=ByteArray×Bool×(List Q37)×(List Q34)×(List Q8)×(List Q12)×(List Q12)×(List Q12)×Int×Int×Unit
abbrev Q68:=(List Q12)×(List Q12)×(List (List Q2))×(List Q12)×Int×Int×Int×Int×Int×Int×List Int×Int×Unit
abbrev Q69:=ByteArray×Bool×(List Q37)×(List Q34)×(List Q8)×Int×(List Q2)×(List Q12)×List Int×Int×Int×Unit
abbrev Q70:=ByteArray×Bool×(List Q37)×(List Q34)×(List Q8)×Int×Int×Int×Int×Int×(List Q12)×(List Q12)×Unit
abbrev Q71:=ByteArray×Bool×(List Q37)×(List Q34)×(List Q8)×(List Q12)×Int×(List Q12)×(List Q37)×Int×Int×Unit
abbrev Q72:=(List (List Q17))×(List Q18)×List Bool×List Int×Q14×Int×Int×List Int×Int×Int×Int×Int×Int×Unit
abbrev Q73:=(List Q12)×(List Q12)×(List (List Q2))×(List Q12)×Int×Int×Int×Int×Int×Int×List Int×Int×Int×Unit
abbrev Q74:=ByteArray×Bool×(List Q37)×(List Q34)×(List Q8)×Int×Int×List Int×Int×(List Q2)×(List Q12)×Int×Unit
abbrev Q75:=ByteArray×Bool×(List Q37)×(List Q34)×(List Q8)×Int×Int×Int×Int×Int×(List Q12)×(List Q12)×Int×Unit
abbrev Q76:=ByteArray×Bool×(List Q37)×(List Q34)×(List Q8)×ByteArray×ByteArray×Int×Int×Int×(List Q8)×Int×Int×Unit
abbrev Q77:=(List Q12)×(List Q12)×(List (List Q2))×(List Q12)×Int×Int×Int×Int×Int×Int×List Int×Int×Int×Int×Unit
abbrev Q78:=Int×(List Q2)×List Int×ByteArray×Bool×(List Q37)×(List Q34)×(List Q8)×Int×(List Q12)×(List Q2)×Int×Int×Unit
abbrev Q79:=(List Q12)×(List Q12)×(List (List Q2))×(List Q12)×Int×Int×Int×Int×Int×Int×List Int×(List (List Q2))×Int×Int×Unit
abbrev Q80:=ByteArray×Bool×(List Q37)×(List Q34)×(List Q8)×Int×Int×Int×Int×Int×(List Q12)×(List Q12)×(List Q12)×Int×Int×Unit
abbrev Q81:=(List Q12)×(List Q12)×(List (List Q2))×(List Q12)×Int×Int×Int×Int×Int×Int×List Int×Int×Int×Int×Int×(List Q12)×Unit
abbrev Q82:=(List Q12)×(List Q12)×(List (List Q2))×(List Q12)×Int×Int×Int×Int×Int×Int×List Int×Int×(List (List Q2))×Int×Int×Unit
abbrev Q83:=(List Q12)×(List Q12)×(List (List Q2))×(List Q12)×Int×Int×Int×Int×Int×Int×List Int×Int×Int×Int×Int×(List Q12)×Int×Unit
abbrev Q84:=ByteArray×Bool×(List Q37)×(List Q34)×(List Q8)×Int×Int×Int×Int×(List Q12)×(List Q12)×Int×(List Q12)×Int×Int×(List Q12)×Int×Int×Unit
abbrev Q85:=(List Q12)×(List Q12)×(List (List Q2))×(List Q12)×Int×Int×Int×Int×Int×Int×List Int×Int×Int×Int×Int×(List Q12)×(List Q12)×Int×Int×Unit
abbrev Q86:=ByteArray×Bool×(List Q37)×(List Q34)×(List Q8)×Int×Int×Int×Int×List Int×(List Q12)×(List Q12)×Int×(List Q12)×Int×Int×(List Q12)×Int×Int×Unit
abbrev Q87:=(List Q12)×(List Q12)×(List (List Q2))×(List Q12)×Int×Int×Int×Int×Int×Int×List Int×Int×(List Q2)×(List (List Q2))×Int×Int×(List (List Q2))×Int×Int×Unit
abbrev Q88:=ByteArray×Bool×(List Q37)×(List Q34)×(List Q8)×Int×Int×Int×Int×Int×(List Q12)×(List Q12)×(List (List Q2))×(List Q12)×Int×Int×Int×Int×Int×Int×List Int×List ByteArray×Unit
abbrev Q89:=ByteArray×Bool×(List Q37)×(List Q34)×(List Q8)×Int×Int×Int×Int×Int×(List Q12)×(List Q12)×(List (List Q2))×(List Q12)×Int×Int×Int×Int×Int×Int×List Int×Int×Int×Int×Unit
abbrev Q90:=ByteArray×Bool×(List Q37)×(List Q34)×(List Q8)×Int×Int×Int×Int×Int×(List Q12)×(List Q12)×(List (List Q2))×(List Q12)×Int×Int×Int×Int×Int×Int×List Int×List ByteArray×Int×Unit
abbrev Q91:=ByteArray×Bool×(List Q37)×(List Q34)×(List Q8)×Int×Int×Int×Int×Int×(List Q12)×(List Q12)×(List (List Q2))×(List Q12)×Int×Int×Int×Int×Int×Int×List Int×List ByteArray×(List Q37)×Int×Int×Unit
abbrev Q92:=Int×Int×Int×Int×Int×Int×Int×Int×Int×Int×Int×Int×Int×Int×Int×Int×Int×Int×Int×Int×Int×Int×Int×Int×Int×Int×Int×Int×Int×Int×Int×Int×Int×Int×Int×Int×Int×Int×Int×Int×Int×Int×Int×Int×Int×Int×Int×Int×Int×Int×Int×Int×Int×Int×Int×Int×Int×Int×Int×Int×Int×Int×Int×Int×Int×List Int×List Int×Int×(List Q2)×Int×Int×Unit
abbrev Q93:=Int×(List Q2)×Int×Int×Int×Int×Int×Int×Int×Int×Int×Int×Int×Int×Int×Int×Int×Int×Int×Int×Int×Int×Int×Int×Int×Int×Int×Int×Int×Int×Int×Int×Int×Int×Int×Int×Int×Int×Int×Int×Int×Int×Int×Int×Int×Int×Int×Int×Int×Int×Int×Int×Int×Int×Int×Int×Int×Int×Int×Int×Int×Int×Int×Int×Int×Int×Int×List Int×(List Q2)×Int×Int×Unit
noncomputable section
def tab:Tab:=[(2,I),(3,I),(4,.bool),(5,(.int .u8)),(6,(.int .u8)),(7,(.prod I (.prod I (.prod .bool Pw)))),(8,(.prod I (.prod I (.prod .bool Pw)))),(9,.str),(10,.str),(11,.str),(12,(.int .u64)),(13,(.prod .str (.prod (.int .u64) .unit))),(14,(.prod .str (.prod (.int .u64) .unit))),(21,(.int .i32)),(22,(.slice yQ45)),(23,(.slice IR)),(24,(.slice yQ6)),(25,yQ49),(26,yQ49),(27,yQ5),(28,yQ5),(29,(.slice yQ4)),(30,Jn),(31,yQ4),(32,yQ4),(33,(.slice I)),(34,yQ38),(35,yQ38),(40,(.slice .str)),(43,(.slice yQ6)),(44,yQ45),(45,yQ45),(46,yQ6),(47,yQ6),(48,IR),(49,IR),(50,yQ6),(51,yQ6),(52,(.slice yQ2)),(53,I),(65,(.prod yQ49 (.prod yQ5 (.prod yQ38 .unit)))),(66,(.prod yQ49 (.prod yQ5 (.prod yQ38 .unit)))),(70,(.int .u64)),(84,(.slice yQ4)),(85,Af),(86,Af),(106,(.arr 256 .bool)),(107,(.arr 256 .bool)),(112,yQ2),(113,yQ2),(116,(.slice yQ2)),(117,nT),(118,nT),(122,yQ2),(123,yQ2),(124,yQ4),(125,yQ4),(142,Fg),(143,(.prod I (.prod Fg CW))),(144,(.prod I (.prod Fg CW))),(166,(.slice Rg)),(167,Rg),(168,Rg),(173,(.slice (.slice Rg))),(174,T7),(175,T7),(179,(.slice (.slice yQ4))),(188,Fy),(189,Fy),(192,(.arr 24 (.int .u8))),(195,(.slice (.int .u8))),(206,(.prod nT J2)),(207,(.prod nT J2)),(214,(.slice Ah)),(217,Ah),(218,Ah),(226,(.slice yQ2)),(228,yQ2),(229,yQ2),(238,(.prod I CW)),(239,(.prod I CW)),(240,(.prod (.prod I CW) (.prod I SM))),(241,(.prod (.prod I CW) (.prod I SM))),(244,(.prod (.prod I CW) (.prod (.slice I) (.prod (.slice .str) yQ1)))),(245,(.prod (.prod I CW) (.prod (.slice I) (.prod (.slice .str) yQ1)))),(262,(.int .u64)),(265,(.slice .bool)),(281,Um),(282,Um),(285,Fy),(286,Fy),(293,(.arr 20 (.int .u64))),(294,(.int .u32)),(295,(.arr 65 (.int .u8))),(301,(.arr 8 I)),(302,TU),(303,(.prod I LG)),(304,(.prod I LG)),(358,(.prod Fg (.prod (.slice I) N7))),(359,(.prod Fg (.prod (.slice I) N7))),(360,(.slice yQ2)),(361,RY),(362,RY),(364,yQ2),(365,yQ2),(368,yQ4),(369,yQ4),(370,(.slice yQ4)),(390,Ar),(391,Ar),(392,(.slice ux)),(395,vT),(396,vT),(397,ux),(398,ux),(402,(.slice yQ3)),(404,yQ3),(405,yQ3),(420,(.slice yQ4)),(421,(.prod (.slice I) TI)),(422,(.prod (.slice I) TI)),(436,(.arr 2 I)),(437,(.arr 2 (.arr 2 I))),(442,(.slice (.slice .bool))),(443,TP),(444,TP),(445,CW),(446,CW),(451,(.prod (.prod I CW) PV)),(452,(.prod (.prod I CW) PV)),(468,(.arr 32 (.int .u8))),(469,(.arr 64 (.int .u8))),(470,(.arr 256 (.int .u8))),(471,(.prod (.int .u8) Pw)),(472,(.prod (.int .u8) Pw)),(473,(.arr 16 (.prod (.int .u8) Pw))),(474,(.slice (.slice vT))),(476,(.slice vT)),(501,yQ4),(502,yQ4),(504,(.slice (.prod I (.prod I vT)))),(510,(.prod I (.prod I vT))),(511,(.prod I (.prod I vT))),(530,(.slice PV)),(532,PV),(533,PV),(537,I),(548,(.arr 91 I)),(550,(.slice N7)),(552,N7),(553,N7),(557,(.prod Fg (.prod (.slice I) (.prod (.slice I) yQ1)))),(558,(.prod Fg (.prod (.slice I) (.prod (.slice I) yQ1)))),(567,(.int .u64)),(601,(.int .u8)),(602,(.int .u8)),(604,(.int .i32)),(605,(.int .i32))]
def eqs:List Nat:=[28,32,113]
def glob:List (Nat×(Σ t:Ty,t.den)):=[(2,⟨(.arr 64 (.int .u8)),[0,1,56,2,57,49,28,3,61,58,42,50,38,29,17,4,62,47,59,36,45,43,51,22,53,39,33,30,24,18,12,5,63,55,48,27,60,41,37,16,46,35,44,21,52,32,23,11,54,26,40,15,34,20,31,10,25,14,19,9,13,8,7,6]⟩),(6,⟨(.arr 2 I),[16384,32768]⟩)]
theorem seat_ok:SeatOK Tryz.prog tab eqs:=⟨by kernel_rfl,by kernel_rfl,by kernel_rfl⟩
abbrev Fn:=FnC Tryz.prog glob
abbrev aa(n:Nat)(t:Ty):Nat×SpS:=(n,.av (.val t))
abbrev ag(n:Nat):Nat×SpS:=(n,.av (.ptr n 0))
abbrev ay(n:Nat):Nat×SpS:=(n,.av (.own n))
abbrev kG(n:Nat):Ex×Shape:=(.exit n,sh [] [])
abbrev dD(n:Nat)(t:Ty):Ex×Shape:=(.ret,sh [aa n t] [])
abbrev co:SpO:=.box [.val .str,.val .bool,.val (.slice yQ45),.val (.slice IR),.val (.slice yQ6)]
abbrev qj:SpO:=.box [.val (.slice yQ4),.val (.slice yQ4),.val Jn,.val (.slice yQ4),.val I,.val I,.val I,.val I,.val I,.val I,.val (.slice I)]
abbrev pg:SpO:=.box [.val I,.val I,.val I,.val I]
abbrev AF:SpO:=.box [.val I,.val I,.val I,.val I,.val I]
abbrev Ed:SpO:=.box [.val I,.val (.slice yQ2)]
abbrev RA:SpO:=.box [.val I,.val I,.val I,.val I,.val I,.val I,.val I,.val I,.val I,.val I,.val I,.val I,.val I,.val I,.val I,.val I,.val I,.val I,.val I,.val I,.val I,.val I,.val I,.val I,.val I,.val I,.val I,.val I,.val I,.val I,.val I,.val I,.val I,.val I,.val I,.val I,.val I,.val I,.val I,.val I,.val I,.val I,.val I,.val I,.val I,.val I,.val I,.val I,.val I,.val I,.val I,.val I,.val I,.val I,.val I,.val I,.val I,.val I,.val I,.val I,.val I,.val I,.val I,.val I,.val I,.own 500065]
abbrev S4:SpO:=.box [.val I,.own 600001,.own 600002]
abbrev vO:SpO:=.box [.val I,.val (.slice yQ4)]
abbrev Ax:SpO:=.box [.val I,.val (.slice yQ4),.own 100002]
abbrev SN:SpO:=.box [.val I,.val (.slice yQ4),.own 600002]
abbrev S7:Shape:=sh [ag 3,aa 7 I] [(3,co)]
abbrev Pm:Shape:=sh [aa 0 .str,aa 3 I] []
abbrev HC:Shape:=sh [aa 3 I] []
abbrev RN:Shape:=sh [ay 5] [(5,.arr I)]
abbrev Nn:Shape:=sh [ag 1] [(1,co)]
abbrev SY:Shape:=sh [aa 0 (.slice yQ2),aa 3 I] []
abbrev SU:Shape:=sh [aa 3 (.slice yQ4),aa 4 I,aa 15 (.slice yQ4),aa 16 I,aa 17 I] []
abbrev Nc:Shape:=sh [ag 2,ag 3] [(2,pg),(3,pg)]
abbrev SO:Shape:=sh [ag 2,ay 3] [(2,pg),(3,.arr yQ4)]
abbrev SR:Shape:=sh [ag 1,ag 2,ay 3] [(1,qj),(2,pg),(3,.arr yQ4)]
abbrev O5:Shape:=sh [aa 1 I,ag 3,aa 7 I] [(3,co)]
abbrev PG:Shape:=sh [aa 1 (.slice yQ4),aa 2 (.slice yQ4),ag 3,aa 29 (.slice yQ4),aa 30 I,aa 31 I] [(3,co)]
abbrev Py:Shape:=sh [aa 1 (.slice yQ4),aa 2 (.slice yQ4),ag 3] [(3,co)]
abbrev LT:Shape:=sh [aa 2 (.slice yQ4),aa 3 (.slice yQ4),ag 4,ag 5] [(4,co),(5,AF)]
abbrev Qg:Shape:=sh [aa 0 (.ptr (.prod I LG)),ay 3,aa 4 I] [(3,.arr I)]
abbrev La:Shape:=sh [ay 3] [(3,.arr I)]
abbrev Qr:Shape:=sh [aa 0 (.ptr Ar),(6,.av (.ownd 6)),ay 7,ay 12,aa 13 I,ay 14,aa 68 (.slice I),aa 69 I,aa 70 I] [(6,.deep vT),(7,.arr ux),(12,.arr .bool),(14,.arr I)]
abbrev PX:Shape:=sh [aa 0 (.ptr Ar),aa 1 (.slice I),(6,.av (.ownd 6)),ay 7] [(6,.deep vT),(7,.arr ux)]
abbrev Gp:Shape:=sh [aa 5 I] []
abbrev PJ:Shape:=sh [ag 1,aa 3 I,aa 9 Jn,aa 10 I,aa 11 I] [(1,qj)]
abbrev Rs:Shape:=sh [aa 0 (.slice yQ2),aa 3 I,aa 4 I] []
abbrev Rj:Shape:=sh [ag 3,ag 4,ag 5,ay 7] [(3,co),(4,AF),(5,qj),(7,.arr .str)]
abbrev Rh:Shape:=sh [aa 0 (.slice yQ6),aa 3 I] []
abbrev QY:Shape:=sh [aa 0 (.slice yQ4),aa 1 I,aa 5 I] []
abbrev QO:Shape:=sh [aa 0 (.slice yQ4),aa 1 I] []
abbrev PS:Shape:=sh [aa 0 (.int .u64),aa 3 .str] []
abbrev P6:Shape:=sh [aa 0 I,aa 4 .str,aa 6 .str] []
abbrev RK:Shape:=sh [ay 5,aa 6 I,aa 7 I] [(5,.arr yQ4)]
abbrev QU:Shape:=sh [aa 0 (.slice yQ2),aa 1 (.slice yQ2),aa 5 I,aa 6 I] []
abbrev PP:Shape:=sh [ag 3,aa 5 I,aa 6 I] [(3,qj)]
abbrev Rl:Shape:=sh [aa 0 (.slice Ah),aa 1 I,ay 5,ay 6,aa 7 I,aa 8 I] [(5,.arr I),(6,.arr I)]
abbrev ME:Shape:=sh [ag 1,ay 7] [(1,vO),(7,.arr I)]
abbrev L0:Shape:=sh [aa 1 (.slice yQ4),aa 2 (.slice yQ4),ag 3,aa 9 I] [(3,co)]
abbrev Rq:Shape:=sh [aa 1 (.slice yQ4),aa 2 (.slice yQ4),ag 3,aa 7 I] [(3,co)]
def cx(l:List Fn):Ctx:={ tab:=tab,con:=KL l,glob:=glob,eqs:=eqs }
def mG (l:List Fn)(A:Anns)(f:Nat)(fn:Func)(ins:List (Mode×Ty))(outs:BC)(M:(aG (ins.map (·.2))).den->Option (aG ((outs.map (·.2)).map (·.2)++bm ins)).den)(p:List (LoopPf (cx l) A (gk fn)))(d:Bool:=false)(hf:Tryz.prog.funcs[f]?=some fn:=by kernel_rfl)(hb:fn.body=some (gk fn):=by kernel_rfl)(h1:aX (gk fn)=p.map (fun p=>nY p.key (gk fn)):=by kernel_rfl)
  (h2 : (p.map fun p => A.get (ee (nY p.key (gk fn)))) = p.map (fun p => some p.ann) := by kernel_rfl) (hk : (!(fn.name == "runtime.NumGoroutine") && kI fn.ntmps (gk fn) && DB A ins && D0 Tryz.prog outs && BB Tryz.prog (cx l).maps) = true := by kernel_rfl) (hres : fn.results = (outs.map (·.1)).toArray := by kernel_rfl)
  (heq:∀ x,vq (cx l) A (gk fn) ins outs x d=M x:=by intro x;kernel_rfl):Fn:=mkF (cx l) A f fn ins outs M p seat_ok uo rfl d hf hb h1 h2 hk hres heq
set_option maxRecDepth 100000
def fL(x:Q40):Option (Q40⊕((Bool×Unit)⊕(Unit⊕Empty))):=
 let(a,b,c,d,e,f,_):=x;cond (ltI f (e.length:Nat)) ((ai e f).bind λy1=>cond (gtI (y1.1.size:Nat) 40) (some (.inr (.inl (false,())))) (some (.inl (a,b,c,d,e,(af .i64 f 1),())))) (some (.inr (.inr (.inl ()))))
def nr:=ab fL
def tf:Ann:=⟨sh [ag 3,aa 11 I] [(3,co)],[dD 6 .bool,kG 6],nr⟩
def fP(x:Q40):Option (Q40⊕((Bool×Unit)⊕(Q38⊕Empty))):=
 let(a,b,c,d,e,f,_):=x;cond (ltI f (d.length:Nat)) ((ai d f).bind λy1=>cond (gtI (y1.2.2.2.2.1.size:Nat) 80) (some (.inr (.inl (false,())))) ((ai d f).bind λy2=>cond (gtI y2.2.2.2.2.2.2.1 4) (some (.inr (.inl (false,())))) (some (.inl (a,b,c,d,e,(af .i64 f 1),()))))) (some (.inr (.inr (.inl (a,b,c,d,e,())))))
def nu:=ab fP
def tj:Ann:=⟨sh [ag 3,aa 10 I] [(3,co)],[dD 6 .bool,(.exit 4,sh [ag 3] [(3,co)])],nu⟩
def fK(x:Q76):Option (Q76⊕((Bool×Unit)⊕(Q40⊕Empty))):=
 let(a,b,c,d,e,f,g,h,i,k,l,m,n,_):=x;cond (ltI n (l.length:Nat)) ((ai l n).bind λy1=>cond (gtI (y1.1.size:Nat) 40) (some (.inr (.inl (false,())))) (some (.inl (a,b,c,d,e,f,g,h,i,k,l,m,(af .i64 n 1),())))) (some (.inr (.inr (.inl (a,b,c,d,e,m,())))))
def nD:=ab fK
def s8:Ann:=⟨sh [ag 3,aa 7 I,ag 8,aa 9 I] [(3,co),(8,.box [.val .str,.val .str,.val I,.val I,.val I,.val (.slice yQ6)])],[dD 6 .bool,(.exit 2,S7)],nD⟩
def gE(x:Q40):Option (Q40⊕((Bool×Unit)⊕(Q38⊕Empty))):=
 let(a,b,c,d,e,f,_):=x;cond (ltI f (c.length:Nat)) ((ai c f).bind λy1=>cond (gtI (y1.1.size:Nat) 40) (some (.inr (.inl (false,())))) (cond (gtI (y1.2.1.size:Nat) 80) (some (.inr (.inl (false,())))) (cond (gtI (y1.2.2.2.2.2.1.length:Nat) 9) (some (.inr (.inl (false,())))) ((nD (a,b,c,d,e,y1.1,y1.2.1,y1.2.2.1,y1.2.2.2.1,y1.2.2.2.2.1,y1.2.2.2.2.2.1,f,0,())).bind (A1 (λz3=>some (.inr (.inl (z3.1,())))) (A1 (λ(a_4,b_4,c_4,d_4,e_4,f_4,_)=>some (.inl (a_4,b_4,c_4,d_4,e_4,(af .i64 f_4 1),()))) (λ_=>none))))))) (some (.inr (.inr (.inl (a,b,c,d,e,())))))
def oD:=ab gE
def tT:Ann:=⟨S7,[dD 6 .bool,(.exit 0,sh [ag 3] [(3,co)])],oD⟩
def dr(x:(Q38×Int×Int×Unit)):Option (Bool×Unit):=
 let((a,b,c,d,e,_),f,g,_):=x;cond (gtI (c.length:Nat) f) (some (false,())) (cond (gtI (d.length:Nat) g) (some (false,())) (cond (gtI (e.length:Nat) 6) (some (false,())) (cond (gtI (a.size:Nat) 40) (some (false,())) ((oD (a,b,c,d,e,0,())).bind (A1 (λz2=>some (z2.1,())) (A1 (λz3=>(nu (z3.1,z3.2.1,z3.2.2.1,z3.2.2.2.1,z3.2.2.2.2.1,0,())).bind (A1 (λz5=>some (z5.1,())) (A1 (λz6=>(nr (z6.1,z6.2.1,z6.2.2.1,z6.2.2.2.1,z6.2.2.2.2.1,0,())).bind (A1 (λz8=>some (z8.1,())) (A1 (λz9=>some (true,())) (λ_=>none)))) (λ_=>none)))) (λ_=>none)))))))
def CK:=mG [] [(4,tT),(10,s8),(15,tj),(20,tf)] 4 Tryz.f4 [(.rd,yQ49),(.rd,I),(.rd,I)] [(.tmp 6,true,.bool)] dr [lp 4 tT gE,lp 10 s8 fK,lp 15 tj fP,lp 20 tf fL]
def gG(x:Q68):Option (Q68⊕((Bool×Unit)⊕(Q65⊕Empty))):=
 let(a,b,c,d,e,f,g,h,i,k,l,m,_):=x;cond (ltI m (c.length:Nat)) (cond (ltI m 21) ((ai c m).bind λy1=>cond (gtI (y1.length:Nat) 30) (some (.inr (.inl (false,())))) (some (.inl (a,b,c,d,e,f,g,h,i,k,l,(af .i64 m 1),())))) (some (.inr (.inr (.inl (a,b,c,d,e,f,g,h,i,k,l,())))))) (some (.inr (.inr (.inl (a,b,c,d,e,f,g,h,i,k,l,())))))
def oE:=ab gG
def t7:Ann:=⟨sh [ag 1,aa 3 I] [(1,qj)],[dD 2 .bool,(.exit 0,sh [ag 1] [(1,qj)])],oE⟩
def fG(x:(Q56×Unit)):Option (Bool×Unit):=
 let((a,b,c,d,(e,f,g,h,_),i,k,l,_),_):=x;(oE (a,b,c,d,e,f,g,h,i,k,l,0,())).bind (A1 (λz2=>some (z2.1,())) (A1 (λz3=>cond (leI (z3.1.length:Nat) 20) (cond (leI (z3.2.1.length:Nat) 20) (cond (leI (z3.2.2.2.1.length:Nat) 20) (cond (leI (z3.2.2.1.length:Nat) 20) (some ((leI (z3.2.2.2.2.2.2.2.2.2.2.1.length:Nat) 20),())) (some (false,()))) (some (false,()))) (some (false,()))) (some (false,()))) (λ_=>none)))
def Ck:=mG [] [(2,t7)] 5 Tryz.f5 [(.rd,yQ38)] [(.tmp 2,true,.bool)] fG [lp 2 t7 gG]
def tx(x:(Int×Unit)):Option (Bool×Unit):=
 let(a,_):=x;cond (geI a 97) (cond (leI a 122) (some (true,())) (cond (geI a 65) (cond (leI a 90) (some (true,())) (some ((eqI a 95),()))) (some ((eqI a 95),())))) (cond (geI a 65) (cond (leI a 90) (some (true,())) (some ((eqI a 95),()))) (some ((eqI a 95),())))
def EZ:=mG [] [] 197 Tryz.f197 [(.rd,(.int .u8))] [(.tmp 2,true,.bool)] tx []
def ve(x:(Int×Unit)):Option (Bool×Unit):=
 cond (geI x.1 48) (some ((leI x.1 57),())) (some (false,()))
def G7:=mG [] [] 198 Tryz.f198 [(.rd,(.int .u8))] [(.tmp 2,true,.bool)] ve []
def qV(x:Q8):Option (Q8⊕((Int×Unit)⊕Empty)):=
 let(a,b,_):=x;cond (ltI b (a.size:Nat)) ((ai a.data.toList b).bind λc1=>(tx ((c1.toNat:Int),())).bind λr2=>cond r2.1 (some (.inl (a,(af .i64 b 1),()))) (cond (gtI b 0) ((ai a.data.toList b).bind λc3=>(ve ((c3.toNat:Int),())).bind λr4=>cond r4.1 (some (.inl (a,(af .i64 b 1),()))) (some (.inr (.inl (b,()))))) (some (.inr (.inl (b,())))))) (some (.inr (.inl (b,()))))
def vE:=ab qV
def AJ:Ann:=⟨Pm,[(.exit 0,HC)],vE⟩
def wE(x:Q4):Option (Int×Unit):=
 (vE (x.1,0,())).bind (A1 (λz2=>some (z2.1,())) (λ_=>none))
def IQ:=mG [EZ,G7] [(2,AJ)] 116 Tryz.f116 [(.rd,.str)] [(.tmp 2,true,I)] wE [lp 2 AJ qV]
def oi(x:Q4):Option (Bool×Unit):=
 let(a,_):=x;cond (eqS a (ByteArray.mk #[100,105,103,114,97,112,104])) (cond (eqS a (ByteArray.mk #[100,105,103,114,97,112,104])) (some (true,())) (some (false,()))) (cond (eqS a (ByteArray.mk #[103,114,97,112,104])) (cond (eqS a (ByteArray.mk #[103,114,97,112,104])) (some (true,())) (some (false,()))) (cond (eqS a (ByteArray.mk #[110,111,100,101])) (cond (eqS a (ByteArray.mk #[110,111,100,101])) (some (true,())) (some (false,()))) (cond (eqS a (ByteArray.mk #[101,100,103,101])) (cond (eqS a (ByteArray.mk #[101,100,103,101])) (some (true,())) (some (false,()))) (cond (eqS a (ByteArray.mk #[115,101,116])) (cond (eqS a (ByteArray.mk #[115,101,116])) (some (true,())) (some (false,()))) (cond (eqS a (ByteArray.mk #[99,108,117,115,116,101,114])) (some (true,())) (some (false,())))))))
def BT:=mG [] [] 117 Tryz.f117 [(.rd,.str)] [(.tmp 2,true,.bool)] oi []
def kA(x:Q4):Option (Bool×Unit):=
 cond (neS x.1 (ByteArray.mk #[])) (cond (leI (x.1.size:Nat) 16) ((wE (x.1,())).bind λr1=>cond (eqI r1.1 (x.1.size:Nat)) ((oi (x.1,())).bind λr2=>some ((!r2.1),())) (some (false,()))) (some (false,()))) (some (false,()))
def pl:=mG [IQ,BT] [] 62 Tryz.f62 [(.rd,.str)] [(.tmp 2,true,.bool)] kA []
def xp(x:(Q37×ByteArray×Unit)):Option (Bool×Unit):=
 some ((eqS x.1.1 x.2.1),())
def FS:=mG [] [] 200 Tryz.f200 [(.rd,yQ45),(.rd,(.ptr .str))] [(.tmp 3,true,.bool)] xp []
def bE(x:((List Q37)×Q4×Int×Int×Unit)):Option (((List Q37)×Q4×Int×Int×Unit)⊕((Int×Unit)⊕(Unit⊕Empty))):=
 let(a,b,c,d,_):=x;cond (ltI d c) ((ai a d).bind λy1=>(xp (y1,b.1,())).bind λr2=>cond r2.1 (some (.inr (.inl (d,())))) (some (.inl (a,b,c,(af .i64 d 1),())))) (some (.inr (.inr (.inl ()))))
def cz:=ab bE
def eo:Ann:=⟨sh [aa 0 (.slice yQ45),aa 1 (.clo 200 (.prod (.ptr .str) .unit)),aa 7 I,aa 8 I] [],[dD 4 I,kG 0],cz⟩
def cO(x:((List Q37)×Q4×Unit)):Option (Int×Unit):=
 (cz (x.1,x.2.1,(x.1.length:Nat),0,())).bind (A1 (λz2=>some (z2.1,())) (A1 (λz3=>some ((-1),())) (λ_=>none)))
def lX:=mG [FS] [(2,eo)] 199 Tryz.f199 [(.rd,(.slice yQ45)),(.rd,(.clo 200 (.prod (.ptr .str) .unit)))] [(.tmp 4,true,I)] cO [lp 2 eo bE]
def tX(x:(Q38×ByteArray×Unit)):Option (Int×Unit):=
 (cO (x.1.2.2.1,(x.2.1,()),())).bind λr1=>some (r1.1,())
def CM:=mG [lX] [] 118 Tryz.f118 [(.rd,yQ49),(.rd,.str)] [(.tmp 4,true,I)] tX []
def pL(x:Q11):Option (Q11⊕((Int×Unit)⊕(Unit⊕Empty))):=
 let(a,b,c,_):=x;cond (ltI c b) ((aN a.length c).bind λj1=>(a[j1]?).bind λy2=>cond (ltI y2 32) (some (.inr (.inl (7,())))) (cond (gtI y2 126) (some (.inr (.inl (7,())))) (some (.inl (a,b,(af .i64 c 1),()))))) (some (.inr (.inr (.inl ()))))
def tK:=ab pL
def yq:Ann:=⟨sh [ay 9,aa 10 I,aa 11 I] [(9,.arr (.int .u8))],[dD 2 I,kG 0],tK⟩
def rR(x:Q4):Option (Int×Unit):=
 cond (gtI (x.1.size:Nat) 32) (some (2,())) ((tK ((fW x.1),((fW x.1).length:Nat),0,())).bind (A1 (λz2=>some (z2.1,())) (A1 (λz3=>some (0,())) (λ_=>none))))
def Ay:=mG [] [(4,yq)] 119 Tryz.f119 [(.rd,.str)] [(.tmp 2,true,I)] rR [lp 4 yq pL]
def sA(x:(Int×Unit)):Option (Bool×Unit):=
 cond (geI x.1 1) (some ((leI x.1 1048576),())) (some (false,()))
def Ha:=mG [] [] 120 Tryz.f120 [(.rd,I)] [(.tmp 2,true,.bool)] sA []
def vp(x:(Q8×Q8×Unit)):Option (Bool×Unit):=
 some ((eqS x.1.1 x.2.1.1),())
def Er:=mG [] [] 202 Tryz.f202 [(.rd,yQ6),(.rd,(.ptr yQ6))] [(.tmp 3,true,.bool)] vp []
def bz(x:Q30):Option (Q30⊕((Int×Unit)⊕(Unit⊕Empty))):=
 let(a,b,c,d,_):=x;cond (ltI d c) ((ai a d).bind λy1=>(vp (y1,b.1,())).bind λr2=>cond r2.1 (some (.inr (.inl (d,())))) (some (.inl (a,b,c,(af .i64 d 1),())))) (some (.inr (.inr (.inl ()))))
def cn:=ab bz
def d7:Ann:=⟨sh [aa 0 (.slice yQ6),aa 1 (.clo 202 Oj),aa 7 I,aa 8 I] [],[dD 4 I,kG 0],cn⟩
def cM(x:Q20):Option (Int×Unit):=
 (cn (x.1,x.2.1,(x.1.length:Nat),0,())).bind (A1 (λz2=>some (z2.1,())) (A1 (λz3=>some ((-1),())) (λ_=>none)))
def lr:=mG [Er] [(2,d7)] 276 Tryz.f276 [(.rd,(.slice yQ6)),(.rd,(.clo 202 Oj))] [(.tmp 4,true,I)] cM [lp 2 d7 bz]
def bC(x:Q20):Option (Bool×Unit):=
 (cM (x.1,x.2.1,())).bind λr1=>some ((geI r1.1 0),())
def jW:=mG [lr] [] 201 Tryz.f201 [(.rd,(.slice yQ6)),(.rd,(.clo 202 Oj))] [(.tmp 4,true,.bool)] bC []
def pN(x:((List Q8)×(List Q8)×Int×Int×Unit)):Option (((List Q8)×(List Q8)×Int×Int×Unit)⊕((Int×Unit)⊕(Unit⊕Empty))):=
 let(a,b,c,d,_):=x;cond (ltI d c) ((ai b d).bind λy1=>(kA (y1.1,())).bind λr2=>cond (!r2.1) (some (.inr (.inl (5,())))) ((uA a 0 d).bind λy3=>(bC (y3,((y1.1,y1.2.1,()),()),())).bind λr4=>cond r4.1 (some (.inr (.inl (6,())))) (cond (ltI y1.2.1 0) (some (.inr (.inl (7,())))) (cond (gtI y1.2.1 3) (some (.inr (.inl (7,())))) (some (.inl (a,b,c,(af .i64 d 1),()))))))) (some (.inr (.inr (.inl ()))))
def tZ:=ab pN
def yg:Ann:=⟨sh [aa 0 (.slice yQ6),aa 8 (.slice yQ6),aa 9 I,aa 10 I] [],[dD 2 I,kG 0],tZ⟩
def uJ(x:((List Q8)×Unit)):Option (Int×Unit):=
 cond (gtI (x.1.length:Nat) 8) (some (2,())) ((tZ (x.1,x.1,(x.1.length:Nat),0,())).bind (A1 (λz2=>some (z2.1,())) (A1 (λz3=>some (0,())) (λ_=>none))))
def GX:=mG [pl,jW] [(4,yg)] 121 Tryz.f121 [(.rd,(.slice yQ6))] [(.tmp 2,true,I)] uJ [lp 4 yg pN]
def qO(x:Q39):Option (Int×Unit):=
 let((a,b,c,d,e,_),f,_):=x;(ai c f).bind λy1=>(kA (y1.1,())).bind λr2=>cond (!r2.1) (some (5,())) ((tX ((a,b,c,d,e,()),y1.1,())).bind λr3=>cond (ltI r3.1 f) (some (6,())) ((rR (y1.2.1,())).bind λr4=>cond (neI r4.1 0) (some (r4.1,())) ((sA (y1.2.2.1,())).bind λr5=>cond (!r5.1) (some (3,())) ((sA (y1.2.2.2.1,())).bind λr6=>cond (!r6.1) (some (3,())) (cond (ltI y1.2.2.2.2.1 (-1)) (some (3,())) (cond (geI y1.2.2.2.2.1 (e.length:Nat)) (some (3,())) ((uJ (y1.2.2.2.2.2.1,())).bind λr7=>some (r7.1,()))))))))
def I9:=mG [pl,CM,Ay,Ha,GX] [] 63 Tryz.f63 [(.rd,yQ49),(.rd,I)] [(.tmp 4,true,I)] qO []
def sH(x:(Q8×Q8×Unit)):Option (Bool×Unit):=
 some ((eqS x.1.1 x.2.1.1),())
def Cy:=mG [] [] 123 Tryz.f123 [(.rd,yQ6),(.rd,(.ptr yQ6))] [(.tmp 3,true,.bool)] sH []
def ba(x:Q30):Option (Q30⊕((Int×Unit)⊕(Unit⊕Empty))):=
 let(a,b,c,d,_):=x;cond (ltI d c) ((ai a d).bind λy1=>(sH (y1,b.1,())).bind λr2=>cond r2.1 (some (.inr (.inl (d,())))) (some (.inl (a,b,c,(af .i64 d 1),())))) (some (.inr (.inr (.inl ()))))
def bO:=ab ba
def dc:Ann:=⟨sh [aa 0 (.slice yQ6),aa 1 (.clo 123 Oj),aa 7 I,aa 8 I] [],[dD 4 I,kG 0],bO⟩
def bV(x:Q20):Option (Int×Unit):=
 (bO (x.1,x.2.1,(x.1.length:Nat),0,())).bind (A1 (λz2=>some (z2.1,())) (A1 (λz3=>some ((-1),())) (λ_=>none)))
def ji:=mG [Cy] [(2,dc)] 203 Tryz.f203 [(.rd,(.slice yQ6)),(.rd,(.clo 123 Oj))] [(.tmp 4,true,I)] bV [lp 2 dc ba]
def bc(x:Q20):Option (Bool×Unit):=
 (bV (x.1,x.2.1,())).bind λr1=>some ((geI r1.1 0),())
def gX:=mG [ji] [] 122 Tryz.f122 [(.rd,(.slice yQ6)),(.rd,(.clo 123 Oj))] [(.tmp 4,true,.bool)] bc []
def fE(x:Q48):Option (Q48⊕(Q1⊕Empty)):=
 let(a,b,c,d,e,f,g,_):=x;cond (geI g 0) ((app f [g]).bind λa1=>(ai e g).bind λy2=>some (.inl (a,b,c,d,e,a1,y2.2.1,()))) (some (.inr (.inl (f,()))))
def ow:=ab fE
def xF:Ann:=⟨sh [aa 1 I,ag 2,ay 5] [(2,co),(5,.arr I)],[(.exit 0,RN)],ow⟩
def mZ(x:Q39):Option Q1:=
 let((a,b,c,d,e,_),f,_):=x;(ow (a,b,c,d,e,[],f,())).bind (A1 (λz2=>some (z2.1,())) (λ_=>none))
def yK:=mG [] [(2,xF)] 204 Tryz.f204 [(.rd,yQ49),(.rd,I)] [(.tmp 4,true,(.slice I))] mZ [lp 2 xF fE]
def vg(x:Q39):Option (Int×Unit):=
 let((a,b,c,d,e,_),f,_):=x;(mZ ((a,b,c,d,e,()),f,())).bind λr1=>some ((r1.1.length:Nat),())
def Hg:=mG [yK] [] 124 Tryz.f124 [(.rd,yQ49),(.rd,I)] [(.tmp 4,true,I)] vg []
def rm(x:Q39):Option (Int×Unit):=
 let((a,b,c,d,e,_),f,_):=x;(ai e f).bind λy1=>(kA (y1.1,())).bind λr2=>cond (!r2.1) (some (5,())) ((tX ((a,b,c,d,e,()),y1.1,())).bind λr3=>cond (geI r3.1 0) (some (6,())) ((uA e 0 f).bind λy4=>(bc (y4,((y1.1,y1.2.1,()),()),())).bind λr5=>cond r5.1 (some (6,())) (cond (ltI y1.2.1 (-1)) (some (3,())) (cond (geI y1.2.1 f) (some (3,())) ((vg ((a,b,c,d,e,()),f,())).bind λr6=>cond (gtI r6.1 6) (some (2,())) (some (0,())))))))
def Eu:=mG [pl,CM,gX,Hg] [] 64 Tryz.f64 [(.rd,yQ49),(.rd,I)] [(.tmp 4,true,I)] rm []
def qB(x:(Q38×Q34×Unit)):Option (Int×Unit):=
 let((_,_,a,_),(b,c,d,e,f,g,h,_),_):=x;cond (ltI (bL b c) 0) (some (3,())) (cond (geI (dj b c) (a.length:Nat)) (some (3,())) (cond (ltI (bL d e) (-1)) (some (3,())) ((ai a b).bind λy1=>cond (geI d (y1.2.2.2.2.2.1.length:Nat)) (some (3,())) ((ai a c).bind λy2=>cond (geI e (y2.2.2.2.2.2.1.length:Nat)) (some (3,())) ((rR (f,())).bind λr3=>cond (neI r3.1 0) (some (r3.1,())) (cond (ltI g 1) (some (7,())) (cond (gtI g 1000) (some (7,())) (cond (ltI h 1) (some (7,())) (cond (gtI h 64) (some (7,())) (some (0,())))))))))))
def IX:=mG [Ay] [] 65 Tryz.f65 [(.rd,yQ49),(.rd,IR)] [(.tmp 4,true,I)] qB []
def dt(x:Q54):Option (Q54⊕((Int×Unit)⊕(Unit⊕Empty))):=
 let(a,b,c,d,e,f,g,h,_):=x;cond (ltI h g) ((ai f h).bind λy1=>(qB ((a,b,c,d,e,()),(y1.1,y1.2.1,y1.2.2.1,y1.2.2.2.1,y1.2.2.2.2.1,y1.2.2.2.2.2.1,y1.2.2.2.2.2.2.1,()),())).bind λr2=>cond (neI r2.1 0) (some (.inr (.inl (r2.1,())))) (some (.inl (a,b,c,d,e,f,g,(af .i64 h 1),())))) (some (.inr (.inr (.inl ()))))
def oc:=ab dt
def xM:Ann:=⟨sh [ag 1,aa 57 (.slice IR),aa 58 I,aa 59 I] [(1,co)],[dD 2 I,kG 4],oc⟩
def ib(x:Q44):Option (Q44⊕((Int×Unit)⊕(Q38⊕Empty))):=
 let(a,b,c,d,e,f,g,_):=x;cond (ltI g f) ((rm ((a,b,c,d,e,()),g,())).bind λr1=>cond (neI r1.1 0) (some (.inr (.inl (r1.1,())))) (some (.inl (a,b,c,d,e,f,(af .i64 g 1),())))) (some (.inr (.inr (.inl (a,b,c,d,e,())))))
def n9:=ab ib
def xO:Ann:=⟨sh [ag 1,aa 45 I,aa 46 I] [(1,co)],[dD 2 I,(.exit 2,Nn)],n9⟩
def dR(x:Q44):Option (Q44⊕((Int×Unit)⊕(Q38⊕Empty))):=
 let(a,b,c,d,e,f,g,_):=x;cond (ltI g f) ((qO ((a,b,c,d,e,()),g,())).bind λr1=>cond (neI r1.1 0) (some (.inr (.inl (r1.1,())))) (some (.inl (a,b,c,d,e,f,(af .i64 g 1),())))) (some (.inr (.inr (.inl (a,b,c,d,e,())))))
def pE:=ab dR
def yl:Ann:=⟨sh [ag 1,aa 32 I,aa 33 I] [(1,co)],[dD 2 I,(.exit 0,Nn)],pE⟩
def cX(x:(Q38×Unit)):Option (Int×Unit):=
 let((a,b,c,d,e,_),_):=x;cond (gtI (c.length:Nat) 64) (some (2,())) (cond (gtI (d.length:Nat) 256) (some (2,())) (cond (gtI (e.length:Nat) 16) (some (2,())) ((kA (a,())).bind λr1=>cond (!r1.1) (some (5,())) ((pE (a,b,c,d,e,(c.length:Nat),0,())).bind (A1 (λz3=>some (z3.1,())) (A1 (λ(a_4,b_4,c_4,d_4,e_4,_)=>(n9 (a_4,b_4,c_4,d_4,e_4,(e_4.length:Nat),0,())).bind (A1 (λz6=>some (z6.1,())) (A1 (λ(a_7,b_7,c_7,d_7,e_7,_)=>(oc (a_7,b_7,c_7,d_7,e_7,d_7,(d_7.length:Nat),0,())).bind (A1 (λz9=>some (z9.1,())) (A1 (λz10=>some (0,())) (λ_=>none)))) (λ_=>none)))) (λ_=>none)))))))
def dQ:=mG [pl,I9,Eu,IX] [(6,yl),(13,xO),(20,xM)] 26 Tryz.f26 [(.rd,yQ49)] [(.tmp 2,true,I)] cX [lp 6 yl dR,lp 13 xO ib,lp 20 xM dt]
def na(x:((List Q2)×Int×Unit)):Option (((List Q2)×Int×Unit)⊕((Bool×Unit)⊕(Unit⊕Empty))):=
 let(a,b,_):=x;cond (ltI b (a.length:Nat)) ((ai a (aK .i64 b 1)).bind λy1=>(ai a b).bind λy2=>cond ((eqI y1.1 y2.1)&&((eqI y1.2.1 y2.2.1)&&true)) (some (.inr (.inl (false,())))) (some (.inl (a,(af .i64 b 1),())))) (some (.inr (.inr (.inl ()))))
def qQ:=ab na
def wl:Ann:=⟨SY,[dD 2 .bool,kG 0],qQ⟩
def rn(x:Q5):Option (Bool×Unit):=
 (qQ (x.1,1,())).bind (A1 (λz2=>some (z2.1,())) (A1 (λz3=>some (true,())) (λ_=>none)))
def En:=mG [] [(2,wl)] 82 Tryz.f82 [(.rd,(.slice yQ2))] [(.tmp 2,true,.bool)] rn [lp 2 wl na]
def eF(x:(Q2×Unit)):Option (Bool×Unit):=
 let((a,b,_),_):=x;cond (geI a (-268435456)) (cond (leI a 268435456) (cond (geI b (-268435456)) (some ((leI b 268435456),())) (some (false,()))) (some (false,()))) (some (false,()))
def tu:=mG [] [] 147 Tryz.f147 [(.rd,yQ2)] [(.tmp 2,true,.bool)] eF []
def vj(x:(Q2×Unit)):Option (Bool×Unit):=
 (eF ((x.1.1,x.1.2.1,()),())).bind λr1=>some ((!r1.1),())
def Et:=mG [tu] [] 158 Tryz.f158 [(.rd,yQ2)] [(.tmp 2,true,.bool)] vj []
def bt(x:((List Q2)×Unit×Int×Int×Unit)):Option (((List Q2)×Unit×Int×Int×Unit)⊕((Int×Unit)⊕(Unit⊕Empty))):=
 let(a,b,c,d,_):=x;cond (ltI d c) ((ai a d).bind λy1=>(vj (y1,())).bind λr2=>cond r2.1 (some (.inr (.inl (d,())))) (some (.inl (a,b,c,(af .i64 d 1),())))) (some (.inr (.inr (.inl ()))))
def cf:=ab bt
def dV:Ann:=⟨sh [aa 0 (.slice yQ2),aa 1 (.clo 158 .unit),aa 7 I,aa 8 I] [],[dD 4 I,kG 0],cf⟩
def bI(x:((List Q2)×Unit×Unit)):Option (Int×Unit):=
 (cf (x.1,x.2.1,(x.1.length:Nat),0,())).bind (A1 (λz2=>some (z2.1,())) (A1 (λz3=>some ((-1),())) (λ_=>none)))
def kJ:=mG [Et] [(2,dV)] 251 Tryz.f251 [(.rd,(.slice yQ2)),(.rd,(.clo 158 .unit))] [(.tmp 4,true,I)] bI [lp 2 dV bt]
def br(x:((List Q2)×Unit×Unit)):Option (Bool×Unit):=
 (bI (x.1,x.2.1,())).bind λr1=>some ((geI r1.1 0),())
def jJ:=mG [kJ] [] 157 Tryz.f157 [(.rd,(.slice yQ2)),(.rd,(.clo 158 .unit))] [(.tmp 4,true,.bool)] br []
def zh(x:Q5):Option (Bool×Unit):=
 cond (geI (x.1.length:Nat) 1) (cond (leI (x.1.length:Nat) 512) ((br (x.1,(),())).bind λr1=>some ((!r1.1),())) (some (false,()))) (some (false,()))
def GZ:=mG [jJ] [] 83 Tryz.f83 [(.rd,(.slice yQ2))] [(.tmp 2,true,.bool)] zh []
def iY(x:Q5):Option (Bool×Unit):=
 (rn (x.1,())).bind λr1=>cond r1.1 ((zh (x.1,())).bind λr2=>some (r2.1,())) (some (false,()))
def poly_Valid_h:=mG [En,GZ] [] 32 Tryz.f32 [(.rd,(.slice yQ2))] [(.tmp 2,true,.bool)] iY []
def da(x:(Q12×Unit)):Option (Bool×Unit):=
 let((a,b,c,d,_),_):=x;(eF ((a,b,()),())).bind λr1=>cond r1.1 ((eF ((c,d,()),())).bind λr2=>cond r2.1 (cond (leI a c) (some ((leI b d),())) (some (false,()))) (some (false,()))) (some (false,()))
def mn:=mG [tu] [] 74 Tryz.f74 [(.rd,yQ4)] [(.tmp 2,true,.bool)] da []
def vJ(x:(Q12×Unit)):Option (Bool×Unit):=
 let((a,b,c,d,_),_):=x;(da ((a,b,c,d,()),())).bind λr1=>some ((!r1.1),())
def Eo:=mG [mn] [] 84 Tryz.f84 [(.rd,yQ4)] [(.tmp 2,true,.bool)] vJ []
def bF(x:Q25):Option (Q25⊕((Int×Unit)⊕(Unit⊕Empty))):=
 let(a,b,c,d,_):=x;cond (ltI d c) ((ai a d).bind λy1=>(vJ (y1,())).bind λr2=>cond r2.1 (some (.inr (.inl (d,())))) (some (.inl (a,b,c,(af .i64 d 1),())))) (some (.inr (.inr (.inl ()))))
def cB:=ab bF
def ej:Ann:=⟨sh [aa 0 (.slice yQ4),aa 1 (.clo 84 .unit),aa 7 I,aa 8 I] [],[dD 4 I,kG 0],cB⟩
def bR(x:((List Q12)×Unit×Unit)):Option (Int×Unit):=
 (cB (x.1,x.2.1,(x.1.length:Nat),0,())).bind (A1 (λz2=>some (z2.1,())) (A1 (λz3=>some ((-1),())) (λ_=>none)))
def lW:=mG [Eo] [(2,ej)] 148 Tryz.f148 [(.rd,(.slice yQ4)),(.rd,(.clo 84 .unit))] [(.tmp 4,true,I)] bR [lp 2 ej bF]
def cy(x:((List Q12)×Unit×Unit)):Option (Bool×Unit):=
 (bR (x.1,x.2.1,())).bind λr1=>some ((geI r1.1 0),())
def kp:=mG [lW] [] 76 Tryz.f76 [(.rd,(.slice yQ4)),(.rd,(.clo 84 .unit))] [(.tmp 4,true,.bool)] cy []
def pb(x:((List Q12)×Unit)):Option (Bool×Unit):=
 (cy (x.1,(),())).bind λr1=>some ((!r1.1),())
def vv:=mG [kp] [] 33 Tryz.f33 [(.rd,(.slice yQ4))] [(.tmp 2,true,.bool)] pb []
def rg(x:Q79):Option (Q79⊕((Bool×Unit)⊕(Q65⊕Empty))):=
 let(a,b,c,d,e,f,g,h,i,k,l,m,n,o,_):=x;cond (ltI o n) ((ai m o).bind λy1=>(iY (y1,())).bind λr2=>cond (!r2.1) (some (.inr (.inl (false,())))) (some (.inl (a,b,c,d,e,f,g,h,i,k,l,m,n,(af .i64 o 1),())))) (some (.inr (.inr (.inl (a,b,c,d,e,f,g,h,i,k,l,())))))
def vy:=ab rg
def AG:Ann:=⟨sh [ag 3,aa 47 Jn,aa 48 I,aa 49 I] [(3,qj)],[dD 4 .bool,(.exit 0,sh [ag 3] [(3,qj)])],vy⟩
def oU(x:(Q38×Q56×Unit)):Option (Bool×Unit):=
 let((a,b,c,d,e,_),(f,g,h,i,(k,l,m,n,_),o,p,q,_),_):=x;(cX ((a,b,c,d,e,()),())).bind λr1=>cond (neI r1.1 0) (some (false,())) (cond (neI (f.length:Nat) (c.length:Nat)) (some (false,())) (cond (neI (g.length:Nat) (e.length:Nat)) (some (false,())) (cond (neI (h.length:Nat) (d.length:Nat)) (some (false,())) (cond (neI (i.length:Nat) (d.length:Nat)) (some (false,())) ((vy (f,g,h,i,k,l,m,n,o,p,q,h,(h.length:Nat),0,())).bind (A1 (λz3=>some (z3.1,())) (A1 (λz4=>(pb (z4.1,())).bind λr5=>cond r5.1 ((pb (z4.2.1,())).bind λr6=>cond r6.1 ((pb (z4.2.2.2.1,())).bind λr7=>some (r7.1,())) (some (false,()))) (some (false,()))) (λ_=>none))))))))
def IJ:=mG [dQ,poly_Valid_h,vv] [(4,AG)] 13 Tryz.f13 [(.rd,yQ49),(.rd,yQ38)] [(.tmp 4,true,.bool)] oU [lp 4 AG rg]
def cP(x:(Q22×Unit)):Option (Bool×Unit):=
 let((a,b,c,d,e,_),_):=x;some (((eqI a (bL (dj a 0) 4))&&((eqI b (bL (dj b 0) 1048576))&&((eqI c (bL (dj c 0) 1048576))&&((eqI d (bL (dj d 0) 1048576))&&((eqI e (bL (dj e 0) 100))&&true))))),())
def bu:=mG [] [] 14 Tryz.f14 [(.rd,yQ5)] [(.tmp 2,true,.bool)] cP []
def Gg(x:(Int×Unit)):Option (Int×Unit):=
 cond (ltI x.1 0) (some ((aK .u64 0 (IntKind.wrap .u64 x.1)),())) (some ((IntKind.wrap .u64 x.1),()))
def Jj:=mG [] [] 34 Tryz.f34 [(.rd,I)] [(.tmp 2,true,(.int .u64))] Gg []
def AL(x:(Int×Unit)):Option Q4:=
 cond (ltI x.1 10) ((vB (ByteArray.mk #[48,49,50,51,52,53,54,55,56,57,97,98,99,100,101,102,103,104,105,106,107,108,109,110,111,112,113,114,115,116,117,118,119,120,121,122]) x.1 (af .i64 x.1 1)).bind λy1=>some (y1,())) ((vB (ByteArray.mk #[48,48,48,49,48,50,48,51,48,52,48,53,48,54,48,55,48,56,48,57,49,48,49,49,49,50,49,51,49,52,49,53,49,54,49,55,49,56,49,57,50,48,50,49,50,50,50,51,50,52,50,53,50,54,50,55,50,56,50,57,51,48,51,49,51,50,51,51,51,52,51,53,51,54,51,55,51,56,51,57,52,48,52,49,52,50,52,51,52,52,52,53,52,54,52,55,52,56,52,57,53,48,53,49,53,50,53,51,53,52,53,53,53,54,53,55,53,56,53,57,54,48,54,49,54,50,54,51,54,52,54,53,54,54,54,55,54,56,54,57,55,48,55,49,55,50,55,51,55,52,55,53,55,54,55,55,55,56,55,57,56,48,56,49,56,50,56,51,56,52,56,53,56,54,56,55,56,56,56,57,57,48,57,49,57,50,57,51,57,52,57,53,57,54,57,55,57,56,57,57]) (jV .i64 x.1 2) (af .i64 (jV .i64 x.1 2) 2)).bind λy2=>some (y2,()))
def Em:=mG [] [] 159 Tryz.f159 [(.rd,I)] [(.tmp 2,true,.str)] AL []
def Zh(x:(Int×Unit)):Option (Int×Unit):=(yA [(.rd,.int .u64)] [(true,I)]).fn x
def UE:Fn:=⟨160,(yA [(.rd,.int .u64)] [(true,I)]),tV⟩
def Zc(x:(List Int×Int×Int×Bool×Bool×Unit)):Option (List Int×ByteArray×Unit):=(yA [(.rd,.slice (.int .u8)),(.rd,.int .u64),(.rd,I),(.rd,.bool),(.rd,.bool)] [(false,.slice (.int .u8)),(true,.str)]).fn x
def UQ:Fn:=⟨162,(yA [(.rd,.slice (.int .u8)),(.rd,.int .u64),(.rd,I),(.rd,.bool),(.rd,.bool)] [(false,.slice (.int .u8)),(true,.str)]),tV⟩
def tP(x:Q2):Option Q4:=
 let(a,b,_):=x;cond (eqI b 10) (cond (ltI a 100) ((AL ((IntKind.wrap .i64 a),())).bind λr1=>some (r1.1,())) ((Zh (a,())).bind λr2=>none)) ((Zc ([],a,b,false,false,())).bind λr3=>some (r3.2.1,()))
def yk:=mG [Em,UE,UQ] [] 85 Tryz.f85 [(.rd,(.int .u64)),(.rd,I)] [(.tmp 4,true,.str)] tP []
def nw(x:Q2):Option Q4:=
 (tP (x.1,x.2.1,())).bind λr1=>some (r1.1,())
def xY:=mG [yk] [] 35 Tryz.f35 [(.rd,(.int .u64)),(.rd,I)] [(.tmp 4,true,.str)] nw []
def Zf(x:(ByteArray×ByteArray×Unit)):Option Q4:=(yA [(.rd,.str),(.rd,.str)] [(true,.str)]).fn x
def UR:Fn:=⟨36,(yA [(.rd,.str),(.rd,.str)] [(true,.str)]),tV⟩
def xg(x:(Int×Unit)):Option Q4:=
 (Gg (x.1,())).bind λr1=>(nw ((G3 .u64 r1.1 1000),10,())).bind λr2=>cond (gtI (Hi r1.1 1000) 0) ((nw ((af .u64 1000 (Hi r1.1 1000)),10,())).bind λr3=>(vB r3.1 1 (r3.1.size:Nat)).bind λy4=>(Zf (y4,(ByteArray.mk #[48]),())).bind λr5=>(yS (ByteArray.mk #[46]) r5.1).bind λy6=>(yS r2.1 y6).bind λy7=>cond (ltI x.1 0) ((yS (ByteArray.mk #[45]) y7).bind λy8=>some (y8,())) (some (y7,()))) (cond (ltI x.1 0) ((yS (ByteArray.mk #[45]) r2.1).bind λy9=>some (y9,())) (some (r2.1,())))
def FA:=mG [Jj,xY,UR] [] 15 Tryz.f15 [(.rd,I)] [(.tmp 2,true,.str)] xg []
def jN(x:((List Q12)×Unit)):Option ((List Q12)×Unit):=
 cond x.1.isEmpty (G6 (some ([],())) ((app [] x.1).bind λa1=>some (a1,()))) ((app [] x.1).bind λa1=>some (a1,()))
def tW:=mG [] [] 37 Tryz.f37 [(.rd,(.slice yQ4))] [(.tmp 2,true,(.slice yQ4))] jN []
def eW(x:(Q12×Q12×Unit)):Option (Bool×Unit):=
 let((a,b,c,d,_),(e,f,g,h,_),_):=x;(da ((a,b,c,d,()),())).bind λr1=>cond r1.1 ((da ((e,f,g,h,()),())).bind λr2=>cond r2.1 (cond (ltI (dj a e) (bL c g)) (some ((ltI (dj b f) (bL d h)),())) (some (false,()))) (some (false,()))) (some (false,()))
def vA:=mG [mn] [] 38 Tryz.f38 [(.rd,yQ4),(.rd,yQ4)] [(.tmp 4,true,.bool)] eW []
def ir(x:Q62):Option (Q62⊕(Q32⊕Empty)):=
 let(a,b,c,d,e,f,g,h,i,k,l,m,_):=x;cond (ltI m l) ((ai k m).bind λy1=>(eW ((a,b,c,d,()),(y1.1,y1.2.1,y1.2.2.1,y1.2.2.2.1,()),())).bind λr2=>cond r2.1 (some (.inl (a,b,c,d,e,(af .i64 f 1),g,h,i,k,l,(af .i64 m 1),()))) (some (.inl (a,b,c,d,e,f,g,h,i,k,l,(af .i64 m 1),())))) (some (.inr (.inl (e,f,g,h,i,()))))
def pQ:=ab ir
def u4:Ann:=⟨sh [aa 3 (.slice yQ4),aa 4 I,ag 6,aa 15 (.slice yQ4),aa 16 I,aa 17 I,aa 24 (.slice yQ4),aa 25 I,aa 26 I] [(6,pg)],[(.exit 2,SU)],pQ⟩
def il(x:Q32):Option (Q32⊕((Int×Unit)⊕Empty)):=
 let(a,b,c,d,e,_):=x;cond (ltI e d) ((ai c e).bind λy1=>(uA a 0 e).bind λy2=>(pQ (y1.1,y1.2.1,y1.2.2.1,y1.2.2.2.1,a,b,c,d,e,y2,(y2.length:Nat),0,())).bind (A1 (λz4=>some (.inl (z4.1,z4.2.1,z4.2.2.1,z4.2.2.2.1,(af .i64 z4.2.2.2.2.1 1),()))) (λ_=>none))) (some (.inr (.inl (b,()))))
def pn:=ab il
def u6:Ann:=⟨SU,[(.exit 0,sh [aa 4 I] [])],pn⟩
def pX(x:(Q56×Unit)):Option (Int×Unit):=
 (jN (x.1.1,())).bind λr1=>(app r1.1 x.1.2.2.2.1).bind λa2=>(pn (a2,0,a2,(a2.length:Nat),0,())).bind (A1 (λz4=>some (z4.1,())) (λ_=>none))
def qC:=mG [tW,vA] [(4,u6),(7,u4)] 16 Tryz.f16 [(.rd,yQ38)] [(.tmp 2,true,I)] pX [lp 4 u6 il,lp 7 u4 ir]
def mK(x:Q45):Option (Q45⊕(Q35⊕Empty)):=
 let(a,b,c,d,e,f,g,h,i,k,l,_):=x;cond (ltI l k) ((ai i l).bind λy1=>some (.inl (a,b,c,d,(bL e y1.1),(bL f y1.2.1),(dj g y1.1),(dj h y1.2.1),i,k,(af .i64 l 1),()))) (some (.inr (.inl (a,b,c,d,e,f,g,h,()))))
def ue:=ab mK
def yC:Ann:=⟨sh [ag 2,ag 3,aa 27 (.slice yQ2),aa 28 I,aa 29 I] [(2,pg),(3,pg)],[(.exit 0,Nc)],ue⟩
def uW(x:Q5):Option (Q12×Unit):=
 let(a,_):=x;(iY (a,())).bind λr1=>cond (!r1.1) (some ((0,0,0,0,()),())) ((ai a 0).bind λy2=>(ai a 0).bind λy3=>(ai a 0).bind λy4=>(ai a 0).bind λy5=>(ue (0,0,0,0,y2.1,y3.2.1,y4.1,y5.2.1,a,(a.length:Nat),0,())).bind (A1 (λ(_,_,_,_,a_7,b_7,c_7,d_7,_)=>some ((a_7,b_7,c_7,d_7,()),())) (λ_=>none)))
def GU:=mG [poly_Valid_h] [(5,yC)] 39 Tryz.f39 [(.rd,(.slice yQ2))] [(.cell 2 32,true,yQ4)] uW [lp 5 yC mK]
def pS(x:Q52):Option (Q52⊕(Q35⊕Empty)):=
 let(a,b,c,d,e,f,g,h,i,k,l,m,_):=x;cond (ltI m l) ((ai k m).bind λy1=>(da ((y1.1,y1.2.1,y1.2.2.1,y1.2.2.2.1,()),())).bind λr2=>cond (!r2.1) (some (.inl (a,b,c,d,e,f,g,h,i,k,l,(af .i64 m 1),()))) (cond i (some (.inl (a,b,c,d,y1.1,y1.2.1,y1.2.2.1,y1.2.2.2.1,false,k,l,(af .i64 m 1),()))) (some (.inl (a,b,c,d,(bL e y1.1),(bL f y1.2.1),(dj g y1.2.2.1),(dj h y1.2.2.2.1),i,k,l,(af .i64 m 1),()))))) (some (.inr (.inl (a,b,c,d,e,f,g,h,()))))
def wA:=ab pS
def Cm:Ann:=⟨sh [ag 2,ag 3,aa 4 .bool,aa 7 (.slice yQ4),aa 8 I,aa 9 I] [(2,pg),(3,pg)],[(.exit 0,Nc)],wA⟩
def zS(x:((List Q12)×Unit)):Option (Q12×Unit):=
 (wA (0,0,0,0,0,0,0,0,true,x.1,(x.1.length:Nat),0,())).bind (A1 (λ(_,_,_,_,a_2,b_2,c_2,d_2,_)=>some ((a_2,b_2,c_2,d_2,()),())) (λ_=>none))
def Km:=mG [mn] [(4,Cm)] 40 Tryz.f40 [(.rd,(.slice yQ4))] [(.cell 2 32,true,yQ4)] zS [lp 4 Cm pS]
def hO(x:Q42):Option (Q42⊕((Int×Int×Int×Int×(List Q12)×Unit)⊕Empty)):=
 let(a,b,c,d,e,f,g,h,_):=x;cond (ltI h g) ((ai f h).bind λy1=>(uW (y1,())).bind λr2=>(app e [(r2.1.1,r2.1.2.1,r2.1.2.2.1,r2.1.2.2.2.1,())]).bind λa3=>some (.inl (a,b,c,d,a3,f,g,(af .i64 h 1),()))) (some (.inr (.inl (a,b,c,d,e,()))))
def sP:=ab hO
def xR:Ann:=⟨sh [ag 2,ay 3,aa 30 Jn,aa 31 I,aa 32 I] [(2,pg),(3,.arr yQ4)],[(.exit 2,SO)],sP⟩
def hU(x:Q85):Option (Q85⊕(Q81⊕Empty)):=
 let(a,b,c,d,e,f,g,h,i,k,l,m,n,o,p,q,s,t,u,_):=x;cond (ltI u t) ((ai s u).bind λy1=>cond (!((eqI y1.1 0)&&((eqI y1.2.1 0)&&((eqI y1.2.2.1 0)&&((eqI y1.2.2.2.1 0)&&true))))) ((app q [(y1.1,y1.2.1,y1.2.2.1,y1.2.2.2.1,())]).bind λa2=>some (.inl (a,b,c,d,e,f,g,h,i,k,l,m,n,o,p,a2,s,t,(af .i64 u 1),()))) (some (.inl (a,b,c,d,e,f,g,h,i,k,l,m,n,o,p,q,s,t,(af .i64 u 1),())))) (some (.inr (.inl (a,b,c,d,e,f,g,h,i,k,l,m,n,o,p,q,()))))
def sR:=ab hU
def xH:Ann:=⟨sh [ag 1,ag 2,ay 3,aa 15 (.slice yQ4),aa 16 I,aa 17 I] [(1,qj),(2,pg),(3,.arr yQ4)],[(.exit 0,SR)],sR⟩
def pq(x:(Q56×Unit)):Option (Q12×Unit):=
 let((a,b,c,d,(e,f,g,h,_),i,k,l,_),_):=x;(jN (a,())).bind λr1=>(app r1.1 b).bind λa2=>(sR (a,b,c,d,e,f,g,h,i,k,l,0,0,0,0,a2,d,(d.length:Nat),0,())).bind (A1 (λ(_,_,a_4,_,_,_,_,_,_,_,_,b_4,c_4,d_4,e_4,f_4,_)=>(sP (b_4,c_4,d_4,e_4,f_4,a_4,(a_4.length:Nat),0,())).bind (A1 (λz6=>(zS (z6.2.2.2.2.1,())).bind λr7=>some ((r7.1.1,r7.1.2.1,r7.1.2.2.1,r7.1.2.2.2.1,()),())) (λ_=>none))) (λ_=>none))
def EX:=mG [tW,GU,Km] [(3,xH),(9,xR)] 17 Tryz.f17 [(.rd,yQ38)] [(.cell 2 32,true,yQ4)] pq [lp 3 xH hU,lp 9 xR hO]
def sN(x:(Q12×Unit)):Option (Q2×Unit):=
 let((a,b,c,d,_),_):=x;some (((aK .i64 c a),(aK .i64 d b),()),())
def Ct:=mG [] [] 91 Tryz.f91 [(.rd,yQ4)] [(.cell 2 113,true,yQ2)] sN []
def yL(x:(Q12×Unit)):Option (Q12×Unit):=
 let((a,b,c,d,_),_):=x;(da ((a,b,c,d,()),())).bind λr1=>cond (!r1.1) (some ((0,0,0,0,()),())) (some ((a,b,c,d,()),()))
def Hh:=mG [mn] [] 260 Tryz.f260 [(.rd,yQ4)] [(.cell 2 32,true,yQ4)] yL []
def vf(x:(Q12×Int×Unit)):Option (Q12×Unit):=
 let((a,b,c,d,_),e,_):=x;(da ((a,b,c,d,()),())).bind λr1=>cond (!r1.1) (some ((0,0,0,0,()),())) (cond (gtI e 536870912) (some ((0,0,0,0,()),())) (cond (ltI e (-536870912)) (some ((0,0,0,0,()),())) ((yL (((aK .i64 a e),(aK .i64 b e),(af .i64 c e),(af .i64 d e),()),())).bind λr2=>some ((r2.1.1,r2.1.2.1,r2.1.2.2.1,r2.1.2.2.2.1,()),()))))
def G5:=mG [mn,Hh] [] 168 Tryz.f168 [(.rd,yQ4),(.rd,I)] [(.cell 4 32,true,yQ4)] vf []
def uE(x:(Q12×Q12×Unit)):Option (Bool×Unit):=
 let((a,b,c,d,_),(e,f,g,h,_),_):=x;(da ((a,b,c,d,()),())).bind λr1=>cond r1.1 ((da ((e,f,g,h,()),())).bind λr2=>cond r2.1 (cond (leI e a) (cond (leI c g) (cond (leI f b) (some ((leI d h),())) (some (false,()))) (some (false,()))) (some (false,()))) (some (false,()))) (some (false,()))
def I4:=mG [mn] [] 167 Tryz.f167 [(.rd,yQ4),(.rd,yQ4)] [(.tmp 4,true,.bool)] uE []
def iA(x:(Q12×Int×(List Q12)×Int×Unit)):Option (Bool×Unit):=
 let((a,b,c,d,_),e,f,g,_):=x;cond (ltI e 0) (some (true,())) ((ai f e).bind λy1=>(vf (y1,(aK .i64 0 g),())).bind λr2=>(uE ((a,b,c,d,()),(r2.1.1,r2.1.2.1,r2.1.2.2.1,r2.1.2.2.2.1,()),())).bind λr3=>some (r3.1,()))
def Ap:=mG [I4,G5] [] 166 Tryz.f166 [(.rd,yQ4),(.rd,I),(.rd,(.ptr (.slice yQ4))),(.rd,(.ptr I))] [(.tmp 6,true,.bool)] iA []
def kk(x:((List Q12)×Int×(List Q8)×Int×Int×Unit)):Option (((List Q12)×Int×(List Q8)×Int×Int×Unit)⊕((Bool×Unit)⊕(Unit⊕Empty))):=
 let(a,b,c,d,e,_):=x;cond (ltI e d) ((ai c e).bind λy1=>(ai a e).bind λy2=>(iA (y2,y1.2.1,a,b,())).bind λr3=>cond (!r3.1) (some (.inr (.inl (false,())))) (some (.inl (a,b,c,d,(af .i64 e 1),())))) (some (.inr (.inr (.inl ()))))
def oN:=ab kk
def uz:Ann:=⟨sh [ag 7,(9,.av (.clo 166 [7,5])),aa 34 (.slice yQ6),aa 35 I,aa 36 I] [(7,.box [.val (.slice yQ4)]),(5,.box [.val I])],[dD 8 .bool,kG 2],oN⟩
def kC(x:Q71):Option (Q71⊕((Bool×Unit)⊕((ByteArray×Bool×(List Q37)×(List Q34)×(List Q8)×(List Q12)×Int×Unit)⊕Empty))):=
 let(a,b,c,d,e,f,g,h,i,k,l,_):=x;cond (ltI l k) ((ai i l).bind λy1=>(ai h l).bind λy2=>(iA (y2,y1.2.2.2.2.1,f,g,())).bind λr3=>cond (!r3.1) (some (.inr (.inl (false,())))) (some (.inl (a,b,c,d,e,f,g,h,i,k,(af .i64 l 1),())))) (some (.inr (.inr (.inl (a,b,c,d,e,f,g,())))))
def oM:=ab kC
def um:Ann:=⟨sh [aa 2 (.slice yQ4),ag 4,ag 7,(9,.av (.clo 166 [7,5])),aa 16 (.slice yQ45),aa 17 I,aa 18 I] [(4,co),(7,.box [.val (.slice yQ4)]),(5,.box [.val I])],[dD 8 .bool,(.exit 0,sh [ag 4,ag 7,(9,.av (.clo 166 [7,5]))] [(4,co),(7,.box [.val (.slice yQ4)]),(5,.box [.val I])])],oM⟩
def sO(x:(Q38×Int×(List Q12)×(List Q12)×Unit)):Option (Bool×Unit):=
 let((a,b,c,d,e,_),f,g,h,_):=x;(oM (a,b,c,d,e,h,f,g,c,(c.length:Nat),0,())).bind (A1 (λz2=>some (z2.1,())) (A1 (λ(_,_,_,_,a_3,b_3,c_3,_)=>(oN (b_3,c_3,a_3,(a_3.length:Nat),0,())).bind (A1 (λz5=>some (z5.1,())) (A1 (λz6=>some (true,())) (λ_=>none)))) (λ_=>none)))
def BW:=mG [Ap] [(3,um),(9,uz)] 92 Tryz.f92 [(.rd,yQ49),(.rd,I),(.rd,(.slice yQ4)),(.rd,(.slice yQ4))] [(.tmp 8,true,.bool)] sO [lp 3 um kC,lp 9 uz kk]
def qJ(x:(Q12×Q12×Unit)):Option (Bool×Unit):=
 let((a,b,c,d,_),e,_):=x;(eW ((a,b,c,d,()),e,())).bind λr1=>some (r1.1,())
def A0:=mG [vA] [] 169 Tryz.f169 [(.rd,yQ4),(.rd,(.ptr yQ4))] [(.tmp 3,true,.bool)] qJ []
def aU(x:((List Q12)×(Q12×Unit)×Int×Int×Unit)):Option (((List Q12)×(Q12×Unit)×Int×Int×Unit)⊕((Int×Unit)⊕(Unit⊕Empty))):=
 let(a,b,c,d,_):=x;cond (ltI d c) ((ai a d).bind λy1=>(qJ (y1,b.1,())).bind λr2=>cond r2.1 (some (.inr (.inl (d,())))) (some (.inl (a,b,c,(af .i64 d 1),())))) (some (.inr (.inr (.inl ()))))
def bW:=ab aU
def dP:Ann:=⟨sh [aa 0 (.slice yQ4),aa 1 (.clo 169 (.prod (.ptr yQ4) .unit)),aa 7 I,aa 8 I] [],[dD 4 I,kG 0],bW⟩
def cC(x:((List Q12)×(Q12×Unit)×Unit)):Option (Int×Unit):=
 (bW (x.1,x.2.1,(x.1.length:Nat),0,())).bind (A1 (λz2=>some (z2.1,())) (A1 (λz3=>some ((-1),())) (λ_=>none)))
def ko:=mG [A0] [(2,dP)] 148 Tryz.f148 [(.rd,(.slice yQ4)),(.rd,(.clo 169 (.prod (.ptr yQ4) .unit)))] [(.tmp 4,true,I)] cC [lp 2 dP aU]
def aW(x:((List Q12)×(Q12×Unit)×Unit)):Option (Bool×Unit):=
 (cC (x.1,x.2.1,())).bind λr1=>some ((geI r1.1 0),())
def jk:=mG [ko] [] 76 Tryz.f76 [(.rd,(.slice yQ4)),(.rd,(.clo 169 (.prod (.ptr yQ4) .unit)))] [(.tmp 4,true,.bool)] aW []
def fQ(x:(List Int×Int×Int×Int×Unit)):Option ((List Int×Int×Int×Int×Unit)⊕((Int×Unit)⊕(Unit⊕Empty))):=
 let(a,b,c,d,_):=x;cond (ltI d c) ((ai a d).bind λy1=>cond (eqI b y1) (some (.inr (.inl (d,())))) (some (.inl (a,b,c,(af .i64 d 1),())))) (some (.inr (.inr (.inl ()))))
def nt:=ab fQ
def s7:Ann:=⟨sh [aa 0 (.slice I),aa 1 I,aa 7 I,aa 8 I] [],[dD 4 I,kG 0],nt⟩
def qM(x:Q6):Option (Int×Unit):=
 (nt (x.1,x.2.1,(x.1.length:Nat),0,())).bind (A1 (λz2=>some (z2.1,())) (A1 (λz3=>some ((-1),())) (λ_=>none)))
def Bg:=mG [] [(2,s7)] 261 Tryz.f261 [(.rd,(.slice I)),(.rd,I)] [(.tmp 4,true,I)] qM [lp 2 s7 fQ]
def dX(x:Q6):Option (Bool×Unit):=
 (qM (x.1,x.2.1,())).bind λr1=>some ((geI r1.1 0),())
def lh:=mG [Bg] [] 171 Tryz.f171 [(.rd,(.slice I)),(.rd,I)] [(.tmp 4,true,.bool)] dX []
def jS(x:Q64):Option (Q64⊕(Q1⊕Empty)):=
 let(a,b,c,d,e,f,g,h,i,k,_):=x;cond (ltI k i) ((ai h k).bind λy1=>cond (ltI g 0) ((app f [k]).bind λa2=>some (.inl (a,b,c,d,e,a2,g,h,i,(af .i64 k 1),()))) ((mZ ((a,b,c,d,e,()),y1.2.2.2.2.1,())).bind λr3=>(dX (r3.1,g,())).bind λr4=>cond r4.1 ((app f [k]).bind λa5=>some (.inl (a,b,c,d,e,a5,g,h,i,(af .i64 k 1),()))) (some (.inl (a,b,c,d,e,f,g,h,i,(af .i64 k 1),()))))) (some (.inr (.inl (f,()))))
def qy:=ab jS
def vX:Ann:=⟨sh [aa 1 I,ag 2,ay 5,aa 23 (.slice yQ45),aa 24 I,aa 25 I] [(2,co),(5,.arr I)],[(.exit 0,RN)],qy⟩
def rt(x:Q39):Option Q1:=
 let((a,b,c,d,e,_),f,_):=x;(cX ((a,b,c,d,e,()),())).bind λr1=>cond (neI r1.1 0) (some ([],())) (cond (ltI f (-1)) (some ([],())) (cond (geI f (e.length:Nat)) (some ([],())) ((qy (a,b,c,d,e,[],f,c,(c.length:Nat),0,())).bind (A1 (λz3=>some (z3.1,())) (λ_=>none)))))
def Eq:=mG [dQ,lh,yK] [(5,vX)] 170 Tryz.f170 [(.rd,yQ49),(.rd,I)] [(.tmp 4,true,(.slice I))] rt [lp 5 vX jS]
def eV(x:Q44):Option (Q44⊕((Bool×Unit)⊕(Unit⊕Empty))):=
 let(a,b,c,d,e,f,g,_):=x;cond (geI g 0) (cond (eqI g f) (some (.inr (.inl (true,())))) ((ai e g).bind λy1=>some (.inl (a,b,c,d,e,f,y1.2.1,())))) (some (.inr (.inr (.inl ()))))
def mz:=ab eV
def rK:Ann:=⟨O5,[dD 6 .bool,kG 0],mz⟩
def ij(x:(Q38×Int×Int×Unit)):Option (Bool×Unit):=
 let((a,b,c,d,e,_),f,g,_):=x;(ai e g).bind λy1=>(mz (a,b,c,d,e,f,y1.2.1,())).bind (A1 (λz3=>some (z3.1,())) (A1 (λz4=>some (false,())) (λ_=>none)))
def At:=mG [] [(2,rK)] 172 Tryz.f172 [(.rd,yQ49),(.rd,I),(.rd,I)] [(.tmp 6,true,.bool)] ij [lp 2 rK eV]
def ke(x:Q84):Option (Q84⊕((Bool×Unit)⊕(Q67⊕Empty))):=
 let(a,b,c,d,e,f,g,h,i,k,l,m,n,o,p,q,s,t,_):=x;cond (ltI t s) ((ai q t).bind λy1=>(ij ((a,b,c,d,e,()),t,m,())).bind λr2=>cond (!r2.1) ((ij ((a,b,c,d,e,()),m,t,())).bind λr3=>cond (!r3.1) ((eW ((y1.1,y1.2.1,y1.2.2.1,y1.2.2.2.1,()),(f,g,h,i,()),())).bind λr4=>cond r4.1 (some (.inr (.inl (false,())))) (some (.inl (a,b,c,d,e,f,g,h,i,k,l,m,n,o,p,q,s,(af .i64 t 1),())))) (some (.inl (a,b,c,d,e,f,g,h,i,k,l,m,n,o,p,q,s,(af .i64 t 1),())))) (some (.inl (a,b,c,d,e,f,g,h,i,k,l,m,n,o,p,q,s,(af .i64 t 1),())))) (some (.inr (.inr (.inl (a,b,c,d,e,k,l,n,o,p,())))))
def oI:=ab ke
def ub:Ann:=⟨sh [aa 1 (.slice yQ4),aa 2 (.slice yQ4),ag 3,aa 9 I,ag 10,aa 29 (.slice yQ4),aa 30 I,aa 31 I,aa 58 (.slice yQ4),aa 59 I,aa 60 I] [(3,co),(10,pg)],[dD 6 .bool,(.exit 6,PG)],oI⟩
def gD(x:Q86):Option (Q86⊕((Bool×Unit)⊕((ByteArray×Bool×(List Q37)×(List Q34)×(List Q8)×Int×Int×Int×Int×(List Q12)×(List Q12)×Int×(List Q12)×Int×Int×Unit)⊕Empty))):=
 let(a,b,c,d,e,f,g,h,i,k,l,m,n,o,p,q,s,t,u,_):=x;cond (ltI u t) ((ai s u).bind λy1=>(dX (k,u,())).bind λr2=>cond (!r2.1) ((eW ((y1.1,y1.2.1,y1.2.2.1,y1.2.2.2.1,()),(f,g,h,i,()),())).bind λr3=>cond r3.1 (some (.inr (.inl (false,())))) (some (.inl (a,b,c,d,e,f,g,h,i,k,l,m,n,o,p,q,s,t,(af .i64 u 1),())))) (some (.inl (a,b,c,d,e,f,g,h,i,k,l,m,n,o,p,q,s,t,(af .i64 u 1),())))) (some (.inr (.inr (.inl (a,b,c,d,e,f,g,h,i,l,m,n,o,p,q,())))))
def oH:=ab gD
def tH:Ann:=⟨sh [aa 1 (.slice yQ4),aa 2 (.slice yQ4),ag 3,aa 9 I,ag 10,ay 11,aa 29 (.slice yQ4),aa 30 I,aa 31 I,aa 39 (.slice yQ4),aa 40 I,aa 41 I] [(3,co),(10,pg),(11,.arr I)],[dD 6 .bool,(.exit 4,sh [aa 1 (.slice yQ4),aa 2 (.slice yQ4),ag 3,aa 9 I,ag 10,aa 29 (.slice yQ4),aa 30 I,aa 31 I] [(3,co),(10,pg)])],oH⟩
def lH(x:Q67):Option (Q67⊕((Bool×Unit)⊕(Unit⊕Empty))):=
 let(a,b,c,d,e,f,g,h,i,k,_):=x;cond (ltI k i) ((ai h k).bind λy1=>(rt ((a,b,c,d,e,()),k,())).bind λr2=>(oH (a,b,c,d,e,y1.1,y1.2.1,y1.2.2.1,y1.2.2.2.1,r2.1,f,g,k,h,i,k,f,(f.length:Nat),0,())).bind (A1 (λz4=>some (.inr (.inl (z4.1,())))) (A1 (λ(a_5,b_5,c_5,d_5,e_5,f_5,g_5,h_5,i_5,k_5,l_5,m_5,n_5,o_5,p_5,_)=>(uA l_5 0 m_5).bind λy6=>(oI (a_5,b_5,c_5,d_5,e_5,f_5,g_5,h_5,i_5,k_5,l_5,m_5,n_5,o_5,p_5,y6,(y6.length:Nat),0,())).bind (A1 (λz8=>some (.inr (.inl (z8.1,())))) (A1 (λ(a_9,b_9,c_9,d_9,e_9,f_9,g_9,h_9,i_9,k_9,_)=>some (.inl (a_9,b_9,c_9,d_9,e_9,f_9,g_9,h_9,i_9,(af .i64 k_9 1),()))) (λ_=>none)))) (λ_=>none)))) (some (.inr (.inr (.inl ()))))
def pO:=ab lH
def vd:Ann:=⟨PG,[dD 6 .bool,kG 2],pO⟩
def lF(x:Q67):Option (Q67⊕((Bool×Unit)⊕(Q55⊕Empty))):=
 let(a,b,c,d,e,f,g,h,i,k,_):=x;cond (ltI k i) ((ai h k).bind λy1=>(uA f 0 k).bind λy2=>(aW (y2,((y1.1,y1.2.1,y1.2.2.1,y1.2.2.2.1,()),()),())).bind λr3=>cond r3.1 (some (.inr (.inl (false,())))) (some (.inl (a,b,c,d,e,f,g,h,i,(af .i64 k 1),())))) (some (.inr (.inr (.inl (a,b,c,d,e,f,g,())))))
def po:=ab lF
def uX:Ann:=⟨sh [aa 1 (.slice yQ4),aa 2 (.slice yQ4),ag 3,aa 16 (.slice yQ4),aa 17 I,aa 18 I] [(3,co)],[dD 6 .bool,(.exit 0,Py)],po⟩
def pV(x:(Q38×(List Q12)×(List Q12)×Unit)):Option (Bool×Unit):=
 let((a,b,c,d,e,_),f,g,_):=x;(po (a,b,c,d,e,f,g,f,(f.length:Nat),0,())).bind (A1 (λz2=>some (z2.1,())) (A1 (λ(a_3,b_3,c_3,d_3,e_3,f_3,g_3,_)=>(pO (a_3,b_3,c_3,d_3,e_3,f_3,g_3,g_3,(g_3.length:Nat),0,())).bind (A1 (λz5=>some (z5.1,())) (A1 (λz6=>some (true,())) (λ_=>none)))) (λ_=>none)))
def C7:=mG [vA,jk,Eq,lh,At] [(2,uX),(8,vd),(12,tH),(18,ub)] 93 Tryz.f93 [(.rd,yQ49),(.rd,(.slice yQ4)),(.rd,(.slice yQ4))] [(.tmp 6,true,.bool)] pV [lp 2 uX lF,lp 8 vd lH,lp 12 tH gD,lp 18 ub ke]
def qx(x:(Q12×Unit)):Option (Bool×Unit):=
 let((a,b,c,d,_),_):=x;(da ((a,b,c,d,()),())).bind λr1=>some ((!r1.1),())
def BH:=mG [mn] [] 90 Tryz.f90 [(.rd,yQ4)] [(.tmp 2,true,.bool)] qx []
def aT(x:Q25):Option (Q25⊕((Int×Unit)⊕(Unit⊕Empty))):=
 let(a,b,c,d,_):=x;cond (ltI d c) ((ai a d).bind λy1=>(qx (y1,())).bind λr2=>cond r2.1 (some (.inr (.inl (d,())))) (some (.inl (a,b,c,(af .i64 d 1),())))) (some (.inr (.inr (.inl ()))))
def bZ:=ab aT
def dO:Ann:=⟨sh [aa 0 (.slice yQ4),aa 1 (.clo 90 .unit),aa 7 I,aa 8 I] [],[dD 4 I,kG 0],bZ⟩
def cw(x:((List Q12)×Unit×Unit)):Option (Int×Unit):=
 (bZ (x.1,x.2.1,(x.1.length:Nat),0,())).bind (A1 (λz2=>some (z2.1,())) (A1 (λz3=>some ((-1),())) (λ_=>none)))
def kq:=mG [BH] [(2,dO)] 148 Tryz.f148 [(.rd,(.slice yQ4)),(.rd,(.clo 90 .unit))] [(.tmp 4,true,I)] cw [lp 2 dO aT]
def aV(x:((List Q12)×Unit×Unit)):Option (Bool×Unit):=
 (cw (x.1,x.2.1,())).bind λr1=>some ((geI r1.1 0),())
def jj:=mG [kq] [] 76 Tryz.f76 [(.rd,(.slice yQ4)),(.rd,(.clo 90 .unit))] [(.tmp 4,true,.bool)] aV []
def kF(x:Q80):Option (Q80⊕((Int×Unit)⊕(Q70⊕Empty))):=
 let(a,b,c,d,e,f,g,h,i,k,l,m,n,o,p,_):=x;cond (ltI p o) ((ai n p).bind λy1=>(sN ((y1.1,y1.2.1,y1.2.2.1,y1.2.2.2.1,()),())).bind λr2=>(ai c p).bind λy3=>(ai c p).bind λy4=>cond (!((eqI r2.1.1 y3.2.2.1)&&((eqI r2.1.2.1 y4.2.2.2.1)&&true))) (some (.inr (.inl (13,())))) (some (.inl (a,b,c,d,e,f,g,h,i,k,l,m,n,o,(af .i64 p 1),())))) (some (.inr (.inr (.inl (a,b,c,d,e,f,g,h,i,k,l,m,())))))
def oR:=ab kF
def uC:Ann:=⟨sh [aa 2 (.slice yQ4),aa 3 (.slice yQ4),ag 4,ag 5,aa 41 (.slice yQ4),aa 42 I,aa 43 I] [(4,co),(5,AF)],[dD 8 I,(.exit 1,LT)],oR⟩
def p8(x:(Q38×Q22×(List Q12)×(List Q12)×Unit)):Option (Int×Unit):=
 let((a,b,c,d,e,_),(f,g,h,i,k,_),l,m,_):=x;let t_0:=(oR (a,b,c,d,e,f,g,h,i,k,l,m,l,(l.length:Nat),0,())).bind (A1 (λz4=>some (z4.1,())) (A1 (λ(a_5,b_5,c_5,d_5,e_5,_,_,_,f_5,_,g_5,h_5,_)=>(sO ((a_5,b_5,c_5,d_5,e_5,()),f_5,g_5,h_5,())).bind λr6=>cond (!r6.1) (some (3,())) ((pV ((a_5,b_5,c_5,d_5,e_5,()),g_5,h_5,())).bind λr7=>cond (!r7.1) (some (14,())) (some (0,())))) (λ_=>none)));(cX ((a,b,c,d,e,()),())).bind λr1=>cond (neI r1.1 0) (some (r1.1,())) ((cP ((f,g,h,i,k,()),())).bind λr2=>cond (!r2.1) (some (7,())) (cond (neI (l.length:Nat) (c.length:Nat)) (cond (neI (l.length:Nat) (c.length:Nat)) (some (1,())) t_0) (cond (neI (m.length:Nat) (e.length:Nat)) (cond (neI (m.length:Nat) (e.length:Nat)) (some (1,())) t_0) ((aV (l,(),())).bind λr13=>cond r13.1 (cond r13.1 (some (1,())) t_0) ((aV (m,(),())).bind λr19=>cond r19.1 (some (1,())) t_0)))))
def DF:=mG [bu,dQ,jj,Ct,BW,C7] [(13,uC)] 42 Tryz.f42 [(.rd,yQ49),(.rd,yQ5),(.rd,(.slice yQ4)),(.rd,(.slice yQ4))] [(.tmp 8,true,I)] p8 [lp 13 uC kF]
def dE(x:(ByteArray×Bool×List ByteArray×Unit)):Option Q7:=
 let(a,b,c,_):=x;cond b ((app c [a]).bind λa1=>some (a1,())) (some (c,()))
def Bq:=mG [] [] 41 Tryz.f41 [(.rd,.str),(.rd,.bool),(.box [1],(.ptr (.slice .str)))] [] dE []
def iQ(x:(Int×Int×(List Q2)×(List Q34)×Int×Int×Unit)):Option ((Int×Int×(List Q2)×(List Q34)×Int×Int×Unit)⊕(Q15⊕Empty)):=
 let(a,b,c,d,e,f,_):=x;cond (ltI f e) ((ai d f).bind λy1=>(app c [(y1.1,y1.2.1,())]).bind λa2=>some (.inl (a,b,a2,d,e,(af .i64 f 1),()))) (some (.inr (.inl (a,b,c,()))))
def pB:=ab iQ
def uT:Ann:=⟨sh [ag 2,ag 3,aa 11 (.slice IR),aa 12 I,aa 13 I] [(2,.box [.val I,.nils]),(3,.box [.val I,.own 400001]),(400001,.arr yQ2)],[(.exit 0,sh [ag 2,ag 3] [(2,.box [.val I,.nils]),(3,.box [.val I,.own 400001]),(400001,.arr yQ2)])],pB⟩
def mi(x:(Q38×Unit)):Option (Q9×Unit):=
 let((_,_,a,b,_),_):=x;(pB (0,(a.length:Nat),[],b,(b.length:Nat),0,())).bind (A1 (λz2=>some ((z2.2.1,z2.2.2.1,()),())) (λ_=>none))
def v5:=mG [] [(3,uT)] 95 Tryz.f95 [(.rd,yQ49)] [(.cell 2 118,true,nT)] mi [lp 3 uT iQ]
def jz(x:(Int×(List Q2)×(List Q2)×Int×Int×Unit)):Option ((Int×(List Q2)×(List Q2)×Int×Int×Unit)⊕((Bool×Unit)⊕(Unit⊕Empty))):=
 let(a,b,c,d,e,_):=x;cond (ltI e d) ((ai c e).bind λy1=>cond (ltI (bL y1.1 y1.2.1) 0) (some (.inr (.inl (false,())))) (cond (geI (dj y1.1 y1.2.1) a) (some (.inr (.inl (false,())))) (some (.inl (a,b,c,d,(af .i64 e 1),()))))) (some (.inr (.inr (.inl ()))))
def qI:=ab jz
def vP:Ann:=⟨sh [ag 1,aa 20 (.slice yQ2),aa 21 I,aa 22 I] [(1,Ed)],[dD 2 .bool,kG 0],qI⟩
def kV(x:(Q9×Unit)):Option (Bool×Unit):=
 let((a,b,_),_):=x;cond (ltI a 0) (some (false,())) (cond (gtI a 64) (some (false,())) (cond (gtI (b.length:Nat) 256) (some (false,())) ((qI (a,b,b,(b.length:Nat),0,())).bind (A1 (λz2=>some (z2.1,())) (A1 (λz3=>some (true,())) (λ_=>none))))))
def xP:=mG [] [(4,vP)] 228 Tryz.f228 [(.rd,nT)] [(.tmp 2,true,.bool)] kV [lp 4 vP jz]
def su(x:(Int×Unit)):Option (Int×Unit):=
 cond (eqI x.1 0) (some (64,())) ((ai [0,1,56,2,57,49,28,3,61,58,42,50,38,29,17,4,62,47,59,36,45,43,51,22,53,39,33,30,24,18,12,5,63,55,48,27,60,41,37,16,46,35,44,21,52,32,23,11,54,26,40,15,34,20,31,10,25,14,19,9,13,8,7,6] (I5 .u64 (jV .u64 (GC .u64 x.1 (aK .u64 0 x.1)) 285870213051353865) 58)).bind λy1=>some ((IntKind.wrap .i64 y1),()))
def xv:=mG [] [] 349 Tryz.f349 [(.rd,(.int .u64))] [(.tmp 2,true,I)] su []
def gy(x:(Int×Unit)):Option (Int×Unit):=
 (su (x.1,())).bind λr1=>some (r1.1,())
def yN:=mG [xv] [] 256 Tryz.f256 [(.rd,(.int .u64))] [(.tmp 2,true,I)] gy []
def fU(x:(List Int×Q29×Int×Int×Int×Int×Int×Int×Unit)):Option ((List Int×Q29×Int×Int×Int×Int×Int×Int×Unit)⊕((List Int×Q29×Int×Int×Int×Int×Unit)⊕Empty)):=
 let(a,b,c,d,e,f,g,h,_):=x;cond (gtI f 0) ((gy ((IntKind.wrap .u64 f),())).bind λr1=>(ai b.2.1 d).bind λy2=>(ai y2 r1.1).bind λy3=>some (.inl (a,b,c,d,(af .i64 e y3),(GC .i64 f (aK .i64 f 1)),g,h,()))) (some (.inr (.inl (a,b,c,e,g,h,()))))
def cQ:=ab fU
def p0:Ann:=⟨sh [aa 0 (.ptr (.prod I LG)),ay 3,aa 4 I,aa 5 I,aa 7 I,aa 8 I,aa 27 I,aa 28 I] [(3,.arr I)],[(.exit 4,sh [aa 0 (.ptr (.prod I LG)),ay 3,aa 4 I,aa 7 I,aa 27 I,aa 28 I] [(3,.arr I)])],cQ⟩
def eA(x:(List Int×Q29×Int×Int×Int×Unit)):Option ((List Int×Q29×Int×Int×Int×Unit)⊕((List Int×Q29×Int×Unit)⊕Empty)):=
 let(a,b,c,d,e,_):=x;cond (ltI e d) (cond (ltI e 0) none (cond (eqI (GC .i64 (I5 .i64 c e) 1) 0) (some (.inl (a,b,c,d,(af .i64 e 1),()))) (cond (ltI e 0) none ((ai b.2.2.1 e).bind λy1=>cond (neI (tq .i64 y1 (tq .i64 c (vH .i64 1 e))) 0) (some (.inl (a,b,c,d,(af .i64 e 1),()))) ((aN a.length (tq .i64 c (vH .i64 1 e))).bind λj2=>(a[j2]?).bind λy3=>(cQ (a,b,c,e,y3,(tq .i64 c (vH .i64 1 e)),d,e,())).bind (A1 (λ(a_5,b_5,c_5,d_5,e_5,f_5,_)=>(aN a_5.length c_5).bind λj6=>(a_5[j6]?).bind λy7=>(aN a_5.length c_5).bind λj8=>(a_5[j8]?).bind λy9=>some (.inl ((a_5.set j8 (bL y7 d_5)),b_5,c_5,e_5,(af .i64 f_5 1),()))) (λ_=>none))))))) (some (.inr (.inl (a,b,c,()))))
def ls:=ab eA
def qn:Ann:=⟨sh [aa 0 (.ptr (.prod I LG)),ay 3,aa 4 I,aa 27 I,aa 28 I] [(3,.arr I)],[(.exit 2,Qg)],ls⟩
def gU(x:(List Int×Q29×Int×Unit)):Option ((List Int×Q29×Int×Unit)⊕(Q1⊕Empty)):=
 let(a,b,c,_):=x;cond (ltI c (a.length:Nat)) ((aN a.length c).bind λj1=>(a[j1]?).bind λy2=>(ls ((a.set j1 1048576),b,c,b.1,0,())).bind (A1 (λz4=>some (.inl (z4.1,z4.2.1,(af .i64 z4.2.2.1 1),()))) (λ_=>none))) (some (.inr (.inl (a,()))))
def k6:=ab gU
def qc:Ann:=⟨Qg,[(.exit 0,La)],k6⟩
def cj(x:(Q29×Unit)):Option (Int×Unit):=
 cond (ltI x.1.1 0) none ((l7 I (vH .i64 1 x.1.1) (vH .i64 1 x.1.1)).bind λm1=>(k6 (m1,x.1,1,())).bind (A1 (λz3=>(aN z3.1.length (aK .i64 (z3.1.length:Nat) 1)).bind λj4=>(z3.1[j4]?).bind λy5=>some (y5,())) (λ_=>none)))
def x6:=mG [yN] [(3,qc),(7,qn),(14,p0)] 262 Tryz.f262 [(.rd,(.ptr (.prod I LG)))] [(.tmp 2,true,I)] cj [lp 3 qc gU,lp 7 qn eA,lp 14 p0 fU]
def oj(x:Q92):Option (Q92⊕(Q1⊕Empty)):=
 let(a,b,c,d,e,f,g,h,i,k,l,m,n,o,p,q,s,t,u,w,w0,w1,w2,w3,w4,w5,w6,w7,w8,w9,w10,w11,w12,w13,w14,w15,w16,w17,w18,w19,w20,w21,w22,w23,w24,w25,w26,w27,w28,w29,w30,w31,w32,w33,w34,w35,w36,w37,w38,w39,w40,w41,w42,w43,w44,w45,w46,w47,w48,w49,w50,_):=x;cond (ltI w50 w49) ((ai w48 w50).bind λy1=>cond (eqI y1.1 y1.2.1) (some (.inl (a,b,c,d,e,f,g,h,i,k,l,m,n,o,p,q,s,t,u,w,w0,w1,w2,w3,w4,w5,w6,w7,w8,w9,w10,w11,w12,w13,w14,w15,w16,w17,w18,w19,w20,w21,w22,w23,w24,w25,w26,w27,w28,w29,w30,w31,w32,w33,w34,w35,w36,w37,w38,w39,w40,w41,w42,w43,w44,w45,w46,w47,w48,w49,(af .i64 w50 1),()))) ((l7 I (w46.length:Nat) (w46.length:Nat)).bind λm2=>(aN (lU m2 w46).length y1.1).bind λj3=>((lU m2 w46)[j3]?).bind λy4=>cond (ltI y1.2.1 0) none ((aN (lU m2 w46).length y1.1).bind λj5=>((lU m2 w46)[j5]?).bind λy6=>(cj ((a,[[b,c,d,e,f,g,h,i],[k,l,m,n,o,p,q,s],[t,u,w,w0,w1,w2,w3,w4],[w5,w6,w7,w8,w9,w10,w11,w12],[w13,w14,w15,w16,w17,w18,w19,w20],[w21,w22,w23,w24,w25,w26,w27,w28],[w29,w30,w31,w32,w33,w34,w35,w36],[w37,w38,w39,w40,w41,w42,w43,w44]],((lU m2 w46).set j5 (orI .i64 y4 (vH .i64 1 y1.2.1))),()),())).bind λr7=>cond (eqI r7.1 w47) ((app w45 [w50]).bind λa8=>some (.inl (a,b,c,d,e,f,g,h,i,k,l,m,n,o,p,q,s,t,u,w,w0,w1,w2,w3,w4,w5,w6,w7,w8,w9,w10,w11,w12,w13,w14,w15,w16,w17,w18,w19,w20,w21,w22,w23,w24,w25,w26,w27,w28,w29,w30,w31,w32,w33,w34,w35,w36,w37,w38,w39,w40,w41,w42,w43,w44,a8,((lU m2 w46).set j5 (orI .i64 y4 (vH .i64 1 y1.2.1))),w47,w48,w49,(af .i64 w50 1),()))) ((aN w46.length y1.2.1).bind λj9=>(w46[j9]?).bind λy10=>cond (ltI y1.1 0) none ((aN w46.length y1.2.1).bind λj11=>(w46[j11]?).bind λy12=>some (.inl (a,b,c,d,e,f,g,h,i,k,l,m,n,o,p,q,s,t,u,w,w0,w1,w2,w3,w4,w5,w6,w7,w8,w9,w10,w11,w12,w13,w14,w15,w16,w17,w18,w19,w20,w21,w22,w23,w24,w25,w26,w27,w28,w29,w30,w31,w32,w33,w34,w35,w36,w37,w38,w39,w40,w41,w42,w43,w44,w45,(w46.set j11 (orI .i64 y10 (vH .i64 1 y1.1))),w47,w48,w49,(af .i64 w50 1),()))))))) (some (.inr (.inl (w45,()))))
def kL:=ab oj
def xS:Ann:=⟨sh [ag 4,aa 7 I,ay 8,aa 58 (.slice yQ2),aa 59 I,aa 60 I] [(4,RA),(8,.arr I),(500065,.arr I)],[(.exit 3,sh [ay 8] [(8,.arr I)])],kL⟩
def pp(x:Q93):Option (Q93⊕((Int×(List Q2)×Int×Int×Int×Int×Int×Int×Int×Int×Int×Int×Int×Int×Int×Int×Int×Int×Int×Int×Int×Int×Int×Int×Int×Int×Int×Int×Int×Int×Int×Int×Int×Int×Int×Int×Int×Int×Int×Int×Int×Int×Int×Int×Int×Int×Int×Int×Int×Int×Int×Int×Int×Int×Int×Int×Int×Int×Int×Int×Int×Int×Int×Int×Int×Int×Int×List Int×Unit)⊕Empty)):=
 let(a,b,c,d,e,f,g,h,i,k,l,m,n,o,p,q,s,t,u,w,w0,w1,w2,w3,w4,w5,w6,w7,w8,w9,w10,w11,w12,w13,w14,w15,w16,w17,w18,w19,w20,w21,w22,w23,w24,w25,w26,w27,w28,w29,w30,w31,w32,w33,w34,w35,w36,w37,w38,w39,w40,w41,w42,w43,w44,w45,w46,w47,w48,w49,w50,_):=x;cond (ltI w50 w49) ((ai w48 w50).bind λy1=>let t_0:=af .i64 (([d,e,f,g,h,i,k,l,m,n,o,p,q,s,t,u,w,w0,w1,w2,w3,w4,w5,w6,w7,w8,w9,w10,w11,w12,w13,w14,w15,w16,w17,w18,w19,w20,w21,w22,w23,w24,w25,w26,w27,w28,w29,w30,w31,w32,w33,w34,w35,w36,w37,w38,w39,w40,w41,w42,w43,w44,w45,w46]:List Int).getD ((A4 y1.1*8)+A4 y1.2.1*1) 0) 1;cond (neI y1.1 y1.2.1) (if 0<=y1.1/\y1.1<((8:Nat):Int)then if 0<=y1.2.1/\y1.2.1<((8:Nat):Int)then if 0<=y1.1/\y1.1<((8:Nat):Int)then if 0<=y1.2.1/\y1.2.1<((8:Nat):Int)then some (.inl (a,b,c,(cond (A3 ((A4 y1.1*8)+A4 y1.2.1*1) 0) t_0 d),(cond (A3 ((A4 y1.1*8)+A4 y1.2.1*1) 1) t_0 e),(cond (A3 ((A4 y1.1*8)+A4 y1.2.1*1) 2) t_0 f),(cond (A3 ((A4 y1.1*8)+A4 y1.2.1*1) 3) t_0 g),(cond (A3 ((A4 y1.1*8)+A4 y1.2.1*1) 4) t_0 h),(cond (A3 ((A4 y1.1*8)+A4 y1.2.1*1) 5) t_0 i),(cond (A3 ((A4 y1.1*8)+A4 y1.2.1*1) 6) t_0 k),(cond (A3 ((A4 y1.1*8)+A4 y1.2.1*1) 7) t_0 l),(cond (A3 ((A4 y1.1*8)+A4 y1.2.1*1) 8) t_0 m),(cond (A3 ((A4 y1.1*8)+A4 y1.2.1*1) 9) t_0 n),(cond (A3 ((A4 y1.1*8)+A4 y1.2.1*1) 10) t_0 o),(cond (A3 ((A4 y1.1*8)+A4 y1.2.1*1) 11) t_0 p),(cond (A3 ((A4 y1.1*8)+A4 y1.2.1*1) 12) t_0 q),(cond (A3 ((A4 y1.1*8)+A4 y1.2.1*1) 13) t_0 s),(cond (A3 ((A4 y1.1*8)+A4 y1.2.1*1) 14) t_0 t),(cond (A3 ((A4 y1.1*8)+A4 y1.2.1*1) 15) t_0 u),(cond (A3 ((A4 y1.1*8)+A4 y1.2.1*1) 16) t_0 w),(cond (A3 ((A4 y1.1*8)+A4 y1.2.1*1) 17) t_0 w0),(cond (A3 ((A4 y1.1*8)+A4 y1.2.1*1) 18) t_0 w1),(cond (A3 ((A4 y1.1*8)+A4 y1.2.1*1) 19) t_0 w2),(cond (A3 ((A4 y1.1*8)+A4 y1.2.1*1) 20) t_0 w3),(cond (A3 ((A4 y1.1*8)+A4 y1.2.1*1) 21) t_0 w4),(cond (A3 ((A4 y1.1*8)+A4 y1.2.1*1) 22) t_0 w5),(cond (A3 ((A4 y1.1*8)+A4 y1.2.1*1) 23) t_0 w6),(cond (A3 ((A4 y1.1*8)+A4 y1.2.1*1) 24) t_0 w7),(cond (A3 ((A4 y1.1*8)+A4 y1.2.1*1) 25) t_0 w8),(cond (A3 ((A4 y1.1*8)+A4 y1.2.1*1) 26) t_0 w9),(cond (A3 ((A4 y1.1*8)+A4 y1.2.1*1) 27) t_0 w10),(cond (A3 ((A4 y1.1*8)+A4 y1.2.1*1) 28) t_0 w11),(cond (A3 ((A4 y1.1*8)+A4 y1.2.1*1) 29) t_0 w12),(cond (A3 ((A4 y1.1*8)+A4 y1.2.1*1) 30) t_0 w13),(cond (A3 ((A4 y1.1*8)+A4 y1.2.1*1) 31) t_0 w14),(cond (A3 ((A4 y1.1*8)+A4 y1.2.1*1) 32) t_0 w15),(cond (A3 ((A4 y1.1*8)+A4 y1.2.1*1) 33) t_0 w16),(cond (A3 ((A4 y1.1*8)+A4 y1.2.1*1) 34) t_0 w17),(cond (A3 ((A4 y1.1*8)+A4 y1.2.1*1) 35) t_0 w18),(cond (A3 ((A4 y1.1*8)+A4 y1.2.1*1) 36) t_0 w19),(cond (A3 ((A4 y1.1*8)+A4 y1.2.1*1) 37) t_0 w20),(cond (A3 ((A4 y1.1*8)+A4 y1.2.1*1) 38) t_0 w21),(cond (A3 ((A4 y1.1*8)+A4 y1.2.1*1) 39) t_0 w22),(cond (A3 ((A4 y1.1*8)+A4 y1.2.1*1) 40) t_0 w23),(cond (A3 ((A4 y1.1*8)+A4 y1.2.1*1) 41) t_0 w24),(cond (A3 ((A4 y1.1*8)+A4 y1.2.1*1) 42) t_0 w25),(cond (A3 ((A4 y1.1*8)+A4 y1.2.1*1) 43) t_0 w26),(cond (A3 ((A4 y1.1*8)+A4 y1.2.1*1) 44) t_0 w27),(cond (A3 ((A4 y1.1*8)+A4 y1.2.1*1) 45) t_0 w28),(cond (A3 ((A4 y1.1*8)+A4 y1.2.1*1) 46) t_0 w29),(cond (A3 ((A4 y1.1*8)+A4 y1.2.1*1) 47) t_0 w30),(cond (A3 ((A4 y1.1*8)+A4 y1.2.1*1) 48) t_0 w31),(cond (A3 ((A4 y1.1*8)+A4 y1.2.1*1) 49) t_0 w32),(cond (A3 ((A4 y1.1*8)+A4 y1.2.1*1) 50) t_0 w33),(cond (A3 ((A4 y1.1*8)+A4 y1.2.1*1) 51) t_0 w34),(cond (A3 ((A4 y1.1*8)+A4 y1.2.1*1) 52) t_0 w35),(cond (A3 ((A4 y1.1*8)+A4 y1.2.1*1) 53) t_0 w36),(cond (A3 ((A4 y1.1*8)+A4 y1.2.1*1) 54) t_0 w37),(cond (A3 ((A4 y1.1*8)+A4 y1.2.1*1) 55) t_0 w38),(cond (A3 ((A4 y1.1*8)+A4 y1.2.1*1) 56) t_0 w39),(cond (A3 ((A4 y1.1*8)+A4 y1.2.1*1) 57) t_0 w40),(cond (A3 ((A4 y1.1*8)+A4 y1.2.1*1) 58) t_0 w41),(cond (A3 ((A4 y1.1*8)+A4 y1.2.1*1) 59) t_0 w42),(cond (A3 ((A4 y1.1*8)+A4 y1.2.1*1) 60) t_0 w43),(cond (A3 ((A4 y1.1*8)+A4 y1.2.1*1) 61) t_0 w44),(cond (A3 ((A4 y1.1*8)+A4 y1.2.1*1) 62) t_0 w45),(cond (A3 ((A4 y1.1*8)+A4 y1.2.1*1) 63) t_0 w46),w47,w48,w49,(af .i64 w50 1),()))else none else none else none else none) (some (.inl (a,b,c,d,e,f,g,h,i,k,l,m,n,o,p,q,s,t,u,w,w0,w1,w2,w3,w4,w5,w6,w7,w8,w9,w10,w11,w12,w13,w14,w15,w16,w17,w18,w19,w20,w21,w22,w23,w24,w25,w26,w27,w28,w29,w30,w31,w32,w33,w34,w35,w36,w37,w38,w39,w40,w41,w42,w43,w44,w45,w46,w47,w48,w49,(af .i64 w50 1),())))) (some (.inr (.inl (a,b,c,d,e,f,g,h,i,k,l,m,n,o,p,q,s,t,u,w,w0,w1,w2,w3,w4,w5,w6,w7,w8,w9,w10,w11,w12,w13,w14,w15,w16,w17,w18,w19,w20,w21,w22,w23,w24,w25,w26,w27,w28,w29,w30,w31,w32,w33,w34,w35,w36,w37,w38,w39,w40,w41,w42,w43,w44,w45,w46,w47,()))))
def mI:=ab pp
def yJ:Ann:=⟨sh [ag 1,ag 4,aa 28 (.slice yQ2),aa 29 I,aa 30 I] [(1,Ed),(4,RA),(500065,.arr I)],[(.exit 1,sh [ag 1,ag 4] [(1,Ed),(4,RA),(500065,.arr I)])],mI⟩
def vh(x:(Q9×Unit)):Option Q6:=
 let((a,b,_),_):=x;(kV ((a,b,()),())).bind λr1=>cond (!r1.1) (some ([],1,())) (cond (gtI a 8) (some ([],2,())) ((l7 I a a).bind λm2=>(mI (a,b,a,0,0,0,0,0,0,0,0,0,0,0,0,0,0,0,0,0,0,0,0,0,0,0,0,0,0,0,0,0,0,0,0,0,0,0,0,0,0,0,0,0,0,0,0,0,0,0,0,0,0,0,0,0,0,0,0,0,0,0,0,0,0,0,0,m2,b,(b.length:Nat),0,())).bind (A1 (λ(_,a_4,b_4,c_4,d_4,e_4,f_4,g_4,h_4,i_4,k_4,l_4,m_4,n_4,o_4,p_4,q_4,s_4,t_4,u_4,w_4,w0_4,w1_4,w2_4,w3_4,w4_4,w5_4,w6_4,w7_4,w8_4,w9_4,w10_4,w11_4,w12_4,w13_4,w14_4,w15_4,w16_4,w17_4,w18_4,w19_4,w20_4,w21_4,w22_4,w23_4,w24_4,w25_4,w26_4,w27_4,w28_4,w29_4,w30_4,w31_4,w32_4,w33_4,w34_4,w35_4,w36_4,w37_4,w38_4,w39_4,w40_4,w41_4,w42_4,w43_4,w44_4,w45_4,w46_4,_)=>(cj ((b_4,[[c_4,d_4,e_4,f_4,g_4,h_4,i_4,k_4],[l_4,m_4,n_4,o_4,p_4,q_4,s_4,t_4],[u_4,w_4,w0_4,w1_4,w2_4,w3_4,w4_4,w5_4],[w6_4,w7_4,w8_4,w9_4,w10_4,w11_4,w12_4,w13_4],[w14_4,w15_4,w16_4,w17_4,w18_4,w19_4,w20_4,w21_4],[w22_4,w23_4,w24_4,w25_4,w26_4,w27_4,w28_4,w29_4],[w30_4,w31_4,w32_4,w33_4,w34_4,w35_4,w36_4,w37_4],[w38_4,w39_4,w40_4,w41_4,w42_4,w43_4,w44_4,w45_4]],w46_4,()),())).bind λr5=>(kL (b_4,c_4,d_4,e_4,f_4,g_4,h_4,i_4,k_4,l_4,m_4,n_4,o_4,p_4,q_4,s_4,t_4,u_4,w_4,w0_4,w1_4,w2_4,w3_4,w4_4,w5_4,w6_4,w7_4,w8_4,w9_4,w10_4,w11_4,w12_4,w13_4,w14_4,w15_4,w16_4,w17_4,w18_4,w19_4,w20_4,w21_4,w22_4,w23_4,w24_4,w25_4,w26_4,w27_4,w28_4,w29_4,w30_4,w31_4,w32_4,w33_4,w34_4,w35_4,w36_4,w37_4,w38_4,w39_4,w40_4,w41_4,w42_4,w43_4,w44_4,w45_4,[],w46_4,r5.1,a_4,(a_4.length:Nat),0,())).bind (A1 (λz7=>some (z7.1,0,())) (λ_=>none))) (λ_=>none))))
def G9:=mG [xP,x6] [(7,yJ),(15,xS)] 173 Tryz.f173 [(.rd,nT)] [(.tmp 2,true,(.slice I)),(.tmp 3,true,I)] vh [lp 7 yJ pp,lp 15 xS oj]
def Zj(x:(Q9×Unit)):Option Q1:=(yA [(.rd,nT)] [(true,.slice I)]).fn x
def UY:Fn:=⟨174,(yA [(.rd,nT)] [(true,.slice I)]),tV⟩
def ml(x:Q6):Option (Bool×Unit):=
 (uA x.1 0 x.2.1).bind λy1=>(ai x.1 x.2.1).bind λy2=>(dX (y1,y2,())).bind λr3=>some (r3.1,())
def wG:=mG [lh] [] 360 Tryz.f360 [(.rd,(.slice I)),(.rd,I)] [(.tmp 4,true,.bool)] ml []
def iL(x:(List Int×Int×List Int×Int×Int×Unit)):Option ((List Int×Int×List Int×Int×Int×Unit)⊕((Int×Unit)⊕(Unit⊕Empty))):=
 let(a,b,c,d,e,_):=x;cond (ltI e d) ((ai c e).bind λy1=>cond (ltI y1 0) (some (.inr (.inl (3,())))) (cond (geI y1 b) (some (.inr (.inl (3,())))) ((ml (a,e,())).bind λr2=>cond r2.1 (some (.inr (.inl (6,())))) (some (.inl (a,b,c,d,(af .i64 e 1),())))))) (some (.inr (.inr (.inl ()))))
def pu:=ab iL
def uV:Ann:=⟨sh [aa 0 (.slice I),aa 1 I,aa 7 (.slice I),aa 8 I,aa 9 I] [],[dD 4 I,kG 0],pu⟩
def pv(x:Q6):Option (Int×Unit):=
 (pu (x.1,x.2.1,x.1,(x.1.length:Nat),0,())).bind (A1 (λz2=>some (z2.1,())) (A1 (λz3=>some (0,())) (λ_=>none)))
def Dz:=mG [wG] [(2,uV)] 264 Tryz.f264 [(.rd,(.slice I)),(.rd,I)] [(.tmp 4,true,I)] pv [lp 2 uV iL]
def mT(x:Q5):Option Q5:=
 cond x.1.isEmpty (G6 (some ([],())) ((app [] x.1).bind λa1=>some (a1,()))) ((app [] x.1).bind λa1=>some (a1,()))
def BD:=mG [] [] 265 Tryz.f265 [(.rd,(.slice yQ2))] [(.tmp 2,true,(.slice yQ2))] mT []
def om(x:(Int×(List Q2)×Int×Int×(List Q2)×List Int×Int×Int×Unit)):Option ((Int×(List Q2)×Int×Int×(List Q2)×List Int×Int×Int×Unit)⊕(Q15⊕Empty)):=
 let(a,b,c,d,e,f,g,h,_):=x;cond (ltI h g) ((ai f h).bind λy1=>(ai b y1).bind λy2=>(ai b y1).bind λy3=>(aN e.length y1).bind λj4=>(e[j4]?).bind λy5=>some (.inl (a,b,c,d,(e.set j4 (y2.2.1,y3.1,())),f,g,(af .i64 h 1),()))) (some (.inr (.inl (c,d,e,()))))
def sI:=ab om
def xD:Ann:=⟨sh [ag 2,ag 4,ag 7,aa 29 (.slice I),aa 30 I,aa 31 I] [(2,Ed),(4,.box [.val I,.nils]),(7,.box [.val I,.own 800001]),(800001,.arr yQ2)],[(.exit 0,sh [ag 4,ag 7] [(4,.box [.val I,.nils]),(7,.box [.val I,.own 800001]),(800001,.arr yQ2)])],sI⟩
def pi(x:Q10):Option (Q9×Int×Unit):=
 let((a,b,_),c,_):=x;(kV ((a,b,()),())).bind λr1=>cond (!r1.1) (some ((0,[],()),1,())) ((pv (c,(b.length:Nat),())).bind λr2=>cond (neI r2.1 0) (some ((0,[],()),r2.1,())) ((mT (b,())).bind λr3=>(sI (a,b,0,a,r3.1,c,(c.length:Nat),0,())).bind (A1 (λz5=>some ((z5.2.1,z5.2.2.1,()),0,())) (λ_=>none))))
def GL:=mG [xP,Dz,BD] [(8,xD)] 175 Tryz.f175 [(.rd,nT),(.rd,(.slice I))] [(.cell 4 118,true,nT),(.tmp 5,true,I)] pi [lp 8 xD om]
def sj(x:(Q9×Unit)):Option (List Int×Q9×Unit):=
 let((a,b,_),_):=x;(vh ((a,b,()),())).bind λr1=>cond (neI r1.2.1 0) ((Zj ((a,b,()),())).bind λr2=>(pi ((a,b,()),r2.1,())).bind λr3=>cond (neI r3.2.1 0) (some ([],(0,[],()),())) (some (r2.1,(r3.1.1,r3.1.2.1,()),()))) ((pi ((a,b,()),r1.1,())).bind λr4=>cond (neI r4.2.1 0) (some ([],(0,[],()),())) (some (r1.1,(r4.1.1,r4.1.2.1,()),())))
def Aw:=mG [G9,UY,GL] [] 94 Tryz.f94 [(.rd,nT)] [(.tmp 2,true,(.slice I)),(.cell 3 118,true,nT)] sj []
def od(x:(Int×Int×(List Q2)×(List Q2)×List Int×Int×Int×Unit)):Option ((Int×Int×(List Q2)×(List Q2)×List Int×Int×Int×Unit)⊕((Int×Int×(List Q2)×List Int×Unit)⊕Empty)):=
 let(a,b,c,d,e,f,g,_):=x;cond (ltI g f) ((aN c.length g).bind λj1=>(c[j1]?).bind λy2=>cond (neI y2.1 y2.2.1) ((app d [(y2.1,y2.2.1,())]).bind λa3=>(app e [g]).bind λa4=>some (.inl (a,b,c,a3,a4,f,(af .i64 g 1),()))) (some (.inl (a,b,c,d,e,f,(af .i64 g 1),())))) (some (.inr (.inl (a,b,d,e,()))))
def sG:=ab od
def xN:Ann:=⟨sh [ag 2,ag 5,ay 20,aa 21 I,aa 22 I] [(2,.box [.val I,.nils,.nils]),(5,S4),(20,.arr yQ2),(600001,.arr yQ2),(600002,.arr I)],[(.exit 0,sh [ag 2,ag 5] [(2,.box [.val I,.nils,.nils]),(5,S4),(600001,.arr yQ2),(600002,.arr I)])],sG⟩
def wV(x:(Q38×Unit)):Option (Q10×Unit):=
 let((a,b,c,d,e,_),_):=x;(mi ((a,b,c,d,e,()),())).bind λr1=>(sj ((r1.1.1,r1.1.2.1,()),())).bind λr2=>(sG (0,(c.length:Nat),r2.2.1.2.1,[],[],(r2.2.1.2.1.length:Nat),0,())).bind (A1 (λz4=>some (((z4.2.1,z4.2.2.1,()),z4.2.2.2.1,()),())) (λ_=>none))
def F6:=mG [Aw,v5] [(4,xN)] 176 Tryz.f176 [(.rd,yQ49)] [(.cell 2 207,true,(.prod nT J2))] wV [lp 4 xN od]
def jL(x:(Int×(List Q12)×(List Q12)×Int×Int×Unit)):Option ((Int×(List Q12)×(List Q12)×Int×Int×Unit)⊕((Bool×Unit)⊕(Unit⊕Empty))):=
 let(a,b,c,d,e,_):=x;cond (ltI e d) ((ai c e).bind λy1=>cond (ltI (bL y1.1 y1.2.1) 0) (some (.inr (.inl (false,())))) (cond (geI (dj y1.1 y1.2.1) a) (some (.inr (.inl (false,())))) (cond (eqI y1.1 y1.2.1) (some (.inr (.inl (false,())))) (cond (ltI y1.2.2.1 (-16777216)) (some (.inr (.inl (false,())))) (cond (gtI y1.2.2.1 16777216) (some (.inr (.inl (false,())))) (cond (ltI y1.2.2.2.1 0) (some (.inr (.inl (false,())))) (cond (gtI y1.2.2.2.1 8000) (some (.inr (.inl (false,())))) (some (.inl (a,b,c,d,(af .i64 e 1),())))))))))) (some (.inr (.inr (.inl ()))))
def qH:=ab jL
def vK:Ann:=⟨sh [ag 1,aa 20 (.slice yQ4),aa 21 I,aa 22 I] [(1,vO)],[dD 2 .bool,kG 0],qH⟩
def nL(x:(Q13×Unit)):Option (Bool×Unit):=
 let((a,b,_),_):=x;cond (ltI a 0) (some (false,())) (cond (gtI a 2048) (some (false,())) (cond (gtI (b.length:Nat) 4096) (some (false,())) ((qH (a,b,b,(b.length:Nat),0,())).bind (A1 (λz2=>some (z2.1,())) (A1 (λz3=>some (true,())) (λ_=>none))))))
def xC:=mG [] [(4,vK)] 267 Tryz.f267 [(.rd,Af)] [(.tmp 2,true,.bool)] nL [lp 4 vK jL]
def fe(x:Q11):Option (Q11⊕(Q1⊕Empty)):=
 let(a,b,c,_):=x;cond (ltI c b) ((aN a.length c).bind λj1=>(a[j1]?).bind λy2=>some (.inl ((a.set j1 c),b,(af .i64 c 1),()))) (some (.inr (.inl (a,()))))
def jC:=ab fe
def o8:Ann:=⟨sh [ay 3,aa 12 I,aa 13 I] [(3,.arr I)],[(.exit 0,La)],jC⟩
def e8(x:(Q14×Unit)):Option Q1:=
 (l7 I x.1.1.1 x.1.1.1).bind λm1=>(jC (m1,(m1.length:Nat),0,())).bind (A1 (λz3=>some (z3.1,())) (λ_=>none))
def xu:=mG [] [(3,o8)] 362 Tryz.f362 [(.rd,(.ptr Ar))] [(.tmp 2,true,(.slice I))] e8 [lp 3 o8 fe]
def MR(x:((List (List Q17))×Q14×(List Q12)×Int×Int×Unit)):Option (((List (List Q17))×Q14×(List Q12)×Int×Int×Unit)⊕(((List (List Q17))×Unit)⊕Empty)):=
 let(a,b,c,d,e,_):=x;cond (ltI e d) ((ai c e).bind λy1=>(aN a.length y1.1).bind λj2=>(app (ep a j2) [(y1.2.1,y1.2.2.1,e,false,())]).bind λa3=>(aN a.length y1.1).bind λj4=>if j2=j4 then(ai b.2.1 e).bind λy5=>cond (gtI y5 0) ((aN (a.set j4 a3).length y1.2.1).bind λj6=>(app (ep (a.set j4 a3) j6) [(y1.1,(aK .i64 0 y1.2.2.1),e,true,())]).bind λa7=>(aN (a.set j4 a3).length y1.2.1).bind λj8=>if j6=j8 then some (.inl (((a.set j4 a3).set j8 a7),b,c,d,(af .i64 e 1),()))else none) (some (.inl ((a.set j4 a3),b,c,d,(af .i64 e 1),())))else none) (some (.inr (.inl (a,()))))
def RE:=ab MR
def S3:Ann:=⟨sh [aa 0 (.ptr Ar),(3,.av (.ownd 3)),aa 16 (.slice yQ4),aa 17 I,aa 18 I] [(3,.deep vT)],[(.exit 0,sh [(3,.av (.ownd 3))] [(3,.deep vT)])],RE⟩
def Zb(x:(Q14×Unit)):Option ((List (List Q17))×Unit):=
 (l7 (.slice vT) x.1.1.1 x.1.1.1).bind λm1=>(RE (m1,x.1,x.1.1.2.1,(x.1.1.2.1.length:Nat),0,())).bind (A1 (λz3=>some (z3.1,())) (λ_=>none))
def UO:Fn:=mkF { cx []with deep:=[11],light:=[5,7] } [(3,S3)] 444 Tryz.f444 [(.rd,(.ptr Ar))] [(.tmp 2,true,(.slice (.slice vT)))] Zb [lp 3 S3 MR] seat_ok uo rfl (d:=true)
def cm(x:Q72):Option (Q72⊕(Q61⊕Empty)):=
 let(a,b,c,d,e,f,g,h,i,k,l,m,n,_):=x;cond (ltI n m) ((aN (ep a l.toNat).length n).bind λj1=>((ep a l.toNat)[j1]?).bind λy2=>(aN b.length g).bind λj3=>(b[j3]?).bind λy4=>(aN b.length y2.1).bind λj5=>(b[j5]?).bind λy6=>cond (gtI (af .i64 y4.1 y2.2.1) y6.1) ((aN b.length y2.1).bind λj7=>(b[j7]?).bind λy8=>(aN c.length y2.1).bind λj9=>(c[j9]?).bind λy10=>cond (!y10) ((aN c.length y2.1).bind λj11=>(c[j11]?).bind λy12=>(app d [y2.1]).bind λa13=>some (.inl (a,(b.set j7 ((af .i64 y4.1 y2.2.1),g,(y2.1,y2.2.1,y2.2.2.1,y2.2.2.2.1,()),false,())),(c.set j11 true),a13,e,f,g,h,i,k,((l.toNat:Nat):Int),m,(af .i64 n 1),()))) (some (.inl (a,(b.set j7 ((af .i64 y4.1 y2.2.1),g,(y2.1,y2.2.1,y2.2.2.1,y2.2.2.2.1,()),false,())),c,d,e,f,g,h,i,k,((l.toNat:Nat):Int),m,(af .i64 n 1),())))) (some (.inl (a,b,c,d,e,f,g,h,i,k,((l.toNat:Nat):Int),m,(af .i64 n 1),())))) (some (.inr (.inl (a,b,c,d,e,f,h,i,k,()))))
def fF:=ab cm
def kP:Ann:=⟨sh [aa 0 (.ptr Ar),(6,.av (.ownd 6)),ay 7,ay 12,aa 13 I,ay 14,aa 16 I,aa 68 (.slice I),aa 69 I,aa 70 I,(80,.sub 6),aa 81 I,aa 82 I] [(6,.deep vT),(7,.arr ux),(12,.arr .bool),(14,.arr I)],[(.exit 8,Qr)],fF⟩
def cq(x:Q61):Option (Q61⊕(((List (List Q17))×(List Q18)×List Bool×List Int×Q14×Int×Unit)⊕Empty)):=
 let(a,b,c,d,e,f,g,h,i,_):=x;cond (ltI i h) ((ai g i).bind λy1=>(aN c.length y1).bind λj2=>(c[j2]?).bind λy3=>(aN a.length y1).bind λj4=>(fF (a,b,(c.set j2 false),d,e,f,y1,g,h,i,((j4:Nat):Int),((ep a j4).length:Nat),0,())).bind (A1 (λ(a_6,b_6,c_6,d_6,e_6,f_6,g_6,h_6,i_6,_)=>some (.inl (a_6,b_6,c_6,d_6,e_6,f_6,g_6,h_6,(af .i64 i_6 1),()))) (λ_=>none))) (some (.inr (.inl (a,b,c,d,e,f,()))))
def fH:=ab cq
def kQ:Ann:=⟨Qr,[(.exit 6,sh [aa 0 (.ptr Ar),(6,.av (.ownd 6)),ay 7,ay 12,aa 13 I,ay 14] [(6,.deep vT),(7,.arr ux),(12,.arr .bool),(14,.arr I)])],fH⟩
def dq(x:Q43):Option (Q43⊕((Bool×Unit)⊕(((List Q18)×Unit)⊕Empty))):=
 let(a,b,c,d,e,f,_):=x;cond (gtI (e.length:Nat) 0) (cond (gtI f d.1.1) (some (.inr (.inl (false,())))) ((fH (a,b,c,[],d,(af .i64 f 1),e,(e.length:Nat),0,())).bind (A1 (λ(a_2,b_2,c_2,d_2,e_2,f_2,_)=>some (.inl (a_2,b_2,c_2,e_2,d_2,f_2,()))) (λ_=>none)))) (some (.inr (.inr (.inl (b,())))))
def fI:=ab dq
def kU:Ann:=⟨sh [aa 0 (.ptr Ar),(6,.av (.ownd 6)),ay 7,aa 11 (.slice I),ay 12,aa 13 I] [(6,.deep vT),(7,.arr ux),(12,.arr .bool)],[(.ret,sh [(4,.av (.nils)),aa 5 .bool] []),(.exit 4,sh [ay 7] [(7,.arr ux)])],fI⟩
def dN(x:Q47):Option (Q47⊕(((List (List Q17))×(List Q18)×Q14×List Int×Unit)⊕Empty)):=
 let(a,b,c,d,e,f,g,_):=x;cond (ltI g f) ((ai e g).bind λy1=>(aN b.length y1).bind λj2=>(b[j2]?).bind λy3=>some (.inl (a,(b.set j2 (0,0,(0,0,0,false,()),true,())),c,d,e,f,(af .i64 g 1),()))) (some (.inr (.inl (a,b,c,d,()))))
def gc:=ab dN
def lM:Ann:=⟨sh [aa 0 (.ptr Ar),aa 1 (.slice I),(6,.av (.ownd 6)),ay 7,aa 38 (.slice I),aa 39 I,aa 40 I] [(6,.deep vT),(7,.arr ux)],[(.exit 2,PX)],gc⟩
def dM(x:((List (List Q17))×(List Q18)×Q14×List Int×Int×Int×Unit)):Option (((List (List Q17))×(List Q18)×Q14×List Int×Int×Int×Unit)⊕(((List (List Q17))×(List Q18)×Q14×List Int×Unit)⊕Empty)):=
 let(a,b,c,d,e,f,_):=x;cond (ltI f e) ((aN b.length f).bind λj1=>(b[j1]?).bind λy2=>some (.inl (a,(b.set j1 ((-1152921504606846976),y2.2)),c,d,e,(af .i64 f 1),()))) (some (.inr (.inl (a,b,c,d,()))))
def fX:=ab dM
def lL:Ann:=⟨sh [aa 0 (.ptr Ar),aa 1 (.slice I),(6,.av (.ownd 6)),ay 7,aa 29 I,aa 30 I] [(6,.deep vT),(7,.arr ux)],[(.exit 0,PX)],fX⟩
def bP(x:(Q14×List Int×Unit)):Option ((List Q18)×Bool×Unit):=
 (Zb (x.1,())).bind λr1=>(l7 ux x.1.1.1 x.1.1.1).bind λm2=>(fX (r1.1,m2,x.1,x.2.1,(m2.length:Nat),0,())).bind (A1 (λ(a_4,b_4,c_4,d_4,_)=>(gc (a_4,b_4,c_4,d_4,d_4,(d_4.length:Nat),0,())).bind (A1 (λ(a_6,b_6,c_6,d_6,_)=>(l7 .bool c_6.1.1 c_6.1.1).bind λm7=>(fI (a_6,b_6,m7,c_6,d_6,0,())).bind (A1 (λz9=>some ([],z9.1,())) (A1 (λz10=>some (z10.1,true,())) (λ_=>none)))) (λ_=>none))) (λ_=>none))
def mS:=mG [UO] [(4,lL),(9,lM),(14,kU),(20,kQ),(24,kP)] 361 Tryz.f361 [(.rd,(.ptr Ar)),(.rd,(.slice I))] [(.tmp 4,true,(.slice ux)),(.tmp 5,true,.bool)] bP [lp 4 lL dM,lp 9 lM dN,lp 14 kU dq,lp 20 kQ cq,lp 24 kP cm]
def ec(x:Q26):Option (Q26⊕(Q1⊕Empty)):=
 let(a,b,c,d,_):=x;cond (ltI d c) ((ai b d).bind λy1=>(aN a.length y1.2.1).bind λj2=>(a[j2]?).bind λy3=>(aN a.length y1.2.1).bind λj4=>(a[j4]?).bind λy5=>(aN (a.set j4 (af .i64 y3 y1.2.2.2.1)).length y1.1).bind λj6=>((a.set j4 (af .i64 y3 y1.2.2.2.1))[j6]?).bind λy7=>(aN (a.set j4 (af .i64 y3 y1.2.2.2.1)).length y1.1).bind λj8=>((a.set j4 (af .i64 y3 y1.2.2.2.1))[j8]?).bind λy9=>some (.inl (((a.set j4 (af .i64 y3 y1.2.2.2.1)).set j8 (aK .i64 y7 y1.2.2.2.1)),b,c,(af .i64 d 1),()))) (some (.inr (.inl (a,()))))
def gZ:=ab ec
def nj:Ann:=⟨sh [ay 3,aa 16 (.slice yQ4),aa 17 I,aa 18 I] [(3,.arr I)],[(.exit 0,La)],gZ⟩
def dU(x:(Q14×Unit)):Option Q1:=
 let(((a,b,_),_),_):=x;(l7 I a a).bind λm1=>(gZ (m1,b,(b.length:Nat),0,())).bind (A1 (λz3=>some (z3.1,())) (λ_=>none))
def vm:=mG [] [(3,nj)] 445 Tryz.f445 [(.rd,(.ptr Ar))] [(.tmp 2,true,(.slice I))] dU [lp 3 nj ec]
def ea(x:Q46):Option (Q46⊕((Int×(List Q12)×List Int×List Int×Int×Int×Unit)⊕Empty)):=
 let(a,b,c,d,e,f,g,h,_):=x;(ai e h).bind λy1=>cond (!y1.2.2.2.1) ((ai e h).bind λy2=>cond y2.2.2.1.2.2.2.1 ((aN c.length y2.2.2.1.2.2.1).bind λj3=>(c[j3]?).bind λy4=>(aN c.length y2.2.2.1.2.2.1).bind λj5=>(c[j5]?).bind λy6=>(ai e h).bind λy7=>some (.inl (a,b,(c.set j5 (aK .i64 y4 g)),d,e,f,g,y7.2.1,()))) ((aN c.length y2.2.2.1.2.2.1).bind λj8=>(c[j8]?).bind λy9=>(aN c.length y2.2.2.1.2.2.1).bind λj10=>(c[j10]?).bind λy11=>(ai e h).bind λy12=>some (.inl (a,b,(c.set j10 (af .i64 y9 g)),d,e,f,g,y12.2.1,())))) (some (.inr (.inl (a,b,c,d,f,g,()))))
def cT:=ab ea
def nk:Ann:=⟨⟨[ag 0,aa 1 (.slice ux),ay 3,aa 10 I,aa 11 I,aa 14 I],[(0,Ax),(100002,.arr I),(3,.arr I)],[0,3]⟩,[(.exit 2,⟨[ag 0,ay 3,aa 10 I,aa 11 I],[(0,Ax),(100002,.arr I),(3,.arr I)],[0,3]⟩)],cT⟩
def eP(x:Q51):Option (Q51⊕(Q46⊕Empty)):=
 let(a,b,c,d,e,f,g,h,i,_):=x;(ai e i).bind λy1=>cond (!y1.2.2.2.1) ((ai e i).bind λy2=>cond y2.2.2.1.2.2.2.1 ((aN c.length y2.2.2.1.2.2.1).bind λj3=>(c[j3]?).bind λy4=>(ai e i).bind λy5=>(ai e i).bind λy6=>some (.inl (a,b,c,d,e,f,y5.2.1,(bL h y4),y6.2.1,()))) ((ai e i).bind λy7=>(ai e i).bind λy8=>some (.inl (a,b,c,d,e,f,y7.2.1,h,y8.2.1,())))) (some (.inr (.inl (a,b,c,d,e,f,g,h,()))))
def dk:=ab eP
def nG:Ann:=⟨⟨[ag 0,aa 1 (.slice ux),aa 2 I,ay 3,aa 10 I,aa 11 I,aa 12 I],[(0,Ax),(100002,.arr I),(3,.arr I)],[0,3]⟩,[(.exit 0,⟨[ag 0,aa 1 (.slice ux),aa 2 I,ay 3,aa 10 I,aa 11 I],[(0,Ax),(100002,.arr I),(3,.arr I)],[0,3]⟩)],dk⟩
def lj(x:(Q14×(List Q18)×Int×List Int×Unit)):Option (Int×Int×Q14×List Int×Unit):=
 let(((a,b,_),c,_),d,e,f,_):=x;(aN f.length e).bind λj1=>(f[j1]?).bind λy2=>(dk (a,b,c,f,d,e,e,y2,e,())).bind (A1 (λ(a_4,b_4,c_4,d_4,e_4,f_4,g_4,h_4,_)=>(aN d_4.length g_4).bind λj5=>(d_4[j5]?).bind λy6=>(cT (a_4,b_4,c_4,d_4,e_4,g_4,(bL h_4 (aK .i64 0 y6)),f_4,())).bind (A1 (λ(a_8,b_8,c_8,d_8,e_8,f_8,_)=>some (e_8,f_8,((a_8,b_8,()),c_8,()),d_8,())) (λ_=>none))) (λ_=>none))
def v6:=mG [] [(4,nG),(12,nk)] 446 Tryz.f446 [(.box [0,0,1],(.ptr Ar)),(.rd,(.slice ux)),(.rd,I),(.upd,(.slice I))] [(.tmp 8,true,I),(.tmp 9,true,I)] lj [lp 4 nG eP,lp 12 nk ea]
def dv(x:Q46):Option (Q46⊕((Int×(List Q12)×List Int×List Int×(List Q18)×Int×Unit)⊕Empty)):=
 let(a,b,c,d,e,f,g,h,_):=x;cond (ltI h g) ((aN d.length h).bind λj1=>(d[j1]?).bind λy2=>cond (gtI y2 0) ((aN e.length h).bind λj3=>(e[j3]?).bind λy4=>cond (gtI y4.1 (-576460752303423488)) (cond (ltI f 0) (some (.inl (a,b,c,d,e,h,g,(af .i64 h 1),()))) ((aN e.length h).bind λj5=>(e[j5]?).bind λy6=>(aN e.length f).bind λj7=>(e[j7]?).bind λy8=>cond (gtI y6.1 y8.1) (some (.inl (a,b,c,d,e,h,g,(af .i64 h 1),()))) (some (.inl (a,b,c,d,e,f,g,(af .i64 h 1),()))))) (some (.inl (a,b,c,d,e,f,g,(af .i64 h 1),())))) (some (.inl (a,b,c,d,e,f,g,(af .i64 h 1),())))) (some (.inr (.inl (a,b,c,d,e,f,()))))
def fB:=ab dv
def kS:Ann:=⟨⟨[ag 0,ay 2,ay 6,aa 8 I,(38,.av (.own 2)),aa 39 I,aa 40 I],[(0,Ax),(100002,.arr I),(2,.arr I),(6,.arr ux)],[0]⟩,[(.exit 4,⟨[ag 0,ay 2,ay 6,aa 8 I],[(0,Ax),(100002,.arr I),(2,.arr I),(6,.arr ux)],[0]⟩)],fB⟩
def dL(x:(Int×(List Q12)×List Int×List Int×List Int×Int×Int×Unit)):Option ((Int×(List Q12)×List Int×List Int×List Int×Int×Int×Unit)⊕((Int×(List Q12)×List Int×List Int×List Int×Unit)⊕Empty)):=
 let(a,b,c,d,e,f,g,_):=x;cond (ltI g f) ((aN c.length g).bind λj1=>(c[j1]?).bind λy2=>cond (ltI y2 0) ((app d [g]).bind λa3=>some (.inl (a,b,c,a3,e,f,(af .i64 g 1),()))) (some (.inl (a,b,c,d,e,f,(af .i64 g 1),())))) (some (.inr (.inl (a,b,c,d,e,()))))
def fZ:=ab dL
def lS:Ann:=⟨⟨[ag 0,ay 2,ay 3,(15,.av (.own 2)),aa 16 I,aa 17 I],[(0,Ax),(2,.arr I),(3,.arr I),(100002,.arr I)],[0]⟩,[(.exit 2,⟨[ag 0,ay 2,ay 3],[(0,Ax),(2,.arr I),(3,.arr I),(100002,.arr I)],[0]⟩)],fZ⟩
def bT(x:Q31):Option (Q31⊕(Q23⊕Empty)):=
 let(a,b,c,d,_):=x;(fZ (a,b,d,[],c,(d.length:Nat),0,())).bind (A1 (λ(a_2,b_2,c_2,d_2,e_2,_)=>cond (eqI (d_2.length:Nat) 0) (some (.inr (.inl (a_2,b_2,e_2,())))) ((bP (((a_2,b_2,()),e_2,()),d_2,())).bind λr3=>(fB (a_2,b_2,e_2,c_2,r3.1,(-1),(c_2.length:Nat),0,())).bind (A1 (λ(a_5,b_5,c_5,d_5,e_5,f_5,_)=>(lj (((a_5,b_5,()),c_5,()),e_5,f_5,d_5,())).bind λr6=>(aN r6.2.2.2.1.length r6.1).bind λj7=>(r6.2.2.2.1[j7]?).bind λy8=>(aN r6.2.2.2.1.length r6.1).bind λj9=>(r6.2.2.2.1[j9]?).bind λy10=>(aN (r6.2.2.2.1.set j9 (af .i64 y8 r6.2.1)).length f_5).bind λj11=>((r6.2.2.2.1.set j9 (af .i64 y8 r6.2.1))[j11]?).bind λy12=>(aN (r6.2.2.2.1.set j9 (af .i64 y8 r6.2.1)).length f_5).bind λj13=>((r6.2.2.2.1.set j9 (af .i64 y8 r6.2.1))[j13]?).bind λy14=>some (.inl (r6.2.2.1.1.1,r6.2.2.1.1.2.1,r6.2.2.1.2.1,((r6.2.2.2.1.set j9 (af .i64 y8 r6.2.1)).set j13 (aK .i64 y12 r6.2.1)),()))) (λ_=>none)))) (λ_=>none))
def dI:=ab bT
def lN:Ann:=⟨⟨[ag 0,ay 2],[(0,Ax),(100002,.arr I),(2,.arr I)],[0]⟩,[(.ret,⟨[ag 0],[(0,Ax),(100002,.arr I)],[0]⟩)],dI⟩
def je(x:(Q14×Unit)):Option (Q14×Unit):=
 let(((a,b,_),c,_),_):=x;(dU (((a,b,()),c,()),())).bind λr1=>(dI (a,b,c,r1.1,())).bind (A1 (λz3=>some (((z3.1,z3.2.1,()),z3.2.2.1,()),())) (λ_=>none))
def ua:=mG [mS,vm,v6] [(1,lN),(3,lS),(12,kS)] 363 Tryz.f363 [(.box [0,0,1],(.ptr Ar))] [] je [lp 1 lN bT,lp 3 lS dL,lp 12 kS dv]
def lO(x:(Int×(List Q12)×List Int×(List Q18)×List Int×Int×Int×Unit)):Option ((Int×(List Q12)×List Int×(List Q18)×List Int×Int×Int×Unit)⊕(Q31⊕Empty)):=
 let(a,b,c,d,e,f,g,_):=x;cond (ltI g f) ((aN d.length g).bind λj1=>(d[j1]?).bind λy2=>(aN e.length g).bind λj3=>(e[j3]?).bind λy4=>some (.inl (a,b,c,d,(e.set j3 y2.1),f,(af .i64 g 1),()))) (some (.inr (.inl (a,b,c,e,()))))
def px:=ab lO
def uY:Ann:=⟨sh [ag 5,ay 8,ay 10,aa 44 I,aa 45 I] [(5,SN),(600002,.arr I),(8,.arr ux),(10,.arr I)],[(.exit 0,sh [ag 5,ay 10] [(5,SN),(600002,.arr I),(10,.arr I)])],px⟩
def rq(x:(Q13×Unit)):Option Q21:=
 let((a,b,_),_):=x;(nL ((a,b,()),())).bind λr1=>cond (!r1.1) (some ([],[],1,())) ((l7 I (b.length:Nat) (b.length:Nat)).bind λm2=>(e8 (((a,b,()),m2,()),())).bind λr3=>(bP (((a,b,()),m2,()),r3.1,())).bind λr4=>cond (!r4.2.1) (some ([],[],9,())) ((je (((a,b,()),m2,()),())).bind λr5=>(e8 (((r5.1.1.1,r5.1.1.2.1,()),r5.1.2.1,()),())).bind λr6=>(bP (((r5.1.1.1,r5.1.1.2.1,()),r5.1.2.1,()),r6.1,())).bind λr7=>(l7 I a a).bind λm8=>(px (r5.1.1.1,r5.1.1.2.1,r5.1.2.1,r7.1,m8,(m8.length:Nat),0,())).bind (A1 (λz10=>some (z10.2.2.2.1,z10.2.2.1,0,())) (λ_=>none))))
def Es:=mG [xC,mS,xu,ua] [(11,uY)] 266 Tryz.f266 [(.rd,Af)] [(.tmp 2,true,(.slice I)),(.tmp 3,true,(.slice I)),(.tmp 4,true,I)] rq [lp 11 uY lO]
def fu(x:Q78):Option (Q78⊕(Q13⊕Empty)):=
 let(a,b,c,d,e,f,g,h,i,k,l,m,n,_):=x;cond (ltI n m) ((ai l n).bind λy1=>(ai c n).bind λy2=>(ai g y2).bind λy3=>(app k [(y1.1,y1.2.1,y3.2.2.2.2.2.2.1,y3.2.2.2.2.2.1,())]).bind λa4=>some (.inl (a,b,c,d,e,f,g,h,i,a4,l,m,(af .i64 n 1),()))) (some (.inr (.inl (i,k,()))))
def jE:=ab fu
def oY:Ann:=⟨sh [ag 2,ag 3,ag 7,aa 17 (.slice yQ2),aa 18 I,aa 19 I] [(2,.box [.val I,.val (.slice yQ2),.val (.slice I)]),(3,co),(7,.box [.val I,.own 800001]),(800001,.arr yQ4)],[(.exit 0,sh [ag 7] [(7,.box [.val I,.own 800001]),(800001,.arr yQ4)])],jE⟩
def mf(x:(Q10×Q38×Unit)):Option Q21:=
 let(((a,b,_),c,_),(d,e,f,g,h,_),_):=x;(jE (a,b,c,d,e,f,g,h,a,[],b,(b.length:Nat),0,())).bind (A1 (λz2=>(rq ((z2.1,z2.2.1,()),())).bind λr3=>some (r3.1,r3.2.1,r3.2.2.1,())) (λ_=>none))
def wu:=mG [Es] [(3,oY)] 177 Tryz.f177 [(.rd,(.prod nT J2)),(.rd,yQ49)] [(.tmp 4,true,(.slice I)),(.tmp 5,true,(.slice I)),(.tmp 6,true,I)] mf [lp 3 oY fu]
def lI(x:(List Int×List Int×List Int×List Int×Int×Int×Unit)):Option ((List Int×List Int×List Int×List Int×Int×Int×Unit)⊕((List Int×List Int×Unit)⊕Empty)):=
 let(a,b,c,d,e,f,_):=x;cond (ltI f e) ((aN d.length f).bind λj1=>(d[j1]?).bind λy2=>(aN b.length f).bind λj3=>(b[j3]?).bind λy4=>(aN c.length y2).bind λj5=>(c[j5]?).bind λy6=>some (.inl (a,b,(c.set j5 y4),d,e,(af .i64 f 1),()))) (some (.inr (.inl (a,c,()))))
def lz:=ab lI
def uZ:Ann:=⟨sh [ay 7,ay 8,ay 10,ay 35,aa 36 I,aa 37 I] [(7,.arr I),(8,.arr I),(10,.arr I),(35,.arr I)],[(.exit 0,sh [ay 7,ay 10] [(7,.arr I),(10,.arr I)])],lz⟩
def qX(x:(Q38×Unit)):Option Q21:=
 let((a,b,c,d,e,_),_):=x;(cX ((a,b,c,d,e,()),())).bind λr1=>cond (neI r1.1 0) (some ([],[],r1.1,())) ((wV ((a,b,c,d,e,()),())).bind λr2=>(mf (((r2.1.1.1,r2.1.1.2.1,()),r2.1.2.1,()),(a,b,c,d,e,()),())).bind λr3=>cond (neI r3.2.2.1 0) (some ([],[],r3.2.2.1,())) ((l7 I (d.length:Nat) (d.length:Nat)).bind λm4=>(lz (r3.1,r3.2.1,m4,r2.1.2.1,(r2.1.2.1.length:Nat),0,())).bind (A1 (λz6=>some (z6.1,z6.2.1,0,())) (λ_=>none))))
def Ev:=mG [dQ,F6,wu] [(10,uZ)] 96 Tryz.f96 [(.rd,yQ49)] [(.tmp 2,true,(.slice I)),(.tmp 3,true,(.slice I)),(.tmp 4,true,I)] qX [lp 10 uZ lI]
def jD(x:Q11):Option (Q11⊕((Bool×Unit)⊕(Unit⊕Empty))):=
 let(a,b,c,_):=x;cond (ltI c b) ((ai a c).bind λy1=>cond (ltI y1 (-34359738368)) (some (.inr (.inl (false,())))) (cond (gtI y1 34359738368) (some (.inr (.inl (false,())))) (some (.inl (a,b,(af .i64 c 1),()))))) (some (.inr (.inr (.inl ()))))
def qK:=ab jD
def vN:Ann:=⟨sh [aa 17 (.slice I),aa 18 I,aa 19 I] [],[dD 4 .bool,kG 0],qK⟩
def nZ(x:Q14):Option (Bool×Unit):=
 let((a,b,_),c,_):=x;(nL ((a,b,()),())).bind λr1=>cond (!r1.1) (some (false,())) (cond (neI (c.length:Nat) a) (some (false,())) ((qK (c,(c.length:Nat),0,())).bind (A1 (λz3=>some (z3.1,())) (A1 (λz4=>some (true,())) (λ_=>none)))))
def xK:=mG [xC] [(4,vN)] 178 Tryz.f178 [(.rd,Af),(.rd,(.slice I))] [(.tmp 4,true,.bool)] nZ [lp 4 vN jD]
def jn(x:Q26):Option (Q26⊕((Bool×Unit)⊕(Unit⊕Empty))):=
 let(a,b,c,d,_):=x;cond (ltI d c) ((ai b d).bind λy1=>(ai a y1.2.1).bind λy2=>(ai a y1.1).bind λy3=>cond (ltI (aK .i64 y2 y3) y1.2.2.1) (some (.inr (.inl (false,())))) (some (.inl (a,b,c,(af .i64 d 1),())))) (some (.inr (.inr (.inl ()))))
def nA:=ab jn
def sS:Ann:=⟨sh [aa 1 (.slice I),aa 12 (.slice yQ4),aa 13 I,aa 14 I] [],[dD 4 .bool,kG 0],nA⟩
def nh(x:Q14):Option (Bool×Unit):=
 let((a,b,_),c,_):=x;(nZ ((a,b,()),c,())).bind λr1=>cond (!r1.1) (some (false,())) ((nA (c,b,(b.length:Nat),0,())).bind (A1 (λz3=>some (z3.1,())) (A1 (λz4=>some (true,())) (λ_=>none))))
def BK:=mG [xK] [(4,sS)] 97 Tryz.f97 [(.rd,Af),(.rd,(.slice I))] [(.tmp 4,true,.bool)] nh [lp 4 sS jn]
def ol(x:(List Int×Int×(List Q12)×Int×Int×Unit)):Option ((List Int×Int×(List Q12)×Int×Int×Unit)⊕((Int×Unit)⊕Empty)):=
 let(a,b,c,d,e,_):=x;cond (ltI e d) ((ai c e).bind λy1=>(ai a y1.2.1).bind λy2=>(ai a y1.1).bind λy3=>some (.inl (a,(af .i64 b (jV .i64 y1.2.2.2.1 (aK .i64 y2 y3))),c,d,(af .i64 e 1),()))) (some (.inr (.inl (b,()))))
def sE:=ab ol
def xG:Ann:=⟨sh [aa 1 (.slice I),aa 5 I,aa 13 (.slice yQ4),aa 14 I,aa 15 I] [],[(.exit 0,Gp)],sE⟩
def py(x:Q14):Option (Int×Unit):=
 let((a,b,_),c,_):=x;(nZ ((a,b,()),c,())).bind λr1=>cond (!r1.1) (some (0,())) ((sE (c,0,b,(b.length:Nat),0,())).bind (A1 (λz3=>some (z3.1,())) (λ_=>none)))
def Gd:=mG [xK] [(5,xG)] 98 Tryz.f98 [(.rd,Af),(.rd,(.slice I))] [(.tmp 4,true,I)] py [lp 5 xG ol]
def ou(x:Q69):Option (Q69⊕((ByteArray×Bool×(List Q37)×(List Q34)×(List Q8)×Int×(List Q12)×List Int×Unit)⊕Empty)):=
 let(a,b,c,d,e,f,g,h,i,k,l,_):=x;cond (ltI l k) ((aN g.length l).bind λj1=>(g[j1]?).bind λy2=>cond (neI y2.1 y2.2.1) ((ai d l).bind λy3=>(ai d l).bind λy4=>(app h [(y2.1,y2.2.1,y3.2.2.2.2.2.2.1,y4.2.2.2.2.2.1,())]).bind λa5=>some (.inl (a,b,c,d,e,f,g,a5,i,k,(af .i64 l 1),()))) (some (.inl (a,b,c,d,e,f,g,h,i,k,(af .i64 l 1),())))) (some (.inr (.inl (a,b,c,d,e,f,h,i,()))))
def sJ:=ab ou
def xJ:Ann:=⟨sh [aa 1 (.slice I),ag 2,ag 5,ay 24,aa 25 I,aa 26 I] [(2,co),(5,.box [.val I,.own 600001]),(24,.arr yQ2),(600001,.arr yQ4)],[(.exit 0,sh [aa 1 (.slice I),ag 2,ag 5] [(2,co),(5,.box [.val I,.own 600001]),(600001,.arr yQ4)])],sJ⟩
def tB(x:(Q38×List Int×Unit)):Option (Bool×Unit):=
 let((a,b,c,d,e,_),f,_):=x;(mi ((a,b,c,d,e,()),())).bind λr1=>(sj ((r1.1.1,r1.1.2.1,()),())).bind λr2=>(sJ (a,b,c,d,e,(c.length:Nat),r2.2.1.2.1,[],f,(r2.2.1.2.1.length:Nat),0,())).bind (A1 (λ(a_4,b_4,c_4,d_4,e_4,f_4,g_4,h_4,_)=>(qX ((a_4,b_4,c_4,d_4,e_4,()),())).bind λr5=>cond (eqI r5.2.2.1 0) ((nh ((f_4,g_4,()),h_4,())).bind λr6=>cond r6.1 ((py ((f_4,g_4,()),h_4,())).bind λr7=>(py ((f_4,g_4,()),r5.1,())).bind λr8=>some ((eqI r7.1 r8.1),())) (some (false,()))) (some (false,()))) (λ_=>none))
def Gu:=mG [Aw,v5,Ev,BK,Gd] [(4,xJ)] 43 Tryz.f43 [(.rd,yQ49),(.rd,(.slice I))] [(.tmp 4,true,.bool)] tB [lp 4 xJ ou]
def xy(x:(Q3×Unit)):Option (Q3×Bool×Unit):=
 let(((a,b,_),(c,d,_),_),_):=x;(eF ((a,b,()),())).bind λr1=>cond r1.1 ((eF ((c,d,()),())).bind λr2=>some (((a,b,()),(c,d,()),()),r2.1,())) (some (((a,b,()),(c,d,()),()),false,()))
def OD:=mG [tu] [] 249 Tryz.f249 [(.rd,Fy)] [(.cell 2 286,true,Fy),(.tmp 3,true,.bool)] xy []
def dp(x:(Q3×Q2×Unit)):Option (Int×Unit):=
 let(((a,b,_),(c,d,_),_),(e,f,_),_):=x;cond (gtI (aK .i64 (jV .i64 (aK .i64 c a) (aK .i64 f b)) (jV .i64 (aK .i64 d b) (aK .i64 e a))) 0) (some (1,())) (cond (ltI (aK .i64 (jV .i64 (aK .i64 c a) (aK .i64 f b)) (jV .i64 (aK .i64 d b) (aK .i64 e a))) 0) (some ((-1),())) (some (0,())))
def vb:=mG [] [] 347 Tryz.f347 [(.rd,Fy),(.rd,yQ2)] [(.tmp 4,true,I)] dp []
def eJ(x:(Q3×Q3×Unit)):Option (Bool×Unit):=
 let(((a,b,_),(c,d,_),_),((e,f,_),(g,h,_),_),_):=x;(dp (((a,b,()),(c,d,()),()),(e,f,()),())).bind λr1=>(dp (((a,b,()),(c,d,()),()),(g,h,()),())).bind λr2=>some ((ltI (jV .i64 r1.1 r2.1) 0),())
def BG:=mG [vb] [] 250 Tryz.f250 [(.rd,Fy),(.rd,Fy)] [(.tmp 4,true,.bool)] eJ []
def mN(x:(Q3×Q3×Unit)):Option (Bool×Unit):=
 let(((a,b,_),(c,d,_),_),((e,f,_),(g,h,_),_),_):=x;(xy (((a,b,()),(c,d,()),()),())).bind λr1=>(xy (((e,f,()),(g,h,()),()),())).bind λr2=>cond r1.2.1 (cond r2.2.1 ((eJ (((r1.1.1.1,r1.1.1.2.1,()),(r1.1.2.1.1,r1.1.2.1.2.1,()),()),((r2.1.1.1,r2.1.1.2.1,()),(r2.1.2.1.1,r2.1.2.1.2.1,()),()),())).bind λr3=>cond r3.1 ((eJ (((r2.1.1.1,r2.1.1.2.1,()),(r2.1.2.1.1,r2.1.2.1.2.1,()),()),((r1.1.1.1,r1.1.1.2.1,()),(r1.1.2.1.1,r1.1.2.1.2.1,()),()),())).bind λr4=>some (r4.1,())) (some (false,()))) (some (false,()))) (some (false,()))
def geom_Cross_h:=mG [OD,BG] [] 156 Tryz.f156 [(.rd,Fy),(.rd,Fy)] [(.tmp 4,true,.bool)] mN []
def Zi(x:((List Q2)×(List Q2)×Unit)):Option (Int×Unit):=(Dl iY mN).fn x
def UL:Fn:=⟨81,(Dl iY mN),Pu poly_Valid_h.ok geom_Cross_h.ok⟩
def gC(x:Q87):Option (Q87⊕(Q82⊕Empty)):=
 let(a,b,c,d,e,f,g,h,i,k,l,m,n,o,p,q,s,t,u,_):=x;cond (ltI u t) ((ai s u).bind λy1=>(Zi (y1,n,())).bind λr2=>some (.inl (a,b,c,d,e,f,g,h,i,k,l,(af .i64 m r2.1),n,o,p,q,s,t,(af .i64 u 1),()))) (some (.inr (.inl (a,b,c,d,e,f,g,h,i,k,l,m,o,p,q,()))))
def oL:=ab gC
def ul:Ann:=⟨sh [ag 1,aa 3 I,aa 5 (.slice yQ2),aa 9 Jn,aa 10 I,aa 11 I,aa 19 Jn,aa 20 I,aa 21 I] [(1,qj)],[(.exit 2,PJ)],oL⟩
def gH(x:Q82):Option (Q82⊕((Int×Unit)⊕Empty)):=
 let(a,b,c,d,e,f,g,h,i,k,l,m,n,o,p,_):=x;cond (ltI p o) ((ai n p).bind λy1=>(uA c 0 p).bind λy2=>(oL (a,b,c,d,e,f,g,h,i,k,l,m,y1,n,o,p,y2,(y2.length:Nat),0,())).bind (A1 (λ(a_4,b_4,c_4,d_4,e_4,f_4,g_4,h_4,i_4,k_4,l_4,m_4,n_4,o_4,p_4,_)=>some (.inl (a_4,b_4,c_4,d_4,e_4,f_4,g_4,h_4,i_4,k_4,l_4,m_4,n_4,o_4,(af .i64 p_4 1),()))) (λ_=>none))) (some (.inr (.inl (m,()))))
def oK:=ab gH
def tR:Ann:=⟨PJ,[(.exit 0,HC)],oK⟩
def kN(x:(Q56×Unit)):Option (Int×Unit):=
 let((a,b,c,d,(e,f,g,h,_),i,k,l,_),_):=x;(oK (a,b,c,d,e,f,g,h,i,k,l,0,c,(c.length:Nat),0,())).bind (A1 (λz2=>some (z2.1,())) (λ_=>none))
def pz:=mG [UL] [(3,tR),(6,ul)] 31 Tryz.f31 [(.rd,yQ38)] [(.tmp 2,true,I)] kN [lp 3 tR gH,lp 6 ul gC]
def yU(x:(Q2×Q2×Q2×Unit)):Option (Int×Unit):=
 let((a,b,_),(c,d,_),(e,f,_),_):=x;(eF ((a,b,()),())).bind λr1=>cond (!r1.1) (some (0,())) ((eF ((c,d,()),())).bind λr2=>cond (!r2.1) (some (0,())) ((eF ((e,f,()),())).bind λr3=>cond (!r3.1) (some (0,())) ((dp (((a,b,()),(c,d,()),()),(e,f,()),())).bind λr4=>some (r4.1,()))))
def GV:=mG [tu,vb] [] 268 Tryz.f268 [(.rd,yQ2),(.rd,yQ2),(.rd,yQ2)] [(.tmp 6,true,I)] yU []
def zO(x:(Q2×Q2×Q2×Unit)):Option (Bool×Unit):=
 let((a,b,_),(c,d,_),(e,f,_),_):=x;(yU ((a,b,()),(c,d,()),(e,f,()),())).bind λr1=>cond (neI r1.1 0) (some (true,())) (some ((gtI (af .i64 (jV .i64 (aK .i64 a c) (aK .i64 e c)) (jV .i64 (aK .i64 b d) (aK .i64 f d))) 0),()))
def KG:=mG [GV] [] 179 Tryz.f179 [(.rd,yQ2),(.rd,yQ2),(.rd,yQ2)] [(.tmp 6,true,.bool)] zO []
def rh(x:Q16):Option (Q16⊕((Int×Unit)⊕Empty)):=
 let(a,b,c,_):=x;cond (ltI (af .i64 c 1) (a.length:Nat)) ((ai a (aK .i64 c 1)).bind λy1=>(ai a c).bind λy2=>(ai a (af .i64 c 1)).bind λy3=>(zO (y1,y2,y3,())).bind λr4=>cond r4.1 (some (.inl (a,(af .i64 b 1),(af .i64 c 1),()))) (some (.inl (a,b,(af .i64 c 1),())))) (some (.inr (.inl (b,()))))
def vD:=ab rh
def AB:Ann:=⟨Rs,[(.exit 0,HC)],vD⟩
def ww(x:Q5):Option (Int×Unit):=
 (iY (x.1,())).bind λr1=>cond (!r1.1) (some (0,())) ((vD (x.1,0,1,())).bind (A1 (λz3=>some (z3.1,())) (λ_=>none)))
def Jk:=mG [poly_Valid_h,KG] [(5,AB)] 99 Tryz.f99 [(.rd,(.slice yQ2))] [(.tmp 2,true,I)] ww [lp 5 AB rh]
def pj(x:(Int×(List (List Q2))×Int×Int×Unit)):Option ((Int×(List (List Q2))×Int×Int×Unit)⊕((Int×Unit)⊕Empty)):=
 let(a,b,c,d,_):=x;cond (ltI d c) ((ai b d).bind λy1=>(ww (y1,())).bind λr2=>some (.inl ((af .i64 a r2.1),b,c,(af .i64 d 1),()))) (some (.inr (.inl (a,()))))
def tU:=ab pj
def zt:Ann:=⟨sh [aa 3 I,aa 7 Jn,aa 8 I,aa 9 I] [],[(.exit 0,HC)],tU⟩
def uQ(x:(Q56×Unit)):Option (Int×Unit):=
 (tU (0,x.1.2.2.1,(x.1.2.2.1.length:Nat),0,())).bind (A1 (λz2=>some (z2.1,())) (λ_=>none))
def Hl:=mG [Jk] [(3,zt)] 44 Tryz.f44 [(.rd,yQ38)] [(.tmp 2,true,I)] uQ [lp 3 zt pj]
def jH(x:Q57):Option Q7:=
 let((a,b,c,d,e,_),(f,g,h,i,k,_),(l,m,n,o,(p,q,s,t,_),u,w,w0,_),_):=x;cond (gtI (e.length:Nat) 0) ((p8 ((a,b,c,d,e,()),(f,g,h,i,k,()),l,m,())).bind λr1=>(dE ((ByteArray.mk #[99,108,117,115,116,101,114,115]),(neI r1.1 0),[],())).bind λr2=>some (r2.1,())) (cond (eqI f 0) ((tB ((a,b,c,d,e,()),w0,())).bind λr3=>(dE ((ByteArray.mk #[114,97,110,107,115]),(!r3.1),[],())).bind λr4=>some (r4.1,())) (cond (eqI f 1) ((kN ((l,m,n,o,(p,q,s,t,()),u,w,w0,()),())).bind λr5=>(dE ((ByteArray.mk #[99,114,111,115,115,105,110,103,115]),(neI u r5.1),[],())).bind λr6=>(uQ ((l,m,n,o,(p,q,s,t,()),u,w,w0,()),())).bind λr7=>(dE ((ByteArray.mk #[98,101,110,100,115]),(neI w r7.1),r6.1,())).bind λr8=>some (r8.1,())) (cond (eqI f 2) ((kN ((l,m,n,o,(p,q,s,t,()),u,w,w0,()),())).bind λr9=>(dE ((ByteArray.mk #[99,114,111,115,115,105,110,103,115]),(neI r9.1 0),[],())).bind λr10=>some (r10.1,())) (some ([],())))))
def Ds:=mG [pz,Bq,DF,Gu,Hl] [] 18 Tryz.f18 [(.rd,yQ49),(.rd,yQ5),(.rd,yQ38)] [(.tmp 6,true,(.slice .str))] jH []
def pG(x:Q91):Option (Q91⊕(Q88⊕Empty)):=
 let(a,b,c,d,e,f,g,h,i,k,l,m,n,o,p,q,s,t,u,w,w0,w1,w2,w3,w4,_):=x;let t_0:=(xg ((jV .i64 1000 w4),())).bind λr3=>(yS (ByteArray.mk #[115,105,122,101,32]) r3.1).bind λy4=>(app w1 [y4]).bind λa5=>some (.inl (a,b,c,d,e,f,g,h,i,k,l,m,n,o,p,q,s,t,u,w,w0,a5,w2,w3,(af .i64 w4 1),()));cond (ltI w4 w3) ((ai w2 w4).bind λy1=>(ai l w4).bind λy2=>cond (neI (aK .i64 y2.2.2.1 y2.1) y1.2.2.1) t_0 (cond (neI (aK .i64 y2.2.2.2.1 y2.2.1) y1.2.2.2.1) t_0 (some (.inl (a,b,c,d,e,f,g,h,i,k,l,m,n,o,p,q,s,t,u,w,w0,w1,w2,w3,(af .i64 w4 1),()))))) (some (.inr (.inl (a,b,c,d,e,f,g,h,i,k,l,m,n,o,p,q,s,t,u,w,w0,w1,()))))
def uF:=ab pG
def ye:Ann:=⟨sh [ag 3,ag 4,ag 5,ay 7,aa 22 (.slice yQ45),aa 23 I,aa 24 I] [(3,co),(4,AF),(5,qj),(7,.arr .str)],[(.exit 0,Rj)],uF⟩
def sC(x:Q57):Option Q7:=
 let((a,b,c,d,e,_),(f,g,h,i,k,_),(l,m,n,o,(p,q,s,t,_),u,w,w0,_),_):=x;(oU ((a,b,c,d,e,()),(l,m,n,o,(p,q,s,t,()),u,w,w0,()),())).bind λr1=>cond (!r1.1) (some ([(ByteArray.mk #[102,105,116])],())) ((cP ((f,g,h,i,k,()),())).bind λr2=>cond (!r2.1) (some ([(ByteArray.mk #[102,105,116])],())) ((uF (a,b,c,d,e,f,g,h,i,k,l,m,n,o,p,q,s,t,u,w,w0,[],c,(c.length:Nat),0,())).bind (A1 (λ(a_4,b_4,c_4,d_4,e_4,f_4,g_4,h_4,i_4,k_4,l_4,m_4,n_4,o_4,p_4,q_4,s_4,t_4,u_4,w_4,w0_4,w1_4,_)=>let t_0:=jH ((a_4,b_4,c_4,d_4,e_4,()),(f_4,g_4,h_4,i_4,k_4,()),(l_4,m_4,n_4,o_4,(p_4,q_4,s_4,t_4,()),u_4,w_4,w0_4,()),());(pX ((l_4,m_4,n_4,o_4,(p_4,q_4,s_4,t_4,()),u_4,w_4,w0_4,()),())).bind λr5=>cond (neI r5.1 0) ((app w1_4 [(ByteArray.mk #[111,118,101,114,108,97,112])]).bind λa6=>(pq ((l_4,m_4,n_4,o_4,(p_4,q_4,s_4,t_4,()),u_4,w_4,w0_4,()),())).bind λr7=>cond (!((eqI p_4 r7.1.1)&&((eqI q_4 r7.1.2.1)&&((eqI s_4 r7.1.2.2.1)&&((eqI t_4 r7.1.2.2.2.1)&&true))))) ((app a6 [(ByteArray.mk #[98,111,117,110,100,115])]).bind λa8=>t_0.bind λr9=>(app a8 r9.1).bind λa10=>some (a10,())) ((jH ((a_4,b_4,c_4,d_4,e_4,()),(f_4,g_4,h_4,i_4,k_4,()),(l_4,m_4,n_4,o_4,(p_4,q_4,s_4,t_4,()),u_4,w_4,w0_4,()),())).bind λr11=>(app a6 r11.1).bind λa12=>some (a12,()))) ((pq ((l_4,m_4,n_4,o_4,(p_4,q_4,s_4,t_4,()),u_4,w_4,w0_4,()),())).bind λr13=>cond (!((eqI p_4 r13.1.1)&&((eqI q_4 r13.1.2.1)&&((eqI s_4 r13.1.2.2.1)&&((eqI t_4 r13.1.2.2.2.1)&&true))))) ((app w1_4 [(ByteArray.mk #[98,111,117,110,100,115])]).bind λa14=>t_0.bind λr15=>(app a14 r15.1).bind λa16=>some (a16,())) ((jH ((a_4,b_4,c_4,d_4,e_4,()),(f_4,g_4,h_4,i_4,k_4,()),(l_4,m_4,n_4,o_4,(p_4,q_4,s_4,t_4,()),u_4,w_4,w0_4,()),())).bind λr17=>(app w1_4 r17.1).bind λa18=>some (a18,())))) (λ_=>none))))
def Hd:=mG [IJ,bu,FA,qC,EX,Ds] [(5,ye)] 8 Tryz.f8 [(.rd,yQ49),(.rd,yQ5),(.rd,yQ38)] [(.tmp 6,true,(.slice .str))] sC [lp 5 ye pG]
def bQ(x:(Q22×Unit)):Option (Bool×Unit):=
 let((a,b,c,d,e,_),_):=x;cond (geI a 0) (cond (leI a 4) (cond (geI b 0) (cond (leI b 1048576) (cond (geI c 0) (cond (leI c 1048576) (cond (geI d 0) (cond (leI d 1048576) (cond (geI e 0) (some ((leI e 100),())) (some (false,()))) (some (false,()))) (some (false,()))) (some (false,()))) (some (false,()))) (some (false,()))) (some (false,()))) (some (false,()))) (some (false,()))
def mv:=mG [] [] 19 Tryz.f19 [(.rd,yQ5)] [(.tmp 2,true,.bool)] bQ []
def ut(x:(Int×Unit)):Option (Bool×Unit):=
 let(a,_):=x;cond (geI a 97) (cond (leI a 122) (some (true,())) (cond (geI a 65) (cond (leI a 90) (some (true,())) (some ((eqI a 95),()))) (some ((eqI a 95),())))) (cond (geI a 65) (cond (leI a 90) (some (true,())) (some ((eqI a 95),()))) (some ((eqI a 95),())))
def yX:=mG [] [] 269 Tryz.f269 [(.rd,(.int .u8))] [(.tmp 2,true,.bool)] ut []
def uK(x:(Int×Unit)):Option (Bool×Unit):=
 cond (geI x.1 48) (some ((leI x.1 57),())) (some (false,()))
def Ae:=mG [] [] 270 Tryz.f270 [(.rd,(.int .u8))] [(.tmp 2,true,.bool)] uK []
def sZ(x:Q8):Option (Q8⊕((Int×Unit)⊕Empty)):=
 let(a,b,_):=x;cond (ltI b (a.size:Nat)) ((ai a.data.toList b).bind λc1=>(ut ((c1.toNat:Int),())).bind λr2=>cond r2.1 (some (.inl (a,(af .i64 b 1),()))) (cond (gtI b 0) ((ai a.data.toList b).bind λc3=>(uK ((c3.toNat:Int),())).bind λr4=>cond r4.1 (some (.inl (a,(af .i64 b 1),()))) (some (.inr (.inl (b,()))))) (some (.inr (.inl (b,())))))) (some (.inr (.inl (b,()))))
def ta:=ab sZ
def sX:Ann:=⟨Pm,[(.exit 0,HC)],ta⟩
def qw(x:Q4):Option (Int×Unit):=
 (ta (x.1,0,())).bind (A1 (λz2=>some (z2.1,())) (λ_=>none))
def Bl:=mG [yX,Ae] [(2,sX)] 180 Tryz.f180 [(.rd,.str)] [(.tmp 2,true,I)] qw [lp 2 sX sZ]
def ld(x:Q4):Option (Bool×Unit):=
 let(a,_):=x;cond (eqS a (ByteArray.mk #[100,105,103,114,97,112,104])) (cond (eqS a (ByteArray.mk #[100,105,103,114,97,112,104])) (some (true,())) (some (false,()))) (cond (eqS a (ByteArray.mk #[103,114,97,112,104])) (cond (eqS a (ByteArray.mk #[103,114,97,112,104])) (some (true,())) (some (false,()))) (cond (eqS a (ByteArray.mk #[110,111,100,101])) (cond (eqS a (ByteArray.mk #[110,111,100,101])) (some (true,())) (some (false,()))) (cond (eqS a (ByteArray.mk #[101,100,103,101])) (cond (eqS a (ByteArray.mk #[101,100,103,101])) (some (true,())) (some (false,()))) (cond (eqS a (ByteArray.mk #[115,101,116])) (cond (eqS a (ByteArray.mk #[115,101,116])) (some (true,())) (some (false,()))) (cond (eqS a (ByteArray.mk #[99,108,117,115,116,101,114])) (some (true,())) (some (false,())))))))
def wh:=mG [] [] 181 Tryz.f181 [(.rd,.str)] [(.tmp 2,true,.bool)] ld []
def dw(x:Q4):Option (Bool×Unit):=
 cond (neS x.1 (ByteArray.mk #[])) ((qw (x.1,())).bind λr1=>cond (eqI r1.1 (x.1.size:Nat)) (cond (leI (x.1.size:Nat) 16) ((ld (x.1,())).bind λr2=>some ((!r2.1),())) (some (false,()))) (some (false,()))) (some (false,()))
def iE:=mG [Bl,wh] [] 100 Tryz.f100 [(.rd,.str)] [(.tmp 2,true,.bool)] dw []
def jl(x:Q50):Option (Q50⊕((Int×Unit)⊕(Unit⊕Empty))):=
 let(a,b,c,d,e,f,g,_):=x;cond (ltI g (c.length:Nat)) ((ai c g).bind λy1=>cond (eqS y1.1 f) (some (.inr (.inl (g,())))) (some (.inl (a,b,c,d,e,f,(af .i64 g 1),())))) (some (.inr (.inr (.inl ()))))
def nC:=ab jl
def tm:Ann:=⟨sh [aa 1 .str,ag 2,aa 5 I] [(2,co)],[dD 4 I,kG 0],nC⟩
def jU(x:(Q38×ByteArray×Unit)):Option (Int×Unit):=
 let((a,b,c,d,e,_),f,_):=x;(nC (a,b,c,d,e,f,0,())).bind (A1 (λz2=>some (z2.1,())) (A1 (λz3=>some ((-1),())) (λ_=>none)))
def tI:=mG [] [(2,tm)] 182 Tryz.f182 [(.rd,yQ49),(.rd,.str)] [(.tmp 4,true,I)] jU [lp 2 tm jl]
def iO(x:Q8):Option (Q8⊕((Bool×Unit)⊕(Unit⊕Empty))):=
 let(a,b,_):=x;cond (ltI b (a.size:Nat)) ((ai a.data.toList b).bind λc1=>cond (ltI (c1.toNat:Int) 32) (some (.inr (.inl (false,())))) ((ai a.data.toList b).bind λc2=>cond (gtI (c2.toNat:Int) 126) (some (.inr (.inl (false,())))) (some (.inl (a,(af .i64 b 1),()))))) (some (.inr (.inr (.inl ()))))
def mP:=ab iO
def rJ:Ann:=⟨Pm,[dD 2 .bool,kG 0],mP⟩
def iV(x:Q4):Option (Bool×Unit):=
 (mP (x.1,0,())).bind (A1 (λz2=>some (z2.1,())) (A1 (λz3=>some (true,())) (λ_=>none)))
def th:=mG [] [(2,rJ)] 183 Tryz.f183 [(.rd,.str)] [(.tmp 2,true,.bool)] iV [lp 2 rJ iO]
def iy(x:((List Q8)×Int×Int×Unit)):Option (((List Q8)×Int×Int×Unit)⊕((Int×Unit)⊕(((List Q8)×Int×Unit)⊕Empty))):=
 let(a,b,c,_):=x;cond (ltI c b) ((ai a c).bind λy1=>(ai a b).bind λy2=>cond (eqS y1.1 y2.1) (some (.inr (.inl (6,())))) (some (.inl (a,b,(af .i64 c 1),())))) (some (.inr (.inr (.inl (a,b,())))))
def iv:=ab iy
def sf:Ann:=⟨sh [aa 0 (.slice yQ6),aa 3 I,aa 4 I] [],[dD 2 I,(.exit 2,Rh)],iv⟩
def iC(x:((List Q8)×Int×Unit)):Option (((List Q8)×Int×Unit)⊕((Int×Unit)⊕(Unit⊕Empty))):=
 let(a,b,_):=x;cond (ltI b (a.length:Nat)) ((ai a b).bind λy1=>(dw (y1.1,())).bind λr2=>cond (!r2.1) (some (.inr (.inl (5,())))) ((iv (a,b,0,())).bind (A1 (λz4=>some (.inr (.inl (z4.1,())))) (A1 (λz5=>(ai z5.1 z5.2.1).bind λy6=>cond (ltI y6.2.1 0) (some (.inr (.inl (7,())))) ((ai z5.1 z5.2.1).bind λy7=>cond (gtI y7.2.1 3) (some (.inr (.inl (7,())))) (some (.inl (z5.1,(af .i64 z5.2.1 1),()))))) (λ_=>none))))) (some (.inr (.inr (.inl ()))))
def lZ:=ab iC
def rz:Ann:=⟨Rh,[dD 2 I,kG 0],lZ⟩
def lQ(x:((List Q8)×Unit)):Option (Int×Unit):=
 (lZ (x.1,0,())).bind (A1 (λz2=>some (z2.1,())) (A1 (λz3=>some (0,())) (λ_=>none)))
def zZ:=mG [iE] [(2,rz),(7,sf)] 184 Tryz.f184 [(.rd,(.slice yQ6))] [(.tmp 2,true,I)] lQ [lp 2 rz iC,lp 7 sf iy]
def mU(x:Q39):Option (Int×Unit):=
 let((a,b,c,d,e,_),f,_):=x;(ai c f).bind λy1=>(dw (y1.1,())).bind λr2=>cond (!r2.1) (some (5,())) ((jU ((a,b,c,d,e,()),y1.1,())).bind λr3=>cond (neI r3.1 f) (some (6,())) (cond (gtI (y1.2.1.size:Nat) 32) (some (2,())) ((iV (y1.2.1,())).bind λr4=>cond (!r4.1) (some (7,())) (cond (ltI y1.2.2.1 1) (some (3,())) (cond (gtI y1.2.2.1 1048576) (some (3,())) (cond (ltI y1.2.2.2.1 1) (some (3,())) (cond (gtI y1.2.2.2.1 1048576) (some (3,())) (cond (ltI y1.2.2.2.2.1 (-1)) (some (3,())) (cond (geI y1.2.2.2.2.1 (e.length:Nat)) (some (3,())) (cond (gtI (y1.2.2.2.2.2.1.length:Nat) 8) (some (2,())) ((lQ (y1.2.2.2.2.2.1,())).bind λr5=>some (r5.1,()))))))))))))
def BL:=mG [iE,tI,th,zZ] [] 101 Tryz.f101 [(.rd,yQ49),(.rd,I)] [(.tmp 4,true,I)] mU []
def iS(x:Q44):Option (Q44⊕((Int×Unit)⊕Empty)):=
 let(a,b,c,d,e,f,g,_):=x;cond (geI f 0) ((ai e f).bind λy1=>some (.inl (a,b,c,d,e,y1.2.1,(af .i64 g 1),()))) (some (.inr (.inl (g,()))))
def mE:=ab iS
def rA:Ann:=⟨sh [aa 1 I,ag 2,aa 5 I] [(2,co)],[(.exit 0,Gp)],mE⟩
def lE(x:Q39):Option (Int×Unit):=
 let((a,b,c,d,e,_),f,_):=x;(mE (a,b,c,d,e,f,0,())).bind (A1 (λz2=>some (z2.1,())) (λ_=>none))
def Ak:=mG [] [(2,rA)] 185 Tryz.f185 [(.rd,yQ49),(.rd,I)] [(.tmp 4,true,I)] lE [lp 2 rA iS]
def gj(x:Q58):Option (Q58⊕((Int×Unit)⊕((ByteArray×Bool×(List Q37)×(List Q34)×(List Q8)×ByteArray×Int×Int×Unit)⊕Empty))):=
 let(a,b,c,d,e,f,g,h,i,_):=x;cond (ltI i h) ((ai e i).bind λy1=>cond (eqS y1.1 f) (some (.inr (.inl (6,())))) (some (.inl (a,b,c,d,e,f,g,h,(af .i64 i 1),())))) (some (.inr (.inr (.inl (a,b,c,d,e,f,g,h,())))))
def gd:=ab gj
def pI:Ann:=⟨sh [aa 1 I,ag 2,ag 5,aa 6 I] [(2,co),(5,.box [.val .str,.val I])],[dD 4 I,(.exit 0,sh [aa 1 I,ag 2,ag 5] [(2,co),(5,.box [.val .str,.val I])])],gd⟩
def js(x:Q39):Option (Int×Unit):=
 let((a,b,c,d,e,_),f,_):=x;(ai e f).bind λy1=>(dw (y1.1,())).bind λr2=>cond (!r2.1) (some (5,())) ((gd (a,b,c,d,e,y1.1,y1.2.1,f,0,())).bind (A1 (λz4=>some (z4.1,())) (A1 (λ(a_5,b_5,c_5,d_5,e_5,f_5,g_5,h_5,_)=>(jU ((a_5,b_5,c_5,d_5,e_5,()),f_5,())).bind λr6=>cond (geI r6.1 0) (some (6,())) (cond (ltI g_5 (-1)) (some (3,())) (cond (geI g_5 h_5) (some (3,())) ((lE ((a_5,b_5,c_5,d_5,e_5,()),h_5,())).bind λr7=>cond (gtI r7.1 6) (some (2,())) (some (0,())))))) (λ_=>none))))
def xU:=mG [iE,tI,Ak] [(5,pI)] 102 Tryz.f102 [(.rd,yQ49),(.rd,I)] [(.tmp 4,true,I)] js [lp 5 pI gj]
def mW(x:(Q38×Q34×Unit)):Option (Int×Unit):=
 let((_,_,a,_),(b,c,d,e,f,g,h,_),_):=x;cond (ltI b 0) (some (3,())) (cond (geI b (a.length:Nat)) (some (3,())) (cond (ltI c 0) (some (3,())) (cond (geI c (a.length:Nat)) (some (3,())) (cond (ltI d (-1)) (some (3,())) ((ai a b).bind λy1=>cond (geI d (y1.2.2.2.2.2.1.length:Nat)) (some (3,())) (cond (ltI e (-1)) (some (3,())) ((ai a c).bind λy2=>cond (geI e (y2.2.2.2.2.2.1.length:Nat)) (some (3,())) (cond (gtI (f.size:Nat) 32) (some (2,())) ((iV (f,())).bind λr3=>cond (!r3.1) (some (7,())) (cond (ltI g 1) (some (7,())) (cond (gtI g 1000) (some (7,())) (cond (ltI h 1) (some (7,())) (cond (gtI h 64) (some (7,())) (some (0,())))))))))))))))
def Bv:=mG [th] [] 103 Tryz.f103 [(.rd,yQ49),(.rd,IR)] [(.tmp 4,true,I)] mW []
def gO(x:Q40):Option (Q40⊕((Int×Unit)⊕(Unit⊕Empty))):=
 let(a,b,c,d,e,f,_):=x;cond (ltI f (d.length:Nat)) ((ai d f).bind λy1=>(mW ((a,b,c,d,e,()),y1,())).bind λr2=>cond (neI r2.1 0) (some (.inr (.inl (r2.1,())))) (some (.inl (a,b,c,d,e,(af .i64 f 1),())))) (some (.inr (.inr (.inl ()))))
def k9:=ab gO
def qf:Ann:=⟨sh [ag 1,aa 7 I] [(1,co)],[dD 2 I,kG 4],k9⟩
def gP(x:Q40):Option (Q40⊕((Int×Unit)⊕(Q38⊕Empty))):=
 let(a,b,c,d,e,f,_):=x;cond (ltI f (e.length:Nat)) ((js ((a,b,c,d,e,()),f,())).bind λr1=>cond (neI r1.1 0) (some (.inr (.inl (r1.1,())))) (some (.inl (a,b,c,d,e,(af .i64 f 1),())))) (some (.inr (.inr (.inl (a,b,c,d,e,())))))
def lg:=ab gP
def qm:Ann:=⟨sh [ag 1,aa 5 I] [(1,co)],[dD 2 I,(.exit 2,Nn)],lg⟩
def iH(x:Q40):Option (Q40⊕((Int×Unit)⊕(Q38⊕Empty))):=
 let(a,b,c,d,e,f,_):=x;cond (ltI f (c.length:Nat)) ((mU ((a,b,c,d,e,()),f,())).bind λr1=>cond (neI r1.1 0) (some (.inr (.inl (r1.1,())))) (some (.inl (a,b,c,d,e,(af .i64 f 1),())))) (some (.inr (.inr (.inl (a,b,c,d,e,())))))
def my:=ab iH
def sx:Ann:=⟨sh [ag 1,aa 3 I] [(1,co)],[dD 2 I,(.exit 0,Nn)],my⟩
def bJ(x:(Q38×Unit)):Option (Int×Unit):=
 let((a,b,c,d,e,_),_):=x;cond (gtI (c.length:Nat) 64) (some (2,())) (cond (gtI (d.length:Nat) 256) (some (2,())) (cond (gtI (e.length:Nat) 16) (some (2,())) ((dw (a,())).bind λr1=>cond (!r1.1) (some (5,())) ((my (a,b,c,d,e,0,())).bind (A1 (λz3=>some (z3.1,())) (A1 (λz4=>(lg (z4.1,z4.2.1,z4.2.2.1,z4.2.2.2.1,z4.2.2.2.2.1,0,())).bind (A1 (λz6=>some (z6.1,())) (A1 (λz7=>(k9 (z7.1,z7.2.1,z7.2.2.1,z7.2.2.2.1,z7.2.2.2.2.1,0,())).bind (A1 (λz9=>some (z9.1,())) (A1 (λz10=>some (0,())) (λ_=>none)))) (λ_=>none)))) (λ_=>none)))))))
def jo:=mG [iE,BL,xU,Bv] [(6,sx),(12,qm),(18,qf)] 45 Tryz.f45 [(.rd,yQ49)] [(.tmp 2,true,I)] bJ [lp 6 sx iH,lp 12 qm gP,lp 18 qf gO]
def fA(x:(Q2×Unit)):Option (Bool×Unit):=
 let((a,b,_),_):=x;cond (geI a (-268435456)) (cond (leI a 268435456) (cond (geI b (-268435456)) (some ((leI b 268435456),())) (some (false,()))) (some (false,()))) (some (false,()))
def tc:=mG [] [] 186 Tryz.f186 [(.rd,yQ2)] [(.tmp 2,true,.bool)] fA []
def aQ(x:(Q12×Unit)):Option (Bool×Unit):=
 let((a,b,c,d,_),_):=x;(fA ((a,b,()),())).bind λr1=>cond r1.1 ((fA ((c,d,()),())).bind λr2=>cond r2.1 (cond (leI a c) (some ((leI b d),())) (some (false,()))) (some (false,()))) (some (false,()))
def cV:=mG [tc] [] 104 Tryz.f104 [(.rd,yQ4)] [(.tmp 2,true,.bool)] aQ []
def eS(x:Q19):Option (Q19⊕((Bool×Unit)⊕(((List Q12)×Int×Unit)⊕Empty))):=
 let(a,b,c,_):=x;cond (ltI c (a.length:Nat)) ((ai a c).bind λy1=>(aQ (y1,())).bind λr2=>cond (!r2.1) (some (.inr (.inl (false,())))) (some (.inl (a,b,(af .i64 c 1),())))) (some (.inr (.inr (.inl (a,b,())))))
def l5:=ab eS
def sc:Ann:=⟨QY,[dD 4 .bool,(.exit 0,QO)],l5⟩
def fx(x:((List Q12)×Int×Unit)):Option (Bool×Unit):=
 (l5 (x.1,x.2.1,0,())).bind (A1 (λz2=>some (z2.1,())) (A1 (λz3=>some ((eqI (z3.1.length:Nat) z3.2.1),())) (λ_=>none)))
def Ag:=mG [cV] [(2,sc)] 46 Tryz.f46 [(.rd,(.slice yQ4)),(.rd,I)] [(.tmp 4,true,.bool)] fx [lp 2 sc eS]
def pA(x:(Q2×Unit)):Option (Bool×Unit):=
 let((a,b,_),_):=x;cond (geI a (-268435456)) (cond (leI a 268435456) (cond (geI b (-268435456)) (some ((leI b 268435456),())) (some (false,()))) (some (false,()))) (some (false,()))
def Ai:=mG [] [] 105 Tryz.f105 [(.rd,yQ2)] [(.tmp 2,true,.bool)] pA []
def iU(x:((List Q2)×Int×Unit)):Option (((List Q2)×Int×Unit)⊕((Bool×Unit)⊕(Unit⊕Empty))):=
 let(a,b,_):=x;cond (ltI b (a.length:Nat)) ((ai a b).bind λy1=>(pA (y1,())).bind λr2=>cond (!r2.1) (some (.inr (.inl (false,())))) (cond (gtI b 0) ((ai a b).bind λy3=>(ai a (aK .i64 b 1)).bind λy4=>cond ((eqI y3.1 y4.1)&&((eqI y3.2.1 y4.2.1)&&true)) (some (.inr (.inl (false,())))) (some (.inl (a,(af .i64 b 1),())))) (some (.inl (a,(af .i64 b 1),()))))) (some (.inr (.inr (.inl ()))))
def mO:=ab iU
def sB:Ann:=⟨SY,[dD 2 .bool,kG 0],mO⟩
def cD(x:Q5):Option (Bool×Unit):=
 cond (ltI (x.1.length:Nat) 1) (some (false,())) (cond (gtI (x.1.length:Nat) 512) (some (false,())) ((mO (x.1,0,())).bind (A1 (λz2=>some (z2.1,())) (A1 (λz3=>some (true,())) (λ_=>none)))))
def jp:=mG [Ai] [(4,sB)] 47 Tryz.f47 [(.rd,(.slice yQ2))] [(.tmp 2,true,.bool)] cD [lp 4 sB iU]
def jr(x:Q68):Option (Q68⊕((Bool×Unit)⊕(Unit⊕Empty))):=
 let(a,b,c,d,e,f,g,h,i,k,l,m,_):=x;cond (ltI m (c.length:Nat)) ((ai c m).bind λy1=>(cD (y1,())).bind λr2=>cond (!r2.1) (some (.inr (.inl (false,())))) (some (.inl (a,b,c,d,e,f,g,h,i,k,l,(af .i64 m 1),())))) (some (.inr (.inr (.inl ()))))
def ny:=ab jr
def sT:Ann:=⟨sh [ag 3,aa 5 I] [(3,qj)],[dD 4 .bool,kG 0],ny⟩
def eH(x:(Q38×Q56×Unit)):Option (Bool×Unit):=
 let((a,b,c,d,e,_),(f,g,h,i,(k,l,m,n,_),o,p,q,_),_):=x;(bJ ((a,b,c,d,e,()),())).bind λr1=>cond (neI r1.1 0) (some (false,())) ((fx (f,(c.length:Nat),())).bind λr2=>cond (!r2.1) (some (false,())) ((fx (g,(e.length:Nat),())).bind λr3=>cond (!r3.1) (some (false,())) ((fx (i,(d.length:Nat),())).bind λr4=>cond (!r4.1) (some (false,())) (cond (neI (h.length:Nat) (d.length:Nat)) (some (false,())) ((ny (f,g,h,i,k,l,m,n,o,p,q,0,())).bind (A1 (λz6=>some (z6.1,())) (A1 (λz7=>some (true,())) (λ_=>none))))))))
def oS:=mG [jo,Ag,jp] [(4,sT)] 20 Tryz.f20 [(.rd,yQ49),(.rd,yQ38)] [(.tmp 4,true,.bool)] eH [lp 4 sT jr]
def sF(x:(Int×Unit)):Option (Int×Unit):=
 cond (ltI x.1 0) (some ((af .u64 (IntKind.wrap .u64 (aK .i64 0 (af .i64 x.1 1))) 1),())) (some ((IntKind.wrap .u64 x.1),()))
def CR:=mG [] [] 48 Tryz.f48 [(.rd,I)] [(.tmp 2,true,(.int .u64))] sF []
def lx(x:(Int×ByteArray×Unit)):Option ((Int×ByteArray×Unit)⊕((Int×ByteArray×Unit)⊕Empty)):=
 let(a,b,_):=x;cond (gtI a 9) ((vB (ByteArray.mk #[48,49,50,51,52,53,54,55,56,57]) (Hi a 10) (af .u64 (Hi a 10) 1)).bind λy1=>(yS y1 b).bind λy2=>some (.inl ((G3 .u64 a 10),y2,()))) (some (.inr (.inl (a,b,()))))
def li:=ab lx
def qv:Ann:=⟨PS,[(.exit 0,PS)],li⟩
def ks(x:(Int×Unit)):Option Q4:=
 (li (x.1,(ByteArray.mk #[]),())).bind (A1 (λz2=>(vB (ByteArray.mk #[48,49,50,51,52,53,54,55,56,57]) z2.1 (af .u64 z2.1 1)).bind λy3=>(yS y3 z2.2.1).bind λy4=>some (y4,())) (λ_=>none))
def x8:=mG [] [(2,qv)] 49 Tryz.f49 [(.rd,(.int .u64))] [(.tmp 2,true,.str)] ks [lp 2 qv lx]
def qs(x:(Int×ByteArray×ByteArray×Unit)):Option ((Int×ByteArray×ByteArray×Unit)⊕((Int×ByteArray×ByteArray×Unit)⊕Empty)):=
 let(a,b,c,_):=x;(ai c.data.toList (aK .i64 (c.size:Nat) 1)).bind λc1=>cond (eqI (c1.toNat:Int) 48) ((vB c 0 (aK .i64 (c.size:Nat) 1)).bind λy2=>some (.inl (a,b,y2,()))) (some (.inr (.inl (a,b,c,()))))
def qq:=ab qs
def qi:Ann:=⟨P6,[(.exit 0,P6)],qq⟩
def gw(x:(Int×Unit)):Option Q4:=
 (sF (x.1,())).bind λr1=>(ks ((G3 .u64 r1.1 1000),())).bind λr2=>cond (gtI (Hi r1.1 1000) 0) ((ks ((af .u64 1000 (Hi r1.1 1000)),())).bind λr3=>(vB r3.1 1 (r3.1.size:Nat)).bind λy4=>(qq (x.1,r2.1,y4,())).bind (A1 (λz6=>(yS z6.2.1 (ByteArray.mk #[46])).bind λy7=>(yS y7 z6.2.2.1).bind λy8=>cond (ltI z6.1 0) ((yS (ByteArray.mk #[45]) y8).bind λy9=>some (y9,())) (some (y8,()))) (λ_=>none))) (cond (ltI x.1 0) ((yS (ByteArray.mk #[45]) r2.1).bind λy10=>some (y10,())) (some (r2.1,())))
def yF:=mG [CR,x8] [(6,qi)] 21 Tryz.f21 [(.rd,I)] [(.tmp 2,true,.str)] gw [lp 6 qi qs]
def dY(x:(Q12×Q12×Unit)):Option (Bool×Unit):=
 let((a,b,c,d,_),(e,f,g,h,_),_):=x;(aQ ((a,b,c,d,()),())).bind λr1=>cond r1.1 ((aQ ((e,f,g,h,()),())).bind λr2=>cond r2.1 (cond (ltI (dj a e) (bL c g)) (some ((ltI (dj b f) (bL d h)),())) (some (false,()))) (some (false,()))) (some (false,()))
def qb:=mG [cV] [] 50 Tryz.f50 [(.rd,yQ4),(.rd,yQ4)] [(.tmp 4,true,.bool)] dY []
def dm(x:((List Q12)×Int×Int×Int×Unit)):Option (((List Q12)×Int×Int×Int×Unit)⊕(Q19⊕Empty)):=
 let(a,b,c,d,_):=x;cond (ltI d c) ((aN a.length c).bind λj1=>(a[j1]?).bind λy2=>(aN a.length d).bind λj3=>(a[j3]?).bind λy4=>(dY (y2,y4,())).bind λr5=>cond r5.1 (some (.inl (a,(af .i64 b 1),c,(af .i64 d 1),()))) (some (.inl (a,b,c,(af .i64 d 1),())))) (some (.inr (.inl (a,b,c,()))))
def ja:=ab dm
def nX:Ann:=⟨sh [ay 5,aa 6 I,aa 7 I,aa 8 I] [(5,.arr yQ4)],[(.exit 2,RK)],ja⟩
def dH(x:Q19):Option (Q19⊕((Int×Unit)⊕Empty)):=
 let(a,b,c,_):=x;cond (ltI c (a.length:Nat)) ((ja (a,b,c,0,())).bind (A1 (λz2=>some (.inl (z2.1,z2.2.1,(af .i64 z2.2.2.1 1),()))) (λ_=>none))) (some (.inr (.inl (b,()))))
def fi:=ab dH
def oX:Ann:=⟨RK,[(.exit 0,sh [aa 6 I] [])],fi⟩
def me(x:(Q38×Q56×Unit)):Option (Int×Unit):=
 let((a,b,c,d,e,_),(f,g,h,i,(k,l,m,n,_),o,p,q,_),_):=x;(eH ((a,b,c,d,e,()),(f,g,h,i,(k,l,m,n,()),o,p,q,()),())).bind λr1=>cond (!r1.1) (some ((-1),())) ((app [] f).bind λa2=>(app a2 i).bind λa3=>(fi (a3,0,0,())).bind (A1 (λz5=>some (z5.1,())) (λ_=>none)))
def wS:=mG [oS,qb] [(8,oX),(11,nX)] 22 Tryz.f22 [(.rd,yQ49),(.rd,yQ38)] [(.tmp 4,true,I)] me [lp 8 oX dH,lp 11 nX dm]
def eB(x:(Int×Int×Int×Int×Int×Int×Int×Int×(List Q2)×Int×Unit)):Option ((Int×Int×Int×Int×Int×Int×Int×Int×(List Q2)×Int×Unit)⊕(Q35⊕Empty)):=
 let(a,b,c,d,e,f,g,h,i,k,_):=x;cond (ltI k (i.length:Nat)) ((ai i k).bind λy1=>(ai i k).bind λy2=>(ai i k).bind λy3=>(ai i k).bind λy4=>some (.inl (a,b,c,d,(bL e y1.1),(bL f y2.2.1),(dj g y3.1),(dj h y4.2.1),i,(af .i64 k 1),()))) (some (.inr (.inl (a,b,c,d,e,f,g,h,()))))
def lk:=ab eB
def qp:Ann:=⟨sh [aa 0 (.slice yQ2),ag 2,ag 3,aa 4 I] [(2,pg),(3,pg)],[(.exit 0,Nc)],lk⟩
def kj(x:Q5):Option (Q12×Unit):=
 (cD (x.1,())).bind λr1=>cond (!r1.1) (some ((0,0,0,0,()),())) ((ai x.1 0).bind λy2=>(ai x.1 0).bind λy3=>(ai x.1 0).bind λy4=>(ai x.1 0).bind λy5=>(lk (0,0,0,0,y2.1,y3.2.1,y4.1,y5.2.1,x.1,1,())).bind (A1 (λ(_,_,_,_,a_7,b_7,c_7,d_7,_)=>some ((a_7,b_7,c_7,d_7,()),())) (λ_=>none)))
def yP:=mG [jp] [(5,qp)] 51 Tryz.f51 [(.rd,(.slice yQ2))] [(.cell 2 32,true,yQ4)] kj [lp 5 qp eB]
def eT(x:Q49):Option (Q49⊕(Q35⊕Empty)):=
 let(a,b,c,d,e,f,g,h,i,k,l,_):=x;cond (ltI l (i.length:Nat)) ((ai i l).bind λy1=>(aQ ((y1.1,y1.2.1,y1.2.2.1,y1.2.2.2.1,()),())).bind λr2=>cond (!r2.1) (some (.inl (a,b,c,d,e,f,g,h,i,k,(af .i64 l 1),()))) (cond (!k) (some (.inl (a,b,c,d,(bL y1.1 y1.1),(bL y1.2.1 y1.2.1),(dj y1.2.2.1 y1.2.2.1),(dj y1.2.2.2.1 y1.2.2.2.1),i,true,(af .i64 l 1),()))) (some (.inl (a,b,c,d,(bL e y1.1),(bL f y1.2.1),(dj g y1.2.2.1),(dj h y1.2.2.2.1),i,k,(af .i64 l 1),()))))) (some (.inr (.inl (a,b,c,d,e,f,g,h,()))))
def mJ:=ab eT
def sq:Ann:=⟨sh [aa 0 (.slice yQ4),ag 2,ag 3,aa 4 .bool,aa 5 I] [(2,pg),(3,pg)],[(.exit 0,Nc)],mJ⟩
def ly(x:((List Q12)×Unit)):Option (Q12×Unit):=
 (mJ (0,0,0,0,0,0,0,0,x.1,false,0,())).bind (A1 (λ(_,_,_,_,a_2,b_2,c_2,d_2,_)=>some ((a_2,b_2,c_2,d_2,()),())) (λ_=>none))
def As:=mG [cV] [(3,sq)] 52 Tryz.f52 [(.rd,(.slice yQ4))] [(.cell 2 32,true,yQ4)] ly [lp 3 sq eT]
def c9(x:Q83):Option (Q83⊕((Int×Int×Int×Int×(List Q12)×Unit)⊕Empty)):=
 let(a,b,c,d,e,f,g,h,i,k,l,m,n,o,p,q,s,_):=x;cond (ltI s (d.length:Nat)) ((ai d s).bind λy1=>cond (!((eqI y1.1 0)&&((eqI y1.2.1 0)&&((eqI y1.2.2.1 0)&&((eqI y1.2.2.2.1 0)&&true))))) ((ai d s).bind λy2=>(app q [y2]).bind λa3=>some (.inl (a,b,c,d,e,f,g,h,i,k,l,m,n,o,p,a3,(af .i64 s 1),()))) (some (.inl (a,b,c,d,e,f,g,h,i,k,l,m,n,o,p,q,(af .i64 s 1),())))) (some (.inr (.inl (m,n,o,p,q,()))))
def k8:=ab c9
def qh:Ann:=⟨sh [ag 1,ag 2,ay 3,aa 5 I] [(1,qj),(2,pg),(3,.arr yQ4)],[(.exit 2,SO)],k8⟩
def cY(x:Q83):Option (Q83⊕(Q81⊕Empty)):=
 let(a,b,c,d,e,f,g,h,i,k,l,m,n,o,p,q,s,_):=x;cond (ltI s (c.length:Nat)) ((ai c s).bind λy1=>(kj (y1,())).bind λr2=>(app q [(r2.1.1,r2.1.2.1,r2.1.2.2.1,r2.1.2.2.2.1,())]).bind λa3=>some (.inl (a,b,c,d,e,f,g,h,i,k,l,m,n,o,p,a3,(af .i64 s 1),()))) (some (.inr (.inl (a,b,c,d,e,f,g,h,i,k,l,m,n,o,p,q,()))))
def la:=ab cY
def qa:Ann:=⟨sh [ag 1,ag 2,ay 3,aa 4 I] [(1,qj),(2,pg),(3,.arr yQ4)],[(.exit 0,SR)],la⟩
def gx(x:(Q56×Unit)):Option (Q12×Unit):=
 let((a,b,c,d,(e,f,g,h,_),i,k,l,_),_):=x;(app [] a).bind λa1=>(app a1 b).bind λa2=>(la (a,b,c,d,e,f,g,h,i,k,l,0,0,0,0,a2,0,())).bind (A1 (λ(a_4,b_4,c_4,d_4,e_4,f_4,g_4,h_4,i_4,k_4,l_4,m_4,n_4,o_4,p_4,q_4,_)=>(k8 (a_4,b_4,c_4,d_4,e_4,f_4,g_4,h_4,i_4,k_4,l_4,m_4,n_4,o_4,p_4,q_4,0,())).bind (A1 (λz6=>(ly (z6.2.2.2.2.1,())).bind λr7=>some ((r7.1.1,r7.1.2.1,r7.1.2.2.1,r7.1.2.2.2.1,()),())) (λ_=>none))) (λ_=>none))
def yB:=mG [yP,As] [(5,qa),(9,qh)] 23 Tryz.f23 [(.rd,yQ38)] [(.cell 2 32,true,yQ4)] gx [lp 5 qa cY,lp 9 qh c9]
def bj(x:(Q2×Q2×Q2×Unit)):Option (Int×Unit):=
 let((a,b,_),(c,d,_),(e,f,_),_):=x;some ((aK .i64 (jV .i64 (aK .i64 c a) (aK .i64 f b)) (jV .i64 (aK .i64 d b) (aK .i64 e a))),())
def rO:=mG [] [] 188 Tryz.f188 [(.rd,yQ2),(.rd,yQ2),(.rd,yQ2)] [(.tmp 6,true,I)] bj []
def eG(x:(Int×Unit)):Option (Int×Unit):=
 cond (ltI x.1 0) (some ((-1),())) (cond (gtI x.1 0) (some (1,())) (some (0,())))
def Br:=mG [] [] 271 Tryz.f271 [(.rd,I)] [(.tmp 2,true,I)] eG []
def lK(x:(Q2×Q2×Q2×Q2×Unit)):Option (Bool×Unit):=
 let((a,b,_),(c,d,_),(e,f,_),(g,h,_),_):=x;(bj ((a,b,()),(c,d,()),(e,f,()),())).bind λr1=>(eG (r1.1,())).bind λr2=>(bj ((a,b,()),(c,d,()),(g,h,()),())).bind λr3=>(eG (r3.1,())).bind λr4=>cond (ltI (jV .i64 r2.1 r4.1) 0) ((bj ((e,f,()),(g,h,()),(a,b,()),())).bind λr5=>(eG (r5.1,())).bind λr6=>(bj ((e,f,()),(g,h,()),(c,d,()),())).bind λr7=>(eG (r7.1,())).bind λr8=>some ((ltI (jV .i64 r6.1 r8.1) 0),())) (some (false,()))
def Aa:=mG [rO,Br] [] 187 Tryz.f187 [(.rd,yQ2),(.rd,yQ2),(.rd,yQ2),(.rd,yQ2)] [(.tmp 8,true,.bool)] lK []
def dd(x:((List Q2)×(List Q2)×Int×Int×Int×Unit)):Option (((List Q2)×(List Q2)×Int×Int×Int×Unit)⊕(Q27⊕Empty)):=
 let(a,b,c,d,e,_):=x;cond (ltI e (b.length:Nat)) ((ai a (aK .i64 d 1)).bind λy1=>(ai a d).bind λy2=>(ai b (aK .i64 e 1)).bind λy3=>(ai b e).bind λy4=>(lK (y1,y2,y3,y4,())).bind λr5=>cond r5.1 (some (.inl (a,b,(af .i64 c 1),d,(af .i64 e 1),()))) (some (.inl (a,b,c,d,(af .i64 e 1),())))) (some (.inr (.inl (a,b,c,d,()))))
def i9:=ab dd
def nO:Ann:=⟨sh [aa 0 (.slice yQ2),aa 1 (.slice yQ2),aa 5 I,aa 6 I,aa 7 I] [],[(.exit 2,QU)],i9⟩
def dl(x:Q27):Option (Q27⊕((Int×Unit)⊕Empty)):=
 let(a,b,c,d,_):=x;cond (ltI d (a.length:Nat)) ((i9 (a,b,c,d,1,())).bind (A1 (λz2=>some (.inl (z2.1,z2.2.1,z2.2.2.1,(af .i64 z2.2.2.2.1 1),()))) (λ_=>none))) (some (.inr (.inl (c,()))))
def jf:=ab dl
def nQ:Ann:=⟨QU,[(.exit 0,Gp)],jf⟩
def gN(x:((List Q2)×(List Q2)×Unit)):Option (Int×Unit):=
 (cD (x.1,())).bind λr1=>cond (!r1.1) (some (0,())) ((cD (x.2.1,())).bind λr2=>cond (!r2.1) (some (0,())) ((jf (x.1,x.2.1,0,1,())).bind (A1 (λz4=>some (z4.1,())) (λ_=>none))))
def wi:=mG [jp,Aa] [(5,nQ),(8,nO)] 106 Tryz.f106 [(.rd,(.slice yQ2)),(.rd,(.slice yQ2))] [(.tmp 4,true,I)] gN [lp 5 nQ dl,lp 8 nO dd]
def dg(x:Q77):Option (Q77⊕(Q73⊕Empty)):=
 let(a,b,c,d,e,f,g,h,i,k,l,m,n,o,_):=x;cond (ltI o n) ((ai c n).bind λy1=>(ai c o).bind λy2=>(gN (y1,y2,())).bind λr3=>some (.inl (a,b,c,d,e,f,g,h,i,k,l,(af .i64 m r3.1),n,(af .i64 o 1),()))) (some (.inr (.inl (a,b,c,d,e,f,g,h,i,k,l,m,n,()))))
def i7:=ab dg
def nI:Ann:=⟨sh [ag 3,aa 5 I,aa 6 I,aa 7 I] [(3,qj)],[(.exit 2,PP)],i7⟩
def de(x:Q73):Option (Q73⊕((Int×Unit)⊕Empty)):=
 let(a,b,c,d,e,f,g,h,i,k,l,m,n,_):=x;cond (ltI n (c.length:Nat)) ((i7 (a,b,c,d,e,f,g,h,i,k,l,m,n,0,())).bind (A1 (λ(a_2,b_2,c_2,d_2,e_2,f_2,g_2,h_2,i_2,k_2,l_2,m_2,n_2,_)=>some (.inl (a_2,b_2,c_2,d_2,e_2,f_2,g_2,h_2,i_2,k_2,l_2,m_2,(af .i64 n_2 1),()))) (λ_=>none))) (some (.inr (.inl (m,()))))
def jd:=ab de
def nU:Ann:=⟨PP,[(.exit 0,Gp)],jd⟩
def lq(x:(Q38×Q56×Unit)):Option (Int×Unit):=
 let((a,b,c,d,e,_),(f,g,h,i,(k,l,m,n,_),o,p,q,_),_):=x;(eH ((a,b,c,d,e,()),(f,g,h,i,(k,l,m,n,()),o,p,q,()),())).bind λr1=>cond (!r1.1) (some ((-1),())) ((jd (f,g,h,i,k,l,m,n,o,p,q,0,0,())).bind (A1 (λz3=>some (z3.1,())) (λ_=>none)))
def vW:=mG [oS,wi] [(5,nU),(8,nI)] 53 Tryz.f53 [(.rd,yQ49),(.rd,yQ38)] [(.tmp 4,true,I)] lq [lp 5 nU de,lp 8 nI dg]
def nc(x:(Q2×Q2×Q2×Unit)):Option (Bool×Unit):=
 let((a,b,_),(c,d,_),(e,f,_),_):=x;(bj ((a,b,()),(c,d,()),(e,f,()),())).bind λr1=>cond (neI r1.1 0) (some (true,())) (some ((ltI (af .i64 (jV .i64 (aK .i64 c a) (aK .i64 e c)) (jV .i64 (aK .i64 d b) (aK .i64 f d))) 0),()))
def BJ:=mG [rO] [] 107 Tryz.f107 [(.rd,yQ2),(.rd,yQ2),(.rd,yQ2)] [(.tmp 6,true,.bool)] nc []
def ik(x:Q16):Option (Q16⊕((Int×Unit)⊕Empty)):=
 let(a,b,c,_):=x;cond (ltI (af .i64 c 1) (a.length:Nat)) ((ai a (aK .i64 c 1)).bind λy1=>(ai a c).bind λy2=>(ai a (af .i64 c 1)).bind λy3=>(nc (y1,y2,y3,())).bind λr4=>cond r4.1 (some (.inl (a,(af .i64 b 1),(af .i64 c 1),()))) (some (.inl (a,b,(af .i64 c 1),())))) (some (.inr (.inl (b,()))))
def mw:=ab ik
def se:Ann:=⟨Rs,[(.exit 0,HC)],mw⟩
def lD(x:Q5):Option (Int×Unit):=
 (cD (x.1,())).bind λr1=>cond (!r1.1) (some (0,())) ((mw (x.1,0,1,())).bind (A1 (λz3=>some (z3.1,())) (λ_=>none)))
def zY:=mG [jp,BJ] [(5,se)] 54 Tryz.f54 [(.rd,(.slice yQ2))] [(.tmp 2,true,I)] lD [lp 5 se ik]
def dC(x:Q59):Option (Q59⊕(Q15⊕Empty)):=
 let(a,b,c,d,e,f,g,h,i,_):=x;cond (ltI i (d.length:Nat)) ((ai d i).bind λy1=>(ai d i).bind λy2=>(app h [(y1.1,y2.2.1,())]).bind λa3=>some (.inl (a,b,c,d,e,f,g,a3,(af .i64 i 1),()))) (some (.inr (.inl (f,g,h,()))))
def jA:=ab dC
def pa:Ann:=⟨sh [ag 1,ag 2,ag 3,aa 4 I] [(1,co),(2,.box [.val I,.nils]),(3,.box [.val I,.own 400001]),(400001,.arr yQ2)],[(.exit 0,sh [ag 2,ag 3] [(2,.box [.val I,.nils]),(3,.box [.val I,.own 400001]),(400001,.arr yQ2)])],jA⟩
def ig(x:(Q38×Unit)):Option (Q9×Unit):=
 let((a,b,c,d,e,_),_):=x;(jA (a,b,c,d,e,0,(c.length:Nat),[],0,())).bind (A1 (λz2=>some ((z2.2.1,z2.2.2.1,()),())) (λ_=>none))
def xq:=mG [] [(3,pa)] 190 Tryz.f190 [(.rd,yQ49)] [(.cell 2 118,true,nT)] ig [lp 3 pa dC]
def eU(x:(Int×(List Q2)×Int×Unit)):Option ((Int×(List Q2)×Int×Unit)⊕((Bool×Unit)⊕(Unit⊕Empty))):=
 let(a,b,c,_):=x;cond (ltI c (b.length:Nat)) ((ai b c).bind λy1=>cond (ltI y1.1 0) (some (.inr (.inl (false,())))) (cond (geI y1.1 a) (some (.inr (.inl (false,())))) (cond (ltI y1.2.1 0) (some (.inr (.inl (false,())))) (cond (geI y1.2.1 a) (some (.inr (.inl (false,())))) (some (.inl (a,b,(af .i64 c 1),()))))))) (some (.inr (.inr (.inl ()))))
def mR:=ab eU
def rU:Ann:=⟨sh [ag 1,aa 3 I] [(1,Ed)],[dD 2 .bool,kG 0],mR⟩
def iP(x:(Q9×Unit)):Option (Bool×Unit):=
 let((a,b,_),_):=x;cond (ltI a 0) (some (false,())) (cond (gtI a 64) (some (false,())) (cond (gtI (b.length:Nat) 256) (some (false,())) ((mR (a,b,0,())).bind (A1 (λz2=>some (z2.1,())) (A1 (λz3=>some (true,())) (λ_=>none))))))
def s6:=mG [] [(4,rU)] 272 Tryz.f272 [(.rd,nT)] [(.tmp 2,true,.bool)] iP [lp 4 rU eU]
def fo(x:Q33):Option (Q33⊕(Q1⊕Empty)):=
 let(a,b,c,d,e,_):=x;cond (ltI e (b.length:Nat)) ((ai b e).bind λy1=>(aN c.length y1.1).bind λj2=>(c[j2]?).bind λy3=>(ai b e).bind λy4=>(aN c.length y4.2.1).bind λj5=>(c[j5]?).bind λy6=>cond (gtI y3 y6) ((app d [e]).bind λa7=>some (.inl (a,b,c,a7,(af .i64 e 1),()))) (some (.inl (a,b,c,d,(af .i64 e 1),())))) (some (.inr (.inl (d,()))))
def jG:=ab fo
def pc:Ann:=⟨sh [ag 2,ay 5,ay 7,aa 8 I] [(2,Ed),(5,.arr I),(7,.arr I)],[(.exit 2,sh [ay 7] [(7,.arr I)])],jG⟩
def fm(x:Q33):Option (Q33⊕((Int×(List Q2)×List Int×Unit)⊕Empty)):=
 let(a,b,c,d,e,_):=x;cond (ltI e (d.length:Nat)) ((ai d e).bind λy1=>(aN c.length y1).bind λj2=>(c[j2]?).bind λy3=>some (.inl (a,b,(c.set j2 e),d,(af .i64 e 1),()))) (some (.inr (.inl (a,b,c,()))))
def jK:=ab fm
def o7:Ann:=⟨sh [aa 1 (.slice I),ag 2,ay 5,aa 6 I] [(2,Ed),(5,.arr I)],[(.exit 0,sh [ag 2,ay 5] [(2,Ed),(5,.arr I)])],jK⟩
def ip(x:Q10):Option Q1:=
 let((a,b,_),c,_):=x;(l7 I a a).bind λm1=>(jK (a,b,m1,c,0,())).bind (A1 (λz3=>(jG (z3.1,z3.2.1,z3.2.2.1,[],0,())).bind (A1 (λz5=>some (z5.1,())) (λ_=>none))) (λ_=>none))
def wK:=mG [] [(3,o7),(8,pc)] 365 Tryz.f365 [(.rd,nT),(.rd,(.slice I))] [(.tmp 4,true,(.slice I))] ip [lp 3 o7 fm,lp 8 pc fo]
def fJ(x:Q21):Option (Q21⊕((Bool×Unit)⊕(Unit⊕Empty))):=
 let(a,b,c,_):=x;cond (ltI c (a.length:Nat)) ((ai a c).bind λy1=>(ai b c).bind λy2=>cond (neI y1 y2) ((ai a c).bind λy3=>(ai b c).bind λy4=>some (.inr (.inl ((ltI y3 y4),())))) (some (.inl (a,b,(af .i64 c 1),())))) (some (.inr (.inr (.inl ()))))
def bp:=ab fJ
def s9:Ann:=⟨sh [aa 0 (.slice I),aa 1 (.slice I),aa 5 I] [],[dD 4 .bool,kG 0],bp⟩
def nf(x:(List Int×List Int×Unit)):Option (Bool×Unit):=
 let(a,b,_):=x;cond (neI (a.length:Nat) (b.length:Nat)) (some ((ltI (a.length:Nat) (b.length:Nat)),())) ((bp (a,b,0,())).bind (A1 (λz2=>some (z2.1,())) (A1 (λz3=>some (false,())) (λ_=>none))))
def AW:=mG [] [(4,s9)] 447 Tryz.f447 [(.rd,(.slice I)),(.rd,(.slice I))] [(.tmp 4,true,.bool)] nf [lp 4 s9 fJ]
def Ft(gg:Q10->Option Q1)(x:(Int×(List Q2)×List Int×List Int×Bool×Int×Bool×Int×Unit)):Option ((Int×(List Q2)×List Int×List Int×Bool×Int×Bool×Int×Unit)⊕((Int×(List Q2)×List Int×List Int×Bool×Int×Bool×Unit)⊕Empty)):=
 let(a,b,c,d,e,f,g,h,_):=x;cond (ltI h (d.length:Nat)) (cond g (some (.inl (a,b,c,d,e,f,true,(af .i64 h 1),()))) ((ai d h).bind λy1=>some (.inl (a,b,c,d,e,f,(eqI y1 f),(af .i64 h 1),())))) (some (.inr (.inl (a,b,c,d,e,f,g,()))))
def Lc(gg:Q10->Option Q1):=ab (Ft gg)
def Qs(gg:Q10->Option Q1):Ann:=⟨sh [(1,.av (.val (.slice I))),(2,.av (.ptr 2 0)),(5,.av (.own 5)),(6,.av (.val .bool)),(7,.av (.val I)),(8,.av (.val .bool)),(9,.av (.val I))] [(2,.box [.val I,.val (.slice yQ2)]),(5,.arr I)],[(.exit 2,sh [(1,.av (.val (.slice I))),(2,.av (.ptr 2 0)),(5,.av (.own 5)),(6,.av (.val .bool)),(7,.av (.val I)),(8,.av (.val .bool))] [(2,.box [.val I,.val (.slice yQ2)]),(5,.arr I)])],Lc gg⟩
def MM(gg:Q10->Option Q1)(x:(Int×(List Q2)×List Int×List Int×Bool×Int×Unit)):Option ((Int×(List Q2)×List Int×List Int×Bool×Int×Unit)⊕(Q1⊕Empty)):=
 let(a,b,c,d,e,f,_):=x;cond (ltI f a) ((Lc gg (a,b,c,d,e,f,false,0,())).bind (A1 (λ(a_2,b_2,c_2,d_2,e_2,f_2,g_2,_)=>cond (!g_2) ((app [] d_2).bind λa3=>(app a3 [f_2]).bind λa4=>(gg ((a_2,b_2,()),a4,())).bind λr5=>cond (!e_2) (some (.inl (a_2,b_2,r5.1,d_2,true,(af .i64 f_2 1),()))) ((nf (r5.1,c_2,())).bind λr6=>cond r6.1 (some (.inl (a_2,b_2,r5.1,d_2,true,(af .i64 f_2 1),()))) (some (.inl (a_2,b_2,c_2,d_2,e_2,(af .i64 f_2 1),()))))) (some (.inl (a_2,b_2,c_2,d_2,e_2,(af .i64 f_2 1),())))) (λ_=>none))) (some (.inr (.inl (c,()))))
def PT(gg:Q10->Option Q1):=ab (MM gg)
def SZ(gg:Q10->Option Q1):Ann:=⟨sh [(1,.av (.val (.slice I))),(2,.av (.ptr 2 0)),(5,.av (.own 5)),(6,.av (.val .bool)),(7,.av (.val I))] [(2,.box [.val I,.val (.slice yQ2)]),(5,.arr I)],[(.exit 0,sh [(5,.av (.own 5))] [(5,.arr I)])],PT gg⟩
def QS(gg:Q10->Option Q1)(x:Q10):Option Q1:=
 let((a,b,_),c,_):=x;cond (eqI (c.length:Nat) a) ((ip ((a,b,()),c,())).bind λr1=>some (r1.1,())) ((PT gg (a,b,[],c,false,0,())).bind (A1 (λz3=>some (z3.1,())) (λ_=>none)))
def Ux(gg:Q10->Option Q1)(hh:Con.Holds Tryz.prog glob 364 ⟨[(.rd,nT),(.rd,(.slice I))],[(true,(.slice I))],gg,false⟩):Fn:=⟨364,⟨[(.rd,nT),(.rd,(.slice I))],[(true,(.slice I))],gg,false⟩,hh⟩
def Uu(gg:Q10->Option Q1)(hh:Con.Holds Tryz.prog glob 364 ⟨[(.rd,nT),(.rd,(.slice I))],[(true,(.slice I))],gg,false⟩):Fn:=mkF { cx [Ux gg hh,wK,AW]with light:=[16] } [(6,SZ gg),(10,Qs gg)] 364 Tryz.f364 [(.rd,nT),(.rd,(.slice I))] [(.tmp 4,true,(.slice I))] (QS gg) [lp 6 (SZ gg) (MM gg),lp 10 (Qs gg) (Ft gg)] seat_ok uo rfl
def OP(n:Nat):Q10->Option Q1:=Nat.rec (λ_=>none) (λ_ gg=>QS gg) n
theorem TO:∀ n,Con.Holds Tryz.prog glob 364 ⟨[(.rd,nT),(.rd,(.slice I))],[(true,(.slice I))],(OP n),false⟩
 |0=>λ_ _ _ _ _ _ h=>by cases h
 |n+1=>(Uu (OP n) (TO n)).ok
def Zd(x:Q10):Option Q1:=OP 10 x
def UJ:Fn:=⟨364,⟨[(.rd,nT),(.rd,(.slice I))],[(true,(.slice I))],λx=>OP 10 x,false⟩,λw F us x=>TO 10 w F us x⟩
def lT(x:(Q9×Unit)):Option Q6:=
 let((a,b,_),_):=x;(iP ((a,b,()),())).bind λr1=>cond (!r1.1) (some ([],1,())) (cond (gtI a 8) (some ([],2,())) ((Zd ((a,b,()),[],())).bind λr2=>some (r2.1,0,())))
def zU:=mG [s6,UJ] [] 273 Tryz.f273 [(.rd,nT)] [(.tmp 2,true,(.slice I)),(.tmp 3,true,I)] lT []
def Ze(x:(Q9×Unit)):Option Q1:=(yA [(.rd,nT)] [(true,.slice I)]).fn x
def Uy:Fn:=⟨274,(yA [(.rd,nT)] [(true,.slice I)]),tV⟩
def jm(x:(Int×Int×(List Q2)×List Int×Int×Unit)):Option ((Int×Int×(List Q2)×List Int×Int×Unit)⊕(Q15⊕Empty)):=
 let(a,b,c,d,e,_):=x;cond (ltI e (d.length:Nat)) ((ai d e).bind λy1=>(aN c.length y1).bind λj2=>(c[j2]?).bind λy3=>(ai d e).bind λy4=>(aN c.length y4).bind λj5=>(c[j5]?).bind λy6=>some (.inl (a,b,(c.set j5 (y3.2.1,y3.1,())),d,(af .i64 e 1),()))) (some (.inr (.inl (a,b,c,()))))
def nm:=ab jm
def sU:Ann:=⟨sh [aa 1 (.slice I),ag 4,ag 5,aa 6 I] [(4,.box [.val I,.nils]),(5,.box [.val I,.own 600001]),(600001,.arr yQ2)],[(.exit 0,sh [ag 4,ag 5] [(4,.box [.val I,.nils]),(5,.box [.val I,.own 600001]),(600001,.arr yQ2)])],nm⟩
def jF(x:Q10):Option (Q9×Unit):=
 (app [] x.1.2.1).bind λa1=>(nm (0,x.1.1,a1,x.2.1,0,())).bind (A1 (λz3=>some ((z3.2.1,z3.2.2.1,()),())) (λ_=>none))
def Bw:=mG [] [(4,sU)] 275 Tryz.f275 [(.rd,nT),(.rd,(.slice I))] [(.cell 4 118,true,nT)] jF [lp 4 sU jm]
def lP(x:(Q9×Unit)):Option (List Int×Q9×Unit):=
 let((a,b,_),_):=x;(iP ((a,b,()),())).bind λr1=>cond (!r1.1) (some ([],(0,[],()),())) ((lT ((a,b,()),())).bind λr2=>cond (neI r2.2.1 0) ((Ze ((a,b,()),())).bind λr3=>(jF ((a,b,()),r3.1,())).bind λr4=>some (r3.1,(r4.1.1,r4.1.2.1,()),())) ((jF ((a,b,()),r2.1,())).bind λr5=>some (r2.1,(r5.1.1,r5.1.2.1,()),())))
def Ad:=mG [s6,zU,Uy,Bw] [] 189 Tryz.f189 [(.rd,nT)] [(.tmp 2,true,(.slice I)),(.cell 3 118,true,nT)] lP []
def jw(x:(Int×Int×Int×List Int×(List Q2)×(List Q2)×Int×Unit)):Option ((Int×Int×Int×List Int×(List Q2)×(List Q2)×Int×Unit)⊕((Int×Int×List Int×(List Q2)×Unit)⊕Empty)):=
 let(a,b,c,d,e,f,g,_):=x;cond (ltI g (e.length:Nat)) ((aN e.length g).bind λj1=>(e[j1]?).bind λy2=>(aN e.length g).bind λj3=>(e[j3]?).bind λy4=>cond (neI y2.1 y4.2.1) ((aN e.length g).bind λj5=>(e[j5]?).bind λy6=>(app f [y6]).bind λa7=>(app d [g]).bind λa8=>some (.inl (a,b,c,a8,e,a7,(af .i64 g 1),()))) (some (.inl (a,b,c,d,e,f,(af .i64 g 1),())))) (some (.inr (.inl (a,c,d,f,()))))
def ns:=ab jw
def sY:Ann:=⟨sh [ag 2,ag 5,ag 6,ay 7,aa 8 I] [(2,.box [.val I,.nils]),(5,.box [.val I,.own 600001]),(6,.box [.val I,.own 700001]),(7,.arr I),(600001,.arr yQ2),(700001,.arr yQ2)],[(.exit 0,sh [ag 2,ag 6,ay 7] [(2,.box [.val I,.nils]),(6,.box [.val I,.own 700001]),(7,.arr I),(700001,.arr yQ2)])],ns⟩
def jT(x:(Q38×Unit)):Option Q10:=
 let((a,b,c,d,e,_),_):=x;(ig ((a,b,c,d,e,()),())).bind λr1=>(lP ((r1.1.1,r1.1.2.1,()),())).bind λr2=>(ns (0,r2.2.1.1,r2.2.1.1,[],r2.2.1.2.1,[],0,())).bind (A1 (λz4=>some ((z4.2.1,z4.2.2.2.1,()),z4.2.2.1,())) (λ_=>none))
def tG:=mG [Ad,xq] [(5,sY)] 108 Tryz.f108 [(.rd,yQ49)] [(.cell 2 118,true,nT),(.tmp 3,true,(.slice I))] jT [lp 5 sY jw]
def kl(x:Q74):Option (Q74⊕((Int×Int×(List Q12)×Unit)⊕Empty)):=
 let(a,b,c,d,e,f,g,h,i,k,l,m,_):=x;cond (ltI m (h.length:Nat)) ((aN h.length m).bind λj1=>(h[j1]?).bind λy2=>(ai d y2).bind λy3=>(aN k.length m).bind λj4=>(k[j4]?).bind λy5=>(aN k.length m).bind λj6=>(k[j6]?).bind λy7=>(app l [(y5.1,y7.2.1,y3.2.2.2.2.2.2.1,y3.2.2.2.2.2.1,())]).bind λa8=>some (.inl (a,b,c,d,e,f,g,h,i,k,a8,(af .i64 m 1),()))) (some (.inr (.inl (f,i,l,()))))
def oO:=ab kl
def uj:Ann:=⟨sh [ag 1,ag 2,ag 3,ay 4,ag 5,aa 6 I] [(1,co),(2,.box [.val I,.nils]),(3,.box [.val I,.own 400001]),(4,.arr I),(5,.box [.val I,.own 600001]),(400001,.arr yQ2),(600001,.arr yQ4)],[(.exit 0,sh [ag 2,ag 5] [(2,.box [.val I,.nils]),(5,.box [.val I,.own 600001]),(600001,.arr yQ4)])],oO⟩
def ia(x:(Q38×Unit)):Option (Q13×Unit):=
 let((a,b,c,d,e,_),_):=x;(jT ((a,b,c,d,e,()),())).bind λr1=>(oO (a,b,c,d,e,0,r1.1.1,r1.2.1,r1.1.1,r1.1.2.1,[],0,())).bind (A1 (λz3=>some ((z3.2.1,z3.2.2.1,()),())) (λ_=>none))
def va:=mG [tG] [(4,uj)] 55 Tryz.f55 [(.rd,yQ49)] [(.cell 2 86,true,Af)] ia [lp 4 uj kl]
def eZ(x:(Int×(List Q12)×Int×Unit)):Option ((Int×(List Q12)×Int×Unit)⊕((Bool×Unit)⊕(Unit⊕Empty))):=
 let(a,b,c,_):=x;cond (ltI c (b.length:Nat)) ((ai b c).bind λy1=>cond (ltI y1.1 0) (some (.inr (.inl (false,())))) (cond (geI y1.1 a) (some (.inr (.inl (false,())))) (cond (ltI y1.2.1 0) (some (.inr (.inl (false,())))) (cond (geI y1.2.1 a) (some (.inr (.inl (false,())))) (cond (eqI y1.1 y1.2.1) (some (.inr (.inl (false,())))) (cond (ltI y1.2.2.1 (-16777216)) (some (.inr (.inl (false,())))) (cond (gtI y1.2.2.1 16777216) (some (.inr (.inl (false,())))) (cond (ltI y1.2.2.2.1 0) (some (.inr (.inl (false,())))) (cond (gtI y1.2.2.2.1 8000) (some (.inr (.inl (false,())))) (some (.inl (a,b,(af .i64 c 1),())))))))))))) (some (.inr (.inr (.inl ()))))
def mt:=ab eZ
def rT:Ann:=⟨sh [ag 1,aa 3 I] [(1,vO)],[dD 2 .bool,kG 0],mt⟩
def iR(x:(Q13×Unit)):Option (Bool×Unit):=
 let((a,b,_),_):=x;cond (ltI a 0) (some (false,())) (cond (gtI a 2048) (some (false,())) (cond (gtI (b.length:Nat) 4096) (some (false,())) ((mt (a,b,0,())).bind (A1 (λz2=>some (z2.1,())) (A1 (λz3=>some (true,())) (λ_=>none))))))
def td:=mG [] [(4,rT)] 191 Tryz.f191 [(.rd,Af)] [(.tmp 2,true,.bool)] iR [lp 4 rT eZ]
def ii(x:(Int×(List Q12)×List Int×List Int×Int×Bool×Int×Unit)):Option ((Int×(List Q12)×List Int×List Int×Int×Bool×Int×Unit)⊕((Int×(List Q12)×List Int×List Int×Int×Bool×Unit)⊕Empty)):=
 let(a,b,c,d,e,f,g,_):=x;cond (ltI g (b.length:Nat)) ((ai b g).bind λy1=>(aN c.length y1.2.1).bind λj2=>(c[j2]?).bind λy3=>(aN c.length y1.1).bind λj4=>(c[j4]?).bind λy5=>cond (ltI y3 (af .i64 y5 y1.2.2.1)) ((aN c.length y1.1).bind λj6=>(c[j6]?).bind λy7=>(aN c.length y1.2.1).bind λj8=>(c[j8]?).bind λy9=>cond (ltI g (d.length:Nat)) ((ai d g).bind λy10=>cond (gtI y10 0) ((aN (c.set j8 (af .i64 y7 y1.2.2.1)).length y1.1).bind λj11=>((c.set j8 (af .i64 y7 y1.2.2.1))[j11]?).bind λy12=>(aN (c.set j8 (af .i64 y7 y1.2.2.1)).length y1.2.1).bind λj13=>((c.set j8 (af .i64 y7 y1.2.2.1))[j13]?).bind λy14=>cond (ltI y12 (aK .i64 y14 y1.2.2.1)) ((aN (c.set j8 (af .i64 y7 y1.2.2.1)).length y1.2.1).bind λj15=>((c.set j8 (af .i64 y7 y1.2.2.1))[j15]?).bind λy16=>(aN (c.set j8 (af .i64 y7 y1.2.2.1)).length y1.1).bind λj17=>((c.set j8 (af .i64 y7 y1.2.2.1))[j17]?).bind λy18=>some (.inl (a,b,((c.set j8 (af .i64 y7 y1.2.2.1)).set j17 (aK .i64 y16 y1.2.2.1)),d,e,true,(af .i64 g 1),()))) (some (.inl (a,b,(c.set j8 (af .i64 y7 y1.2.2.1)),d,e,true,(af .i64 g 1),())))) (some (.inl (a,b,(c.set j8 (af .i64 y7 y1.2.2.1)),d,e,true,(af .i64 g 1),())))) (some (.inl (a,b,(c.set j8 (af .i64 y7 y1.2.2.1)),d,e,true,(af .i64 g 1),())))) (cond (ltI g (d.length:Nat)) ((ai d g).bind λy19=>cond (gtI y19 0) ((aN c.length y1.1).bind λj20=>(c[j20]?).bind λy21=>(aN c.length y1.2.1).bind λj22=>(c[j22]?).bind λy23=>cond (ltI y21 (aK .i64 y23 y1.2.2.1)) ((aN c.length y1.2.1).bind λj24=>(c[j24]?).bind λy25=>(aN c.length y1.1).bind λj26=>(c[j26]?).bind λy27=>some (.inl (a,b,(c.set j26 (aK .i64 y25 y1.2.2.1)),d,e,true,(af .i64 g 1),()))) (some (.inl (a,b,c,d,e,f,(af .i64 g 1),())))) (some (.inl (a,b,c,d,e,f,(af .i64 g 1),())))) (some (.inl (a,b,c,d,e,f,(af .i64 g 1),()))))) (some (.inr (.inl (a,b,c,d,e,f,()))))
def mD:=ab ii
def rP:Ann:=⟨sh [aa 1 (.slice I),ag 2,ay 6,aa 7 I,aa 8 .bool,aa 9 I] [(2,vO),(6,.arr I)],[(.exit 2,sh [aa 1 (.slice I),ag 2,ay 6,aa 7 I,aa 8 .bool] [(2,vO),(6,.arr I)])],mD⟩
def iD(x:(Int×(List Q12)×List Int×List Int×Int×Unit)):Option ((Int×(List Q12)×List Int×List Int×Int×Unit)⊕((List Int×Bool×Unit)⊕(Unit⊕Empty))):=
 let(a,b,c,d,e,_):=x;cond (leI e (af .i64 a 1)) ((mD (a,b,c,d,e,false,0,())).bind (A1 (λ(a_2,b_2,c_2,d_2,e_2,f_2,_)=>cond (!f_2) (some (.inr (.inl (c_2,true,())))) (some (.inl (a_2,b_2,c_2,d_2,(af .i64 e_2 1),())))) (λ_=>none))) (some (.inr (.inr (.inl ()))))
def mu:=ab iD
def sa:Ann:=⟨sh [aa 1 (.slice I),ag 2,ay 6,aa 7 I] [(2,vO),(6,.arr I)],[(.ret,sh [ay 4,aa 5 .bool] [(4,.arr I)]),kG 0],mu⟩
def ic(x:Q14):Option (List Int×Bool×Unit):=
 let((a,b,_),c,_):=x;(l7 I a a).bind λm1=>(mu (a,b,m1,c,0,())).bind (A1 (λz3=>some (z3.1,z3.2.1,())) (A1 (λz4=>some ([],false,())) (λ_=>none)))
def Ao:=mG [] [(3,sa),(7,rP)] 192 Tryz.f192 [(.rd,Af),(.rd,(.slice I))] [(.tmp 4,true,(.slice I)),(.tmp 5,true,.bool)] ic [lp 3 sa iD,lp 7 rP ii]
def im(x:(Int×(List Q12)×(List Q24)×List Int×Int×Unit)):Option ((Int×(List Q12)×(List Q24)×List Int×Int×Unit)⊕(((List Q24)×Unit)⊕Empty)):=
 let(a,b,c,d,e,_):=x;cond (ltI e (b.length:Nat)) ((ai b e).bind λy1=>(app c [(e,false,y1.1,y1.2.1,y1.2.2.1,())]).bind λa2=>(ai d e).bind λy3=>cond (gtI y3 0) ((app a2 [(e,true,y1.2.1,y1.1,(aK .i64 0 y1.2.2.1),())]).bind λa4=>some (.inl (a,b,a4,d,(af .i64 e 1),()))) (some (.inl (a,b,a2,d,(af .i64 e 1),())))) (some (.inr (.inl (c,()))))
def mo:=ab im
def rS:Ann:=⟨sh [aa 1 (.slice I),ag 2,ay 5,aa 6 I] [(2,vO),(5,.arr Ah)],[(.exit 0,sh [ay 5] [(5,.arr Ah)])],mo⟩
def lB(x:Q14):Option ((List Q24)×Unit):=
 (mo (x.1.1,x.1.2.1,[],x.2.1,0,())).bind (A1 (λz2=>some (z2.1,())) (λ_=>none))
def zX:=mG [] [(3,rS)] 193 Tryz.f193 [(.rd,Af),(.rd,(.slice I))] [(.tmp 4,true,(.slice Ah))] lB [lp 3 rS im]
def gT(x:(List Int×List Int×(List Q24)×Int×Int×Unit)):Option ((List Int×List Int×(List Q24)×Int×Int×Unit)⊕(Q1⊕Empty)):=
 let(a,b,c,d,e,_):=x;cond (neI e d) ((aN a.length e).bind λj1=>(a[j1]?).bind λy2=>(app b [y2]).bind λa3=>(aN a.length e).bind λj4=>(a[j4]?).bind λy5=>(ai c y5).bind λy6=>some (.inl (a,a3,c,d,y6.2.2.1,()))) (some (.inr (.inl (b,()))))
def ei:=ab gT
def qd:Ann:=⟨sh [aa 0 (.slice Ah),ay 6,aa 7 I,ay 11,aa 12 I] [(6,.arr I),(11,.arr I)],[(.exit 6,sh [ay 11] [(11,.arr I)])],ei⟩
def gS(x:(List Int×(List Q24)×Int×Int×Int×Unit)):Option ((List Int×(List Q24)×Int×Int×Int×Unit)⊕((List Int×(List Q24)×Int×Unit)⊕Empty)):=
 let(a,b,c,d,e,_):=x;cond (ltI e c) ((aN a.length d).bind λj1=>(a[j1]?).bind λy2=>(ai b y2).bind λy3=>some (.inl (a,b,c,y3.2.2.1,(af .i64 e 1),()))) (some (.inr (.inl (a,b,d,()))))
def cZ:=ab gS
def qg:Ann:=⟨sh [aa 0 (.slice Ah),aa 1 I,ay 6,aa 7 I,aa 10 I] [(6,.arr I)],[(.exit 4,sh [aa 0 (.slice Ah),ay 6,aa 7 I] [(6,.arr I)])],cZ⟩
def iF(x:(List Int×List Int×(List Q24)×Int×Int×Int×Int×Unit)):Option ((List Int×List Int×(List Q24)×Int×Int×Int×Int×Unit)⊕(Q36⊕Empty)):=
 let(a,b,c,d,e,f,g,_):=x;cond (ltI g (c.length:Nat)) ((ai c g).bind λy1=>(aN a.length y1.2.2.1).bind λj2=>(a[j2]?).bind λy3=>(ai c g).bind λy4=>(ai c g).bind λy5=>(aN a.length y5.2.2.2.1).bind λj6=>(a[j6]?).bind λy7=>cond (gtI (af .i64 y3 y4.2.2.2.2.1) y7) ((ai c g).bind λy8=>(ai c g).bind λy9=>(aN a.length y9.2.2.1).bind λj10=>(a[j10]?).bind λy11=>(ai c g).bind λy12=>(aN a.length y8.2.2.2.1).bind λj13=>(a[j13]?).bind λy14=>(ai c g).bind λy15=>(aN b.length y15.2.2.2.1).bind λj16=>(b[j16]?).bind λy17=>(ai c g).bind λy18=>some (.inl ((a.set j13 (af .i64 y11 y12.2.2.2.2.1)),(b.set j16 g),c,d,y18.2.2.2.1,f,(af .i64 g 1),()))) (some (.inl (a,b,c,d,e,f,(af .i64 g 1),())))) (some (.inr (.inl (a,b,c,d,e,f,()))))
def mQ:=ab iF
def rH:Ann:=⟨sh [aa 0 (.slice Ah),aa 1 I,ay 5,ay 6,aa 7 I,aa 8 I,aa 9 I] [(5,.arr I),(6,.arr I)],[(.exit 2,Rl)],mQ⟩
def iJ(x:Q36):Option (Q36⊕(Unit⊕((List Int×(List Q24)×Int×Int×Unit)⊕Empty))):=
 let(a,b,c,d,e,f,_):=x;cond (leI f d) ((mQ (a,b,c,d,(-1),f,0,())).bind (A1 (λ(a_2,b_2,c_2,d_2,e_2,f_2,_)=>cond (ltI e_2 0) (some (.inr (.inl ()))) (some (.inl (a_2,b_2,c_2,d_2,e_2,(af .i64 f_2 1),())))) (λ_=>none))) (some (.inr (.inr (.inl (b,c,d,e,())))))
def mB:=ab iJ
def rY:Ann:=⟨Rl,[(.ret,sh [(4,.av (.nils))] []),(.exit 0,sh [aa 0 (.slice Ah),aa 1 I,ay 6,aa 7 I] [(6,.arr I)])],mB⟩
def lR(x:((List Q24)×Int×Unit)):Option Q1:=
 let(a,b,_):=x;(l7 I b b).bind λm1=>(l7 I b b).bind λm2=>(mB (m1,m2,a,b,(-1),0,())).bind (A1 (λz4=>some ([],())) (A1 (λz5=>(cZ (z5.1,z5.2.1,z5.2.2.1,z5.2.2.2.1,0,())).bind (A1 (λ(a_7,b_7,c_7,_)=>(aN a_7.length c_7).bind λj8=>(a_7[j8]?).bind λy9=>(aN a_7.length c_7).bind λj10=>(a_7[j10]?).bind λy11=>(ai b_7 y11).bind λy12=>(ei (a_7,[y9],b_7,c_7,y12.2.2.1,())).bind (A1 (λz14=>some (z14.1,())) (λ_=>none))) (λ_=>none))) (λ_=>none)))
def Ac:=mG [] [(5,rY),(9,rH),(18,qg),(23,qd)] 194 Tryz.f194 [(.rd,(.slice Ah)),(.rd,I)] [(.tmp 4,true,(.slice I))] lR [lp 5 rY iJ,lp 9 rH iF,lp 18 qg gS,lp 23 qd gT]
def eC(x:Q41):Option (Q41⊕(Q23⊕Empty)):=
 let(a,b,c,d,e,f,g,_):=x;cond (ltI g (e.length:Nat)) ((aN e.length g).bind λj1=>(e[j1]?).bind λy2=>(aN d.length y2).bind λj3=>(d[j3]?).bind λy4=>cond y4.2.1 ((aN c.length y4.1).bind λj5=>(c[j5]?).bind λy6=>(aN c.length y4.1).bind λj7=>(c[j7]?).bind λy8=>some (.inl (a,b,(c.set j7 (aK .i64 y6 f)),d,e,f,(af .i64 g 1),()))) ((aN c.length y4.1).bind λj9=>(c[j9]?).bind λy10=>(aN c.length y4.1).bind λj11=>(c[j11]?).bind λy12=>some (.inl (a,b,(c.set j11 (af .i64 y10 f)),d,e,f,(af .i64 g 1),())))) (some (.inr (.inl (a,b,c,()))))
def lf:=ab eC
def qr:Ann:=⟨sh [ag 1,ay 7,ay 9,ay 10,aa 13 I,aa 15 I] [(1,vO),(7,.arr I),(9,.arr Ah),(10,.arr I)],[(.exit 6,ME)],lf⟩
def er(x:Q41):Option (Q41⊕((Int×(List Q12)×List Int×(List Q24)×List Int×Int×Unit)⊕Empty)):=
 let(a,b,c,d,e,f,g,_):=x;cond (ltI g (e.length:Nat)) ((aN e.length g).bind λj1=>(e[j1]?).bind λy2=>(aN d.length y2).bind λj3=>(d[j3]?).bind λy4=>cond y4.2.1 ((aN e.length g).bind λj5=>(e[j5]?).bind λy6=>(aN d.length y6).bind λj7=>(d[j7]?).bind λy8=>(aN c.length y8.1).bind λj9=>(c[j9]?).bind λy10=>some (.inl (a,b,c,d,e,(bL f y10),(af .i64 g 1),()))) (some (.inl (a,b,c,d,e,f,(af .i64 g 1),())))) (some (.inr (.inl (a,b,c,d,e,f,()))))
def lm:=ab er
def qt:Ann:=⟨sh [ag 1,ay 7,ay 9,ay 10,aa 13 I,aa 14 I] [(1,vO),(7,.arr I),(9,.arr Ah),(10,.arr I)],[(.exit 4,sh [ag 1,ay 7,ay 9,ay 10,aa 13 I] [(1,vO),(7,.arr I),(9,.arr Ah),(10,.arr I)])],lm⟩
def db(x:Q23):Option (Q23⊕(Q21⊕Empty)):=
 let(a,b,c,_):=x;(lB ((a,b,()),c,())).bind λr1=>(lR (r1.1,a,())).bind λr2=>cond (eqI (r2.1.length:Nat) 0) ((ic ((a,b,()),c,())).bind λr3=>some (.inr (.inl (r3.1,c,0,())))) ((lm (a,b,c,r1.1,r2.1,1099511627776,0,())).bind (A1 (λ(a_5,b_5,c_5,d_5,e_5,f_5,_)=>(lf (a_5,b_5,c_5,d_5,e_5,f_5,0,())).bind (A1 (λz7=>some (.inl (z7.1,z7.2.1,z7.2.2.1,()))) (λ_=>none))) (λ_=>none)))
def kX:=ab db
def qo:Ann:=⟨ME,[(.ret,sh [ay 2,ay 3,aa 4 I] [(2,.arr I),(3,.arr I)])],kX⟩
def io(x:Q28):Option (Q28⊕(Q23⊕Empty)):=
 let(a,b,c,d,_):=x;cond (ltI d (c.length:Nat)) ((ai b d).bind λy1=>(aN c.length d).bind λj2=>(c[j2]?).bind λy3=>some (.inl (a,b,(c.set j2 y1.2.2.2.1),(af .i64 d 1),()))) (some (.inr (.inl (a,b,c,()))))
def lY:=ab io
def rQ:Ann:=⟨sh [ag 1,ay 7,aa 8 I] [(1,vO),(7,.arr I)],[(.exit 0,ME)],lY⟩
def lV(x:(Q13×Unit)):Option Q21:=
 let((a,b,_),_):=x;(iR ((a,b,()),())).bind λr1=>cond (!r1.1) (some ([],[],1,())) ((ic ((a,b,()),[],())).bind λr2=>cond (!r2.2.1) (some ([],[],9,())) ((l7 I (b.length:Nat) (b.length:Nat)).bind λm3=>(lY (a,b,m3,0,())).bind (A1 (λz5=>(kX (z5.1,z5.2.1,z5.2.2.1,())).bind (A1 (λz7=>some (z7.1,z7.2.1,z7.2.2.1,())) (λ_=>none))) (λ_=>none))))
def Au:=mG [td,Ao,zX,Ac] [(8,rQ),(11,qo),(18,qt),(23,qr)] 109 Tryz.f109 [(.rd,Af)] [(.tmp 2,true,(.slice I)),(.tmp 3,true,(.slice I)),(.tmp 4,true,I)] lV [lp 8 rQ io,lp 11 qo db,lp 18 qt er,lp 23 qr eC]
def gQ(x:(List Int×List Int×List Int×List Int×Int×Unit)):Option ((List Int×List Int×List Int×List Int×Int×Unit)⊕((List Int×List Int×Unit)⊕Empty)):=
 let(a,b,c,d,e,_):=x;cond (ltI e (c.length:Nat)) ((aN c.length e).bind λj1=>(c[j1]?).bind λy2=>(aN b.length e).bind λj3=>(b[j3]?).bind λy4=>(aN d.length y2).bind λj5=>(d[j5]?).bind λy6=>some (.inl (a,b,c,(d.set j5 y4),(af .i64 e 1),()))) (some (.inr (.inl (a,d,()))))
def gJ:=ab gQ
def qu:Ann:=⟨sh [ay 6,ay 7,ay 10,ay 11,aa 12 I] [(6,.arr I),(7,.arr I),(10,.arr I),(11,.arr I)],[(.exit 0,sh [ay 6,ay 11] [(6,.arr I),(11,.arr I)])],gJ⟩
def iw(x:(Q38×Unit)):Option Q21:=
 let((a,b,c,d,e,_),_):=x;(bJ ((a,b,c,d,e,()),())).bind λr1=>cond (neI r1.1 0) (some ([],[],r1.1,())) ((ia ((a,b,c,d,e,()),())).bind λr2=>(lV ((r2.1.1,r2.1.2.1,()),())).bind λr3=>cond (neI r3.2.2.1 0) (some ([],[],r3.2.2.1,())) ((jT ((a,b,c,d,e,()),())).bind λr4=>(l7 I (d.length:Nat) (d.length:Nat)).bind λm5=>(gJ (r3.1,r3.2.1,r4.2.1,m5,0,())).bind (A1 (λz7=>some (z7.1,z7.2.1,0,())) (λ_=>none))))
def Ab:=mG [jo,va,tG,Au] [(10,qu)] 56 Tryz.f56 [(.rd,yQ49)] [(.tmp 2,true,(.slice I)),(.tmp 3,true,(.slice I)),(.tmp 4,true,I)] iw [lp 10 qu gQ]
def eX(x:Q6):Option (Q6⊕((Bool×Unit)⊕(Unit⊕Empty))):=
 let(a,b,_):=x;cond (ltI b (a.length:Nat)) ((ai a b).bind λy1=>cond (ltI y1 (-34359738368)) (some (.inr (.inl (false,())))) ((ai a b).bind λy2=>cond (gtI y2 34359738368) (some (.inr (.inl (false,())))) (some (.inl (a,(af .i64 b 1),()))))) (some (.inr (.inr (.inl ()))))
def mr:=ab eX
def si:Ann:=⟨sh [aa 1 (.slice I),aa 5 I] [],[dD 4 .bool,kG 0],mr⟩
def iK(x:Q14):Option (Bool×Unit):=
 let((a,b,_),c,_):=x;(iR ((a,b,()),())).bind λr1=>cond (!r1.1) (some (false,())) (cond (neI (c.length:Nat) a) (some (false,())) ((mr (c,0,())).bind (A1 (λz3=>some (z3.1,())) (A1 (λz4=>some (true,())) (λ_=>none)))))
def tk:=mG [td] [(4,si)] 110 Tryz.f110 [(.rd,Af),(.rd,(.slice I))] [(.tmp 4,true,.bool)] iK [lp 4 si eX]
def fw(x:Q28):Option (Q28⊕((Bool×Unit)⊕(Unit⊕Empty))):=
 let(a,b,c,d,_):=x;cond (ltI d (b.length:Nat)) ((ai b d).bind λy1=>(ai c y1.2.1).bind λy2=>(ai b d).bind λy3=>(ai c y3.1).bind λy4=>(ai b d).bind λy5=>cond (ltI (aK .i64 y2 y4) y5.2.2.1) (some (.inr (.inl (false,())))) (some (.inl (a,b,c,(af .i64 d 1),())))) (some (.inr (.inr (.inl ()))))
def jO:=ab fw
def pd:Ann:=⟨sh [aa 1 (.slice I),ag 2,aa 5 I] [(2,vO)],[dD 4 .bool,kG 0],jO⟩
def fc(x:Q14):Option (Bool×Unit):=
 let((a,b,_),c,_):=x;(iK ((a,b,()),c,())).bind λr1=>cond (!r1.1) (some (false,())) ((jO (a,b,c,0,())).bind (A1 (λz3=>some (z3.1,())) (A1 (λz4=>some (true,())) (λ_=>none))))
def wO:=mG [tk] [(4,pd)] 57 Tryz.f57 [(.rd,Af),(.rd,(.slice I))] [(.tmp 4,true,.bool)] fc [lp 4 pd fw]
def jy(x:(Int×(List Q12)×List Int×Int×Int×Unit)):Option ((Int×(List Q12)×List Int×Int×Int×Unit)⊕((Int×Unit)⊕Empty)):=
 let(a,b,c,d,e,_):=x;cond (ltI e (b.length:Nat)) ((ai b e).bind λy1=>(ai b e).bind λy2=>(ai c y2.2.1).bind λy3=>(ai b e).bind λy4=>(ai c y4.1).bind λy5=>some (.inl (a,b,c,(af .i64 d (jV .i64 y1.2.2.2.1 (aK .i64 y3 y5))),(af .i64 e 1),()))) (some (.inr (.inl (d,()))))
def nz:=ab jy
def sV:Ann:=⟨sh [aa 1 (.slice I),ag 2,aa 5 I,aa 6 I] [(2,vO)],[(.exit 0,Gp)],nz⟩
def eI(x:Q14):Option (Int×Unit):=
 let((a,b,_),c,_):=x;(iK ((a,b,()),c,())).bind λr1=>cond (!r1.1) (some (0,())) ((nz (a,b,c,0,0,())).bind (A1 (λz3=>some (z3.1,())) (λ_=>none)))
def Bp:=mG [tk] [(5,sV)] 58 Tryz.f58 [(.rd,Af),(.rd,(.slice I))] [(.tmp 4,true,I)] eI [lp 5 sV jy]
def iI(x:Q89):Option (Q89⊕((ByteArray×Bool×(List Q37)×(List Q34)×(List Q8)×Int×Int×Int×Int×Int×(List Q12)×(List Q12)×(List (List Q2))×(List Q12)×Int×Int×Int×Int×Int×Int×List Int×Int×Int×Unit)⊕Empty)):=
 let(a,b,c,d,e,f,g,h,i,k,l,m,n,o,p,q,s,t,u,w,w0,w1,w2,w3,_):=x;cond (ltI w3 (n.length:Nat)) ((ai n w3).bind λy1=>(lD (y1,())).bind λr2=>some (.inl (a,b,c,d,e,f,g,h,i,k,l,m,n,o,p,q,s,t,u,w,w0,w1,(af .i64 w2 r2.1),(af .i64 w3 1),()))) (some (.inr (.inl (a,b,c,d,e,f,g,h,i,k,l,m,n,o,p,q,s,t,u,w,w0,w1,w2,()))))
def mA:=ab iI
def rC:Ann:=⟨sh [ag 3,ag 4,ag 5,(7,.av (.nils)),aa 8 I,aa 9 I,aa 10 I] [(3,co),(4,AF),(5,qj)],[(.exit 0,sh [ag 3,ag 4,ag 5,(7,.av (.nils)),aa 8 I,aa 9 I] [(3,co),(4,AF),(5,qj)])],mA⟩
def cW(x:Q57):Option Q7:=
 let((a,b,c,d,e,_),(f,g,h,i,k,_),(l,m,n,o,(p,q,s,t,_),u,w,w0,_),_):=x;(lq ((a,b,c,d,e,()),(l,m,n,o,(p,q,s,t,()),u,w,w0,()),())).bind λr1=>(mA (a,b,c,d,e,f,g,h,i,k,l,m,n,o,p,q,s,t,u,w,w0,r1.1,0,0,())).bind (A1 (λ(a_3,b_3,c_3,d_3,e_3,f_3,_,_,_,_,_,_,_,_,_,_,_,_,g_3,h_3,i_3,k_3,l_3,_)=>cond (eqI f_3 0) ((ia ((a_3,b_3,c_3,d_3,e_3,()),())).bind λr4=>(iw ((a_3,b_3,c_3,d_3,e_3,()),())).bind λr5=>cond (neI r5.2.2.1 0) ((app [] [(ByteArray.mk #[114,97,110,107,115])]).bind λa6=>some (a6,())) ((fc ((r4.1.1,r4.1.2.1,()),i_3,())).bind λr7=>cond (!r7.1) ((app [] [(ByteArray.mk #[114,97,110,107,115])]).bind λa8=>some (a8,())) ((eI ((r4.1.1,r4.1.2.1,()),i_3,())).bind λr9=>(eI ((r4.1.1,r4.1.2.1,()),r5.1,())).bind λr10=>cond (neI r9.1 r10.1) ((app [] [(ByteArray.mk #[114,97,110,107,115])]).bind λa11=>some (a11,())) (some ([],()))))) (cond (eqI f_3 1) (cond (neI g_3 k_3) ((app [] [(ByteArray.mk #[99,114,111,115,115,105,110,103,115])]).bind λa12=>cond (neI h_3 l_3) ((app a12 [(ByteArray.mk #[98,101,110,100,115])]).bind λa13=>some (a13,())) (some (a12,()))) (cond (neI h_3 l_3) ((app [] [(ByteArray.mk #[98,101,110,100,115])]).bind λa14=>some (a14,())) (some ([],())))) (cond (eqI f_3 2) (cond (neI k_3 0) ((app [] [(ByteArray.mk #[99,114,111,115,115,105,110,103,115])]).bind λa15=>some (a15,())) (some ([],()))) (some ([],()))))) (λ_=>none))
def Aj:=mG [vW,zY,va,Ab,wO,Bp] [(5,rC)] 24 Tryz.f24 [(.rd,yQ49),(.rd,yQ5),(.rd,yQ38)] [(.tmp 6,true,(.slice .str))] cW [lp 5 rC iI]
def fa(x:Q19):Option (Q19⊕((Bool×Unit)⊕(((List Q12)×Int×Unit)⊕Empty))):=
 let(a,b,c,_):=x;cond (ltI c (a.length:Nat)) ((ai a c).bind λy1=>(aQ (y1,())).bind λr2=>cond (!r2.1) (some (.inr (.inl (false,())))) (some (.inl (a,b,(af .i64 c 1),())))) (some (.inr (.inr (.inl (a,b,())))))
def mq:=ab fa
def sd:Ann:=⟨QY,[dD 4 .bool,(.exit 0,QO)],mq⟩
def iz(x:((List Q12)×Int×Unit)):Option (Bool×Unit):=
 (mq (x.1,x.2.1,0,())).bind (A1 (λz2=>some (z2.1,())) (A1 (λz3=>some ((eqI (z3.1.length:Nat) z3.2.1),())) (λ_=>none)))
def Av:=mG [cV] [(2,sd)] 59 Tryz.f59 [(.rd,(.slice yQ4)),(.rd,I)] [(.tmp 4,true,.bool)] iz [lp 2 sd fa]
def jx(x:(Q12×Int×Unit)):Option (Q12×Unit):=
 let((a,b,c,d,_),e,_):=x;(aQ ((a,b,c,d,()),())).bind λr1=>cond (!r1.1) (some ((0,0,0,0,()),())) (cond (ltI e (-536870912)) (some ((0,0,0,0,()),())) (cond (gtI e 536870912) (some ((0,0,0,0,()),())) ((aQ (((aK .i64 a e),(aK .i64 b e),(af .i64 c e),(af .i64 d e),()),())).bind λr2=>cond (!r2.1) (some ((0,0,0,0,()),())) (some (((aK .i64 a e),(aK .i64 b e),(af .i64 c e),(af .i64 d e),()),())))))
def xW:=mG [cV] [] 112 Tryz.f112 [(.rd,yQ4),(.rd,I)] [(.cell 4 32,true,yQ4)] jx []
def cL(x:(Q12×Q2×Unit)):Option (Bool×Unit):=
 let((a,b,c,d,_),(e,f,_),_):=x;(aQ ((a,b,c,d,()),())).bind λr1=>cond r1.1 ((fA ((e,f,()),())).bind λr2=>cond r2.1 (cond (geI e a) (cond (leI e c) (cond (geI f b) (some ((leI f d),())) (some (false,()))) (some (false,()))) (some (false,()))) (some (false,()))) (some (false,()))
def xh:=mG [cV,tc] [] 195 Tryz.f195 [(.rd,yQ4),(.rd,yQ2)] [(.tmp 4,true,.bool)] cL []
def gF(x:(Q12×Q12×Unit)):Option (Bool×Unit):=
 let((a,b,c,d,_),(e,f,g,h,_),_):=x;(aQ ((a,b,c,d,()),())).bind λr1=>cond r1.1 ((cL ((e,f,g,h,()),(a,b,()),())).bind λr2=>cond r2.1 ((cL ((e,f,g,h,()),(c,d,()),())).bind λr3=>some (r3.1,())) (some (false,()))) (some (false,()))
def yT:=mG [cV,xh] [] 111 Tryz.f111 [(.rd,yQ4),(.rd,yQ4)] [(.tmp 4,true,.bool)] gF []
def gv(x:(Q12×(List Q12)×Int×Int×Unit)):Option (Bool×Unit):=
 let((a,b,c,d,_),e,f,g,_):=x;cond (ltI f 0) (some (true,())) ((ai e f).bind λy1=>(jx (y1,(aK .i64 0 g),())).bind λr2=>(gF ((a,b,c,d,()),(r2.1.1,r2.1.2.1,r2.1.2.2.1,r2.1.2.2.2.1,()),())).bind λr3=>some (r3.1,()))
def x9:=mG [yT,xW] [] 60 Tryz.f60 [(.rd,yQ4),(.rd,(.slice yQ4)),(.rd,I),(.rd,I)] [(.tmp 8,true,.bool)] gv []
def gz(x:Q44):Option (Q44⊕((Bool×Unit)⊕(Unit⊕Empty))):=
 let(a,b,c,d,e,f,g,_):=x;cond (geI g 0) (cond (eqI g f) (some (.inr (.inl (true,())))) ((ai e g).bind λy1=>some (.inl (a,b,c,d,e,f,y1.2.1,())))) (some (.inr (.inr (.inl ()))))
def oF:=ab gz
def tJ:Ann:=⟨O5,[dD 6 .bool,kG 0],oF⟩
def ot(x:(Q38×Int×Int×Unit)):Option (Bool×Unit):=
 let((a,b,c,d,e,_),f,g,_):=x;cond (eqI f (-1)) (some (true,())) ((ai c g).bind λy1=>(oF (a,b,c,d,e,f,y1.2.2.2.2.1,())).bind (A1 (λz3=>some (z3.1,())) (A1 (λz4=>some (false,())) (λ_=>none))))
def CA:=mG [] [(4,tJ)] 196 Tryz.f196 [(.rd,yQ49),(.rd,I),(.rd,I)] [(.tmp 6,true,.bool)] ot [lp 4 tJ gz]
def dT(x:Q53):Option (Q53⊕(Q1⊕Empty)):=
 let(a,b,c,d,e,f,g,h,_):=x;cond (ltI h (c.length:Nat)) ((ot ((a,b,c,d,e,()),g,h,())).bind λr1=>cond r1.1 ((app f [h]).bind λa2=>some (.inl (a,b,c,d,e,a2,g,(af .i64 h 1),()))) (some (.inl (a,b,c,d,e,f,g,(af .i64 h 1),())))) (some (.inr (.inl (f,()))))
def kh:=ab dT
def pw:Ann:=⟨sh [aa 1 I,ag 2,ay 5,aa 6 I] [(2,co),(5,.arr I)],[(.exit 0,RN)],kh⟩
def ju(x:Q39):Option Q1:=
 let((a,b,c,d,e,_),f,_):=x;(bJ ((a,b,c,d,e,()),())).bind λr1=>cond (neI r1.1 0) (some ([],())) (cond (ltI f (-1)) (some ([],())) (cond (geI f (e.length:Nat)) (some ([],())) ((kh (a,b,c,d,e,[],f,0,())).bind (A1 (λz3=>some (z3.1,())) (λ_=>none)))))
def xV:=mG [jo,CA] [(5,pw)] 113 Tryz.f113 [(.rd,yQ49),(.rd,I)] [(.tmp 4,true,(.slice I))] ju [lp 5 pw dT]
def gu(x:Q11):Option (Q11⊕((Bool×Unit)⊕(Unit⊕Empty))):=
 let(a,b,c,_):=x;cond (ltI c (a.length:Nat)) ((ai a c).bind λy1=>cond (eqI y1 b) (some (.inr (.inl (true,())))) (some (.inl (a,b,(af .i64 c 1),())))) (some (.inr (.inr (.inl ()))))
def oC:=ab gu
def uq:Ann:=⟨sh [aa 0 (.slice I),aa 1 I,aa 5 I] [],[dD 4 .bool,kG 0],oC⟩
def oA(x:Q6):Option (Bool×Unit):=
 (oC (x.1,x.2.1,0,())).bind (A1 (λz2=>some (z2.1,())) (A1 (λz3=>some (false,())) (λ_=>none)))
def CS:=mG [] [(2,uq)] 114 Tryz.f114 [(.rd,(.slice I)),(.rd,I)] [(.tmp 4,true,.bool)] oA [lp 2 uq gu]
def eY(x:Q44):Option (Q44⊕((Bool×Unit)⊕(Unit⊕Empty))):=
 let(a,b,c,d,e,f,g,_):=x;cond (geI f 0) (cond (eqI f g) (some (.inr (.inl (true,())))) ((ai e f).bind λy1=>some (.inl (a,b,c,d,e,y1.2.1,g,())))) (some (.inr (.inr (.inl ()))))
def mC:=ab eY
def rI:Ann:=⟨sh [aa 1 I,aa 2 I,ag 3] [(3,co)],[dD 6 .bool,kG 0],mC⟩
def iG(x:(Q38×Int×Int×Unit)):Option (Bool×Unit):=
 let((a,b,c,d,e,_),f,g,_):=x;(mC (a,b,c,d,e,f,g,())).bind (A1 (λz2=>some (z2.1,())) (A1 (λz3=>some (false,())) (λ_=>none)))
def An:=mG [] [(1,rI)] 115 Tryz.f115 [(.rd,yQ49),(.rd,I),(.rd,I)] [(.tmp 6,true,.bool)] iG [lp 1 rI eY]
def eQ(x:Q63):Option (Q63⊕((Bool×Unit)⊕(Q60⊕Empty))):=
 let(a,b,c,d,e,f,g,h,i,_):=x;cond (ltI i h) ((iG ((a,b,c,d,e,()),h,i,())).bind λr1=>cond (!r1.1) ((iG ((a,b,c,d,e,()),i,h,())).bind λr2=>cond (!r2.1) ((ai g h).bind λy3=>(ai g i).bind λy4=>(dY (y3,y4,())).bind λr5=>cond r5.1 (some (.inr (.inl (true,())))) (some (.inl (a,b,c,d,e,f,g,h,(af .i64 i 1),())))) (some (.inl (a,b,c,d,e,f,g,h,(af .i64 i 1),())))) (some (.inl (a,b,c,d,e,f,g,h,(af .i64 i 1),())))) (some (.inr (.inr (.inl (a,b,c,d,e,f,g,h,())))))
def iZ:=ab eQ
def nW:Ann:=⟨sh [aa 1 (.slice yQ4),aa 2 (.slice yQ4),ag 3,aa 9 I,aa 12 I] [(3,co)],[dD 6 .bool,(.exit 8,L0)],iZ⟩
def di(x:Q66):Option (Q66⊕((Bool×Unit)⊕(Q60⊕Empty))):=
 let(a,b,c,d,e,f,g,h,i,k,_):=x;cond (ltI k (g.length:Nat)) ((oA (f,k,())).bind λr1=>cond (!r1.1) ((ai g k).bind λy2=>(ai h i).bind λy3=>(dY (y2,y3,())).bind λr4=>cond r4.1 (some (.inr (.inl (true,())))) (some (.inl (a,b,c,d,e,f,g,h,i,(af .i64 k 1),())))) (some (.inl (a,b,c,d,e,f,g,h,i,(af .i64 k 1),())))) (some (.inr (.inr (.inl (a,b,c,d,e,g,h,i,())))))
def i8:=ab di
def nN:Ann:=⟨sh [aa 1 (.slice yQ4),aa 2 (.slice yQ4),ag 3,aa 9 I,ay 10,aa 11 I] [(3,co),(10,.arr I)],[dD 6 .bool,(.exit 6,L0)],i8⟩
def eN(x:Q60):Option (Q60⊕((Bool×Unit)⊕(Unit⊕Empty))):=
 let(a,b,c,d,e,f,g,h,_):=x;cond (ltI h (g.length:Nat)) ((ju ((a,b,c,d,e,()),h,())).bind λr1=>(i8 (a,b,c,d,e,r1.1,f,g,h,0,())).bind (A1 (λz3=>some (.inr (.inl (z3.1,())))) (A1 (λ(a_4,b_4,c_4,d_4,e_4,f_4,g_4,h_4,_)=>(iZ (a_4,b_4,c_4,d_4,e_4,f_4,g_4,h_4,0,())).bind (A1 (λz6=>some (.inr (.inl (z6.1,())))) (A1 (λ(a_7,b_7,c_7,d_7,e_7,f_7,g_7,h_7,_)=>some (.inl (a_7,b_7,c_7,d_7,e_7,f_7,g_7,(af .i64 h_7 1),()))) (λ_=>none)))) (λ_=>none)))) (some (.inr (.inr (.inl ()))))
def i6:=ab eN
def nE:Ann:=⟨L0,[dD 6 .bool,kG 4],i6⟩
def dG(x:Q63):Option (Q63⊕((Bool×Unit)⊕(Q60⊕Empty))):=
 let(a,b,c,d,e,f,g,h,i,_):=x;cond (ltI i h) ((ai f h).bind λy1=>(ai f i).bind λy2=>(dY (y1,y2,())).bind λr3=>cond r3.1 (some (.inr (.inl (true,())))) (some (.inl (a,b,c,d,e,f,g,h,(af .i64 i 1),())))) (some (.inr (.inr (.inl (a,b,c,d,e,f,g,h,())))))
def jM:=ab dG
def ph:Ann:=⟨sh [aa 1 (.slice yQ4),aa 2 (.slice yQ4),ag 3,aa 7 I,aa 8 I] [(3,co)],[dD 6 .bool,(.exit 2,Rq)],jM⟩
def fk(x:Q60):Option (Q60⊕((Bool×Unit)⊕(Q55⊕Empty))):=
 let(a,b,c,d,e,f,g,h,_):=x;cond (ltI h (f.length:Nat)) ((jM (a,b,c,d,e,f,g,h,0,())).bind (A1 (λz2=>some (.inr (.inl (z2.1,())))) (A1 (λ(a_3,b_3,c_3,d_3,e_3,f_3,g_3,h_3,_)=>some (.inl (a_3,b_3,c_3,d_3,e_3,f_3,g_3,(af .i64 h_3 1),()))) (λ_=>none)))) (some (.inr (.inr (.inl (a,b,c,d,e,f,g,())))))
def jR:=ab fk
def oZ:Ann:=⟨Rq,[dD 6 .bool,(.exit 0,Py)],jR⟩
def iB(x:(Q38×(List Q12)×(List Q12)×Unit)):Option (Bool×Unit):=
 let((a,b,c,d,e,_),f,g,_):=x;(jR (a,b,c,d,e,f,g,0,())).bind (A1 (λz2=>some (z2.1,())) (A1 (λ(a_3,b_3,c_3,d_3,e_3,f_3,g_3,_)=>(i6 (a_3,b_3,c_3,d_3,e_3,f_3,g_3,0,())).bind (A1 (λz5=>some (z5.1,())) (A1 (λz6=>some (false,())) (λ_=>none)))) (λ_=>none)))
def xA:=mG [qb,xV,CS,An] [(2,oZ),(5,ph),(10,nE),(14,nN),(19,nW)] 61 Tryz.f61 [(.rd,yQ49),(.rd,(.slice yQ4)),(.rd,(.slice yQ4))] [(.tmp 6,true,.bool)] iB [lp 2 oZ fk,lp 5 ph dG,lp 10 nE eN,lp 14 nN di,lp 19 nW eQ]
def gR(x:Q75):Option (Q75⊕((Int×Unit)⊕(Q55⊕Empty))):=
 let(a,b,c,d,e,f,g,h,i,k,l,m,n,_):=x;cond (ltI n (m.length:Nat)) ((ai m n).bind λy1=>(ai e n).bind λy2=>(gv (y1,m,y2.2.1,i,())).bind λr3=>cond (!r3.1) (some (.inr (.inl (3,())))) (some (.inl (a,b,c,d,e,f,g,h,i,k,l,m,(af .i64 n 1),())))) (some (.inr (.inr (.inl (a,b,c,d,e,l,m,())))))
def lw:=ab gR
def qk:Ann:=⟨sh [aa 2 (.slice yQ4),aa 3 (.slice yQ4),ag 4,ag 5,aa 12 I] [(4,co),(5,AF)],[dD 8 I,(.exit 4,sh [aa 2 (.slice yQ4),aa 3 (.slice yQ4),ag 4] [(4,co)])],lw⟩
def gK(x:Q75):Option (Q75⊕((Int×Unit)⊕(Q70⊕Empty))):=
 let(a,b,c,d,e,f,g,h,i,k,l,m,n,_):=x;cond (ltI n (l.length:Nat)) ((ai l n).bind λy1=>(ai c n).bind λy2=>(gv (y1,m,y2.2.2.2.2.1,i,())).bind λr3=>cond (!r3.1) (some (.inr (.inl (3,())))) (some (.inl (a,b,c,d,e,f,g,h,i,k,l,m,(af .i64 n 1),())))) (some (.inr (.inr (.inl (a,b,c,d,e,f,g,h,i,k,l,m,())))))
def kZ:=ab gK
def ql:Ann:=⟨sh [aa 2 (.slice yQ4),aa 3 (.slice yQ4),ag 4,ag 5,aa 11 I] [(4,co),(5,AF)],[dD 8 I,(.exit 2,LT)],kZ⟩
def iq(x:Q75):Option (Q75⊕((Int×Unit)⊕(Q70⊕Empty))):=
 let(a,b,c,d,e,f,g,h,i,k,l,m,n,_):=x;cond (ltI n (l.length:Nat)) ((ai l n).bind λy1=>(ai l n).bind λy2=>(ai c n).bind λy3=>cond (neI (aK .i64 y1.2.2.1 y2.1) y3.2.2.1) (some (.inr (.inl (13,())))) ((ai l n).bind λy4=>(ai l n).bind λy5=>(ai c n).bind λy6=>cond (neI (aK .i64 y4.2.2.2.1 y5.2.1) y6.2.2.2.1) (some (.inr (.inl (13,())))) (some (.inl (a,b,c,d,e,f,g,h,i,k,l,m,(af .i64 n 1),()))))) (some (.inr (.inr (.inl (a,b,c,d,e,f,g,h,i,k,l,m,())))))
def l9:=ab iq
def sk:Ann:=⟨sh [aa 2 (.slice yQ4),aa 3 (.slice yQ4),ag 4,ag 5,aa 10 I] [(4,co),(5,AF)],[dD 8 I,(.exit 0,LT)],l9⟩
def cG(x:(Q38×Q22×(List Q12)×(List Q12)×Unit)):Option (Int×Unit):=
 let((a,b,c,d,e,_),(f,g,h,i,k,_),l,m,_):=x;(bJ ((a,b,c,d,e,()),())).bind λr1=>cond (neI r1.1 0) (some (r1.1,())) ((bQ ((f,g,h,i,k,()),())).bind λr2=>cond (!r2.1) (some (7,())) ((iz (l,(c.length:Nat),())).bind λr3=>cond (!r3.1) (some (1,())) ((iz (m,(e.length:Nat),())).bind λr4=>cond (!r4.1) (some (1,())) ((l9 (a,b,c,d,e,f,g,h,i,k,l,m,0,())).bind (A1 (λz6=>some (z6.1,())) (A1 (λ(a_7,b_7,c_7,d_7,e_7,f_7,g_7,h_7,i_7,k_7,l_7,m_7,_)=>(kZ (a_7,b_7,c_7,d_7,e_7,f_7,g_7,h_7,i_7,k_7,l_7,m_7,0,())).bind (A1 (λz9=>some (z9.1,())) (A1 (λ(a_10,b_10,c_10,d_10,e_10,f_10,g_10,h_10,i_10,k_10,l_10,m_10,_)=>(lw (a_10,b_10,c_10,d_10,e_10,f_10,g_10,h_10,i_10,k_10,l_10,m_10,0,())).bind (A1 (λz12=>some (z12.1,())) (A1 (λ(a_13,b_13,c_13,d_13,e_13,f_13,g_13,_)=>(iB ((a_13,b_13,c_13,d_13,e_13,()),f_13,g_13,())).bind λr14=>cond r14.1 (some (14,())) (some (0,()))) (λ_=>none)))) (λ_=>none)))) (λ_=>none)))))))
def Am:=mG [mv,jo,Av,x9,xA] [(9,sk),(14,ql),(19,qk)] 25 Tryz.f25 [(.rd,yQ49),(.rd,yQ5),(.rd,(.slice yQ4)),(.rd,(.slice yQ4))] [(.tmp 8,true,I)] cG [lp 9 sk iq,lp 14 ql gK,lp 19 qk gR]
def iu(x:Q90):Option (Q90⊕(Q88⊕Empty)):=
 let(a,b,c,d,e,f,g,h,i,k,l,m,n,o,p,q,s,t,u,w,w0,w1,w2,_):=x;let t_0:=(gw ((jV .i64 1000 w2),())).bind λr4=>(yS (ByteArray.mk #[115,105,122,101,32]) r4.1).bind λy5=>(app w1 [y5]).bind λa6=>some (.inl (a,b,c,d,e,f,g,h,i,k,l,m,n,o,p,q,s,t,u,w,w0,a6,(af .i64 w2 1),()));cond (ltI w2 (c.length:Nat)) ((ai l w2).bind λy1=>(ai l w2).bind λy2=>(ai c w2).bind λy3=>cond (neI (aK .i64 y1.2.2.1 y2.1) y3.2.2.1) t_0 ((ai l w2).bind λy7=>(ai l w2).bind λy8=>(ai c w2).bind λy9=>cond (neI (aK .i64 y7.2.2.2.1 y8.2.1) y9.2.2.2.1) t_0 (some (.inl (a,b,c,d,e,f,g,h,i,k,l,m,n,o,p,q,s,t,u,w,w0,w1,(af .i64 w2 1),()))))) (some (.inr (.inl (a,b,c,d,e,f,g,h,i,k,l,m,n,o,p,q,s,t,u,w,w0,w1,()))))
def l6:=ab iu
def rE:Ann:=⟨sh [ag 3,ag 4,ag 5,ay 7,aa 8 I] [(3,co),(4,AF),(5,qj),(7,.arr .str)],[(.exit 0,Rj)],l6⟩
def iM(x:Q57):Option Q7:=
 let((a,b,c,d,e,_),(f,g,h,i,k,_),(l,m,n,o,(p,q,s,t,_),u,w,w0,_),_):=x;(bQ ((f,g,h,i,k,()),())).bind λr1=>cond (!r1.1) (some ([(ByteArray.mk #[102,105,116])],())) ((eH ((a,b,c,d,e,()),(l,m,n,o,(p,q,s,t,()),u,w,w0,()),())).bind λr2=>cond (!r2.1) (some ([(ByteArray.mk #[102,105,116])],())) ((l6 (a,b,c,d,e,f,g,h,i,k,l,m,n,o,p,q,s,t,u,w,w0,[],0,())).bind (A1 (λ(a_4,b_4,c_4,d_4,e_4,f_4,g_4,h_4,i_4,k_4,l_4,m_4,n_4,o_4,p_4,q_4,s_4,t_4,u_4,w_4,w0_4,w1_4,_)=>(me ((a_4,b_4,c_4,d_4,e_4,()),(l_4,m_4,n_4,o_4,(p_4,q_4,s_4,t_4,()),u_4,w_4,w0_4,()),())).bind λr5=>cond (neI r5.1 0) ((app w1_4 [(ByteArray.mk #[111,118,101,114,108,97,112])]).bind λa6=>(gx ((l_4,m_4,n_4,o_4,(p_4,q_4,s_4,t_4,()),u_4,w_4,w0_4,()),())).bind λr7=>cond (!((eqI p_4 r7.1.1)&&((eqI q_4 r7.1.2.1)&&((eqI s_4 r7.1.2.2.1)&&((eqI t_4 r7.1.2.2.2.1)&&true))))) ((app a6 [(ByteArray.mk #[98,111,117,110,100,115])]).bind λa8=>cond (eqI (e_4.length:Nat) 0) ((cW ((a_4,b_4,c_4,d_4,e_4,()),(f_4,g_4,h_4,i_4,k_4,()),(l_4,m_4,n_4,o_4,(p_4,q_4,s_4,t_4,()),u_4,w_4,w0_4,()),())).bind λr9=>(app a8 r9.1).bind λa10=>some (a10,())) ((cG ((a_4,b_4,c_4,d_4,e_4,()),(f_4,g_4,h_4,i_4,k_4,()),l_4,m_4,())).bind λr11=>cond (neI r11.1 0) ((app a8 [(ByteArray.mk #[99,108,117,115,116,101,114,115])]).bind λa12=>some (a12,())) (some (a8,())))) (cond (eqI (e_4.length:Nat) 0) ((cW ((a_4,b_4,c_4,d_4,e_4,()),(f_4,g_4,h_4,i_4,k_4,()),(l_4,m_4,n_4,o_4,(p_4,q_4,s_4,t_4,()),u_4,w_4,w0_4,()),())).bind λr13=>(app a6 r13.1).bind λa14=>some (a14,())) ((cG ((a_4,b_4,c_4,d_4,e_4,()),(f_4,g_4,h_4,i_4,k_4,()),l_4,m_4,())).bind λr15=>cond (neI r15.1 0) ((app a6 [(ByteArray.mk #[99,108,117,115,116,101,114,115])]).bind λa16=>some (a16,())) (some (a6,()))))) ((gx ((l_4,m_4,n_4,o_4,(p_4,q_4,s_4,t_4,()),u_4,w_4,w0_4,()),())).bind λr17=>cond (!((eqI p_4 r17.1.1)&&((eqI q_4 r17.1.2.1)&&((eqI s_4 r17.1.2.2.1)&&((eqI t_4 r17.1.2.2.2.1)&&true))))) ((app w1_4 [(ByteArray.mk #[98,111,117,110,100,115])]).bind λa18=>cond (eqI (e_4.length:Nat) 0) ((cW ((a_4,b_4,c_4,d_4,e_4,()),(f_4,g_4,h_4,i_4,k_4,()),(l_4,m_4,n_4,o_4,(p_4,q_4,s_4,t_4,()),u_4,w_4,w0_4,()),())).bind λr19=>(app a18 r19.1).bind λa20=>some (a20,())) ((cG ((a_4,b_4,c_4,d_4,e_4,()),(f_4,g_4,h_4,i_4,k_4,()),l_4,m_4,())).bind λr21=>cond (neI r21.1 0) ((app a18 [(ByteArray.mk #[99,108,117,115,116,101,114,115])]).bind λa22=>some (a22,())) (some (a18,())))) (cond (eqI (e_4.length:Nat) 0) ((cW ((a_4,b_4,c_4,d_4,e_4,()),(f_4,g_4,h_4,i_4,k_4,()),(l_4,m_4,n_4,o_4,(p_4,q_4,s_4,t_4,()),u_4,w_4,w0_4,()),())).bind λr23=>(app w1_4 r23.1).bind λa24=>some (a24,())) ((cG ((a_4,b_4,c_4,d_4,e_4,()),(f_4,g_4,h_4,i_4,k_4,()),l_4,m_4,())).bind λr25=>cond (neI r25.1 0) ((app w1_4 [(ByteArray.mk #[99,108,117,115,116,101,114,115])]).bind λa26=>some (a26,())) (some (w1_4,())))))) (λ_=>none))))
def zW:=mG [mv,oS,yF,wS,yB,Aj,Am] [(5,rE)] 9 Tryz.f9 [(.rd,yQ49),(.rd,yQ5),(.rd,yQ38)] [(.tmp 6,true,(.slice .str))] iM [lp 5 rE iu]
def fO(x:(List ByteArray×List ByteArray×Int×Unit)):Option ((List ByteArray×List ByteArray×Int×Unit)⊕((Bool×Unit)⊕(Unit⊕Empty))):=
 let(a,b,c,_):=x;cond (ltI c (a.length:Nat)) ((ai a c).bind λy1=>(ai b c).bind λy2=>cond (neS y1 y2) (some (.inr (.inl (false,())))) (some (.inl (a,b,(af .i64 c 1),())))) (some (.inr (.inr (.inl ()))))
def nB:=ab fO
def sW:Ann:=⟨sh [aa 0 (.slice .str),aa 1 (.slice .str),aa 5 I] [],[dD 4 .bool,kG 0],nB⟩
def mY(x:(List ByteArray×List ByteArray×Unit)):Option (Bool×Unit):=
 cond (neI (x.1.length:Nat) (x.2.1.length:Nat)) (some (false,())) ((nB (x.1,x.2.1,0,())).bind (A1 (λz2=>some (z2.1,())) (A1 (λz3=>some (true,())) (λ_=>none))))
def oQ:=mG [] [(4,sW)] 7 Tryz.f7 [(.rd,(.slice .str)),(.rd,(.slice .str))] [(.tmp 4,true,.bool)] mY [lp 4 sW fO]
end
end Go.Vm

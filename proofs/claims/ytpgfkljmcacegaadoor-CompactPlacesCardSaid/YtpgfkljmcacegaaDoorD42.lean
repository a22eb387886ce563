/-
 The functions that the law reaches, as functions on values, and the proofs that the machine computes them.
-/
import Derived.Test.YtpgfkljmcacegaaDoorVmA
import Derived.Test.YtpgfkljmcacegaaDoorProg
import Derived.KernelRfl
set_option linter.unusedVariables false
set_option linter.unusedSimpArgs false
namespace Go.Vm
open Go.Proofs
abbrev I : Ty := .int .i64
abbrev yQ1 : Ty := .prod I .unit
abbrev yQ2 : Ty := .prod I yQ1
abbrev yQ3 : Ty := .prod yQ2 .unit
abbrev yQ4 : Ty := .prod yQ2 yQ3
abbrev yQ5 : Ty := .slice (.slice I)
abbrev yQ6 : Ty := .prod yQ5 .unit
abbrev yQ7 : Ty := .prod (.slice yQ2) yQ6
abbrev yQ8 : Ty := .prod I yQ7
abbrev yQ9 : Ty := .prod (.slice .str) yQ1
abbrev yQ10 : Ty := .prod (.slice I) yQ9
abbrev yQ11 : Ty := .prod yQ8 yQ10
abbrev Q1 := List Int × Unit
abbrev Q2 := Int × Int × Unit
abbrev Q3 := Q2 × Q2 × Unit
abbrev Q4 := ByteArray × Unit
abbrev Q5 := List Int × Int × Unit
abbrev Q6 := (List (List Int)) × Unit
abbrev Q7 := List Int × Int × Int × Unit
abbrev Q8 := List Int × Int × Int × Int × Unit
abbrev Q9 := Int × (List Q2) × (List (List Int)) × Unit
abbrev Q10 := Q9 × List Int × List ByteArray × Int × Unit
abbrev Q11 := List Int × (List (List Int)) × Int × Int × Unit
abbrev Q12 := Int × (List Q2) × (List (List Int)) × Int × Unit
abbrev Q13 := List Int × List Int × List Int × Int × Int × Unit
abbrev Q14 := (List (Q2 × Bool)) × (List Q2) × Int × Int × Unit
abbrev Q15 := List Int × List Int × (List Q2) × Int × Int × Unit
abbrev Q16 := (List (List Int)) × List Int × List Bool × Int × Unit
abbrev Q17 := Int × (List Q2) × (List (List Int)) × Int × Int × Unit
abbrev Q18 := List Int × List Bool × (List (List Int)) × Int × Int × Unit
abbrev Q19 := Int × (List Q2) × (List (List Int)) × List Int × Int × Unit
abbrev Q20 := Int × (List Q2) × (List (List Int)) × List Int × Int × Int × Unit
abbrev Q21 := Int × (List Q2) × (List (List Int)) × (List Q2) × Int × Int × Unit
abbrev Q22 := (List (List Int)) × List Int × List Bool × List Int × Int × Int × Unit
abbrev Q23 := Int × (List Q2) × (List (List Int)) × List Bool × List Int × Int × Unit
abbrev Q24 := Int × (List Q2) × (List (List Int)) × List Bool × Int × Int × Int × Unit
abbrev Q25 := List Int × List Bool × (List (List Int)) × List Int × Int × Int × Int × Unit
abbrev Q26 := Int × (List Q2) × (List (List Int)) × List Int × Int × List Int × Int × Unit
abbrev Q27 := Int × (List Q2) × (List (List Int)) × List Int × List Bool × Int × Int × Unit
abbrev Q28 := Int × (List Q2) × (List (List Int)) × Int × (List (List Int)) × Int × Int × Unit
abbrev Q29 := List Int × List Int × (List (List Int)) × Int × Int × List Int × Int × Int × Unit
abbrev Q30 := Int × (List Q2) × (List (List Int)) × List Int × List ByteArray × Int × Int × Unit
abbrev Q31 := Int × (List Q2) × (List (List Int)) × List Bool × List Int × Int × Int × Int × Unit
abbrev Q32 := Int × (List Q2) × (List (List Int)) × List Int × List Bool × Int × Int × Int × Unit
abbrev Q33 := Int × (List Q2) × (List (List Int)) × List Int × List ByteArray × Int × List Int × Unit
abbrev Q34 := Int × (List Q2) × (List (List Int)) × List Int × List ByteArray × Int × Int × Int × Unit
abbrev Q35 := Int × (List Q2) × (List (List Int)) × List Int × List ByteArray × Int × (List Q2) × Unit
abbrev Q36 := Int × (List Q2) × (List (List Int)) × List Bool × Int × (List (List Int)) × Int × Int × Unit
abbrev Q37 := Int × (List Q2) × (List (List Int)) × List Int × List ByteArray × Int × List Int × Int × Unit
abbrev Q38 := Int × (List Q2) × (List (List Int)) × List Bool × List Int × Int × List Int × Int × Int × Unit
abbrev Q39 := Int × (List Q2) × (List (List Int)) × List Int × List ByteArray × Int × Int × Int × Int × Unit
abbrev Q40 := Int × (List Q2) × (List (List Int)) × List Int × List ByteArray × Int × List Int × Bool × Unit
abbrev Q41 := Int × (List Q2) × (List (List Int)) × List Int × List ByteArray × Int × List Int × List Int × Unit
abbrev Q42 := Int × (List Q2) × (List (List Int)) × List Int × List ByteArray × Int × List Int × Int × Int × Unit
abbrev Q43 := Int × (List Q2) × (List (List Int)) × List Int × List ByteArray × Int × List Int × Bool × Int × Unit
abbrev Q44 := Int × (List Q2) × (List (List Int)) × List Int × List ByteArray × Int × (List (List Int)) × Int × Unit
abbrev Q45 := Int × (List Q2) × (List (List Int)) × List Int × List ByteArray × Int × List Int × List Int × Int × Unit
abbrev Q46 := Int × (List Q2) × (List (List Int)) × List Int × List ByteArray × Int × Int × List Int × Int × Int × Unit
abbrev Q47 := Int × (List Q2) × (List (List Int)) × List Bool × List Int × Int × Int × Int × List Int × Int × Int × Unit
abbrev Q48 := Int × (List Q2) × (List (List Int)) × List Int × List ByteArray × Int × (List (List Int)) × Int × Int × Unit
abbrev Q49 := Int × (List Q2) × (List (List Int)) × List Int × List ByteArray × Int × List Int × List Int × Int × Bool × Unit
abbrev Q50 := Int × (List Q2) × (List (List Int)) × List Int × List ByteArray × Int × List Int × (List Q2) × Int × Int × Unit
abbrev Q51 := Int × (List Q2) × (List (List Int)) × List Int × List ByteArray × Int × (List Q2) × (List Q2) × Int × Int × Unit
abbrev Q52 := Int × (List Q2) × (List (List Int)) × List Int × List ByteArray × Int × Int × (List Q2) × (List (List Int)) × Unit
abbrev Q53 := Int × (List Q2) × (List (List Int)) × List Int × List ByteArray × Int × (List (List Int)) × Int × Int × Int × Unit
abbrev Q54 := Int × (List Q2) × (List (List Int)) × List Int × List ByteArray × Int × List Int × List Int × Int × Int × Int × Unit
abbrev Q55 := Int × (List Q2) × (List (List Int)) × List Int × List ByteArray × Int × List Int × List Int × (List Q2) × Int × Unit
abbrev Q56 := Int × (List Q2) × (List (List Int)) × List Int × List ByteArray × Int × List Int × Bool × Int × List Int × Int × Unit
abbrev Q57 := Int × (List Q2) × (List (List Int)) × List Int × List ByteArray × Int × List Int × List Int × Int × Int × Bool × Unit
abbrev Q58 := Int × (List Q2) × (List (List Int)) × List Int × List ByteArray × Int × (List (List Int)) × Int × Int × Int × Int × Unit
abbrev Q59 := Int × (List Q2) × (List (List Int)) × List Bool × Int × Int × (List (List Int)) × Int × Int × List Int × Int × Int × Unit
abbrev Q60 := Int × (List Q2) × (List (List Int)) × List Int × List ByteArray × Int × List Int × List Int × Int × Int × Bool × Int × Unit
abbrev Q61 := Int × (List Q2) × (List (List Int)) × List Int × List ByteArray × Int × List Int × Int × (List (List Int)) × Int × Int × Unit
abbrev Q62 := Int × (List Q2) × (List (List Int)) × List Int × List ByteArray × Int × (List (List Int)) × List Int × Int × Int × Int × Unit
abbrev Q63 := Int × (List Q2) × (List (List Int)) × List Int × List ByteArray × Int × Int × (List Q2) × (List (List Int)) × Int × Int × Unit
abbrev Q64 := Int × (List Q2) × (List (List Int)) × List Int × List ByteArray × Int × List Int × List Int × List Int × Int × Int × Int × Unit
abbrev Q65 := Int × (List Q2) × (List (List Int)) × List Int × List ByteArray × Int × List Int × List Int × Int × Int × Int × Int × Int × Unit
abbrev Q66 := Int × (List Q2) × (List (List Int)) × List Int × List ByteArray × Int × List Int × List Int × Int × Bool × List Int × Int × Int × Unit
abbrev Q67 := Int × (List Q2) × (List (List Int)) × List Int × List ByteArray × Int × (List (List Int)) × Int × Int × Int × Int × List Int × Int × Int × Unit
abbrev Q68 := Int × (List Q2) × (List (List Int)) × List Int × List ByteArray × Int × List Int × Int × (List (List Int)) × Int × Int × List Int × Int × Int × Unit
abbrev Q69 := Int × (List Q2) × (List (List Int)) × List Int × List ByteArray × Int × (List (List Int)) × List Int × Int × Int × Int × List Int × Int × Int × Unit
abbrev Q70 := Int × (List Q2) × (List (List Int)) × List Int × List ByteArray × Int × Int × Int × (List Q2) × (List Q2) × Int × Int × (List Q2) × Int × Int × Unit
abbrev Q71 := Int × (List Q2) × (List (List Int)) × List Int × List ByteArray × Int × List Int × List Int × List Int × Int × Int × Int × List Int × Int × Int × Unit
noncomputable section
def tab : Tab := [(2, I), (3, I), (4, .bool), (5, (.int .u8)), (6, (.int .u8)), (7, (.prod I (.prod I (.prod .bool (.prod (.int .u8) .unit))))), (8, (.prod I (.prod I (.prod .bool (.prod (.int .u8) .unit))))), (9, .str), (10, .str), (11, .str), (12, (.int .u64)), (13, (.prod .str (.prod (.int .u64) .unit))), (14, (.prod .str (.prod (.int .u64) .unit))), (21, (.int .i32)), (22, (.slice yQ2)), (23, yQ5), (24, yQ8), (25, yQ8), (26, (.slice I)), (27, (.slice .str)), (28, yQ11), (29, yQ11), (32, I), (36, (.slice yQ2)), (41, yQ2), (42, yQ2), (53, yQ2), (54, yQ2), (62, (.arr 2 I)), (63, (.arr 2 (.arr 2 I))), (66, yQ4), (67, yQ4), (71, (.slice .bool)), (77, yQ4), (78, yQ4), (84, (.slice (.int .u8))), (99, (.int .u32)), (100, (.int .u8)), (101, (.int .u8)), (104, (.int .i32)), (105, (.int .i32))]
def eqs : List Nat := [42]
def maps : List (Nat × Ty × Ty) := [(64, yQ2, .bool)]
def glob : List (Nat × (Σ t : Ty, t.den)) := [(0, ⟨(.arr 2 I), [16384, 32768]⟩)]
set_option maxRecDepth 100000
def Zu_H4 : Shape := { env := [(1, .av (.ptr 1 0)), (3, .av (.val I))], objs := [(1, .box [.val I, .val (.slice yQ2), .val yQ5, .val (.slice I), .val (.slice .str), .val I])] }
def Zu_E4 : List (Ex × Shape) := [(.ret, { env := [(2, .av (.val .bool))], objs := [] }), (.exit 0, { env := [], objs := [] })]
def Zu_B4 (x : Q30) : Option (Q30 ⊕ ((Bool × Unit) ⊕ (Unit ⊕ Empty))) :=
 let (a,b,c,d,e,f,g,_) := x; cond (ltI g (e.length : Nat)) ((getI e g).bind fun y1 => cond (gtI (y1.size : Nat) 70) (some (.inr (.inl (false,())))) (some (.inl (a,b,c,d,e,f,(addI .i64 g 1),())))) (some (.inr (.inr (.inl ()))))
def Zu_L4 : Q30 → Option ((Bool × Unit) ⊕ (Unit ⊕ Empty)) := loopFix Zu_B4
def Zu_A4 : Ann := { head := Zu_H4, exits := Zu_E4, fn := Zu_L4 }
def Zu_As : Anns := [(4, Zu_A4)]
def Zu (x : (Q10 × Unit)) : Option (Bool × Unit) :=
 let (((a,b,c,_),d,e,f,_),_) := x; cond (gtI a 30) (some (false,())) (cond (gtI (b.length : Nat) 40) (some (false,())) (cond (gtI (c.length : Nat) 40) (some (false,())) (cond (gtI (d.length : Nat) 100) (some (false,())) (cond (gtI (e.length : Nat) 100) (some (false,())) ((Zu_L4 (a,b,c,d,e,f,0,())).bind (Sum.elim (fun z2 => some (z2.1,())) (Sum.elim (fun z3 => some (true,())) (fun _ => none))))))))
def Zu_c : Con := { ins := [(.rd, yQ11)], outs := [(true, .bool)], fn := Zu }
def Zu_C : Ctx := { tab := tab, con := fun _ _ => none, glob := glob, eqs := eqs, maps := maps }
theorem Zu_R4 (x : Zu_H4.ty.den) : round Zu_C Zu_As Zu_A4 (loopBody 4 (bodyOf Tryd.f8)) x = Zu_B4 x := by kernel_rfl
theorem Zu_eq (x : (tupTy [yQ11]).den) : callFn Zu_C Zu_As (bodyOf Tryd.f8) [(.rd, yQ11)] [(.tmp 2, true, .bool)] x = Zu x := by kernel_rfl
def Zp_As : Anns := []
def Zp (x : Unit) : Option (Q10 × Unit) :=
 (makeL .str 8 8).bind fun m1 => some (((4,[(0,1,()),(1,2,()),(2,3,()),(3,0,())],[[0,7],[2,1],[4,3],[6,5]],()),[3,1,3,1,3,1,3,1],m1,1,()),())
def Zp_c : Con := { ins := [], outs := [(true, yQ11)], fn := Zp }
def Zp_C : Ctx := { tab := tab, con := fun _ _ => none, glob := glob, eqs := eqs, maps := maps }
theorem Zp_eq (x : (tupTy []).den) : callFn Zp_C Zp_As (bodyOf Tryd.f21) [] [(.cell 0 29, true, yQ11)] x = Zp x := by kernel_rfl
def Zbd_As : Anns := []
def Zbd (x : (Q2 × Int × Unit)) : Option (Int × Unit) :=
 cond (eqI x.2.1 0) (some (x.1.1,())) (some (x.1.2.1,()))
def Zbd_c : Con := { ins := [(.rd, yQ2), (.rd, I)], outs := [(true, I)], fn := Zbd }
def Zbd_C : Ctx := { tab := tab, con := fun _ _ => none, glob := glob, eqs := eqs, maps := maps }
theorem Zbd_eq (x : (tupTy [yQ2, I]).den) : callFn Zbd_C Zbd_As (bodyOf Tryd.f51) [(.rd, yQ2), (.rd, I)] [(.tmp 4, true, I)] x = Zbd x := by kernel_rfl
def Zax_H15 : Shape := { env := [(1, .av (.ptr 1 0)), (5, .av (.own 5)), (6, .av (.val I)), (7, .av (.val I)), (80, .av (.val yQ5)), (81, .av (.val I)), (82, .av (.val I)), (87, .av (.val (.slice I))), (88, .av (.val I)), (89, .av (.val I))], objs := [(1, .box [.val I, .val (.slice yQ2), .val yQ5]), (5, .arr .bool)] }
def Zax_E15 : List (Ex × Shape) := [(.ret, { env := [(2, .av (.val .bool))], objs := [] }), (.exit 4, { env := [(1, .av (.ptr 1 0)), (5, .av (.own 5)), (6, .av (.val I)), (80, .av (.val yQ5)), (81, .av (.val I)), (82, .av (.val I))], objs := [(1, .box [.val I, .val (.slice yQ2), .val yQ5]), (5, .arr .bool)] })]
def Zax_B15 (x : Q59) : Option (Q59 ⊕ ((Bool × Unit) ⊕ (Q36 ⊕ Empty))) :=
 let (a,b,c,d,e,f,g,h,i,k,l,m,_) := x; cond (ltI m l) ((getI k m).bind fun y1 => cond (ltI y1 0) (some (.inr (.inl (false,())))) (cond (geI y1 (d.length : Nat)) (some (.inr (.inl (false,())))) ((idxI d.length y1).bind fun j2 => (d[j2]?).bind fun y3 => cond y3 (some (.inr (.inl (false,())))) ((getI b (quoI .i64 y1 2)).bind fun y4 => (Zbd (y4,(remI y1 2),())).bind fun r5 => cond (neI r5.1 f) (some (.inr (.inl (false,())))) ((idxI d.length y1).bind fun j6 => (d[j6]?).bind fun y7 => some (.inl (a,b,c,(d.set j6 true),(addI .i64 e 1),f,g,h,i,k,l,(addI .i64 m 1),()))))))) (some (.inr (.inr (.inl (a,b,c,d,e,g,h,i,())))))
def Zax_L15 : Q59 → Option ((Bool × Unit) ⊕ (Q36 ⊕ Empty)) := loopFix Zax_B15
def Zax_A15 : Ann := { head := Zax_H15, exits := Zax_E15, fn := Zax_L15 }
def Zax_H12 : Shape := { env := [(1, .av (.ptr 1 0)), (5, .av (.own 5)), (6, .av (.val I)), (80, .av (.val yQ5)), (81, .av (.val I)), (82, .av (.val I))], objs := [(1, .box [.val I, .val (.slice yQ2), .val yQ5]), (5, .arr .bool)] }
def Zax_E12 : List (Ex × Shape) := [(.ret, { env := [(2, .av (.val .bool))], objs := [] }), (.exit 2, { env := [(5, .av (.own 5)), (6, .av (.val I))], objs := [(5, .arr .bool)] })]
def Zax_B12 (x : Q36) : Option (Q36 ⊕ ((Bool × Unit) ⊕ ((List Bool × Int × Unit) ⊕ Empty))) :=
 let (a,b,c,d,e,f,g,h,_) := x; cond (ltI h g) ((getI f h).bind fun y1 => (Zax_L15 (a,b,c,d,e,h,f,g,h,y1,(y1.length : Nat),0,())).bind (Sum.elim (fun z3 => some (.inr (.inl (z3.1,())))) (Sum.elim (fun (a_4,b_4,c_4,d_4,e_4,f_4,g_4,h_4,_) => some (.inl (a_4,b_4,c_4,d_4,e_4,f_4,g_4,(addI .i64 h_4 1),()))) (fun _ => none)))) (some (.inr (.inr (.inl (d,e,())))))
def Zax_L12 : Q36 → Option ((Bool × Unit) ⊕ ((List Bool × Int × Unit) ⊕ Empty)) := loopFix Zax_B12
def Zax_A12 : Ann := { head := Zax_H12, exits := Zax_E12, fn := Zax_L12 }
def Zax_H4 : Shape := { env := [(1, .av (.ptr 1 0)), (38, .av (.val (.slice yQ2))), (39, .av (.val I)), (40, .av (.val I))], objs := [(1, .box [.val I, .val (.slice yQ2), .val yQ5])] }
def Zax_E4 : List (Ex × Shape) := [(.ret, { env := [(2, .av (.val .bool))], objs := [] }), (.exit 0, { env := [(1, .av (.ptr 1 0))], objs := [(1, .box [.val I, .val (.slice yQ2), .val yQ5])] })]
def Zax_B4 (x : Q21) : Option (Q21 ⊕ ((Bool × Unit) ⊕ (Q9 ⊕ Empty))) :=
 let (a,b,c,d,e,f,_) := x; cond (ltI f e) ((getI d f).bind fun y1 => cond (ltI y1.1 0) (some (.inr (.inl (false,())))) (cond (geI y1.1 a) (some (.inr (.inl (false,())))) (cond (ltI y1.2.1 0) (some (.inr (.inl (false,())))) (cond (geI y1.2.1 a) (some (.inr (.inl (false,())))) (cond (eqI y1.1 y1.2.1) (some (.inr (.inl (false,())))) (some (.inl (a,b,c,d,e,(addI .i64 f 1),())))))))) (some (.inr (.inr (.inl (a,b,c,())))))
def Zax_L4 : Q21 → Option ((Bool × Unit) ⊕ (Q9 ⊕ Empty)) := loopFix Zax_B4
def Zax_A4 : Ann := { head := Zax_H4, exits := Zax_E4, fn := Zax_L4 }
def Zax_As : Anns := [(4, Zax_A4), (12, Zax_A12), (15, Zax_A15)]
def Zax (x : (Q9 × Unit)) : Option (Bool × Unit) :=
 let ((a,b,c,_),_) := x; cond (ltI a 0) (some (false,())) ((getI [16384,32768] 0).bind fun y1 => cond (gtI a y1) (some (false,())) ((getI [16384,32768] 1).bind fun y2 => cond (gtI (b.length : Nat) y2) (some (false,())) (cond (neI (c.length : Nat) a) (some (false,())) ((Zax_L4 (a,b,c,b,(b.length : Nat),0,())).bind (Sum.elim (fun z4 => some (z4.1,())) (Sum.elim (fun (a_5,b_5,c_5,_) => (makeL .bool (mulI .i64 2 (b_5.length : Nat)) (mulI .i64 2 (b_5.length : Nat))).bind fun m6 => (Zax_L12 (a_5,b_5,c_5,m6,0,c_5,(c_5.length : Nat),0,())).bind (Sum.elim (fun z8 => some (z8.1,())) (Sum.elim (fun z9 => some ((eqI z9.2.1 (z9.1.length : Nat)),())) (fun _ => none)))) (fun _ => none)))))))
def Zax_c : Con := { ins := [(.rd, yQ8)], outs := [(true, .bool)], fn := Zax }
def Zax_C : Ctx := { tab := tab, con := fun | 51, _ => some Zbd_c | _, _ => none, glob := glob, eqs := eqs, maps := maps }
theorem Zax_R15 (x : Zax_H15.ty.den) : round Zax_C Zax_As Zax_A15 (loopBody 15 (bodyOf Tryd.f50)) x = Zax_B15 x := by kernel_rfl
theorem Zax_R12 (x : Zax_H12.ty.den) : round Zax_C Zax_As Zax_A12 (loopBody 12 (bodyOf Tryd.f50)) x = Zax_B12 x := by kernel_rfl
theorem Zax_R4 (x : Zax_H4.ty.den) : round Zax_C Zax_As Zax_A4 (loopBody 4 (bodyOf Tryd.f50)) x = Zax_B4 x := by kernel_rfl
theorem Zax_eq (x : (tupTy [yQ8]).den) : callFn Zax_C Zax_As (bodyOf Tryd.f50) [(.rd, yQ8)] [(.tmp 2, true, .bool)] x = Zax x := by kernel_rfl
def Zbg_As : Anns := []
def Zbg (x : (Q9 × Int × Unit)) : Option (Int × Unit) :=
 let ((a,b,c,_),d,_) := x; (Zax ((a,b,c,()),())).bind fun r1 => cond (!r1.1) (some ((-1),())) (cond (ltI d 0) (some ((-1),())) (cond (geI d (mulI .i64 2 (b.length : Nat))) (some ((-1),())) ((getI b (quoI .i64 d 2)).bind fun y2 => (Zbd (y2,(remI d 2),())).bind fun r3 => some (r3.1,()))))
def Zbg_c : Con := { ins := [(.rd, yQ8), (.rd, I)], outs := [(true, I)], fn := Zbg }
def Zbg_C : Ctx := { tab := tab, con := fun | 50, _ => some Zax_c | 51, _ => some Zbd_c | _, _ => none, glob := glob, eqs := eqs, maps := maps }
theorem Zbg_eq (x : (tupTy [yQ8, I]).den) : callFn Zbg_C Zbg_As (bodyOf Tryd.f31) [(.rd, yQ8), (.rd, I)] [(.tmp 4, true, I)] x = Zbg x := by kernel_rfl
def Zar_H11 : Shape := { env := [(1, .av (.ptr 1 0)), (3, .av (.own 3)), (4, .av (.own 4)), (5, .av (.val I)), (39, .av (.val (.slice I))), (40, .av (.val I)), (41, .av (.val I))], objs := [(1, .box [.val I, .val (.slice yQ2), .val yQ5]), (3, .arr .bool), (4, .arr I)] }
def Zar_E11 : List (Ex × Shape) := [(.exit 2, { env := [(1, .av (.ptr 1 0)), (3, .av (.own 3)), (4, .av (.own 4)), (5, .av (.val I))], objs := [(1, .box [.val I, .val (.slice yQ2), .val yQ5]), (3, .arr .bool), (4, .arr I)] })]
def Zar_B11 (x : Q38) : Option (Q38 ⊕ (Q23 ⊕ Empty)) :=
 let (a,b,c,d,e,f,g,h,i,_) := x; cond (ltI i h) ((getI g i).bind fun y1 => (Zbg ((a,b,c,()),(xorI .i64 y1 1),())).bind fun r2 => (idxI d.length r2.1).bind fun j3 => (d[j3]?).bind fun y4 => cond (!y4) ((idxI d.length r2.1).bind fun j5 => (d[j5]?).bind fun y6 => (app e [r2.1]).bind fun a7 => some (.inl (a,b,c,(d.set j5 true),a7,f,g,h,(addI .i64 i 1),()))) (some (.inl (a,b,c,d,e,f,g,h,(addI .i64 i 1),())))) (some (.inr (.inl (a,b,c,d,e,f,()))))
def Zar_L11 : Q38 → Option (Q23 ⊕ Empty) := loopFix Zar_B11
def Zar_A11 : Ann := { head := Zar_H11, exits := Zar_E11, fn := Zar_L11 }
def Zar_H6 : Shape := { env := [(1, .av (.ptr 1 0)), (3, .av (.own 3)), (4, .av (.own 4)), (5, .av (.val I))], objs := [(1, .box [.val I, .val (.slice yQ2), .val yQ5]), (3, .arr .bool), (4, .arr I)] }
def Zar_E6 : List (Ex × Shape) := [(.exit 0, { env := [(1, .av (.ptr 1 0)), (5, .av (.val I))], objs := [(1, .box [.val I, .val (.slice yQ2), .val yQ5])] })]
def Zar_B6 (x : Q23) : Option (Q23 ⊕ (Q12 ⊕ Empty)) :=
 let (a,b,c,d,e,f,_) := x; cond (gtI (e.length : Nat) 0) ((idxI e.length (subI .i64 (e.length : Nat) 1)).bind fun j1 => (e[j1]?).bind fun y2 => (viewB e.length 0 (subI .i64 (e.length : Nat) 1)).bind fun v3 => (getI c y2).bind fun y4 => (Zar_L11 (a,b,c,d,((e.drop v3.1).take v3.2),(addI .i64 f 1),y4,(y4.length : Nat),0,())).bind (Sum.elim (fun (a_6,b_6,c_6,d_6,e_6,f_6,_) => some (.inl (a_6,b_6,c_6,d_6,e_6,f_6,()))) (fun _ => none))) (some (.inr (.inl (a,b,c,f,()))))
def Zar_L6 : Q23 → Option (Q12 ⊕ Empty) := loopFix Zar_B6
def Zar_A6 : Ann := { head := Zar_H6, exits := Zar_E6, fn := Zar_L6 }
def Zar_As : Anns := [(6, Zar_A6), (11, Zar_A11)]
def Zar (x : (Q9 × Unit)) : Option (Bool × Unit) :=
 let ((a,b,c,_),_) := x; cond (eqI a 0) (some (false,())) ((makeL .bool a a).bind fun m1 => (idxI m1.length 0).bind fun j2 => (m1[j2]?).bind fun y3 => (Zar_L6 (a,b,c,(m1.set j2 true),[0],0,())).bind (Sum.elim (fun z5 => some ((eqI z5.2.2.2.1 z5.1),())) (fun _ => none)))
def Zar_c : Con := { ins := [(.rd, yQ8)], outs := [(true, .bool)], fn := Zar }
def Zar_C : Ctx := { tab := tab, con := fun | 31, _ => some Zbg_c | _, _ => none, glob := glob, eqs := eqs, maps := maps }
theorem Zar_R11 (x : Zar_H11.ty.den) : round Zar_C Zar_As Zar_A11 (loopBody 11 (bodyOf Tryd.f74)) x = Zar_B11 x := by kernel_rfl
theorem Zar_R6 (x : Zar_H6.ty.den) : round Zar_C Zar_As Zar_A6 (loopBody 6 (bodyOf Tryd.f74)) x = Zar_B6 x := by kernel_rfl
theorem Zar_eq (x : (tupTy [yQ8]).den) : callFn Zar_C Zar_As (bodyOf Tryd.f74) [(.rd, yQ8)] [(.tmp 2, true, .bool)] x = Zar x := by kernel_rfl
def Zau_H6 : Shape := { env := [(3, .av (.own 3)), (5, .av (.val (.slice I))), (14, .av (.val yQ5)), (15, .av (.val I)), (16, .av (.val I)), (20, .av (.val (.slice I))), (21, .av (.val I)), (22, .av (.val I))], objs := [(3, .arr I)] }
def Zau_E6 : List (Ex × Shape) := [(.exit 2, { env := [(3, .av (.own 3)), (14, .av (.val yQ5)), (15, .av (.val I)), (16, .av (.val I))], objs := [(3, .arr I)] })]
def Zau_B6 (x : Q29) : Option (Q29 ⊕ (Q11 ⊕ Empty)) :=
 let (a,b,c,d,e,f,g,h,_) := x; cond (ltI h g) ((getI f h).bind fun y1 => cond (eqI (b.length : Nat) 0) none ((getI b (remI (addI .i64 h 1) (b.length : Nat))).bind fun y2 => (idxI a.length (xorI .i64 y1 1)).bind fun j3 => (a[j3]?).bind fun y4 => some (.inl ((a.set j3 y2),b,c,d,e,f,g,(addI .i64 h 1),())))) (some (.inr (.inl (a,c,d,e,()))))
def Zau_L6 : Q29 → Option (Q11 ⊕ Empty) := loopFix Zau_B6
def Zau_A6 : Ann := { head := Zau_H6, exits := Zau_E6, fn := Zau_L6 }
def Zau_H3 : Shape := { env := [(3, .av (.own 3)), (14, .av (.val yQ5)), (15, .av (.val I)), (16, .av (.val I))], objs := [(3, .arr I)] }
def Zau_E3 : List (Ex × Shape) := [(.exit 0, { env := [(3, .av (.own 3))], objs := [(3, .arr I)] })]
def Zau_B3 (x : Q11) : Option (Q11 ⊕ (Q1 ⊕ Empty)) :=
 let (a,b,c,d,_) := x; cond (ltI d c) ((getI b d).bind fun y1 => (Zau_L6 (a,y1,b,c,d,y1,(y1.length : Nat),0,())).bind (Sum.elim (fun z3 => some (.inl (z3.1,z3.2.1,z3.2.2.1,(addI .i64 z3.2.2.2.1 1),()))) (fun _ => none))) (some (.inr (.inl (a,()))))
def Zau_L3 : Q11 → Option (Q1 ⊕ Empty) := loopFix Zau_B3
def Zau_A3 : Ann := { head := Zau_H3, exits := Zau_E3, fn := Zau_L3 }
def Zau_As : Anns := [(3, Zau_A3), (6, Zau_A6)]
def Zau (x : (Q9 × Unit)) : Option Q1 :=
 let ((_,a,b,_),_) := x; (makeL I (mulI .i64 2 (a.length : Nat)) (mulI .i64 2 (a.length : Nat))).bind fun m1 => (Zau_L3 (m1,b,(b.length : Nat),0,())).bind (Sum.elim (fun z3 => some (z3.1,())) (fun _ => none))
def Zau_c : Con := { ins := [(.rd, yQ8)], outs := [(true, (.slice I))], fn := Zau }
def Zau_C : Ctx := { tab := tab, con := fun _ _ => none, glob := glob, eqs := eqs, maps := maps }
theorem Zau_R6 (x : Zau_H6.ty.den) : round Zau_C Zau_As Zau_A6 (loopBody 6 (bodyOf Tryd.f65)) x = Zau_B6 x := by kernel_rfl
theorem Zau_R3 (x : Zau_H3.ty.den) : round Zau_C Zau_As Zau_A3 (loopBody 3 (bodyOf Tryd.f65)) x = Zau_B3 x := by kernel_rfl
theorem Zau_eq (x : (tupTy [yQ8]).den) : callFn Zau_C Zau_As (bodyOf Tryd.f65) [(.rd, yQ8)] [(.tmp 2, true, (.slice I))] x = Zau x := by kernel_rfl
def Zav_H11 : Shape := { env := [(3, .av (.own 3)), (4, .av (.own 4)), (5, .av (.own 5)), (7, .av (.own 7)), (8, .av (.val I)), (18, .av (.val I)), (19, .av (.val I))], objs := [(3, .arr I), (4, .arr .bool), (5, .arr (.slice I)), (7, .arr I)] }
def Zav_E11 : List (Ex × Shape) := [(.exit 2, { env := [(3, .av (.own 3)), (4, .av (.own 4)), (5, .av (.own 5)), (7, .av (.own 7)), (18, .av (.val I)), (19, .av (.val I))], objs := [(3, .arr I), (4, .arr .bool), (5, .arr (.slice I)), (7, .arr I)] })]
def Zav_B11 (x : Q25) : Option (Q25 ⊕ ((List Int × List Bool × (List (List Int)) × List Int × Int × Int × Unit) ⊕ Empty)) :=
 let (a,b,c,d,e,f,g,_) := x; (idxI b.length e).bind fun j1 => (b[j1]?).bind fun y2 => cond (!y2) ((idxI b.length e).bind fun j3 => (b[j3]?).bind fun y4 => (app d [e]).bind fun a5 => (idxI a.length e).bind fun j6 => (a[j6]?).bind fun y7 => some (.inl (a,(b.set j3 true),c,a5,y7,f,g,()))) (some (.inr (.inl (a,b,c,d,f,g,()))))
def Zav_L11 : Q25 → Option ((List Int × List Bool × (List (List Int)) × List Int × Int × Int × Unit) ⊕ Empty) := loopFix Zav_B11
def Zav_A11 : Ann := { head := Zav_H11, exits := Zav_E11, fn := Zav_L11 }
def Zav_H7 : Shape := { env := [(3, .av (.own 3)), (4, .av (.own 4)), (5, .av (.own 5)), (18, .av (.val I)), (19, .av (.val I))], objs := [(3, .arr I), (4, .arr .bool), (5, .arr (.slice I))] }
def Zav_E7 : List (Ex × Shape) := [(.exit 0, { env := [(5, .av (.own 5))], objs := [(5, .arr (.slice I))] })]
def Zav_B7 (x : Q18) : Option (Q18 ⊕ (Q6 ⊕ Empty)) :=
 let (a,b,c,d,e,_) := x; cond (ltI e d) ((Zav_L11 (a,b,c,[],e,d,e,())).bind (Sum.elim (fun (a_2,b_2,c_2,d_2,e_2,f_2,_) => cond (gtI (d_2.length : Nat) 0) ((app c_2 [d_2]).bind fun a3 => some (.inl (a_2,b_2,a3,e_2,(addI .i64 f_2 1),()))) (some (.inl (a_2,b_2,c_2,e_2,(addI .i64 f_2 1),())))) (fun _ => none))) (some (.inr (.inl (c,()))))
def Zav_L7 : Q18 → Option (Q6 ⊕ Empty) := loopFix Zav_B7
def Zav_A7 : Ann := { head := Zav_H7, exits := Zav_E7, fn := Zav_L7 }
def Zav_As : Anns := [(7, Zav_A7), (11, Zav_A11)]
def Zav (x : (Q9 × Unit)) : Option Q6 :=
 let ((a,b,c,_),_) := x; (Zax ((a,b,c,()),())).bind fun r1 => cond (!r1.1) (some ([],())) ((Zau ((a,b,c,()),())).bind fun r2 => (makeL .bool (r2.1.length : Nat) (r2.1.length : Nat)).bind fun m3 => (Zav_L7 (r2.1,m3,[],(r2.1.length : Nat),0,())).bind (Sum.elim (fun z5 => some (z5.1,())) (fun _ => none)))
def Zav_c : Con := { ins := [(.rd, yQ8)], outs := [(true, yQ5)], fn := Zav }
def Zav_C : Ctx := { tab := tab, con := fun | 50, _ => some Zax_c | 65, _ => some Zau_c | _, _ => none, glob := glob, eqs := eqs, maps := maps }
theorem Zav_R11 (x : Zav_H11.ty.den) : round Zav_C Zav_As Zav_A11 (loopBody 11 (bodyOf Tryd.f48)) x = Zav_B11 x := by kernel_rfl
theorem Zav_R7 (x : Zav_H7.ty.den) : round Zav_C Zav_As Zav_A7 (loopBody 7 (bodyOf Tryd.f48)) x = Zav_B7 x := by kernel_rfl
theorem Zav_eq (x : (tupTy [yQ8]).den) : callFn Zav_C Zav_As (bodyOf Tryd.f48) [(.rd, yQ8)] [(.tmp 2, true, yQ5)] x = Zav x := by kernel_rfl
def Zl_H13 : Shape := { env := [(1, .av (.ptr 1 0)), (3, .av (.own 3)), (4, .av (.val I)), (6, .av (.own 6)), (14, .av (.val I)), (15, .av (.val I)), (40, .av (.val (.slice I))), (41, .av (.val I)), (42, .av (.val I))], objs := [(1, .box [.val I, .val (.slice yQ2), .val yQ5]), (3, .arr .bool), (6, .arr I)] }
def Zl_E13 : List (Ex × Shape) := [(.exit 4, { env := [(1, .av (.ptr 1 0)), (3, .av (.own 3)), (4, .av (.val I)), (6, .av (.own 6)), (14, .av (.val I)), (15, .av (.val I))], objs := [(1, .box [.val I, .val (.slice yQ2), .val yQ5]), (3, .arr .bool), (6, .arr I)] })]
def Zl_B13 (x : Q47) : Option (Q47 ⊕ (Q31 ⊕ Empty)) :=
 let (a,b,c,d,e,f,g,h,i,k,l,_) := x; cond (ltI l k) ((getI i l).bind fun y1 => (getI b (quoI .i64 y1 2)).bind fun y2 => (Zbd (y2,(xorI .i64 (remI y1 2) 1),())).bind fun r3 => (idxI d.length r3.1).bind fun j4 => (d[j4]?).bind fun y5 => cond (!y5) ((idxI d.length r3.1).bind fun j6 => (d[j6]?).bind fun y7 => (app e [r3.1]).bind fun a8 => some (.inl (a,b,c,(d.set j6 true),a8,f,g,h,i,k,(addI .i64 l 1),()))) (some (.inl (a,b,c,d,e,f,g,h,i,k,(addI .i64 l 1),())))) (some (.inr (.inl (a,b,c,d,e,f,g,h,()))))
def Zl_L13 : Q47 → Option (Q31 ⊕ Empty) := loopFix Zl_B13
def Zl_A13 : Ann := { head := Zl_H13, exits := Zl_E13, fn := Zl_L13 }
def Zl_H10 : Shape := { env := [(1, .av (.ptr 1 0)), (3, .av (.own 3)), (4, .av (.val I)), (6, .av (.own 6)), (14, .av (.val I)), (15, .av (.val I))], objs := [(1, .box [.val I, .val (.slice yQ2), .val yQ5]), (3, .arr .bool), (6, .arr I)] }
def Zl_E10 : List (Ex × Shape) := [(.exit 2, { env := [(1, .av (.ptr 1 0)), (3, .av (.own 3)), (4, .av (.val I)), (14, .av (.val I)), (15, .av (.val I))], objs := [(1, .box [.val I, .val (.slice yQ2), .val yQ5]), (3, .arr .bool)] })]
def Zl_B10 (x : Q31) : Option (Q31 ⊕ (Q24 ⊕ Empty)) :=
 let (a,b,c,d,e,f,g,h,_) := x; cond (gtI (e.length : Nat) 0) ((idxI e.length 0).bind fun j1 => (e[j1]?).bind fun y2 => (getI c y2).bind fun y3 => (Zl_L13 (a,b,c,d,e,f,g,h,y3,(y3.length : Nat),0,())).bind (Sum.elim (fun (a_5,b_5,c_5,d_5,e_5,f_5,g_5,h_5,_) => (viewB e_5.length 1 (e_5.length : Nat)).bind fun v6 => some (.inl (a_5,b_5,c_5,d_5,((e_5.drop v6.1).take v6.2),f_5,g_5,h_5,()))) (fun _ => none))) (some (.inr (.inl (a,b,c,d,f,g,h,()))))
def Zl_L10 : Q31 → Option (Q24 ⊕ Empty) := loopFix Zl_B10
def Zl_A10 : Ann := { head := Zl_H10, exits := Zl_E10, fn := Zl_L10 }
def Zl_H4 : Shape := { env := [(1, .av (.ptr 1 0)), (3, .av (.own 3)), (4, .av (.val I)), (14, .av (.val I)), (15, .av (.val I))], objs := [(1, .box [.val I, .val (.slice yQ2), .val yQ5]), (3, .arr .bool)] }
def Zl_E4 : List (Ex × Shape) := [(.exit 0, { env := [(4, .av (.val I))], objs := [] })]
def Zl_B4 (x : Q24) : Option (Q24 ⊕ ((Int × Unit) ⊕ Empty)) :=
 let (a,b,c,d,e,f,g,_) := x; cond (ltI g f) ((idxI d.length g).bind fun j1 => (d[j1]?).bind fun y2 => cond y2 (some (.inl (a,b,c,d,e,f,(addI .i64 g 1),()))) ((idxI d.length g).bind fun j3 => (d[j3]?).bind fun y4 => (Zl_L10 (a,b,c,(d.set j3 true),[g],(addI .i64 e 1),f,g,())).bind (Sum.elim (fun (a_6,b_6,c_6,d_6,e_6,f_6,g_6,_) => some (.inl (a_6,b_6,c_6,d_6,e_6,f_6,(addI .i64 g_6 1),()))) (fun _ => none)))) (some (.inr (.inl (e,()))))
def Zl_L4 : Q24 → Option ((Int × Unit) ⊕ Empty) := loopFix Zl_B4
def Zl_A4 : Ann := { head := Zl_H4, exits := Zl_E4, fn := Zl_L4 }
def Zl_As : Anns := [(4, Zl_A4), (10, Zl_A10), (13, Zl_A13)]
def Zl (x : (Q9 × Unit)) : Option (Int × Unit) :=
 let ((a,b,c,_),_) := x; (makeL .bool a a).bind fun m1 => (Zl_L4 (a,b,c,m1,0,a,0,())).bind (Sum.elim (fun z3 => some (z3.1,())) (fun _ => none))
def Zl_c : Con := { ins := [(.rd, yQ8)], outs := [(true, I)], fn := Zl }
def Zl_C : Ctx := { tab := tab, con := fun | 51, _ => some Zbd_c | _, _ => none, glob := glob, eqs := eqs, maps := maps }
theorem Zl_R13 (x : Zl_H13.ty.den) : round Zl_C Zl_As Zl_A13 (loopBody 13 (bodyOf Tryd.f84)) x = Zl_B13 x := by kernel_rfl
theorem Zl_R10 (x : Zl_H10.ty.den) : round Zl_C Zl_As Zl_A10 (loopBody 10 (bodyOf Tryd.f84)) x = Zl_B10 x := by kernel_rfl
theorem Zl_R4 (x : Zl_H4.ty.den) : round Zl_C Zl_As Zl_A4 (loopBody 4 (bodyOf Tryd.f84)) x = Zl_B4 x := by kernel_rfl
theorem Zl_eq (x : (tupTy [yQ8]).den) : callFn Zl_C Zl_As (bodyOf Tryd.f84) [(.rd, yQ8)] [(.tmp 2, true, I)] x = Zl x := by kernel_rfl
def Zaw_H5 : Shape := { env := [(1, .av (.ptr 1 0)), (3, .av (.val I)), (13, .av (.val yQ5)), (14, .av (.val I)), (15, .av (.val I))], objs := [(1, .box [.val I, .val (.slice yQ2), .val yQ5])] }
def Zaw_E5 : List (Ex × Shape) := [(.exit 0, { env := [(1, .av (.ptr 1 0)), (3, .av (.val I))], objs := [(1, .box [.val I, .val (.slice yQ2), .val yQ5])] })]
def Zaw_B5 (x : Q28) : Option (Q28 ⊕ (Q12 ⊕ Empty)) :=
 let (a,b,c,d,e,f,g,_) := x; cond (ltI g f) ((getI e g).bind fun y1 => cond (eqI (y1.length : Nat) 0) (some (.inl (a,b,c,(addI .i64 d 1),e,f,(addI .i64 g 1),()))) (some (.inl (a,b,c,d,e,f,(addI .i64 g 1),())))) (some (.inr (.inl (a,b,c,d,()))))
def Zaw_L5 : Q28 → Option (Q12 ⊕ Empty) := loopFix Zaw_B5
def Zaw_A5 : Ann := { head := Zaw_H5, exits := Zaw_E5, fn := Zaw_L5 }
def Zaw_As : Anns := [(5, Zaw_A5)]
def Zaw (x : (Q9 × Unit)) : Option (Int × Unit) :=
 let ((a,b,c,_),_) := x; (Zax ((a,b,c,()),())).bind fun r1 => cond (!r1.1) (some ((-1),())) ((Zav ((a,b,c,()),())).bind fun r2 => (Zaw_L5 (a,b,c,(r2.1.length : Nat),c,(c.length : Nat),0,())).bind (Sum.elim (fun z4 => (Zl ((z4.1,z4.2.1,z4.2.2.1,()),())).bind fun r5 => some ((subI .i64 r5.1 (quoI .i64 (addI .i64 (subI .i64 z4.1 (z4.2.1.length : Nat)) z4.2.2.2.1) 2)),())) (fun _ => none)))
def Zaw_c : Con := { ins := [(.rd, yQ8)], outs := [(true, I)], fn := Zaw }
def Zaw_C : Ctx := { tab := tab, con := fun | 48, _ => some Zav_c | 50, _ => some Zax_c | 84, _ => some Zl_c | _, _ => none, glob := glob, eqs := eqs, maps := maps }
theorem Zaw_R5 (x : Zaw_H5.ty.den) : round Zaw_C Zaw_As Zaw_A5 (loopBody 5 (bodyOf Tryd.f75)) x = Zaw_B5 x := by kernel_rfl
theorem Zaw_eq (x : (tupTy [yQ8]).den) : callFn Zaw_C Zaw_As (bodyOf Tryd.f75) [(.rd, yQ8)] [(.tmp 2, true, I)] x = Zaw x := by kernel_rfl
def Zbj_H6 : Shape := { env := [(1, .av (.ptr 1 0)), (4, .av (.val (.slice I))), (5, .av (.val I)), (10, .av (.val yQ5)), (11, .av (.val I)), (12, .av (.val I)), (16, .av (.val (.slice I))), (17, .av (.val I)), (18, .av (.val I))], objs := [(1, .box [.val I, .val (.slice yQ2), .val yQ5, .val (.slice I), .val (.slice .str), .val I])] }
def Zbj_E6 : List (Ex × Shape) := [(.ret, { env := [(2, .av (.val .bool))], objs := [] }), (.exit 2, { env := [(1, .av (.ptr 1 0)), (4, .av (.val (.slice I))), (5, .av (.val I)), (10, .av (.val yQ5)), (11, .av (.val I)), (12, .av (.val I))], objs := [(1, .box [.val I, .val (.slice yQ2), .val yQ5, .val (.slice I), .val (.slice .str), .val I])] })]
def Zbj_B6 (x : Q68) : Option (Q68 ⊕ ((Bool × Unit) ⊕ (Q61 ⊕ Empty))) :=
 let (a,b,c,d,e,f,g,h,i,k,l,m,n,o,_) := x; cond (ltI o n) ((getI m o).bind fun y1 => (getI d y1).bind fun y2 => cond (ltI y2 1) (some (.inr (.inl (false,())))) ((getI d y1).bind fun y3 => cond (gtI y3 4) (some (.inr (.inl (false,())))) ((getI d y1).bind fun y4 => some (.inl (a,b,c,d,e,f,g,(addI .i64 h y4),i,k,l,m,n,(addI .i64 o 1),()))))) (some (.inr (.inr (.inl (a,b,c,d,e,f,g,h,i,k,l,())))))
def Zbj_L6 : Q68 → Option ((Bool × Unit) ⊕ (Q61 ⊕ Empty)) := loopFix Zbj_B6
def Zbj_A6 : Ann := { head := Zbj_H6, exits := Zbj_E6, fn := Zbj_L6 }
def Zbj_H2 : Shape := { env := [(1, .av (.ptr 1 0)), (10, .av (.val yQ5)), (11, .av (.val I)), (12, .av (.val I))], objs := [(1, .box [.val I, .val (.slice yQ2), .val yQ5, .val (.slice I), .val (.slice .str), .val I])] }
def Zbj_E2 : List (Ex × Shape) := [(.ret, { env := [(2, .av (.val .bool))], objs := [] }), (.exit 0, { env := [], objs := [] })]
def Zbj_B2 (x : Q48) : Option (Q48 ⊕ ((Bool × Unit) ⊕ (Unit ⊕ Empty))) :=
 let (a,b,c,d,e,f,g,h,i,_) := x; cond (ltI i h) ((getI g i).bind fun y1 => (Zbj_L6 (a,b,c,d,e,f,y1,0,g,h,i,y1,(y1.length : Nat),0,())).bind (Sum.elim (fun z3 => some (.inr (.inl (z3.1,())))) (Sum.elim (fun (a_4,b_4,c_4,d_4,e_4,f_4,g_4,h_4,i_4,k_4,l_4,_) => cond (gtI (g_4.length : Nat) 0) (cond (neI h_4 4) (some (.inr (.inl (false,())))) (some (.inl (a_4,b_4,c_4,d_4,e_4,f_4,i_4,k_4,(addI .i64 l_4 1),())))) (some (.inl (a_4,b_4,c_4,d_4,e_4,f_4,i_4,k_4,(addI .i64 l_4 1),())))) (fun _ => none)))) (some (.inr (.inr (.inl ()))))
def Zbj_L2 : Q48 → Option ((Bool × Unit) ⊕ (Unit ⊕ Empty)) := loopFix Zbj_B2
def Zbj_A2 : Ann := { head := Zbj_H2, exits := Zbj_E2, fn := Zbj_L2 }
def Zbj_As : Anns := [(2, Zbj_A2), (6, Zbj_A6)]
def Zbj (x : (Q10 × Unit)) : Option (Bool × Unit) :=
 let (((a,b,c,_),d,e,f,_),_) := x; (Zbj_L2 (a,b,c,d,e,f,c,(c.length : Nat),0,())).bind (Sum.elim (fun z2 => some (z2.1,())) (Sum.elim (fun z3 => some (true,())) (fun _ => none)))
def Zbj_c : Con := { ins := [(.rd, yQ11)], outs := [(true, .bool)], fn := Zbj }
def Zbj_C : Ctx := { tab := tab, con := fun _ _ => none, glob := glob, eqs := eqs, maps := maps }
theorem Zbj_R6 (x : Zbj_H6.ty.den) : round Zbj_C Zbj_As Zbj_A6 (loopBody 6 (bodyOf Tryd.f76)) x = Zbj_B6 x := by kernel_rfl
theorem Zbj_R2 (x : Zbj_H2.ty.den) : round Zbj_C Zbj_As Zbj_A2 (loopBody 2 (bodyOf Tryd.f76)) x = Zbj_B2 x := by kernel_rfl
theorem Zbj_eq (x : (tupTy [yQ11]).den) : callFn Zbj_C Zbj_As (bodyOf Tryd.f76) [(.rd, yQ11)] [(.tmp 2, true, .bool)] x = Zbj x := by kernel_rfl
def Zay_As : Anns := []
def Zay (x : (Int × Unit)) : Option (Int × Bool × Unit) :=
 cond (eqI x.1 76) (some (82,true,())) (cond (eqI x.1 82) (some (76,true,())) (some (x.1,false,())))
def Zay_c : Con := { ins := [(.rd, (.int .u8))], outs := [(true, (.int .u8)), (true, .bool)], fn := Zay }
def Zay_C : Ctx := { tab := tab, con := fun _ _ => none, glob := glob, eqs := eqs, maps := maps }
theorem Zay_eq (x : (tupTy [(.int .u8)]).den) : callFn Zay_C Zay_As (bodyOf Tryd.f85) [(.rd, (.int .u8))] [(.tmp 2, true, (.int .u8)), (.tmp 3, true, .bool)] x = Zay x := by kernel_rfl
def Zbq_H4 : Shape := { env := [(11, .av (.own 11)), (12, .av (.val I)), (13, .av (.val I))], objs := [(11, .arr (.int .u8))] }
def Zbq_E4 : List (Ex × Shape) := [(.ret, { env := [(2, .av (.val .bool))], objs := [] }), (.exit 0, { env := [], objs := [] })]
def Zbq_B4 (x : Q7) : Option (Q7 ⊕ ((Bool × Unit) ⊕ (Unit ⊕ Empty))) :=
 let (a,b,c,_) := x; cond (ltI c b) ((idxI a.length c).bind fun j1 => (a[j1]?).bind fun y2 => (Zay (y2,())).bind fun r3 => cond (!r3.2.1) (some (.inr (.inl (false,())))) (some (.inl (a,b,(addI .i64 c 1),())))) (some (.inr (.inr (.inl ()))))
def Zbq_L4 : Q7 → Option ((Bool × Unit) ⊕ (Unit ⊕ Empty)) := loopFix Zbq_B4
def Zbq_A4 : Ann := { head := Zbq_H4, exits := Zbq_E4, fn := Zbq_L4 }
def Zbq_As : Anns := [(4, Zbq_A4)]
def Zbq (x : Q4) : Option (Bool × Unit) :=
 cond (gtI (x.1.size : Nat) 64) (some (false,())) ((Zbq_L4 ((bytesOf x.1),((bytesOf x.1).length : Nat),0,())).bind (Sum.elim (fun z2 => some (z2.1,())) (Sum.elim (fun z3 => some (true,())) (fun _ => none))))
def Zbq_c : Con := { ins := [(.rd, .str)], outs := [(true, .bool)], fn := Zbq }
def Zbq_C : Ctx := { tab := tab, con := fun | 85, _ => some Zay_c | _, _ => none, glob := glob, eqs := eqs, maps := maps }
theorem Zbq_R4 (x : Zbq_H4.ty.den) : round Zbq_C Zbq_As Zbq_A4 (loopBody 4 (bodyOf Tryd.f77)) x = Zbq_B4 x := by kernel_rfl
theorem Zbq_eq (x : (tupTy [.str]).den) : callFn Zbq_C Zbq_As (bodyOf Tryd.f77) [(.rd, .str)] [(.tmp 2, true, .bool)] x = Zbq x := by kernel_rfl
def Zj_H1 : Shape := { env := [(0, .av (.own 0)), (2, .av (.val I)), (3, .av (.val I))], objs := [(0, .arr (.int .u8))], pins := [0] }
def Zj_E1 : List (Ex × Shape) := [(.exit 0, { env := [(0, .av (.own 0))], objs := [(0, .arr (.int .u8))], pins := [0] })]
def Zj_B1 (x : Q7) : Option (Q7 ⊕ (Q1 ⊕ Empty)) :=
 let (a,b,c,_) := x; cond (ltI b c) ((idxI a.length c).bind fun j1 => (a[j1]?).bind fun y2 => (idxI a.length b).bind fun j3 => (a[j3]?).bind fun y4 => (idxI a.length b).bind fun j5 => (a[j5]?).bind fun y6 => (idxI (a.set j5 y2).length c).bind fun j7 => ((a.set j5 y2)[j7]?).bind fun y8 => some (.inl (((a.set j5 y2).set j7 y4),(addI .i64 b 1),(subI .i64 c 1),()))) (some (.inr (.inl (a,()))))
def Zj_L1 : Q7 → Option (Q1 ⊕ Empty) := loopFix Zj_B1
def Zj_A1 : Ann := { head := Zj_H1, exits := Zj_E1, fn := Zj_L1 }
def Zj_As : Anns := [(1, Zj_A1)]
def Zj (x : Q1) : Option Q1 :=
 (Zj_L1 (x.1,0,(subI .i64 (x.1.length : Nat) 1),())).bind (Sum.elim (fun z2 => some (z2.1,())) (fun _ => none))
def Zj_c : Con := { ins := [(.upd, (.slice (.int .u8)))], outs := [], fn := Zj }
def Zj_C : Ctx := { tab := tab, con := fun _ _ => none, glob := glob, eqs := eqs, maps := maps }
theorem Zj_R1 (x : Zj_H1.ty.den) : round Zj_C Zj_As Zj_A1 (loopBody 1 (bodyOf Tryd.f86)) x = Zj_B1 x := by kernel_rfl
theorem Zj_eq (x : (tupTy [(.slice (.int .u8))]).den) : callFn Zj_C Zj_As (bodyOf Tryd.f86) [(.upd, (.slice (.int .u8)))] [] x = Zj x := by kernel_rfl
def Zbe_H4 : Shape := { env := [(3, .av (.own 3)), (10, .av (.own 3)), (11, .av (.val I)), (12, .av (.val I))], objs := [(3, .arr (.int .u8))] }
def Zbe_E4 : List (Ex × Shape) := [(.exit 0, { env := [(3, .av (.own 3))], objs := [(3, .arr (.int .u8))] })]
def Zbe_B4 (x : Q7) : Option (Q7 ⊕ (Q1 ⊕ Empty)) :=
 let (a,b,c,_) := x; cond (ltI c b) ((idxI a.length c).bind fun j1 => (a[j1]?).bind fun y2 => (Zay (y2,())).bind fun r3 => (idxI a.length c).bind fun j4 => (a[j4]?).bind fun y5 => some (.inl ((a.set j4 r3.1),b,(addI .i64 c 1),()))) (some (.inr (.inl (a,()))))
def Zbe_L4 : Q7 → Option (Q1 ⊕ Empty) := loopFix Zbe_B4
def Zbe_A4 : Ann := { head := Zbe_H4, exits := Zbe_E4, fn := Zbe_L4 }
def Zbe_As : Anns := [(4, Zbe_A4)]
def Zbe (x : Q4) : Option Q4 :=
 (Zj ((bytesOf x.1),())).bind fun r1 => (Zbe_L4 (r1.1,(r1.1.length : Nat),0,())).bind (Sum.elim (fun z3 => some ((ofBytes z3.1),())) (fun _ => none))
def Zbe_c : Con := { ins := [(.rd, .str)], outs := [(true, .str)], fn := Zbe }
def Zbe_C : Ctx := { tab := tab, con := fun | 85, _ => some Zay_c | 86, _ => some Zj_c | _, _ => none, glob := glob, eqs := eqs, maps := maps }
theorem Zbe_R4 (x : Zbe_H4.ty.den) : round Zbe_C Zbe_As Zbe_A4 (loopBody 4 (bodyOf Tryd.f78)) x = Zbe_B4 x := by kernel_rfl
theorem Zbe_eq (x : (tupTy [.str]).den) : callFn Zbe_C Zbe_As (bodyOf Tryd.f78) [(.rd, .str)] [(.tmp 2, true, .str)] x = Zbe x := by kernel_rfl
def Zak_H2 : Shape := { env := [(0, .av (.val (.slice I))), (1, .av (.val I)), (7, .av (.val I)), (8, .av (.val I))], objs := [] }
def Zak_E2 : List (Ex × Shape) := [(.ret, { env := [(4, .av (.val I))], objs := [] }), (.exit 0, { env := [], objs := [] })]
def Zak_B2 (x : Q8) : Option (Q8 ⊕ ((Int × Unit) ⊕ (Unit ⊕ Empty))) :=
 let (a,b,c,d,_) := x; cond (ltI d c) ((getI a d).bind fun y1 => cond (eqI b y1) (some (.inr (.inl (d,())))) (some (.inl (a,b,c,(addI .i64 d 1),())))) (some (.inr (.inr (.inl ()))))
def Zak_L2 : Q8 → Option ((Int × Unit) ⊕ (Unit ⊕ Empty)) := loopFix Zak_B2
def Zak_A2 : Ann := { head := Zak_H2, exits := Zak_E2, fn := Zak_L2 }
def Zak_As : Anns := [(2, Zak_A2)]
def Zak (x : Q5) : Option (Int × Unit) :=
 (Zak_L2 (x.1,x.2.1,(x.1.length : Nat),0,())).bind (Sum.elim (fun z2 => some (z2.1,())) (Sum.elim (fun z3 => some ((-1),())) (fun _ => none)))
def Zak_c : Con := { ins := [(.rd, (.slice I)), (.rd, I)], outs := [(true, I)], fn := Zak }
def Zak_C : Ctx := { tab := tab, con := fun _ _ => none, glob := glob, eqs := eqs, maps := maps }
theorem Zak_R2 (x : Zak_H2.ty.den) : round Zak_C Zak_As Zak_A2 (loopBody 2 (bodyOf Tryd.f64)) x = Zak_B2 x := by kernel_rfl
theorem Zak_eq (x : (tupTy [(.slice I), I]).den) : callFn Zak_C Zak_As (bodyOf Tryd.f64) [(.rd, (.slice I)), (.rd, I)] [(.tmp 4, true, I)] x = Zak x := by kernel_rfl
def Zk_As : Anns := []
def Zk (x : Q5) : Option (Bool × Unit) :=
 (Zak (x.1,x.2.1,())).bind fun r1 => some ((geI r1.1 0),())
def Zk_c : Con := { ins := [(.rd, (.slice I)), (.rd, I)], outs := [(true, .bool)], fn := Zk }
def Zk_C : Ctx := { tab := tab, con := fun | 64, _ => some Zak_c | _, _ => none, glob := glob, eqs := eqs, maps := maps }
theorem Zk_eq (x : (tupTy [(.slice I), I]).den) : callFn Zk_C Zk_As (bodyOf Tryd.f79) [(.rd, (.slice I)), (.rd, I)] [(.tmp 4, true, .bool)] x = Zk x := by kernel_rfl
def Zbo_H3 : Shape := { env := [(5, .av (.val I)), (20, .av (.own 20)), (21, .av (.val I)), (22, .av (.val I))], objs := [(20, .arr (.int .u8))] }
def Zbo_E3 : List (Ex × Shape) := [(.exit 0, { env := [(5, .av (.val I))], objs := [] })]
def Zbo_B3 (x : Q8) : Option (Q8 ⊕ ((Int × Unit) ⊕ Empty)) :=
 let (a,b,c,d,_) := x; cond (ltI d c) ((idxI a.length d).bind fun j1 => (a[j1]?).bind fun y2 => cond (eqI y2 76) (some (.inl (a,(addI .i64 b 1),c,(addI .i64 d 1),()))) (some (.inl (a,(subI .i64 b 1),c,(addI .i64 d 1),())))) (some (.inr (.inl (b,()))))
def Zbo_L3 : Q8 → Option ((Int × Unit) ⊕ Empty) := loopFix Zbo_B3
def Zbo_A3 : Ann := { head := Zbo_H3, exits := Zbo_E3, fn := Zbo_L3 }
def Zbo_As : Anns := [(3, Zbo_A3)]
def Zbo (x : (Q10 × Int × Unit)) : Option (Int × Unit) :=
 (getI x.1.2.1 (xorI .i64 x.2.1 1)).bind fun y1 => (getI x.1.2.2.1 x.2.1).bind fun y2 => (Zbo_L3 ((bytesOf y2),(subI .i64 2 y1),((bytesOf y2).length : Nat),0,())).bind (Sum.elim (fun z4 => some (z4.1,())) (fun _ => none))
def Zbo_c : Con := { ins := [(.rd, yQ11), (.rd, I)], outs := [(true, I)], fn := Zbo }
def Zbo_C : Ctx := { tab := tab, con := fun _ _ => none, glob := glob, eqs := eqs, maps := maps }
theorem Zbo_R3 (x : Zbo_H3.ty.den) : round Zbo_C Zbo_As Zbo_A3 (loopBody 3 (bodyOf Tryd.f87)) x = Zbo_B3 x := by kernel_rfl
theorem Zbo_eq (x : (tupTy [yQ11, I]).den) : callFn Zbo_C Zbo_As (bodyOf Tryd.f87) [(.rd, yQ11), (.rd, I)] [(.tmp 4, true, I)] x = Zbo x := by kernel_rfl
def Zbl_H3 : Shape := { env := [(2, .av (.ptr 2 0)), (5, .av (.val I)), (8, .av (.val (.slice I))), (9, .av (.val I)), (10, .av (.val I))], objs := [(2, .box [.val I, .val (.slice yQ2), .val yQ5, .val (.slice I), .val (.slice .str), .val I])] }
def Zbl_E3 : List (Ex × Shape) := [(.exit 0, { env := [(5, .av (.val I))], objs := [] })]
def Zbl_B3 (x : Q46) : Option (Q46 ⊕ ((Int × Unit) ⊕ Empty)) :=
 let (a,b,c,d,e,f,g,h,i,k,_) := x; cond (ltI k i) ((getI h k).bind fun y1 => (Zbo (((a,b,c,()),d,e,f,()),y1,())).bind fun r2 => some (.inl (a,b,c,d,e,f,(addI .i64 g r2.1),h,i,(addI .i64 k 1),()))) (some (.inr (.inl (g,()))))
def Zbl_L3 : Q46 → Option ((Int × Unit) ⊕ Empty) := loopFix Zbl_B3
def Zbl_A3 : Ann := { head := Zbl_H3, exits := Zbl_E3, fn := Zbl_L3 }
def Zbl_As : Anns := [(3, Zbl_A3)]
def Zbl (x : (Q10 × List Int × Unit)) : Option (Int × Unit) :=
 let (((a,b,c,_),d,e,f,_),g,_) := x; (Zbl_L3 (a,b,c,d,e,f,0,g,(g.length : Nat),0,())).bind (Sum.elim (fun z2 => some (z2.1,())) (fun _ => none))
def Zbl_c : Con := { ins := [(.rd, yQ11), (.rd, (.slice I))], outs := [(true, I)], fn := Zbl }
def Zbl_C : Ctx := { tab := tab, con := fun | 87, _ => some Zbo_c | _, _ => none, glob := glob, eqs := eqs, maps := maps }
theorem Zbl_R3 (x : Zbl_H3.ty.den) : round Zbl_C Zbl_As Zbl_A3 (loopBody 3 (bodyOf Tryd.f80)) x = Zbl_B3 x := by kernel_rfl
theorem Zbl_eq (x : (tupTy [yQ11, (.slice I)]).den) : callFn Zbl_C Zbl_As (bodyOf Tryd.f80) [(.rd, yQ11), (.rd, (.slice I))] [(.tmp 4, true, I)] x = Zbl x := by kernel_rfl
def Zbm_H13 : Shape := { env := [(1, .av (.ptr 1 0)), (85, .av (.own 85)), (86, .av (.val I)), (87, .av (.val I))], objs := [(1, .box [.val I, .val (.slice yQ2), .val yQ5, .val (.slice I), .val (.slice .str), .val I]), (85, .arr (.slice I))] }
def Zbm_E13 : List (Ex × Shape) := [(.ret, { env := [(2, .av (.val .bool))], objs := [] }), (.exit 2, { env := [], objs := [] })]
def Zbm_B13 (x : Q48) : Option (Q48 ⊕ ((Bool × Unit) ⊕ (Unit ⊕ Empty))) :=
 let (a,b,c,d,e,f,g,h,i,_) := x; cond (ltI i h) ((idxI g.length i).bind fun j1 => (g[j1]?).bind fun y2 => (Zk (y2,f,())).bind fun r3 => cond r3.1 ((Zbl (((a,b,c,()),d,e,f,()),y2,())).bind fun r4 => cond (neI r4.1 (-4)) (some (.inr (.inl (false,())))) (some (.inl (a,b,c,d,e,f,g,h,(addI .i64 i 1),())))) ((Zbl (((a,b,c,()),d,e,f,()),y2,())).bind fun r5 => cond (neI r5.1 4) (some (.inr (.inl (false,())))) (some (.inl (a,b,c,d,e,f,g,h,(addI .i64 i 1),()))))) (some (.inr (.inr (.inl ()))))
def Zbm_L13 : Q48 → Option ((Bool × Unit) ⊕ (Unit ⊕ Empty)) := loopFix Zbm_B13
def Zbm_A13 : Ann := { head := Zbm_H13, exits := Zbm_E13, fn := Zbm_L13 }
def Zbm_H8 : Shape := { env := [(1, .av (.ptr 1 0)), (3, .av (.ptr 3 0)), (4, .av (.val I)), (5, .av (.val I))], objs := [(1, .box [.val I, .val (.slice yQ2), .val yQ5, .val (.slice I), .val (.slice .str), .val I]), (3, .box [.val I, .val (.slice yQ2), .val yQ5])] }
def Zbm_E8 : List (Ex × Shape) := [(.ret, { env := [(2, .av (.val .bool))], objs := [] }), (.exit 0, { env := [(1, .av (.ptr 1 0)), (3, .av (.ptr 3 0))], objs := [(1, .box [.val I, .val (.slice yQ2), .val yQ5, .val (.slice I), .val (.slice .str), .val I]), (3, .box [.val I, .val (.slice yQ2), .val yQ5])] })]
def Zbm_B8 (x : Q63) : Option (Q63 ⊕ ((Bool × Unit) ⊕ (Q52 ⊕ Empty))) :=
 let (a,b,c,d,e,f,g,h,i,k,l,_) := x; cond (ltI l k) ((getI e l).bind fun y1 => (Zbq (y1,())).bind fun r2 => cond (!r2.1) (some (.inr (.inl (false,())))) ((getI e (addI .i64 l 1)).bind fun y3 => (getI e l).bind fun y4 => (Zbe (y4,())).bind fun r5 => cond (neS y3 r5.1) (some (.inr (.inl (false,())))) (some (.inl (a,b,c,d,e,f,g,h,i,k,(addI .i64 l 2),()))))) (some (.inr (.inr (.inl (a,b,c,d,e,f,g,h,i,())))))
def Zbm_L8 : Q63 → Option ((Bool × Unit) ⊕ (Q52 ⊕ Empty)) := loopFix Zbm_B8
def Zbm_A8 : Ann := { head := Zbm_H8, exits := Zbm_E8, fn := Zbm_L8 }
def Zbm_As : Anns := [(8, Zbm_A8), (13, Zbm_A13)]
def Zbm (x : (Q10 × Unit)) : Option (Bool × Unit) :=
 let (((a,b,c,_),d,e,f,_),_) := x; (Zax ((a,b,c,()),())).bind fun r1 => cond (!r1.1) (some (false,())) ((Zar ((a,b,c,()),())).bind fun r2 => cond (!r2.1) (some (false,())) ((Zaw ((a,b,c,()),())).bind fun r3 => cond (neI r3.1 0) (some (false,())) (cond (neI (d.length : Nat) (mulI .i64 2 (b.length : Nat))) (some (false,())) (cond (neI (e.length : Nat) (mulI .i64 2 (b.length : Nat))) (some (false,())) (cond (ltI f 0) (some (false,())) (cond (geI f (maxI (mulI .i64 2 (b.length : Nat)) 1)) (some (false,())) ((Zbj (((a,b,c,()),d,e,f,()),())).bind fun r4 => cond (!r4.1) (some (false,())) ((Zbm_L8 (a,b,c,d,e,f,a,b,c,(mulI .i64 2 (b.length : Nat)),0,())).bind (Sum.elim (fun z6 => some (z6.1,())) (Sum.elim (fun (a_7,b_7,c_7,d_7,e_7,f_7,g_7,h_7,i_7,_) => (Zav ((g_7,h_7,i_7,()),())).bind fun r8 => (Zbm_L13 (a_7,b_7,c_7,d_7,e_7,f_7,r8.1,(r8.1.length : Nat),0,())).bind (Sum.elim (fun z10 => some (z10.1,())) (Sum.elim (fun z11 => some (true,())) (fun _ => none)))) (fun _ => none)))))))))))
def Zbm_c : Con := { ins := [(.rd, yQ11)], outs := [(true, .bool)], fn := Zbm }
def Zbm_C : Ctx := { tab := tab, con := fun | 48, _ => some Zav_c | 50, _ => some Zax_c | 74, _ => some Zar_c | 75, _ => some Zaw_c | 76, _ => some Zbj_c | 77, _ => some Zbq_c | 78, _ => some Zbe_c | 79, _ => some Zk_c | 80, _ => some Zbl_c | _, _ => none, glob := glob, eqs := eqs, maps := maps }
theorem Zbm_R13 (x : Zbm_H13.ty.den) : round Zbm_C Zbm_As Zbm_A13 (loopBody 13 (bodyOf Tryd.f63)) x = Zbm_B13 x := by kernel_rfl
theorem Zbm_R8 (x : Zbm_H8.ty.den) : round Zbm_C Zbm_As Zbm_A8 (loopBody 8 (bodyOf Tryd.f63)) x = Zbm_B8 x := by kernel_rfl
theorem Zbm_eq (x : (tupTy [yQ11]).den) : callFn Zbm_C Zbm_As (bodyOf Tryd.f63) [(.rd, yQ11)] [(.tmp 2, true, .bool)] x = Zbm x := by kernel_rfl
def Zbk_As : Anns := []
def Zbk (x : (Q10 × Unit)) : Option (Int × Unit) :=
 let (((a,b,c,_),d,e,f,_),_) := x; (Zbm (((a,b,c,()),d,e,f,()),())).bind fun r1 => cond (!r1.1) (some (13,())) (some (0,()))
def Zbk_c : Con := { ins := [(.rd, yQ11)], outs := [(true, I)], fn := Zbk }
def Zbk_C : Ctx := { tab := tab, con := fun | 63, _ => some Zbm_c | _, _ => none, glob := glob, eqs := eqs, maps := maps }
theorem Zbk_eq (x : (tupTy [yQ11]).den) : callFn Zbk_C Zbk_As (bodyOf Tryd.f45) [(.rd, yQ11)] [(.tmp 2, true, I)] x = Zbk x := by kernel_rfl
def Zbn_H5 : Shape := { env := [(1, .av (.ptr 1 0)), (3, .av (.val I)), (4, .av (.val I))], objs := [(1, .box [.val I, .val (.slice yQ2), .val yQ5, .val (.slice I), .val (.slice .str), .val I])] }
def Zbn_E5 : List (Ex × Shape) := [(.exit 0, { env := [(3, .av (.val I))], objs := [] })]
def Zbn_B5 (x : Q34) : Option (Q34 ⊕ ((Int × Unit) ⊕ Empty)) :=
 let (a,b,c,d,e,f,g,h,_) := x; cond (ltI h (e.length : Nat)) ((getI e h).bind fun y1 => some (.inl (a,b,c,d,e,f,(addI .i64 g (y1.size : Nat)),(addI .i64 h 2),()))) (some (.inr (.inl (g,()))))
def Zbn_L5 : Q34 → Option ((Int × Unit) ⊕ Empty) := loopFix Zbn_B5
def Zbn_A5 : Ann := { head := Zbn_H5, exits := Zbn_E5, fn := Zbn_L5 }
def Zbn_As : Anns := [(5, Zbn_A5)]
def Zbn (x : (Q10 × Unit)) : Option (Int × Unit) :=
 let (((a,b,c,_),d,e,f,_),_) := x; (Zbm (((a,b,c,()),d,e,f,()),())).bind fun r1 => cond (!r1.1) (some (0,())) ((Zbn_L5 (a,b,c,d,e,f,0,0,())).bind (Sum.elim (fun z3 => some (z3.1,())) (fun _ => none)))
def Zbn_c : Con := { ins := [(.rd, yQ11)], outs := [(true, I)], fn := Zbn }
def Zbn_C : Ctx := { tab := tab, con := fun | 63, _ => some Zbm_c | _, _ => none, glob := glob, eqs := eqs, maps := maps }
theorem Zbn_R5 (x : Zbn_H5.ty.den) : round Zbn_C Zbn_As Zbn_A5 (loopBody 5 (bodyOf Tryd.f46)) x = Zbn_B5 x := by kernel_rfl
theorem Zbn_eq (x : (tupTy [yQ11]).den) : callFn Zbn_C Zbn_As (bodyOf Tryd.f46) [(.rd, yQ11)] [(.tmp 2, true, I)] x = Zbn x := by kernel_rfl
def Zal_As : Anns := []
def Zal (x : (Q10 × Unit)) : Option (Bool × Unit) :=
 let (((a,b,c,_),d,e,f,_),_) := x; (Zbk (((a,b,c,()),d,e,f,()),())).bind fun r1 => cond (eqI r1.1 0) ((Zbn (((a,b,c,()),d,e,f,()),())).bind fun r2 => some ((eqI r2.1 0),())) (some (false,()))
def Zal_c : Con := { ins := [(.rd, yQ11)], outs := [(true, .bool)], fn := Zal }
def Zal_C : Ctx := { tab := tab, con := fun | 45, _ => some Zbk_c | 46, _ => some Zbn_c | _, _ => none, glob := glob, eqs := eqs, maps := maps }
theorem Zal_eq (x : (tupTy [yQ11]).den) : callFn Zal_C Zal_As (bodyOf Tryd.f22) [(.rd, yQ11)] [(.tmp 2, true, .bool)] x = Zal x := by kernel_rfl
def Zbc_As : Anns := []
def Zbc (x : (Q9 × Int × Unit)) : Option (Int × Unit) :=
 let ((a,b,c,_),d,_) := x; (Zax ((a,b,c,()),())).bind fun r1 => cond (!r1.1) (some ((-1),())) (cond (ltI d 0) (some ((-1),())) (cond (geI d (mulI .i64 2 (b.length : Nat))) (some ((-1),())) ((getI b (quoI .i64 d 2)).bind fun y2 => (Zbd (y2,(xorI .i64 (remI d 2) 1),())).bind fun r3 => (getI c r3.1).bind fun y4 => (Zak (y4,(xorI .i64 d 1),())).bind fun r5 => cond (eqI (y4.length : Nat) 0) none ((getI y4 (remI (addI .i64 r5.1 1) (y4.length : Nat))).bind fun y6 => some (y6,())))))
def Zbc_c : Con := { ins := [(.rd, yQ8), (.rd, I)], outs := [(true, I)], fn := Zbc }
def Zbc_C : Ctx := { tab := tab, con := fun | 50, _ => some Zax_c | 51, _ => some Zbd_c | 64, _ => some Zak_c | _, _ => none, glob := glob, eqs := eqs, maps := maps }
theorem Zbc_eq (x : (tupTy [yQ8, I]).den) : callFn Zbc_C Zbc_As (bodyOf Tryd.f47) [(.rd, yQ8), (.rd, I)] [(.tmp 4, true, I)] x = Zbc x := by kernel_rfl
def Zai_H16 : Shape := { env := [(1, .av (.ptr 1 0)), (3, .av (.own 3)), (5, .av (.own 5)), (68, .agg [.val I, .val I, .val I, .val I]), (69, .av (.val I))], objs := [(1, .box [.val I, .val (.slice yQ2), .val yQ5, .val (.slice I), .val (.slice .str), .val I]), (3, .arr I), (5, .arr I)] }
def Zai_E16 : List (Ex × Shape) := [(.exit 4, { env := [(1, .av (.ptr 1 0)), (3, .av (.own 3)), (5, .av (.own 5))], objs := [(1, .box [.val I, .val (.slice yQ2), .val yQ5, .val (.slice I), .val (.slice .str), .val I]), (3, .arr I), (5, .arr I)] })]
def Zai_B16 (x : Q65) : Option (Q65 ⊕ (Q41 ⊕ Empty)) :=
 let (a,b,c,d,e,f,g,h,i,k,l,m,n,_) := x; cond (ltI n 2) (cond (eqI n 0) ((idxI g.length i).bind fun j1 => (g[j1]?).bind fun y2 => cond (ltI y2 0) ((idxI g.length i).bind fun j3 => (g[j3]?).bind fun y4 => (app h [i]).bind fun a5 => some (.inl (a,b,c,d,e,f,(g.set j3 (remI k 4)),a5,i,k,l,m,(addI .i64 n 1),()))) (some (.inl (a,b,c,d,e,f,g,h,i,k,l,m,(addI .i64 n 1),())))) (cond (eqI n 1) ((idxI g.length l).bind fun j6 => (g[j6]?).bind fun y7 => cond (ltI y7 0) ((idxI g.length l).bind fun j8 => (g[j8]?).bind fun y9 => (app h [l]).bind fun a10 => some (.inl (a,b,c,d,e,f,(g.set j8 (remI m 4)),a10,i,k,l,m,(addI .i64 n 1),()))) (some (.inl (a,b,c,d,e,f,g,h,i,k,l,m,(addI .i64 n 1),())))) (none))) (some (.inr (.inl (a,b,c,d,e,f,g,h,()))))
def Zai_L16 : Q65 → Option (Q41 ⊕ Empty) := loopFix Zai_B16
def Zai_A16 : Ann := { head := Zai_H16, exits := Zai_E16, fn := Zai_L16 }
def Zai_H11 : Shape := { env := [(1, .av (.ptr 1 0)), (3, .av (.own 3)), (5, .av (.own 5))], objs := [(1, .box [.val I, .val (.slice yQ2), .val yQ5, .val (.slice I), .val (.slice .str), .val I]), (3, .arr I), (5, .arr I)] }
def Zai_E11 : List (Ex × Shape) := [(.exit 2, { env := [(3, .av (.own 3))], objs := [(3, .arr I)] })]
def Zai_B11 (x : Q41) : Option (Q41 ⊕ (Q1 ⊕ Empty)) :=
 let (a,b,c,d,e,f,g,h,_) := x; cond (gtI (h.length : Nat) 0) ((idxI h.length (subI .i64 (h.length : Nat) 1)).bind fun j1 => (h[j1]?).bind fun y2 => (viewB h.length 0 (subI .i64 (h.length : Nat) 1)).bind fun v3 => (Zbc ((a,b,c,()),(xorI .i64 y2 1),())).bind fun r4 => (idxI g.length y2).bind fun j5 => (g[j5]?).bind fun y6 => (getI d y2).bind fun y7 => (idxI g.length y2).bind fun j8 => (g[j8]?).bind fun y9 => (Zai_L16 (a,b,c,d,e,f,g,((h.drop v3.1).take v3.2),r4.1,(addI .i64 y6 y7),(xorI .i64 y2 1),(addI .i64 y9 2),0,())).bind (Sum.elim (fun (a_11,b_11,c_11,d_11,e_11,f_11,g_11,h_11,_) => some (.inl (a_11,b_11,c_11,d_11,e_11,f_11,g_11,h_11,()))) (fun _ => none))) (some (.inr (.inl (g,()))))
def Zai_L11 : Q41 → Option (Q1 ⊕ Empty) := loopFix Zai_B11
def Zai_A11 : Ann := { head := Zai_H11, exits := Zai_E11, fn := Zai_L11 }
def Zai_H3 : Shape := { env := [(1, .av (.ptr 1 0)), (3, .av (.own 3)), (15, .av (.val I)), (16, .av (.val I))], objs := [(1, .box [.val I, .val (.slice yQ2), .val yQ5, .val (.slice I), .val (.slice .str), .val I]), (3, .arr I)] }
def Zai_E3 : List (Ex × Shape) := [(.exit 0, { env := [(1, .av (.ptr 1 0)), (3, .av (.own 3))], objs := [(1, .box [.val I, .val (.slice yQ2), .val yQ5, .val (.slice I), .val (.slice .str), .val I]), (3, .arr I)] })]
def Zai_B3 (x : Q42) : Option (Q42 ⊕ (Q33 ⊕ Empty)) :=
 let (a,b,c,d,e,f,g,h,i,_) := x; cond (ltI i h) ((idxI g.length i).bind fun j1 => (g[j1]?).bind fun y2 => some (.inl (a,b,c,d,e,f,(g.set j1 (-1)),h,(addI .i64 i 1),()))) (some (.inr (.inl (a,b,c,d,e,f,g,()))))
def Zai_L3 : Q42 → Option (Q33 ⊕ Empty) := loopFix Zai_B3
def Zai_A3 : Ann := { head := Zai_H3, exits := Zai_E3, fn := Zai_L3 }
def Zai_As : Anns := [(3, Zai_A3), (11, Zai_A11), (16, Zai_A16)]
def Zai (x : (Q10 × Unit)) : Option Q1 :=
 let (((a,b,c,_),d,e,f,_),_) := x; (makeL I (d.length : Nat) (d.length : Nat)).bind fun m1 => (Zai_L3 (a,b,c,d,e,f,m1,(m1.length : Nat),0,())).bind (Sum.elim (fun (a_3,b_3,c_3,d_3,e_3,f_3,g_3,_) => cond (eqI (g_3.length : Nat) 0) (some ([],())) ((idxI g_3.length 0).bind fun j4 => (g_3[j4]?).bind fun y5 => (Zai_L11 (a_3,b_3,c_3,d_3,e_3,f_3,(g_3.set j4 1),[0],())).bind (Sum.elim (fun z7 => some (z7.1,())) (fun _ => none)))) (fun _ => none))
def Zai_c : Con := { ins := [(.rd, yQ11)], outs := [(true, (.slice I))], fn := Zai }
def Zai_C : Ctx := { tab := tab, con := fun | 47, _ => some Zbc_c | _, _ => none, glob := glob, eqs := eqs, maps := maps }
theorem Zai_R16 (x : Zai_H16.ty.den) : round Zai_C Zai_As Zai_A16 (loopBody 16 (bodyOf Tryd.f23)) x = Zai_B16 x := by kernel_rfl
theorem Zai_R11 (x : Zai_H11.ty.den) : round Zai_C Zai_As Zai_A11 (loopBody 11 (bodyOf Tryd.f23)) x = Zai_B11 x := by kernel_rfl
theorem Zai_R3 (x : Zai_H3.ty.den) : round Zai_C Zai_As Zai_A3 (loopBody 3 (bodyOf Tryd.f23)) x = Zai_B3 x := by kernel_rfl
theorem Zai_eq (x : (tupTy [yQ11]).den) : callFn Zai_C Zai_As (bodyOf Tryd.f23) [(.rd, yQ11)] [(.tmp 2, true, (.slice I))] x = Zai x := by kernel_rfl
def Zq_As : Anns := []
def Zq (x : (Q10 × Unit)) : Option Q5 :=
 let (((a,b,c,_),d,e,f,_),_) := x; (Zal (((a,b,c,()),d,e,f,()),())).bind fun r1 => cond (!r1.1) (some ([],13,())) ((Zai (((a,b,c,()),d,e,f,()),())).bind fun r2 => some (r2.1,0,()))
def Zq_c : Con := { ins := [(.rd, yQ11)], outs := [(true, (.slice I)), (true, I)], fn := Zq }
def Zq_C : Ctx := { tab := tab, con := fun | 22, _ => some Zal_c | 23, _ => some Zai_c | _, _ => none, glob := glob, eqs := eqs, maps := maps }
theorem Zq_eq (x : (tupTy [yQ11]).den) : callFn Zq_C Zq_As (bodyOf Tryd.f10) [(.rd, yQ11)] [(.tmp 2, true, (.slice I)), (.tmp 3, true, I)] x = Zq x := by kernel_rfl
def Zm_H15 : Shape := { env := [(1, .av (.ptr 1 0)), (5, .av (.val I)), (8, .av (.val I)), (17, .av (.own 17)), (18, .av (.val I)), (19, .av (.val I)), (34, .av (.val (.slice I))), (35, .av (.val I)), (36, .av (.val I))], objs := [(1, .box [.val I, .val (.slice yQ2), .val yQ5, .val (.slice I), .val (.slice .str), .val I]), (17, .arr (.slice I))] }
def Zm_E15 : List (Ex × Shape) := [(.ret, { env := [(2, .av (.val .bool))], objs := [] }), (.exit 4, { env := [(1, .av (.ptr 1 0)), (8, .av (.val I)), (17, .av (.own 17)), (18, .av (.val I)), (19, .av (.val I))], objs := [(1, .box [.val I, .val (.slice yQ2), .val yQ5, .val (.slice I), .val (.slice .str), .val I]), (17, .arr (.slice I))] })]
def Zm_B15 (x : Q67) : Option (Q67 ⊕ ((Bool × Unit) ⊕ (Q53 ⊕ Empty))) :=
 let (a,b,c,d,e,f,g,h,i,k,l,m,n,o,_) := x; cond (ltI o n) ((getI m o).bind fun y1 => (getI d (xorI .i64 y1 1)).bind fun y2 => cond (eqI (subI .i64 2 y2) 0) (some (.inl (a,b,c,d,e,f,g,h,i,k,l,m,n,(addI .i64 o 1),()))) (cond (eqI (subI .i64 2 y2) h) (some (.inl (a,b,c,d,e,f,g,h,(addI .i64 i 1),k,l,m,n,(addI .i64 o 1),()))) (some (.inr (.inl (false,())))))) (some (.inr (.inr (.inl (a,b,c,d,e,f,g,i,k,l,())))))
def Zm_L15 : Q67 → Option ((Bool × Unit) ⊕ (Q53 ⊕ Empty)) := loopFix Zm_B15
def Zm_A15 : Ann := { head := Zm_H15, exits := Zm_E15, fn := Zm_L15 }
def Zm_H8 : Shape := { env := [(1, .av (.ptr 1 0)), (4, .av (.val (.slice I))), (5, .av (.val I)), (17, .av (.own 17)), (18, .av (.val I)), (19, .av (.val I)), (23, .av (.val (.slice I))), (24, .av (.val I)), (25, .av (.val I))], objs := [(1, .box [.val I, .val (.slice yQ2), .val yQ5, .val (.slice I), .val (.slice .str), .val I]), (17, .arr (.slice I))] }
def Zm_E8 : List (Ex × Shape) := [(.exit 2, { env := [(1, .av (.ptr 1 0)), (4, .av (.val (.slice I))), (5, .av (.val I)), (17, .av (.own 17)), (18, .av (.val I)), (19, .av (.val I))], objs := [(1, .box [.val I, .val (.slice yQ2), .val yQ5, .val (.slice I), .val (.slice .str), .val I]), (17, .arr (.slice I))] })]
def Zm_B8 (x : Q69) : Option (Q69 ⊕ (Q62 ⊕ Empty)) :=
 let (a,b,c,d,e,f,g,h,i,k,l,m,n,o,_) := x; cond (ltI o n) ((getI m o).bind fun y1 => cond (eqI y1 f) (some (.inl (a,b,c,d,e,f,g,h,(-1),k,l,m,n,(addI .i64 o 1),()))) (some (.inl (a,b,c,d,e,f,g,h,i,k,l,m,n,(addI .i64 o 1),())))) (some (.inr (.inl (a,b,c,d,e,f,g,h,i,k,l,()))))
def Zm_L8 : Q69 → Option (Q62 ⊕ Empty) := loopFix Zm_B8
def Zm_A8 : Ann := { head := Zm_H8, exits := Zm_E8, fn := Zm_L8 }
def Zm_H4 : Shape := { env := [(1, .av (.ptr 1 0)), (17, .av (.own 17)), (18, .av (.val I)), (19, .av (.val I))], objs := [(1, .box [.val I, .val (.slice yQ2), .val yQ5, .val (.slice I), .val (.slice .str), .val I]), (17, .arr (.slice I))] }
def Zm_E4 : List (Ex × Shape) := [(.ret, { env := [(2, .av (.val .bool))], objs := [] }), (.exit 0, { env := [], objs := [] })]
def Zm_B4 (x : Q48) : Option (Q48 ⊕ ((Bool × Unit) ⊕ (Unit ⊕ Empty))) :=
 let (a,b,c,d,e,f,g,h,i,_) := x; cond (ltI i h) ((idxI g.length i).bind fun j1 => (g[j1]?).bind fun y2 => (Zm_L8 (a,b,c,d,e,f,g,y2,1,h,i,y2,(y2.length : Nat),0,())).bind (Sum.elim (fun (a_4,b_4,c_4,d_4,e_4,f_4,g_4,h_4,i_4,k_4,l_4,_) => (Zm_L15 (a_4,b_4,c_4,d_4,e_4,f_4,g_4,i_4,0,k_4,l_4,h_4,(h_4.length : Nat),0,())).bind (Sum.elim (fun z6 => some (.inr (.inl (z6.1,())))) (Sum.elim (fun (a_7,b_7,c_7,d_7,e_7,f_7,g_7,h_7,i_7,k_7,_) => cond (neI h_7 4) (some (.inr (.inl (false,())))) (some (.inl (a_7,b_7,c_7,d_7,e_7,f_7,g_7,i_7,(addI .i64 k_7 1),())))) (fun _ => none)))) (fun _ => none))) (some (.inr (.inr (.inl ()))))
def Zm_L4 : Q48 → Option ((Bool × Unit) ⊕ (Unit ⊕ Empty)) := loopFix Zm_B4
def Zm_A4 : Ann := { head := Zm_H4, exits := Zm_E4, fn := Zm_L4 }
def Zm_As : Anns := [(4, Zm_A4), (8, Zm_A8), (15, Zm_A15)]
def Zm (x : (Q10 × Unit)) : Option (Bool × Unit) :=
 let (((a,b,c,_),d,e,f,_),_) := x; cond (eqI (d.length : Nat) 0) (some (false,())) ((Zav ((a,b,c,()),())).bind fun r1 => (Zm_L4 (a,b,c,d,e,f,r1.1,(r1.1.length : Nat),0,())).bind (Sum.elim (fun z3 => some (z3.1,())) (Sum.elim (fun z4 => some (true,())) (fun _ => none))))
def Zm_c : Con := { ins := [(.rd, yQ11)], outs := [(true, .bool)], fn := Zm }
def Zm_C : Ctx := { tab := tab, con := fun | 48, _ => some Zav_c | _, _ => none, glob := glob, eqs := eqs, maps := maps }
theorem Zm_R15 (x : Zm_H15.ty.den) : round Zm_C Zm_As Zm_A15 (loopBody 15 (bodyOf Tryd.f25)) x = Zm_B15 x := by kernel_rfl
theorem Zm_R8 (x : Zm_H8.ty.den) : round Zm_C Zm_As Zm_A8 (loopBody 8 (bodyOf Tryd.f25)) x = Zm_B8 x := by kernel_rfl
theorem Zm_R4 (x : Zm_H4.ty.den) : round Zm_C Zm_As Zm_A4 (loopBody 4 (bodyOf Tryd.f25)) x = Zm_B4 x := by kernel_rfl
theorem Zm_eq (x : (tupTy [yQ11]).den) : callFn Zm_C Zm_As (bodyOf Tryd.f25) [(.rd, yQ11)] [(.tmp 2, true, .bool)] x = Zm x := by kernel_rfl
def Zap_H11 : Shape := { env := [(1, .av (.val (.slice I))), (2, .av (.val I)), (3, .av (.ptr 3 0)), (7, .av (.own 7)), (9, .av (.val .bool)), (29, .av (.val (.slice I))), (30, .av (.val I)), (31, .av (.val I))], objs := [(3, .box [.val I, .val (.slice yQ2), .val yQ5, .val (.slice I), .val (.slice .str), .val I]), (7, .arr I)] }
def Zap_E11 : List (Ex × Shape) := [(.exit 4, { env := [(1, .av (.val (.slice I))), (2, .av (.val I)), (3, .av (.ptr 3 0)), (7, .av (.own 7)), (9, .av (.val .bool))], objs := [(3, .box [.val I, .val (.slice yQ2), .val yQ5, .val (.slice I), .val (.slice .str), .val I]), (7, .arr I)] })]
def Zap_B11 (x : Q66) : Option (Q66 ⊕ (Q49 ⊕ Empty)) :=
 let (a,b,c,d,e,f,g,h,i,k,l,m,n,_) := x; cond (ltI n m) ((getI l n).bind fun y1 => (Zbg ((a,b,c,()),n,())).bind fun r2 => (Zbg ((a,b,c,()),(xorI .i64 n 1),())).bind fun r3 => cond (eqI y1 i) ((idxI g.length r2.1).bind fun j4 => (g[j4]?).bind fun y5 => (idxI g.length r3.1).bind fun j6 => (g[j6]?).bind fun y7 => cond (neI y5 y7) ((idxI g.length r2.1).bind fun j8 => (g[j8]?).bind fun y9 => (idxI g.length r3.1).bind fun j10 => (g[j10]?).bind fun y11 => (idxI g.length r2.1).bind fun j12 => (g[j12]?).bind fun y13 => (idxI (g.set j12 (minI y9 y11)).length r2.1).bind fun j14 => ((g.set j12 (minI y9 y11))[j14]?).bind fun y15 => (idxI (g.set j12 (minI y9 y11)).length r3.1).bind fun j16 => ((g.set j12 (minI y9 y11))[j16]?).bind fun y17 => some (.inl (a,b,c,d,e,f,((g.set j12 (minI y9 y11)).set j16 y15),h,i,true,l,m,(addI .i64 n 1),()))) (some (.inl (a,b,c,d,e,f,g,h,i,k,l,m,(addI .i64 n 1),())))) (some (.inl (a,b,c,d,e,f,g,h,i,k,l,m,(addI .i64 n 1),())))) (some (.inr (.inl (a,b,c,d,e,f,g,h,i,k,()))))
def Zap_L11 : Q66 → Option (Q49 ⊕ Empty) := loopFix Zap_B11
def Zap_A11 : Ann := { head := Zap_H11, exits := Zap_E11, fn := Zap_L11 }
def Zap_H8 : Shape := { env := [(1, .av (.val (.slice I))), (2, .av (.val I)), (3, .av (.ptr 3 0)), (7, .av (.own 7)), (9, .av (.val .bool))], objs := [(3, .box [.val I, .val (.slice yQ2), .val yQ5, .val (.slice I), .val (.slice .str), .val I]), (7, .arr I)] }
def Zap_E8 : List (Ex × Shape) := [(.exit 2, { env := [(7, .av (.own 7))], objs := [(7, .arr I)] })]
def Zap_B8 (x : Q49) : Option (Q49 ⊕ (Q1 ⊕ Empty)) :=
 let (a,b,c,d,e,f,g,h,i,k,_) := x; cond k ((Zap_L11 (a,b,c,d,e,f,g,h,i,false,h,(h.length : Nat),0,())).bind (Sum.elim (fun (a_2,b_2,c_2,d_2,e_2,f_2,g_2,h_2,i_2,k_2,_) => some (.inl (a_2,b_2,c_2,d_2,e_2,f_2,g_2,h_2,i_2,k_2,()))) (fun _ => none))) (some (.inr (.inl (g,()))))
def Zap_L8 : Q49 → Option (Q1 ⊕ Empty) := loopFix Zap_B8
def Zap_A8 : Ann := { head := Zap_H8, exits := Zap_E8, fn := Zap_L8 }
def Zap_H3 : Shape := { env := [(1, .av (.val (.slice I))), (2, .av (.val I)), (3, .av (.ptr 3 0)), (7, .av (.own 7)), (19, .av (.val I)), (20, .av (.val I))], objs := [(3, .box [.val I, .val (.slice yQ2), .val yQ5, .val (.slice I), .val (.slice .str), .val I]), (7, .arr I)] }
def Zap_E3 : List (Ex × Shape) := [(.exit 0, { env := [(1, .av (.val (.slice I))), (2, .av (.val I)), (3, .av (.ptr 3 0)), (7, .av (.own 7))], objs := [(3, .box [.val I, .val (.slice yQ2), .val yQ5, .val (.slice I), .val (.slice .str), .val I]), (7, .arr I)] })]
def Zap_B3 (x : Q54) : Option (Q54 ⊕ (Q45 ⊕ Empty)) :=
 let (a,b,c,d,e,f,g,h,i,k,l,_) := x; cond (ltI l k) ((idxI g.length l).bind fun j1 => (g[j1]?).bind fun y2 => some (.inl (a,b,c,d,e,f,(g.set j1 l),h,i,k,(addI .i64 l 1),()))) (some (.inr (.inl (a,b,c,d,e,f,g,h,i,()))))
def Zap_L3 : Q54 → Option (Q45 ⊕ Empty) := loopFix Zap_B3
def Zap_A3 : Ann := { head := Zap_H3, exits := Zap_E3, fn := Zap_L3 }
def Zap_As : Anns := [(3, Zap_A3), (8, Zap_A8), (11, Zap_A11)]
def Zap (x : (Q10 × List Int × Int × Unit)) : Option Q1 :=
 let (((a,b,c,_),d,e,f,_),g,h,_) := x; (makeL I a a).bind fun m1 => (Zap_L3 (a,b,c,d,e,f,m1,g,h,(m1.length : Nat),0,())).bind (Sum.elim (fun (a_3,b_3,c_3,d_3,e_3,f_3,g_3,h_3,i_3,_) => (Zap_L8 (a_3,b_3,c_3,d_3,e_3,f_3,g_3,h_3,i_3,true,())).bind (Sum.elim (fun z5 => some (z5.1,())) (fun _ => none))) (fun _ => none))
def Zap_c : Con := { ins := [(.rd, yQ11), (.rd, (.slice I)), (.rd, I)], outs := [(true, (.slice I))], fn := Zap }
def Zap_C : Ctx := { tab := tab, con := fun | 31, _ => some Zbg_c | _, _ => none, glob := glob, eqs := eqs, maps := maps }
theorem Zap_R11 (x : Zap_H11.ty.den) : round Zap_C Zap_As Zap_A11 (loopBody 11 (bodyOf Tryd.f27)) x = Zap_B11 x := by kernel_rfl
theorem Zap_R8 (x : Zap_H8.ty.den) : round Zap_C Zap_As Zap_A8 (loopBody 8 (bodyOf Tryd.f27)) x = Zap_B8 x := by kernel_rfl
theorem Zap_R3 (x : Zap_H3.ty.den) : round Zap_C Zap_As Zap_A3 (loopBody 3 (bodyOf Tryd.f27)) x = Zap_B3 x := by kernel_rfl
theorem Zap_eq (x : (tupTy [yQ11, (.slice I), I]).den) : callFn Zap_C Zap_As (bodyOf Tryd.f27) [(.rd, yQ11), (.rd, (.slice I)), (.rd, I)] [(.tmp 6, true, (.slice I))] x = Zap x := by kernel_rfl
def Zba_H14 : Shape := { env := [(2, .av (.val (.slice I))), (9, .av (.own 9)), (14, .av (.own 14)), (70, .av (.val I)), (71, .av (.val I))], objs := [(9, .arr I), (14, .arr I)] }
def Zba_E14 : List (Ex × Shape) := [(.exit 4, { env := [(14, .av (.own 14))], objs := [(14, .arr I)] })]
def Zba_B14 (x : Q13) : Option (Q13 ⊕ (Q1 ⊕ Empty)) :=
 let (a,b,c,d,e,_) := x; cond (ltI e d) ((getI c e).bind fun y1 => (idxI a.length y1).bind fun j2 => (a[j2]?).bind fun y3 => (idxI b.length e).bind fun j4 => (b[j4]?).bind fun y5 => some (.inl (a,(b.set j4 y3),c,d,(addI .i64 e 1),()))) (some (.inr (.inl (b,()))))
def Zba_L14 : Q13 → Option (Q1 ⊕ Empty) := loopFix Zba_B14
def Zba_A14 : Ann := { head := Zba_H14, exits := Zba_E14, fn := Zba_L14 }
def Zba_H5 : Shape := { env := [(1, .av (.val (.slice I))), (2, .av (.val (.slice I))), (3, .av (.val I)), (4, .av (.ptr 4 0)), (9, .av (.own 9)), (22, .av (.val I)), (23, .av (.val I)), (25, .av (.val (.slice I))), (26, .av (.val I)), (27, .av (.val I))], objs := [(4, .box [.val I, .val (.slice yQ2), .val yQ5, .val (.slice I), .val (.slice .str), .val I]), (9, .arr I)] }
def Zba_E5 : List (Ex × Shape) := [(.exit 2, { env := [(1, .av (.val (.slice I))), (2, .av (.val (.slice I))), (3, .av (.val I)), (4, .av (.ptr 4 0)), (9, .av (.own 9)), (22, .av (.val I)), (23, .av (.val I))], objs := [(4, .box [.val I, .val (.slice yQ2), .val yQ5, .val (.slice I), .val (.slice .str), .val I]), (9, .arr I)] })]
def Zba_B5 (x : Q71) : Option (Q71 ⊕ (Q64 ⊕ Empty)) :=
 let (a,b,c,d,e,f,g,h,i,k,l,m,n,o,p,_) := x; cond (ltI p o) ((getI n p).bind fun y1 => (Zbg ((a,b,c,()),p,())).bind fun r2 => (getI i r2.1).bind fun y3 => (Zbg ((a,b,c,()),(xorI .i64 p 1),())).bind fun r4 => (getI i r4.1).bind fun y5 => cond (eqI y1 k) ((idxI g.length y5).bind fun j6 => (g[j6]?).bind fun y7 => (idxI g.length y3).bind fun j8 => (g[j8]?).bind fun y9 => (idxI g.length y5).bind fun j10 => (g[j10]?).bind fun y11 => some (.inl (a,b,c,d,e,f,(g.set j10 (maxI y7 (addI .i64 y9 1))),h,i,k,l,m,n,o,(addI .i64 p 1),()))) (some (.inl (a,b,c,d,e,f,g,h,i,k,l,m,n,o,(addI .i64 p 1),())))) (some (.inr (.inl (a,b,c,d,e,f,g,h,i,k,l,m,()))))
def Zba_L5 : Q71 → Option (Q64 ⊕ Empty) := loopFix Zba_B5
def Zba_A5 : Ann := { head := Zba_H5, exits := Zba_E5, fn := Zba_L5 }
def Zba_H3 : Shape := { env := [(1, .av (.val (.slice I))), (2, .av (.val (.slice I))), (3, .av (.val I)), (4, .av (.ptr 4 0)), (9, .av (.own 9)), (22, .av (.val I)), (23, .av (.val I))], objs := [(4, .box [.val I, .val (.slice yQ2), .val yQ5, .val (.slice I), .val (.slice .str), .val I]), (9, .arr I)] }
def Zba_E3 : List (Ex × Shape) := [(.exit 0, { env := [(2, .av (.val (.slice I))), (4, .av (.ptr 4 0)), (9, .av (.own 9))], objs := [(4, .box [.val I, .val (.slice yQ2), .val yQ5, .val (.slice I), .val (.slice .str), .val I]), (9, .arr I)] })]
def Zba_B3 (x : Q64) : Option (Q64 ⊕ (Q41 ⊕ Empty)) :=
 let (a,b,c,d,e,f,g,h,i,k,l,m,_) := x; cond (ltI m l) ((Zba_L5 (a,b,c,d,e,f,g,h,i,k,l,m,h,(h.length : Nat),0,())).bind (Sum.elim (fun (a_2,b_2,c_2,d_2,e_2,f_2,g_2,h_2,i_2,k_2,l_2,m_2,_) => some (.inl (a_2,b_2,c_2,d_2,e_2,f_2,g_2,h_2,i_2,k_2,l_2,(addI .i64 m_2 1),()))) (fun _ => none))) (some (.inr (.inl (a,b,c,d,e,f,g,i,()))))
def Zba_L3 : Q64 → Option (Q41 ⊕ Empty) := loopFix Zba_B3
def Zba_A3 : Ann := { head := Zba_H3, exits := Zba_E3, fn := Zba_L3 }
def Zba_As : Anns := [(3, Zba_A3), (5, Zba_A5), (14, Zba_A14)]
def Zba (x : (Q10 × List Int × List Int × Int × Unit)) : Option Q1 :=
 let (((a,b,c,_),d,e,f,_),g,h,i,_) := x; (makeL I a a).bind fun m1 => (Zba_L3 (a,b,c,d,e,f,m1,g,h,i,a,0,())).bind (Sum.elim (fun (a_3,_,_,_,_,_,b_3,c_3,_) => (makeL I a_3 a_3).bind fun m4 => (Zba_L14 (b_3,m4,c_3,(m4.length : Nat),0,())).bind (Sum.elim (fun z6 => some (z6.1,())) (fun _ => none))) (fun _ => none))
def Zba_c : Con := { ins := [(.rd, yQ11), (.rd, (.slice I)), (.rd, (.slice I)), (.rd, I)], outs := [(true, (.slice I))], fn := Zba }
def Zba_C : Ctx := { tab := tab, con := fun | 31, _ => some Zbg_c | _, _ => none, glob := glob, eqs := eqs, maps := maps }
theorem Zba_R14 (x : Zba_H14.ty.den) : round Zba_C Zba_As Zba_A14 (loopBody 14 (bodyOf Tryd.f26)) x = Zba_B14 x := by kernel_rfl
theorem Zba_R5 (x : Zba_H5.ty.den) : round Zba_C Zba_As Zba_A5 (loopBody 5 (bodyOf Tryd.f26)) x = Zba_B5 x := by kernel_rfl
theorem Zba_R3 (x : Zba_H3.ty.den) : round Zba_C Zba_As Zba_A3 (loopBody 3 (bodyOf Tryd.f26)) x = Zba_B3 x := by kernel_rfl
theorem Zba_eq (x : (tupTy [yQ11, (.slice I), (.slice I), I]).den) : callFn Zba_C Zba_As (bodyOf Tryd.f26) [(.rd, yQ11), (.rd, (.slice I)), (.rd, (.slice I)), (.rd, I)] [(.tmp 8, true, (.slice I))] x = Zba x := by kernel_rfl
def Zbb_H8 : Shape := { env := [(5, .av (.own 5)), (6, .av (.own 6)), (7, .av (.own 7)), (36, .av (.val I)), (37, .av (.val I))], objs := [(5, .arr I), (6, .arr I), (7, .arr yQ2)] }
def Zbb_E8 : List (Ex × Shape) := [(.exit 0, { env := [(7, .av (.own 7))], objs := [(7, .arr yQ2)] })]
def Zbb_B8 (x : Q15) : Option (Q15 ⊕ (((List Q2) × Unit) ⊕ Empty)) :=
 let (a,b,c,d,e,_) := x; cond (ltI e d) ((idxI a.length e).bind fun j1 => (a[j1]?).bind fun y2 => (idxI b.length e).bind fun j3 => (b[j3]?).bind fun y4 => (idxI c.length e).bind fun j5 => (c[j5]?).bind fun y6 => some (.inl (a,b,(c.set j5 (y2,y4,())),d,(addI .i64 e 1),()))) (some (.inr (.inl (c,()))))
def Zbb_L8 : Q15 → Option (((List Q2) × Unit) ⊕ Empty) := loopFix Zbb_B8
def Zbb_A8 : Ann := { head := Zbb_H8, exits := Zbb_E8, fn := Zbb_L8 }
def Zbb_As : Anns := [(8, Zbb_A8)]
def Zbb (x : (Q10 × Unit)) : Option ((List Q2) × Int × Unit) :=
 let (((a,b,c,_),d,e,f,_),_) := x; (Zal (((a,b,c,()),d,e,f,()),())).bind fun r1 => cond (!r1.1) (some ([],13,())) ((Zm (((a,b,c,()),d,e,f,()),())).bind fun r2 => cond (!r2.1) (some ([],13,())) ((Zai (((a,b,c,()),d,e,f,()),())).bind fun r3 => (Zap (((a,b,c,()),d,e,f,()),r3.1,0,())).bind fun r4 => (Zba (((a,b,c,()),d,e,f,()),r3.1,r4.1,1,())).bind fun r5 => (Zap (((a,b,c,()),d,e,f,()),r3.1,1,())).bind fun r6 => (Zba (((a,b,c,()),d,e,f,()),r3.1,r6.1,2,())).bind fun r7 => (makeL yQ2 a a).bind fun m8 => (Zbb_L8 (r5.1,r7.1,m8,(m8.length : Nat),0,())).bind (Sum.elim (fun z10 => some (z10.1,0,())) (fun _ => none))))
def Zbb_c : Con := { ins := [(.rd, yQ11)], outs := [(true, (.slice yQ2)), (true, I)], fn := Zbb }
def Zbb_C : Ctx := { tab := tab, con := fun | 22, _ => some Zal_c | 23, _ => some Zai_c | 25, _ => some Zm_c | 26, _ => some Zba_c | 27, _ => some Zap_c | _, _ => none, glob := glob, eqs := eqs, maps := maps }
theorem Zbb_R8 (x : Zbb_H8.ty.den) : round Zbb_C Zbb_As Zbb_A8 (loopBody 8 (bodyOf Tryd.f13)) x = Zbb_B8 x := by kernel_rfl
theorem Zbb_eq (x : (tupTy [yQ11]).den) : callFn Zbb_C Zbb_As (bodyOf Tryd.f13) [(.rd, yQ11)] [(.tmp 2, true, (.slice yQ2)), (.tmp 3, true, I)] x = Zbb x := by kernel_rfl
def Zi_H4 : Shape := { env := [(0, .av (.val (.slice I))), (1, .av (.val (.slice I))), (5, .av (.val I))], objs := [] }
def Zi_E4 : List (Ex × Shape) := [(.ret, { env := [(4, .av (.val .bool))], objs := [] }), (.exit 0, { env := [], objs := [] })]
def Zi_B4 (x : (List Int × List Int × Int × Unit)) : Option ((List Int × List Int × Int × Unit) ⊕ ((Bool × Unit) ⊕ (Unit ⊕ Empty))) :=
 let (a,b,c,_) := x; cond (ltI c (a.length : Nat)) ((getI a c).bind fun y1 => (getI b c).bind fun y2 => cond (neI y1 y2) (some (.inr (.inl (false,())))) (some (.inl (a,b,(addI .i64 c 1),())))) (some (.inr (.inr (.inl ()))))
def Zi_L4 : (List Int × List Int × Int × Unit) → Option ((Bool × Unit) ⊕ (Unit ⊕ Empty)) := loopFix Zi_B4
def Zi_A4 : Ann := { head := Zi_H4, exits := Zi_E4, fn := Zi_L4 }
def Zi_As : Anns := [(4, Zi_A4)]
def Zi (x : (List Int × List Int × Unit)) : Option (Bool × Unit) :=
 cond (neI (x.1.length : Nat) (x.2.1.length : Nat)) (some (false,())) ((Zi_L4 (x.1,x.2.1,0,())).bind (Sum.elim (fun z2 => some (z2.1,())) (Sum.elim (fun z3 => some (true,())) (fun _ => none))))
def Zi_c : Con := { ins := [(.rd, (.slice I)), (.rd, (.slice I))], outs := [(true, .bool)], fn := Zi }
def Zi_C : Ctx := { tab := tab, con := fun _ _ => none, glob := glob, eqs := eqs, maps := maps }
theorem Zi_R4 (x : Zi_H4.ty.den) : round Zi_C Zi_As Zi_A4 (loopBody 4 (bodyOf Tryd.f12)) x = Zi_B4 x := by kernel_rfl
theorem Zi_eq (x : (tupTy [(.slice I), (.slice I)]).den) : callFn Zi_C Zi_As (bodyOf Tryd.f12) [(.rd, (.slice I)), (.rd, (.slice I))] [(.tmp 4, true, .bool)] x = Zi x := by kernel_rfl
def Zf_H4 : Shape := { env := [(0, .av (.val (.slice yQ2))), (1, .av (.val (.slice yQ2))), (5, .av (.val I))], objs := [] }
def Zf_E4 : List (Ex × Shape) := [(.ret, { env := [(4, .av (.val .bool))], objs := [] }), (.exit 0, { env := [], objs := [] })]
def Zf_B4 (x : ((List Q2) × (List Q2) × Int × Unit)) : Option (((List Q2) × (List Q2) × Int × Unit) ⊕ ((Bool × Unit) ⊕ (Unit ⊕ Empty))) :=
 let (a,b,c,_) := x; cond (ltI c (a.length : Nat)) ((getI a c).bind fun y1 => (getI b c).bind fun y2 => cond (!((eqI y1.1 y2.1) && ((eqI y1.2.1 y2.2.1) && true))) (some (.inr (.inl (false,())))) (some (.inl (a,b,(addI .i64 c 1),())))) (some (.inr (.inr (.inl ()))))
def Zf_L4 : ((List Q2) × (List Q2) × Int × Unit) → Option ((Bool × Unit) ⊕ (Unit ⊕ Empty)) := loopFix Zf_B4
def Zf_A4 : Ann := { head := Zf_H4, exits := Zf_E4, fn := Zf_L4 }
def Zf_As : Anns := [(4, Zf_A4)]
def Zf (x : ((List Q2) × (List Q2) × Unit)) : Option (Bool × Unit) :=
 cond (neI (x.1.length : Nat) (x.2.1.length : Nat)) (some (false,())) ((Zf_L4 (x.1,x.2.1,0,())).bind (Sum.elim (fun z2 => some (z2.1,())) (Sum.elim (fun z3 => some (true,())) (fun _ => none))))
def Zf_c : Con := { ins := [(.rd, (.slice yQ2)), (.rd, (.slice yQ2))], outs := [(true, .bool)], fn := Zf }
def Zf_C : Ctx := { tab := tab, con := fun _ _ => none, glob := glob, eqs := eqs, maps := maps }
theorem Zf_R4 (x : Zf_H4.ty.den) : round Zf_C Zf_As Zf_A4 (loopBody 4 (bodyOf Tryd.f15)) x = Zf_B4 x := by kernel_rfl
theorem Zf_eq (x : (tupTy [(.slice yQ2), (.slice yQ2)]).den) : callFn Zf_C Zf_As (bodyOf Tryd.f15) [(.rd, (.slice yQ2)), (.rd, (.slice yQ2))] [(.tmp 4, true, .bool)] x = Zf x := by kernel_rfl
def Zbp_As : Anns := []
def Zbp (x : (Q2 × Unit)) : Option (Bool × Unit) :=
 let ((a,b,_),_) := x; cond (geI a (-268435456)) (cond (leI a 268435456) (cond (geI b (-268435456)) (some ((leI b 268435456),())) (some (false,()))) (some (false,()))) (some (false,()))
def Zbp_c : Con := { ins := [(.rd, yQ2)], outs := [(true, .bool)], fn := Zbp }
def Zbp_C : Ctx := { tab := tab, con := fun _ _ => none, glob := glob, eqs := eqs, maps := maps }
theorem Zbp_eq (x : (tupTy [yQ2]).den) : callFn Zbp_C Zbp_As (bodyOf Tryd.f49) [(.rd, yQ2)] [(.tmp 2, true, .bool)] x = Zbp x := by kernel_rfl
def Zaa_H3 : Shape := { env := [(3, .av (.ownm 3)), (7, .av (.val (.slice yQ2))), (8, .av (.val I)), (9, .av (.val I))], objs := [(3, .map yQ2 .bool)] }
def Zaa_E3 : List (Ex × Shape) := [(.ret, { env := [(2, .av (.val .bool))], objs := [] }), (.exit 0, { env := [], objs := [] })]
def Zaa_B3 (x : Q14) : Option (Q14 ⊕ ((Bool × Unit) ⊕ (Unit ⊕ Empty))) :=
 let (a,b,c,d,_) := x; cond (ltI d c) ((getI b d).bind fun y1 => (Zbp ((y1.1,y1.2.1,()),())).bind fun r2 => cond (!r2.1) (some (.inr (.inl (false,())))) (cond ((mapGet yQ2 .bool (y1.1,y1.2.1,()) a).getD (zeroVal .bool)) (some (.inr (.inl (false,())))) (some (.inl ((mapSet yQ2 .bool (y1.1,y1.2.1,()) true a),b,c,(addI .i64 d 1),()))))) (some (.inr (.inr (.inl ()))))
def Zaa_L3 : Q14 → Option ((Bool × Unit) ⊕ (Unit ⊕ Empty)) := loopFix Zaa_B3
def Zaa_A3 : Ann := { head := Zaa_H3, exits := Zaa_E3, fn := Zaa_L3 }
def Zaa_As : Anns := [(3, Zaa_A3)]
def Zaa (x : ((List Q2) × Unit)) : Option (Bool × Unit) :=
 (Zaa_L3 ([],x.1,(x.1.length : Nat),0,())).bind (Sum.elim (fun z2 => some (z2.1,())) (Sum.elim (fun z3 => some (true,())) (fun _ => none)))
def Zaa_c : Con := { ins := [(.rd, (.slice yQ2))], outs := [(true, .bool)], fn := Zaa }
def Zaa_C : Ctx := { tab := tab, con := fun | 49, _ => some Zbp_c | _, _ => none, glob := glob, eqs := eqs, maps := maps }
theorem Zaa_R3 (x : Zaa_H3.ty.den) : round Zaa_C Zaa_As Zaa_A3 (loopBody 3 (bodyOf Tryd.f29)) x = Zaa_B3 x := by kernel_rfl
theorem Zaa_eq (x : (tupTy [(.slice yQ2)]).den) : callFn Zaa_C Zaa_As (bodyOf Tryd.f29) [(.rd, (.slice yQ2))] [(.tmp 2, true, .bool)] x = Zaa x := by kernel_rfl
def Zbi_As : Anns := []
def Zbi (x : (Q2 × Q2 × Int × Unit)) : Option (Bool × Unit) :=
 let ((a,b,_),(c,d,_),e,_) := x; cond (eqI e 0) (cond (eqI a c) (some ((ltI d b),())) (some (false,()))) (cond (eqI e 1) (cond (eqI b d) (some ((gtI c a),())) (some (false,()))) (cond (eqI e 2) (cond (eqI a c) (some ((gtI d b),())) (some (false,()))) (cond (eqI b d) (some ((ltI c a),())) (some (false,())))))
def Zbi_c : Con := { ins := [(.rd, yQ2), (.rd, yQ2), (.rd, I)], outs := [(true, .bool)], fn := Zbi }
def Zbi_C : Ctx := { tab := tab, con := fun _ _ => none, glob := glob, eqs := eqs, maps := maps }
theorem Zbi_eq (x : (tupTy [yQ2, yQ2, I]).den) : callFn Zbi_C Zbi_As (bodyOf Tryd.f30) [(.rd, yQ2), (.rd, yQ2), (.rd, I)] [(.tmp 6, true, .bool)] x = Zbi x := by kernel_rfl
def Zbs_As : Anns := []
def Zbs (x : (Q3 × Unit)) : Option (Q3 × Bool × Unit) :=
 let (((a,b,_),(c,d,_),_),_) := x; (Zbp ((a,b,()),())).bind fun r1 => cond r1.1 ((Zbp ((c,d,()),())).bind fun r2 => some (((a,b,()),(c,d,()),()),r2.1,())) (some (((a,b,()),(c,d,()),()),false,()))
def Zbs_c : Con := { ins := [(.rd, yQ4)], outs := [(true, yQ4), (true, .bool)], fn := Zbs }
def Zbs_C : Ctx := { tab := tab, con := fun | 49, _ => some Zbp_c | _, _ => none, glob := glob, eqs := eqs, maps := maps }
theorem Zbs_eq (x : (tupTy [yQ4]).den) : callFn Zbs_C Zbs_As (bodyOf Tryd.f66) [(.rd, yQ4)] [(.cell 2 78, true, yQ4), (.tmp 3, true, .bool)] x = Zbs x := by kernel_rfl
def Zao_As : Anns := []
def Zao (x : (Q3 × Q2 × Unit)) : Option (Bool × Unit) :=
 let (((a,b,_),(c,d,_),_),(e,f,_),_) := x; cond (geI e (minI a c)) (cond (leI e (maxI a c)) (cond (geI f (minI b d)) (some ((leI f (maxI b d)),())) (some (false,()))) (some (false,()))) (some (false,()))
def Zao_c : Con := { ins := [(.rd, yQ4), (.rd, yQ2)], outs := [(true, .bool)], fn := Zao }
def Zao_C : Ctx := { tab := tab, con := fun _ _ => none, glob := glob, eqs := eqs, maps := maps }
theorem Zao_eq (x : (tupTy [yQ4, yQ2]).den) : callFn Zao_C Zao_As (bodyOf Tryd.f81) [(.rd, yQ4), (.rd, yQ2)] [(.tmp 4, true, .bool)] x = Zao x := by kernel_rfl
def Zas_As : Anns := []
def Zas (x : (Q3 × Q2 × Unit)) : Option (Int × Unit) :=
 let (((a,b,_),(c,d,_),_),(e,f,_),_) := x; cond (gtI (subI .i64 (mulI .i64 (subI .i64 c a) (subI .i64 f b)) (mulI .i64 (subI .i64 d b) (subI .i64 e a))) 0) (some (1,())) (cond (ltI (subI .i64 (mulI .i64 (subI .i64 c a) (subI .i64 f b)) (mulI .i64 (subI .i64 d b) (subI .i64 e a))) 0) (some ((-1),())) (some (0,())))
def Zas_c : Con := { ins := [(.rd, yQ4), (.rd, yQ2)], outs := [(true, I)], fn := Zas }
def Zas_C : Ctx := { tab := tab, con := fun _ _ => none, glob := glob, eqs := eqs, maps := maps }
theorem Zas_eq (x : (tupTy [yQ4, yQ2]).den) : callFn Zas_C Zas_As (bodyOf Tryd.f82) [(.rd, yQ4), (.rd, yQ2)] [(.tmp 4, true, I)] x = Zas x := by kernel_rfl
def Zaz_As : Anns := []
def Zaz (x : (Q3 × Q2 × Unit)) : Option (Bool × Unit) :=
 let (((a,b,_),(c,d,_),_),(e,f,_),_) := x; (Zao (((a,b,()),(c,d,()),()),(e,f,()),())).bind fun r1 => cond r1.1 ((Zas (((a,b,()),(c,d,()),()),(e,f,()),())).bind fun r2 => some ((eqI r2.1 0),())) (some (false,()))
def Zaz_c : Con := { ins := [(.rd, yQ4), (.rd, yQ2)], outs := [(true, .bool)], fn := Zaz }
def Zaz_C : Ctx := { tab := tab, con := fun | 81, _ => some Zao_c | 82, _ => some Zas_c | _, _ => none, glob := glob, eqs := eqs, maps := maps }
theorem Zaz_eq (x : (tupTy [yQ4, yQ2]).den) : callFn Zaz_C Zaz_As (bodyOf Tryd.f67) [(.rd, yQ4), (.rd, yQ2)] [(.tmp 4, true, .bool)] x = Zaz x := by kernel_rfl
def Zbt_As : Anns := []
def Zbt (x : (Q2 × Q3 × Unit)) : Option (Bool × Unit) :=
 let ((a,b,_),((c,d,_),(e,f,_),_),_) := x; (Zbs (((c,d,()),(e,f,()),()),())).bind fun r1 => cond r1.2.1 ((Zbp ((a,b,()),())).bind fun r2 => cond r2.1 ((Zaz (((r1.1.1.1,r1.1.1.2.1,()),(r1.1.2.1.1,r1.1.2.1.2.1,()),()),(a,b,()),())).bind fun r3 => some (r3.1,())) (some (false,()))) (some (false,()))
def Zbt_c : Con := { ins := [(.rd, yQ2), (.rd, yQ4)], outs := [(true, .bool)], fn := Zbt }
def Zbt_C : Ctx := { tab := tab, con := fun | 49, _ => some Zbp_c | 66, _ => some Zbs_c | 67, _ => some Zaz_c | _, _ => none, glob := glob, eqs := eqs, maps := maps }
theorem Zbt_eq (x : (tupTy [yQ2, yQ4]).den) : callFn Zbt_C Zbt_As (bodyOf Tryd.f52) [(.rd, yQ2), (.rd, yQ4)] [(.tmp 4, true, .bool)] x = Zbt x := by kernel_rfl
def Zah_As : Anns := []
def Zah (x : (Q3 × Q3 × Unit)) : Option (Bool × Unit) :=
 let (((a,b,_),(c,d,_),_),((e,f,_),(g,h,_),_),_) := x; (Zas (((a,b,()),(c,d,()),()),(e,f,()),())).bind fun r1 => (Zas (((a,b,()),(c,d,()),()),(g,h,()),())).bind fun r2 => some ((ltI (mulI .i64 r1.1 r2.1) 0),())
def Zah_c : Con := { ins := [(.rd, yQ4), (.rd, yQ4)], outs := [(true, .bool)], fn := Zah }
def Zah_C : Ctx := { tab := tab, con := fun | 82, _ => some Zas_c | _, _ => none, glob := glob, eqs := eqs, maps := maps }
theorem Zah_eq (x : (tupTy [yQ4, yQ4]).den) : callFn Zah_C Zah_As (bodyOf Tryd.f68) [(.rd, yQ4), (.rd, yQ4)] [(.tmp 4, true, .bool)] x = Zah x := by kernel_rfl
def Zbr_As : Anns := []
def Zbr (x : (Q3 × Q3 × Unit)) : Option (Bool × Unit) :=
 let (((a,b,_),(c,d,_),_),((e,f,_),(g,h,_),_),_) := x; (Zbs (((a,b,()),(c,d,()),()),())).bind fun r1 => (Zbs (((e,f,()),(g,h,()),()),())).bind fun r2 => let t_0 := (Zaz (((r1.1.1.1,r1.1.1.2.1,()),(r1.1.2.1.1,r1.1.2.1.2.1,()),()),(r2.1.1.1,r2.1.1.2.1,()),())).bind fun r5 => cond r5.1 (some (true,())) ((Zaz (((r1.1.1.1,r1.1.1.2.1,()),(r1.1.2.1.1,r1.1.2.1.2.1,()),()),(r2.1.2.1.1,r2.1.2.1.2.1,()),())).bind fun r6 => cond r6.1 (some (true,())) ((Zaz (((r2.1.1.1,r2.1.1.2.1,()),(r2.1.2.1.1,r2.1.2.1.2.1,()),()),(r1.1.1.1,r1.1.1.2.1,()),())).bind fun r7 => cond r7.1 (some (true,())) ((Zaz (((r2.1.1.1,r2.1.1.2.1,()),(r2.1.2.1.1,r2.1.2.1.2.1,()),()),(r1.1.2.1.1,r1.1.2.1.2.1,()),())).bind fun r8 => some (r8.1,())))); cond (!r1.2.1) (some (false,())) (cond (!r2.2.1) (some (false,())) ((Zah (((r1.1.1.1,r1.1.1.2.1,()),(r1.1.2.1.1,r1.1.2.1.2.1,()),()),((r2.1.1.1,r2.1.1.2.1,()),(r2.1.2.1.1,r2.1.2.1.2.1,()),()),())).bind fun r3 => cond r3.1 ((Zah (((r2.1.1.1,r2.1.1.2.1,()),(r2.1.2.1.1,r2.1.2.1.2.1,()),()),((r1.1.1.1,r1.1.1.2.1,()),(r1.1.2.1.1,r1.1.2.1.2.1,()),()),())).bind fun r4 => cond r4.1 (some (true,())) t_0) t_0))
def Zbr_c : Con := { ins := [(.rd, yQ4), (.rd, yQ4)], outs := [(true, .bool)], fn := Zbr }
def Zbr_C : Ctx := { tab := tab, con := fun | 66, _ => some Zbs_c | 67, _ => some Zaz_c | 68, _ => some Zah_c | _, _ => none, glob := glob, eqs := eqs, maps := maps }
theorem Zbr_eq (x : (tupTy [yQ4, yQ4]).den) : callFn Zbr_C Zbr_As (bodyOf Tryd.f53) [(.rd, yQ4), (.rd, yQ4)] [(.tmp 4, true, .bool)] x = Zbr x := by kernel_rfl
def Zbh_As : Anns := []
def Zbh (x : ((List Q2) × Q2 × Q2 × Unit)) : Option (Bool × Unit) :=
 let (a,(b,c,_),(d,e,_),_) := x; (getI a b).bind fun y1 => (getI a c).bind fun y2 => (getI a d).bind fun y3 => (getI a e).bind fun y4 => let t_1 := cond (eqI b d) ((Zbt ((y2.1,y2.2.1,()),((y3.1,y3.2.1,()),(y4.1,y4.2.1,()),()),())).bind fun r5 => cond (!r5.1) ((Zbt ((y4.1,y4.2.1,()),((y1.1,y1.2.1,()),(y2.1,y2.2.1,()),()),())).bind fun r6 => some ((!r6.1),())) (some (false,()))) (cond (eqI b e) ((Zbt ((y2.1,y2.2.1,()),((y3.1,y3.2.1,()),(y4.1,y4.2.1,()),()),())).bind fun r7 => cond (!r7.1) ((Zbt ((y3.1,y3.2.1,()),((y1.1,y1.2.1,()),(y2.1,y2.2.1,()),()),())).bind fun r8 => some ((!r8.1),())) (some (false,()))) (cond (eqI c d) ((Zbt ((y1.1,y1.2.1,()),((y3.1,y3.2.1,()),(y4.1,y4.2.1,()),()),())).bind fun r9 => cond (!r9.1) ((Zbt ((y4.1,y4.2.1,()),((y1.1,y1.2.1,()),(y2.1,y2.2.1,()),()),())).bind fun r10 => some ((!r10.1),())) (some (false,()))) (cond (eqI c e) ((Zbt ((y1.1,y1.2.1,()),((y3.1,y3.2.1,()),(y4.1,y4.2.1,()),()),())).bind fun r11 => cond (!r11.1) ((Zbt ((y3.1,y3.2.1,()),((y1.1,y1.2.1,()),(y2.1,y2.2.1,()),()),())).bind fun r12 => some ((!r12.1),())) (some (false,()))) ((Zbr (((y1.1,y1.2.1,()),(y2.1,y2.2.1,()),()),((y3.1,y3.2.1,()),(y4.1,y4.2.1,()),()),())).bind fun r13 => some ((!r13.1),()))))); let t_0 := cond (eqI b e) (cond (eqI c d) (some (false,())) t_1) t_1; cond (eqI b d) (cond (eqI c e) (some (false,())) t_0) t_0
def Zbh_c : Con := { ins := [(.rd, (.slice yQ2)), (.rd, yQ2), (.rd, yQ2)], outs := [(true, .bool)], fn := Zbh }
def Zbh_C : Ctx := { tab := tab, con := fun | 52, _ => some Zbt_c | 53, _ => some Zbr_c | _, _ => none, glob := glob, eqs := eqs, maps := maps }
theorem Zbh_eq (x : (tupTy [(.slice yQ2), yQ2, yQ2]).den) : callFn Zbh_C Zbh_As (bodyOf Tryd.f32) [(.rd, (.slice yQ2)), (.rd, yQ2), (.rd, yQ2)] [(.tmp 6, true, .bool)] x = Zbh x := by kernel_rfl
def Zbf_H13 : Shape := { env := [(1, .av (.val (.slice yQ2))), (2, .av (.ptr 2 0)), (8, .av (.ptr 8 0)), (56, .av (.val (.slice yQ2))), (57, .av (.val I)), (58, .av (.val I)), (67, .av (.val (.slice yQ2))), (68, .av (.val I)), (69, .av (.val I))], objs := [(2, .box [.val I, .val (.slice yQ2), .val yQ5, .val (.slice I), .val (.slice .str), .val I]), (8, .box [.val I, .val I])] }
def Zbf_E13 : List (Ex × Shape) := [(.ret, { env := [(4, .av (.val .bool))], objs := [] }), (.exit 4, { env := [(1, .av (.val (.slice yQ2))), (2, .av (.ptr 2 0)), (56, .av (.val (.slice yQ2))), (57, .av (.val I)), (58, .av (.val I))], objs := [(2, .box [.val I, .val (.slice yQ2), .val yQ5, .val (.slice I), .val (.slice .str), .val I])] })]
def Zbf_B13 (x : Q70) : Option (Q70 ⊕ ((Bool × Unit) ⊕ (Q51 ⊕ Empty))) :=
 let (a,b,c,d,e,f,g,h,i,k,l,m,n,o,p,_) := x; cond (ltI p o) ((getI n p).bind fun y1 => (Zbh (i,(g,h,()),(y1.1,y1.2.1,()),())).bind fun r2 => cond (!r2.1) (some (.inr (.inl (false,())))) (some (.inl (a,b,c,d,e,f,g,h,i,k,l,m,n,o,(addI .i64 p 1),())))) (some (.inr (.inr (.inl (a,b,c,d,e,f,i,k,l,m,())))))
def Zbf_L13 : Q70 → Option ((Bool × Unit) ⊕ (Q51 ⊕ Empty)) := loopFix Zbf_B13
def Zbf_A13 : Ann := { head := Zbf_H13, exits := Zbf_E13, fn := Zbf_L13 }
def Zbf_H10 : Shape := { env := [(1, .av (.val (.slice yQ2))), (2, .av (.ptr 2 0)), (56, .av (.val (.slice yQ2))), (57, .av (.val I)), (58, .av (.val I))], objs := [(2, .box [.val I, .val (.slice yQ2), .val yQ5, .val (.slice I), .val (.slice .str), .val I])] }
def Zbf_E10 : List (Ex × Shape) := [(.ret, { env := [(4, .av (.val .bool))], objs := [] }), (.exit 2, { env := [], objs := [] })]
def Zbf_B10 (x : Q51) : Option (Q51 ⊕ ((Bool × Unit) ⊕ (Unit ⊕ Empty))) :=
 let (a,b,c,d,e,f,g,h,i,k,_) := x; cond (ltI k i) ((getI h k).bind fun y1 => (sliceL b 0 k).bind fun y2 => (Zbf_L13 (a,b,c,d,e,f,y1.1,y1.2.1,g,h,i,k,y2,(y2.length : Nat),0,())).bind (Sum.elim (fun z4 => some (.inr (.inl (z4.1,())))) (Sum.elim (fun (a_5,b_5,c_5,d_5,e_5,f_5,g_5,h_5,i_5,k_5,_) => some (.inl (a_5,b_5,c_5,d_5,e_5,f_5,g_5,h_5,i_5,(addI .i64 k_5 1),()))) (fun _ => none)))) (some (.inr (.inr (.inl ()))))
def Zbf_L10 : Q51 → Option ((Bool × Unit) ⊕ (Unit ⊕ Empty)) := loopFix Zbf_B10
def Zbf_A10 : Ann := { head := Zbf_H10, exits := Zbf_E10, fn := Zbf_L10 }
def Zbf_H4 : Shape := { env := [(1, .av (.val (.slice yQ2))), (2, .av (.ptr 2 0)), (28, .av (.own 28)), (29, .av (.val I)), (30, .av (.val I))], objs := [(2, .box [.val I, .val (.slice yQ2), .val yQ5, .val (.slice I), .val (.slice .str), .val I]), (28, .arr I)] }
def Zbf_E4 : List (Ex × Shape) := [(.ret, { env := [(4, .av (.val .bool))], objs := [] }), (.exit 0, { env := [(1, .av (.val (.slice yQ2))), (2, .av (.ptr 2 0))], objs := [(2, .box [.val I, .val (.slice yQ2), .val yQ5, .val (.slice I), .val (.slice .str), .val I])] })]
def Zbf_B4 (x : Q50) : Option (Q50 ⊕ ((Bool × Unit) ⊕ (Q35 ⊕ Empty))) :=
 let (a,b,c,d,e,f,g,h,i,k,_) := x; cond (ltI k i) ((idxI g.length k).bind fun j1 => (g[j1]?).bind fun y2 => (Zbg ((a,b,c,()),k,())).bind fun r3 => (getI h r3.1).bind fun y4 => (Zbg ((a,b,c,()),(xorI .i64 k 1),())).bind fun r5 => (getI h r5.1).bind fun y6 => (Zbi (y4,y6,y2,())).bind fun r7 => cond (!r7.1) (some (.inr (.inl (false,())))) (some (.inl (a,b,c,d,e,f,g,h,i,(addI .i64 k 1),())))) (some (.inr (.inr (.inl (a,b,c,d,e,f,h,())))))
def Zbf_L4 : Q50 → Option ((Bool × Unit) ⊕ (Q35 ⊕ Empty)) := loopFix Zbf_B4
def Zbf_A4 : Ann := { head := Zbf_H4, exits := Zbf_E4, fn := Zbf_L4 }
def Zbf_As : Anns := [(4, Zbf_A4), (10, Zbf_A10), (13, Zbf_A13)]
def Zbf (x : (Q10 × (List Q2) × Unit)) : Option (Bool × Unit) :=
 let (((a,b,c,_),d,e,f,_),g,_) := x; (Zal (((a,b,c,()),d,e,f,()),())).bind fun r1 => cond (!r1.1) (some (false,())) (cond (neI (g.length : Nat) a) (some (false,())) ((Zaa (g,())).bind fun r2 => cond (!r2.1) (some (false,())) ((Zai (((a,b,c,()),d,e,f,()),())).bind fun r3 => (Zbf_L4 (a,b,c,d,e,f,r3.1,g,(r3.1.length : Nat),0,())).bind (Sum.elim (fun z5 => some (z5.1,())) (Sum.elim (fun (a_6,b_6,c_6,d_6,e_6,f_6,g_6,_) => (Zbf_L10 (a_6,b_6,c_6,d_6,e_6,f_6,g_6,b_6,(b_6.length : Nat),0,())).bind (Sum.elim (fun z8 => some (z8.1,())) (Sum.elim (fun z9 => some (true,())) (fun _ => none)))) (fun _ => none))))))
def Zbf_c : Con := { ins := [(.rd, yQ11), (.rd, (.slice yQ2))], outs := [(true, .bool)], fn := Zbf }
def Zbf_C : Ctx := { tab := tab, con := fun | 22, _ => some Zal_c | 23, _ => some Zai_c | 29, _ => some Zaa_c | 30, _ => some Zbi_c | 31, _ => some Zbg_c | 32, _ => some Zbh_c | _, _ => none, glob := glob, eqs := eqs, maps := maps }
theorem Zbf_R13 (x : Zbf_H13.ty.den) : round Zbf_C Zbf_As Zbf_A13 (loopBody 13 (bodyOf Tryd.f16)) x = Zbf_B13 x := by kernel_rfl
theorem Zbf_R10 (x : Zbf_H10.ty.den) : round Zbf_C Zbf_As Zbf_A10 (loopBody 10 (bodyOf Tryd.f16)) x = Zbf_B10 x := by kernel_rfl
theorem Zbf_R4 (x : Zbf_H4.ty.den) : round Zbf_C Zbf_As Zbf_A4 (loopBody 4 (bodyOf Tryd.f16)) x = Zbf_B4 x := by kernel_rfl
theorem Zbf_eq (x : (tupTy [yQ11, (.slice yQ2)]).den) : callFn Zbf_C Zbf_As (bodyOf Tryd.f16) [(.rd, yQ11), (.rd, (.slice yQ2))] [(.tmp 4, true, .bool)] x = Zbf x := by kernel_rfl
def Zy_As : Anns := []
def Zy (x : Unit) : Option (Bool × Unit) :=
 (Zp ()).bind fun r1 => (Zq (((r1.1.1.1,r1.1.1.2.1,r1.1.1.2.2.1,()),r1.1.2.1,r1.1.2.2.1,r1.1.2.2.2.1,()),())).bind fun r2 => (Zp ()).bind fun r3 => (Zbb (((r3.1.1.1,r3.1.1.2.1,r3.1.1.2.2.1,()),r3.1.2.1,r3.1.2.2.1,r3.1.2.2.2.1,()),())).bind fun r4 => cond (eqI r2.2.1 0) ((Zi (r2.1,[1,3,0,2,3,1,2,0],())).bind fun r5 => cond r5.1 (cond (eqI r4.2.1 0) ((Zf (r4.1,[(0,1,()),(1,1,()),(1,0,()),(0,0,())],())).bind fun r6 => cond r6.1 ((Zp ()).bind fun r7 => (Zbf (((r7.1.1.1,r7.1.1.2.1,r7.1.1.2.2.1,()),r7.1.2.1,r7.1.2.2.1,r7.1.2.2.2.1,()),r4.1,())).bind fun r8 => cond r8.1 ((Zp ()).bind fun r9 => (Zbf (((r9.1.1.1,r9.1.1.2.1,r9.1.1.2.2.1,()),r9.1.2.1,r9.1.2.2.1,r9.1.2.2.2.1,()),[(0,1,()),(1,1,()),(1,0,()),(1,0,())],())).bind fun r10 => some ((!r10.1),())) (some (false,()))) (some (false,()))) (some (false,()))) (some (false,()))) (some (false,()))
def Zy_c : Con := { ins := [], outs := [(true, .bool)], fn := Zy }
def Zy_C : Ctx := { tab := tab, con := fun | 10, _ => some Zq_c | 12, _ => some Zi_c | 13, _ => some Zbb_c | 15, _ => some Zf_c | 16, _ => some Zbf_c | 21, _ => some Zp_c | _, _ => none, glob := glob, eqs := eqs, maps := maps }
theorem Zy_eq (x : (tupTy []).den) : callFn Zy_C Zy_As (bodyOf Tryd.f9) [] [(.tmp 0, true, .bool)] x = Zy x := by kernel_rfl
def Zaf_H3 : Shape := { env := [(1, .av (.ptr 1 0)), (3, .av (.own 3)), (4, .av (.val I))], objs := [(1, .box [.val I, .val (.slice yQ2), .val yQ5]), (3, .arr I)] }
def Zaf_E3 : List (Ex × Shape) := [(.exit 0, { env := [(3, .av (.own 3))], objs := [(3, .arr I)] })]
def Zaf_B3 (x : Q19) : Option (Q19 ⊕ (Q1 ⊕ Empty)) :=
 let (a,b,c,d,e,_) := x; cond (ltI e (b.length : Nat)) ((getI b e).bind fun y1 => (getI b e).bind fun y2 => (app d [y1.1,y2.2.1]).bind fun a3 => some (.inl (a,b,c,a3,(addI .i64 e 1),()))) (some (.inr (.inl (d,()))))
def Zaf_L3 : Q19 → Option (Q1 ⊕ Empty) := loopFix Zaf_B3
def Zaf_A3 : Ann := { head := Zaf_H3, exits := Zaf_E3, fn := Zaf_L3 }
def Zaf_As : Anns := [(3, Zaf_A3)]
def Zaf (x : (Q9 × Unit)) : Option Q1 :=
 (Zaf_L3 (x.1.1,x.1.2.1,x.1.2.2.1,[],0,())).bind (Sum.elim (fun z2 => some (z2.1,())) (fun _ => none))
def Zaf_c : Con := { ins := [(.rd, yQ8)], outs := [(true, (.slice I))], fn := Zaf }
def Zaf_C : Ctx := { tab := tab, con := fun _ _ => none, glob := glob, eqs := eqs, maps := maps }
theorem Zaf_R3 (x : Zaf_H3.ty.den) : round Zaf_C Zaf_As Zaf_A3 (loopBody 3 (bodyOf Tryd.f54)) x = Zaf_B3 x := by kernel_rfl
theorem Zaf_eq (x : (tupTy [yQ8]).den) : callFn Zaf_C Zaf_As (bodyOf Tryd.f54) [(.rd, yQ8)] [(.tmp 2, true, (.slice I))] x = Zaf x := by kernel_rfl
def Zab_H16 : Shape := { env := [(1, .av (.ptr 1 0)), (5, .av (.own 5)), (6, .av (.own 6)), (7, .av (.val I)), (8, .av (.val I)), (9, .av (.val I))], objs := [(1, .box [.val I, .val (.slice yQ2), .val yQ5]), (5, .arr I), (6, .arr .bool)] }
def Zab_E16 : List (Ex × Shape) := [(.ret, { env := [(2, .av (.val .bool))], objs := [] }), (.exit 4, { env := [(1, .av (.ptr 1 0)), (5, .av (.own 5)), (6, .av (.own 6)), (7, .av (.val I)), (8, .av (.val I))], objs := [(1, .box [.val I, .val (.slice yQ2), .val yQ5]), (5, .arr I), (6, .arr .bool)] })]
def Zab_B16 (x : Q32) : Option (Q32 ⊕ ((Bool × Unit) ⊕ (Q27 ⊕ Empty))) :=
 let (a,b,c,d,e,f,g,h,_) := x; (getI c g).bind fun y1 => cond (ltI h (y1.length : Nat)) ((getI c g).bind fun y2 => (getI y2 h).bind fun y3 => cond (ltI y3 0) (some (.inr (.inl (false,())))) (cond (geI y3 (d.length : Nat)) (some (.inr (.inl (false,())))) ((idxI e.length y3).bind fun j4 => (e[j4]?).bind fun y5 => cond y5 (some (.inr (.inl (false,())))) ((idxI d.length y3).bind fun j6 => (d[j6]?).bind fun y7 => cond (neI y7 g) (some (.inr (.inl (false,())))) ((idxI e.length y3).bind fun j8 => (e[j8]?).bind fun y9 => some (.inl (a,b,c,d,(e.set j8 true),(addI .i64 f 1),g,(addI .i64 h 1),()))))))) (some (.inr (.inr (.inl (a,b,c,d,e,f,g,())))))
def Zab_L16 : Q32 → Option ((Bool × Unit) ⊕ (Q27 ⊕ Empty)) := loopFix Zab_B16
def Zab_A16 : Ann := { head := Zab_H16, exits := Zab_E16, fn := Zab_L16 }
def Zab_H13 : Shape := { env := [(1, .av (.ptr 1 0)), (5, .av (.own 5)), (6, .av (.own 6)), (7, .av (.val I)), (8, .av (.val I))], objs := [(1, .box [.val I, .val (.slice yQ2), .val yQ5]), (5, .arr I), (6, .arr .bool)] }
def Zab_E13 : List (Ex × Shape) := [(.ret, { env := [(2, .av (.val .bool))], objs := [] }), (.exit 2, { env := [(5, .av (.own 5)), (7, .av (.val I))], objs := [(5, .arr I)] })]
def Zab_B13 (x : Q27) : Option (Q27 ⊕ ((Bool × Unit) ⊕ (Q5 ⊕ Empty))) :=
 let (a,b,c,d,e,f,g,_) := x; cond (ltI g a) ((Zab_L16 (a,b,c,d,e,f,g,0,())).bind (Sum.elim (fun z2 => some (.inr (.inl (z2.1,())))) (Sum.elim (fun (a_3,b_3,c_3,d_3,e_3,f_3,g_3,_) => some (.inl (a_3,b_3,c_3,d_3,e_3,f_3,(addI .i64 g_3 1),()))) (fun _ => none)))) (some (.inr (.inr (.inl (d,f,())))))
def Zab_L13 : Q27 → Option ((Bool × Unit) ⊕ (Q5 ⊕ Empty)) := loopFix Zab_B13
def Zab_A13 : Ann := { head := Zab_H13, exits := Zab_E13, fn := Zab_L13 }
def Zab_H4 : Shape := { env := [(1, .av (.ptr 1 0)), (3, .av (.val I))], objs := [(1, .box [.val I, .val (.slice yQ2), .val yQ5])] }
def Zab_E4 : List (Ex × Shape) := [(.ret, { env := [(2, .av (.val .bool))], objs := [] }), (.exit 0, { env := [(1, .av (.ptr 1 0))], objs := [(1, .box [.val I, .val (.slice yQ2), .val yQ5])] })]
def Zab_B4 (x : Q12) : Option (Q12 ⊕ ((Bool × Unit) ⊕ (Q9 ⊕ Empty))) :=
 let (a,b,c,d,_) := x; cond (ltI d (b.length : Nat)) ((getI b d).bind fun y1 => cond (ltI y1.1 0) (some (.inr (.inl (false,())))) (cond (geI y1.1 a) (some (.inr (.inl (false,())))) (cond (ltI y1.2.1 0) (some (.inr (.inl (false,())))) (cond (geI y1.2.1 a) (some (.inr (.inl (false,())))) (cond (eqI y1.1 y1.2.1) (some (.inr (.inl (false,())))) (some (.inl (a,b,c,(addI .i64 d 1),())))))))) (some (.inr (.inr (.inl (a,b,c,())))))
def Zab_L4 : Q12 → Option ((Bool × Unit) ⊕ (Q9 ⊕ Empty)) := loopFix Zab_B4
def Zab_A4 : Ann := { head := Zab_H4, exits := Zab_E4, fn := Zab_L4 }
def Zab_As : Anns := [(4, Zab_A4), (13, Zab_A13), (16, Zab_A16)]
def Zab (x : (Q9 × Unit)) : Option (Bool × Unit) :=
 let ((a,b,c,_),_) := x; cond (ltI a 0) (some (false,())) (cond (gtI a 16384) (some (false,())) (cond (gtI (b.length : Nat) 32768) (some (false,())) (cond (neI (c.length : Nat) a) (some (false,())) ((Zab_L4 (a,b,c,0,())).bind (Sum.elim (fun z2 => some (z2.1,())) (Sum.elim (fun (a_3,b_3,c_3,_) => (Zaf ((a_3,b_3,c_3,()),())).bind fun r4 => (makeL .bool (r4.1.length : Nat) (r4.1.length : Nat)).bind fun m5 => (Zab_L13 (a_3,b_3,c_3,r4.1,m5,0,0,())).bind (Sum.elim (fun z7 => some (z7.1,())) (Sum.elim (fun z8 => some ((eqI z8.2.1 (z8.1.length : Nat)),())) (fun _ => none)))) (fun _ => none)))))))
def Zab_c : Con := { ins := [(.rd, yQ8)], outs := [(true, .bool)], fn := Zab }
def Zab_C : Ctx := { tab := tab, con := fun | 54, _ => some Zaf_c | _, _ => none, glob := glob, eqs := eqs, maps := maps }
theorem Zab_R16 (x : Zab_H16.ty.den) : round Zab_C Zab_As Zab_A16 (loopBody 16 (bodyOf Tryd.f39)) x = Zab_B16 x := by kernel_rfl
theorem Zab_R13 (x : Zab_H13.ty.den) : round Zab_C Zab_As Zab_A13 (loopBody 13 (bodyOf Tryd.f39)) x = Zab_B13 x := by kernel_rfl
theorem Zab_R4 (x : Zab_H4.ty.den) : round Zab_C Zab_As Zab_A4 (loopBody 4 (bodyOf Tryd.f39)) x = Zab_B4 x := by kernel_rfl
theorem Zab_eq (x : (tupTy [yQ8]).den) : callFn Zab_C Zab_As (bodyOf Tryd.f39) [(.rd, yQ8)] [(.tmp 2, true, .bool)] x = Zab x := by kernel_rfl
def Zs_H7 : Shape := { env := [(1, .av (.ptr 1 0)), (3, .av (.own 3)), (4, .av (.val I)), (5, .av (.val (.slice I))), (6, .av (.val I))], objs := [(1, .box [.val I, .val (.slice yQ2), .val yQ5]), (3, .arr I)] }
def Zs_E7 : List (Ex × Shape) := [(.exit 2, { env := [(1, .av (.ptr 1 0)), (3, .av (.own 3)), (4, .av (.val I))], objs := [(1, .box [.val I, .val (.slice yQ2), .val yQ5]), (3, .arr I)] })]
def Zs_B7 (x : Q26) : Option (Q26 ⊕ (Q19 ⊕ Empty)) :=
 let (a,b,c,d,e,f,g,_) := x; cond (ltI g (f.length : Nat)) ((getI f g).bind fun y1 => cond (eqI (f.length : Nat) 0) none ((getI f (remI (addI .i64 g 1) (f.length : Nat))).bind fun y2 => (idxI d.length y1).bind fun j3 => (d[j3]?).bind fun y4 => some (.inl (a,b,c,(d.set j3 y2),e,f,(addI .i64 g 1),())))) (some (.inr (.inl (a,b,c,d,e,()))))
def Zs_L7 : Q26 → Option (Q19 ⊕ Empty) := loopFix Zs_B7
def Zs_A7 : Ann := { head := Zs_H7, exits := Zs_E7, fn := Zs_L7 }
def Zs_H3 : Shape := { env := [(1, .av (.ptr 1 0)), (3, .av (.own 3)), (4, .av (.val I))], objs := [(1, .box [.val I, .val (.slice yQ2), .val yQ5]), (3, .arr I)] }
def Zs_E3 : List (Ex × Shape) := [(.exit 0, { env := [(3, .av (.own 3))], objs := [(3, .arr I)] })]
def Zs_B3 (x : Q19) : Option (Q19 ⊕ (Q1 ⊕ Empty)) :=
 let (a,b,c,d,e,_) := x; cond (ltI e a) ((getI c e).bind fun y1 => (Zs_L7 (a,b,c,d,e,y1,0,())).bind (Sum.elim (fun z3 => some (.inl (z3.1,z3.2.1,z3.2.2.1,z3.2.2.2.1,(addI .i64 z3.2.2.2.2.1 1),()))) (fun _ => none))) (some (.inr (.inl (d,()))))
def Zs_L3 : Q19 → Option (Q1 ⊕ Empty) := loopFix Zs_B3
def Zs_A3 : Ann := { head := Zs_H3, exits := Zs_E3, fn := Zs_L3 }
def Zs_As : Anns := [(3, Zs_A3), (7, Zs_A7)]
def Zs (x : (Q9 × Unit)) : Option Q1 :=
 let ((a,b,c,_),_) := x; (makeL I (mulI .i64 2 (b.length : Nat)) (mulI .i64 2 (b.length : Nat))).bind fun m1 => (Zs_L3 (a,b,c,m1,0,())).bind (Sum.elim (fun z3 => some (z3.1,())) (fun _ => none))
def Zs_c : Con := { ins := [(.rd, yQ8)], outs := [(true, (.slice I))], fn := Zs }
def Zs_C : Ctx := { tab := tab, con := fun _ _ => none, glob := glob, eqs := eqs, maps := maps }
theorem Zs_R7 (x : Zs_H7.ty.den) : round Zs_C Zs_As Zs_A7 (loopBody 7 (bodyOf Tryd.f57)) x = Zs_B7 x := by kernel_rfl
theorem Zs_R3 (x : Zs_H3.ty.den) : round Zs_C Zs_As Zs_A3 (loopBody 3 (bodyOf Tryd.f57)) x = Zs_B3 x := by kernel_rfl
theorem Zs_eq (x : (tupTy [yQ8]).den) : callFn Zs_C Zs_As (bodyOf Tryd.f57) [(.rd, yQ8)] [(.tmp 2, true, (.slice I))] x = Zs x := by kernel_rfl
def Zz_As : Anns := []
def Zz (x : (Int × Unit)) : Option (Int × Unit) :=
 cond (eqI (remI x.1 2) 0) (some ((addI .i64 x.1 1),())) (some ((subI .i64 x.1 1),()))
def Zz_c : Con := { ins := [(.rd, I)], outs := [(true, I)], fn := Zz }
def Zz_C : Ctx := { tab := tab, con := fun _ _ => none, glob := glob, eqs := eqs, maps := maps }
theorem Zz_eq (x : (tupTy [I]).den) : callFn Zz_C Zz_As (bodyOf Tryd.f58) [(.rd, I)] [(.tmp 2, true, I)] x = Zz x := by kernel_rfl
def Zv_H12 : Shape := { env := [(3, .av (.own 3)), (4, .av (.own 4)), (5, .av (.own 5)), (6, .av (.val I)), (7, .av (.own 7)), (8, .av (.val I))], objs := [(3, .arr (.slice I)), (4, .arr I), (5, .arr .bool), (7, .arr I)] }
def Zv_E12 : List (Ex × Shape) := [(.exit 2, { env := [(3, .av (.own 3)), (4, .av (.own 4)), (5, .av (.own 5)), (6, .av (.val I)), (7, .av (.own 7))], objs := [(3, .arr (.slice I)), (4, .arr I), (5, .arr .bool), (7, .arr I)] })]
def Zv_B12 (x : Q22) : Option (Q22 ⊕ (((List (List Int)) × List Int × List Bool × List Int × Int × Unit) ⊕ Empty)) :=
 let (a,b,c,d,e,f,_) := x; (idxI c.length f).bind fun j1 => (c[j1]?).bind fun y2 => cond (!y2) ((idxI c.length f).bind fun j3 => (c[j3]?).bind fun y4 => (app d [f]).bind fun a5 => (Zz (f,())).bind fun r6 => (idxI b.length r6.1).bind fun j7 => (b[j7]?).bind fun y8 => some (.inl (a,b,(c.set j3 true),a5,e,y8,()))) (some (.inr (.inl (a,b,c,d,e,()))))
def Zv_L12 : Q22 → Option (((List (List Int)) × List Int × List Bool × List Int × Int × Unit) ⊕ Empty) := loopFix Zv_B12
def Zv_A12 : Ann := { head := Zv_H12, exits := Zv_E12, fn := Zv_L12 }
def Zv_H7 : Shape := { env := [(3, .av (.own 3)), (4, .av (.own 4)), (5, .av (.own 5)), (6, .av (.val I))], objs := [(3, .arr (.slice I)), (4, .arr I), (5, .arr .bool)] }
def Zv_E7 : List (Ex × Shape) := [(.exit 0, { env := [(3, .av (.own 3))], objs := [(3, .arr (.slice I))] })]
def Zv_B7 (x : Q16) : Option (Q16 ⊕ (Q6 ⊕ Empty)) :=
 let (a,b,c,d,_) := x; cond (ltI d (b.length : Nat)) ((idxI c.length d).bind fun j1 => (c[j1]?).bind fun y2 => cond y2 (some (.inl (a,b,c,(addI .i64 d 1),()))) ((Zv_L12 (a,b,c,[],d,d,())).bind (Sum.elim (fun z4 => (app z4.1 [z4.2.2.2.1]).bind fun a5 => some (.inl (a5,z4.2.1,z4.2.2.1,(addI .i64 z4.2.2.2.2.1 1),()))) (fun _ => none)))) (some (.inr (.inl (a,()))))
def Zv_L7 : Q16 → Option (Q6 ⊕ Empty) := loopFix Zv_B7
def Zv_A7 : Ann := { head := Zv_H7, exits := Zv_E7, fn := Zv_L7 }
def Zv_As : Anns := [(7, Zv_A7), (12, Zv_A12)]
def Zv (x : (Q9 × Unit)) : Option Q6 :=
 let ((a,b,c,_),_) := x; (Zab ((a,b,c,()),())).bind fun r1 => cond (!r1.1) (some ([],())) ((Zs ((a,b,c,()),())).bind fun r2 => (makeL .bool (r2.1.length : Nat) (r2.1.length : Nat)).bind fun m3 => (Zv_L7 ([],r2.1,m3,0,())).bind (Sum.elim (fun z5 => some (z5.1,())) (fun _ => none)))
def Zv_c : Con := { ins := [(.rd, yQ8)], outs := [(true, yQ5)], fn := Zv }
def Zv_C : Ctx := { tab := tab, con := fun | 39, _ => some Zab_c | 57, _ => some Zs_c | 58, _ => some Zz_c | _, _ => none, glob := glob, eqs := eqs, maps := maps }
theorem Zv_R12 (x : Zv_H12.ty.den) : round Zv_C Zv_As Zv_A12 (loopBody 12 (bodyOf Tryd.f37)) x = Zv_B12 x := by kernel_rfl
theorem Zv_R7 (x : Zv_H7.ty.den) : round Zv_C Zv_As Zv_A7 (loopBody 7 (bodyOf Tryd.f37)) x = Zv_B7 x := by kernel_rfl
theorem Zv_eq (x : (tupTy [yQ8]).den) : callFn Zv_C Zv_As (bodyOf Tryd.f37) [(.rd, yQ8)] [(.tmp 2, true, yQ5)] x = Zv x := by kernel_rfl
def Zaj_H1 : Shape := { env := [(0, .av (.val (.slice I))), (1, .av (.val I))], objs := [] }
def Zaj_E1 : List (Ex × Shape) := [(.exit 0, { env := [(1, .av (.val I))], objs := [] })]
def Zaj_B1 (x : Q5) : Option (Q5 ⊕ ((Int × Unit) ⊕ Empty)) :=
 let (a,b,_) := x; (getI a b).bind fun y1 => cond (neI y1 b) ((getI a b).bind fun y2 => some (.inl (a,y2,()))) (some (.inr (.inl (b,()))))
def Zaj_L1 : Q5 → Option ((Int × Unit) ⊕ Empty) := loopFix Zaj_B1
def Zaj_A1 : Ann := { head := Zaj_H1, exits := Zaj_E1, fn := Zaj_L1 }
def Zaj_As : Anns := [(1, Zaj_A1)]
def Zaj (x : Q5) : Option (Int × Unit) :=
 (Zaj_L1 (x.1,x.2.1,())).bind (Sum.elim (fun z2 => some (z2.1,())) (fun _ => none))
def Zaj_c : Con := { ins := [(.rd, (.slice I)), (.rd, I)], outs := [(true, I)], fn := Zaj }
def Zaj_C : Ctx := { tab := tab, con := fun _ _ => none, glob := glob, eqs := eqs, maps := maps }
theorem Zaj_R1 (x : Zaj_H1.ty.den) : round Zaj_C Zaj_As Zaj_A1 (loopBody 1 (bodyOf Tryd.f72)) x = Zaj_B1 x := by kernel_rfl
theorem Zaj_eq (x : (tupTy [(.slice I), I]).den) : callFn Zaj_C Zaj_As (bodyOf Tryd.f72) [(.rd, (.slice I)), (.rd, I)] [(.tmp 4, true, I)] x = Zaj x := by kernel_rfl
def Ze_H8 : Shape := { env := [(1, .av (.ptr 1 0)), (3, .av (.own 3)), (5, .av (.val I)), (6, .av (.val I))], objs := [(1, .box [.val I, .val (.slice yQ2), .val yQ5]), (3, .arr I)] }
def Ze_E8 : List (Ex × Shape) := [(.exit 2, { env := [(5, .av (.val I))], objs := [] })]
def Ze_B8 (x : Q20) : Option (Q20 ⊕ ((Int × Unit) ⊕ Empty)) :=
 let (a,b,c,d,e,f,_) := x; cond (ltI f (b.length : Nat)) ((getI b f).bind fun y1 => (Zaj (d,y1.1,())).bind fun r2 => (getI b f).bind fun y3 => (Zaj (d,y3.2.1,())).bind fun r4 => cond (neI r2.1 r4.1) ((idxI d.length (maxI r2.1 r4.1)).bind fun j5 => (d[j5]?).bind fun y6 => some (.inl (a,b,c,(d.set j5 (minI r2.1 r4.1)),(subI .i64 e 1),(addI .i64 f 1),()))) (some (.inl (a,b,c,d,e,(addI .i64 f 1),())))) (some (.inr (.inl (e,()))))
def Ze_L8 : Q20 → Option ((Int × Unit) ⊕ Empty) := loopFix Ze_B8
def Ze_A8 : Ann := { head := Ze_H8, exits := Ze_E8, fn := Ze_L8 }
def Ze_H3 : Shape := { env := [(1, .av (.ptr 1 0)), (3, .av (.own 3)), (4, .av (.val I))], objs := [(1, .box [.val I, .val (.slice yQ2), .val yQ5]), (3, .arr I)] }
def Ze_E3 : List (Ex × Shape) := [(.exit 0, { env := [(1, .av (.ptr 1 0)), (3, .av (.own 3))], objs := [(1, .box [.val I, .val (.slice yQ2), .val yQ5]), (3, .arr I)] })]
def Ze_B3 (x : Q19) : Option (Q19 ⊕ ((Int × (List Q2) × (List (List Int)) × List Int × Unit) ⊕ Empty)) :=
 let (a,b,c,d,e,_) := x; cond (ltI e a) ((app d [e]).bind fun a1 => some (.inl (a,b,c,a1,(addI .i64 e 1),()))) (some (.inr (.inl (a,b,c,d,()))))
def Ze_L3 : Q19 → Option ((Int × (List Q2) × (List (List Int)) × List Int × Unit) ⊕ Empty) := loopFix Ze_B3
def Ze_A3 : Ann := { head := Ze_H3, exits := Ze_E3, fn := Ze_L3 }
def Ze_As : Anns := [(3, Ze_A3), (8, Ze_A8)]
def Ze (x : (Q9 × Unit)) : Option (Int × Unit) :=
 (Ze_L3 (x.1.1,x.1.2.1,x.1.2.2.1,[],0,())).bind (Sum.elim (fun z2 => (Ze_L8 (z2.1,z2.2.1,z2.2.2.1,z2.2.2.2.1,z2.1,0,())).bind (Sum.elim (fun z4 => some (z4.1,())) (fun _ => none))) (fun _ => none))
def Ze_c : Con := { ins := [(.rd, yQ8)], outs := [(true, I)], fn := Ze }
def Ze_C : Ctx := { tab := tab, con := fun | 72, _ => some Zaj_c | _, _ => none, glob := glob, eqs := eqs, maps := maps }
theorem Ze_R8 (x : Ze_H8.ty.den) : round Ze_C Ze_As Ze_A8 (loopBody 8 (bodyOf Tryd.f60)) x = Ze_B8 x := by kernel_rfl
theorem Ze_R3 (x : Ze_H3.ty.den) : round Ze_C Ze_As Ze_A3 (loopBody 3 (bodyOf Tryd.f60)) x = Ze_B3 x := by kernel_rfl
theorem Ze_eq (x : (tupTy [yQ8]).den) : callFn Ze_C Ze_As (bodyOf Tryd.f60) [(.rd, yQ8)] [(.tmp 2, true, I)] x = Ze x := by kernel_rfl
def Zw_H5 : Shape := { env := [(1, .av (.ptr 1 0)), (3, .av (.val I)), (4, .av (.val I))], objs := [(1, .box [.val I, .val (.slice yQ2), .val yQ5])] }
def Zw_E5 : List (Ex × Shape) := [(.exit 0, { env := [(1, .av (.ptr 1 0)), (3, .av (.val I))], objs := [(1, .box [.val I, .val (.slice yQ2), .val yQ5])] })]
def Zw_B5 (x : Q17) : Option (Q17 ⊕ (Q12 ⊕ Empty)) :=
 let (a,b,c,d,e,_) := x; cond (ltI e a) ((getI c e).bind fun y1 => cond (eqI (y1.length : Nat) 0) (some (.inl (a,b,c,(addI .i64 d 1),(addI .i64 e 1),()))) (some (.inl (a,b,c,d,(addI .i64 e 1),())))) (some (.inr (.inl (a,b,c,d,()))))
def Zw_L5 : Q17 → Option (Q12 ⊕ Empty) := loopFix Zw_B5
def Zw_A5 : Ann := { head := Zw_H5, exits := Zw_E5, fn := Zw_L5 }
def Zw_As : Anns := [(5, Zw_A5)]
def Zw (x : (Q9 × Unit)) : Option (Int × Unit) :=
 let ((a,b,c,_),_) := x; (Zab ((a,b,c,()),())).bind fun r1 => cond (!r1.1) (some ((-1),())) ((Zv ((a,b,c,()),())).bind fun r2 => (Zw_L5 (a,b,c,(r2.1.length : Nat),0,())).bind (Sum.elim (fun z4 => (Ze ((z4.1,z4.2.1,z4.2.2.1,()),())).bind fun r5 => some ((subI .i64 r5.1 (quoI .i64 (addI .i64 (subI .i64 z4.1 (z4.2.1.length : Nat)) z4.2.2.2.1) 2)),())) (fun _ => none)))
def Zw_c : Con := { ins := [(.rd, yQ8)], outs := [(true, I)], fn := Zw }
def Zw_C : Ctx := { tab := tab, con := fun | 37, _ => some Zv_c | 39, _ => some Zab_c | 60, _ => some Ze_c | _, _ => none, glob := glob, eqs := eqs, maps := maps }
theorem Zw_R5 (x : Zw_H5.ty.den) : round Zw_C Zw_As Zw_A5 (loopBody 5 (bodyOf Tryd.f59)) x = Zw_B5 x := by kernel_rfl
theorem Zw_eq (x : (tupTy [yQ8]).den) : callFn Zw_C Zw_As (bodyOf Tryd.f59) [(.rd, yQ8)] [(.tmp 2, true, I)] x = Zw x := by kernel_rfl
def Zr_As : Anns := []
def Zr (x : (Q9 × Unit)) : Option (Bool × Unit) :=
 let ((a,b,c,_),_) := x; (Zw ((a,b,c,()),())).bind fun r1 => cond (eqI r1.1 0) ((Ze ((a,b,c,()),())).bind fun r2 => some ((eqI r2.1 1),())) (some (false,()))
def Zr_c : Con := { ins := [(.rd, yQ8)], outs := [(true, .bool)], fn := Zr }
def Zr_C : Ctx := { tab := tab, con := fun | 59, _ => some Zw_c | 60, _ => some Ze_c | _, _ => none, glob := glob, eqs := eqs, maps := maps }
theorem Zr_eq (x : (tupTy [yQ8]).den) : callFn Zr_C Zr_As (bodyOf Tryd.f40) [(.rd, yQ8)] [(.tmp 2, true, .bool)] x = Zr x := by kernel_rfl
def Zam_H6 : Shape := { env := [(1, .av (.ptr 1 0)), (3, .av (.val I)), (4, .av (.val I)), (5, .av (.val I))], objs := [(1, .box [.val I, .val (.slice yQ2), .val yQ5, .val (.slice I), .val (.slice .str), .val I])] }
def Zam_E6 : List (Ex × Shape) := [(.ret, { env := [(2, .av (.val .bool))], objs := [] }), (.exit 2, { env := [(1, .av (.ptr 1 0)), (3, .av (.val I)), (4, .av (.val I))], objs := [(1, .box [.val I, .val (.slice yQ2), .val yQ5, .val (.slice I), .val (.slice .str), .val I])] })]
def Zam_B6 (x : Q39) : Option (Q39 ⊕ ((Bool × Unit) ⊕ (Q34 ⊕ Empty))) :=
 let (a,b,c,d,e,f,g,h,i,_) := x; (getI c g).bind fun y1 => cond (ltI i (y1.length : Nat)) ((getI c g).bind fun y2 => (getI y2 i).bind fun y3 => (getI d y3).bind fun y4 => cond (ltI y4 1) (some (.inr (.inl (false,())))) (cond (gtI y4 4) (some (.inr (.inl (false,())))) (some (.inl (a,b,c,d,e,f,g,(addI .i64 h y4),(addI .i64 i 1),()))))) (some (.inr (.inr (.inl (a,b,c,d,e,f,g,h,())))))
def Zam_L6 : Q39 → Option ((Bool × Unit) ⊕ (Q34 ⊕ Empty)) := loopFix Zam_B6
def Zam_A6 : Ann := { head := Zam_H6, exits := Zam_E6, fn := Zam_L6 }
def Zam_H2 : Shape := { env := [(1, .av (.ptr 1 0)), (3, .av (.val I))], objs := [(1, .box [.val I, .val (.slice yQ2), .val yQ5, .val (.slice I), .val (.slice .str), .val I])] }
def Zam_E2 : List (Ex × Shape) := [(.ret, { env := [(2, .av (.val .bool))], objs := [] }), (.exit 0, { env := [], objs := [] })]
def Zam_B2 (x : Q30) : Option (Q30 ⊕ ((Bool × Unit) ⊕ (Unit ⊕ Empty))) :=
 let (a,b,c,d,e,f,g,_) := x; cond (ltI g a) ((Zam_L6 (a,b,c,d,e,f,g,0,0,())).bind (Sum.elim (fun z2 => some (.inr (.inl (z2.1,())))) (Sum.elim (fun (a_3,b_3,c_3,d_3,e_3,f_3,g_3,h_3,_) => cond (neI h_3 4) ((getI c_3 g_3).bind fun y4 => cond (gtI (y4.length : Nat) 0) (some (.inr (.inl (false,())))) (some (.inl (a_3,b_3,c_3,d_3,e_3,f_3,(addI .i64 g_3 1),())))) (some (.inl (a_3,b_3,c_3,d_3,e_3,f_3,(addI .i64 g_3 1),())))) (fun _ => none)))) (some (.inr (.inr (.inl ()))))
def Zam_L2 : Q30 → Option ((Bool × Unit) ⊕ (Unit ⊕ Empty)) := loopFix Zam_B2
def Zam_A2 : Ann := { head := Zam_H2, exits := Zam_E2, fn := Zam_L2 }
def Zam_As : Anns := [(2, Zam_A2), (6, Zam_A6)]
def Zam (x : (Q10 × Unit)) : Option (Bool × Unit) :=
 let (((a,b,c,_),d,e,f,_),_) := x; (Zam_L2 (a,b,c,d,e,f,0,())).bind (Sum.elim (fun z2 => some (z2.1,())) (Sum.elim (fun z3 => some (true,())) (fun _ => none)))
def Zam_c : Con := { ins := [(.rd, yQ11)], outs := [(true, .bool)], fn := Zam }
def Zam_C : Ctx := { tab := tab, con := fun _ _ => none, glob := glob, eqs := eqs, maps := maps }
theorem Zam_R6 (x : Zam_H6.ty.den) : round Zam_C Zam_As Zam_A6 (loopBody 6 (bodyOf Tryd.f41)) x = Zam_B6 x := by kernel_rfl
theorem Zam_R2 (x : Zam_H2.ty.den) : round Zam_C Zam_As Zam_A2 (loopBody 2 (bodyOf Tryd.f41)) x = Zam_B2 x := by kernel_rfl
theorem Zam_eq (x : (tupTy [yQ11]).den) : callFn Zam_C Zam_As (bodyOf Tryd.f41) [(.rd, yQ11)] [(.tmp 2, true, .bool)] x = Zam x := by kernel_rfl
def Zg_As : Anns := []
def Zg (x : (Int × Unit)) : Option (Int × Unit) :=
 cond (eqI x.1 76) (some (82,())) (cond (eqI x.1 82) (some (76,())) (some (x.1,())))
def Zg_c : Con := { ins := [(.rd, (.int .u8))], outs := [(true, (.int .u8))], fn := Zg }
def Zg_C : Ctx := { tab := tab, con := fun _ _ => none, glob := glob, eqs := eqs, maps := maps }
theorem Zg_eq (x : (tupTy [(.int .u8)]).den) : callFn Zg_C Zg_As (bodyOf Tryd.f73) [(.rd, (.int .u8))] [(.tmp 2, true, (.int .u8))] x = Zg x := by kernel_rfl
def Zn_H3 : Shape := { env := [(0, .av (.val .str)), (3, .av (.own 3)), (4, .av (.val I))], objs := [(3, .arr (.int .u8))] }
def Zn_E3 : List (Ex × Shape) := [(.exit 0, { env := [(3, .av (.own 3))], objs := [(3, .arr (.int .u8))] })]
def Zn_B3 (x : (List Int × ByteArray × Int × Unit)) : Option ((List Int × ByteArray × Int × Unit) ⊕ (Q1 ⊕ Empty)) :=
 let (a,b,c,_) := x; cond (geI c 0) ((getI b.data.toList c).bind fun c1 => (Zg ((c1.toNat : Int),())).bind fun r2 => (app a [r2.1]).bind fun a3 => some (.inl (a3,b,(subI .i64 c 1),()))) (some (.inr (.inl (a,()))))
def Zn_L3 : (List Int × ByteArray × Int × Unit) → Option (Q1 ⊕ Empty) := loopFix Zn_B3
def Zn_A3 : Ann := { head := Zn_H3, exits := Zn_E3, fn := Zn_L3 }
def Zn_As : Anns := [(3, Zn_A3)]
def Zn (x : Q4) : Option Q4 :=
 (Zn_L3 ([],x.1,(subI .i64 (x.1.size : Nat) 1),())).bind (Sum.elim (fun z2 => some ((ofBytes z2.1),())) (fun _ => none))
def Zn_c : Con := { ins := [(.rd, .str)], outs := [(true, .str)], fn := Zn }
def Zn_C : Ctx := { tab := tab, con := fun | 73, _ => some Zg_c | _, _ => none, glob := glob, eqs := eqs, maps := maps }
theorem Zn_R3 (x : Zn_H3.ty.den) : round Zn_C Zn_As Zn_A3 (loopBody 3 (bodyOf Tryd.f61)) x = Zn_B3 x := by kernel_rfl
theorem Zn_eq (x : (tupTy [.str]).den) : callFn Zn_C Zn_As (bodyOf Tryd.f61) [(.rd, .str)] [(.tmp 2, true, .str)] x = Zn x := by kernel_rfl
def Zt_H7 : Shape := { env := [(1, .av (.ptr 1 0)), (3, .av (.val I)), (4, .av (.val I))], objs := [(1, .box [.val I, .val (.slice yQ2), .val yQ5, .val (.slice I), .val (.slice .str), .val I])] }
def Zt_E7 : List (Ex × Shape) := [(.ret, { env := [(2, .av (.val .bool))], objs := [] }), (.exit 2, { env := [(1, .av (.ptr 1 0)), (3, .av (.val I))], objs := [(1, .box [.val I, .val (.slice yQ2), .val yQ5, .val (.slice I), .val (.slice .str), .val I])] })]
def Zt_B7 (x : Q34) : Option (Q34 ⊕ ((Bool × Unit) ⊕ (Q30 ⊕ Empty))) :=
 let (a,b,c,d,e,f,g,h,_) := x; (getI e g).bind fun y1 => cond (ltI h (y1.size : Nat)) ((getI e g).bind fun y2 => (getI y2.data.toList h).bind fun c3 => cond (neI (c3.toNat : Int) 76) ((getI e g).bind fun y4 => (getI y4.data.toList h).bind fun c5 => cond (neI (c5.toNat : Int) 82) (some (.inr (.inl (false,())))) (some (.inl (a,b,c,d,e,f,g,(addI .i64 h 1),())))) (some (.inl (a,b,c,d,e,f,g,(addI .i64 h 1),())))) (some (.inr (.inr (.inl (a,b,c,d,e,f,g,())))))
def Zt_L7 : Q34 → Option ((Bool × Unit) ⊕ (Q30 ⊕ Empty)) := loopFix Zt_B7
def Zt_A7 : Ann := { head := Zt_H7, exits := Zt_E7, fn := Zt_L7 }
def Zt_H2 : Shape := { env := [(1, .av (.ptr 1 0)), (3, .av (.val I))], objs := [(1, .box [.val I, .val (.slice yQ2), .val yQ5, .val (.slice I), .val (.slice .str), .val I])] }
def Zt_E2 : List (Ex × Shape) := [(.ret, { env := [(2, .av (.val .bool))], objs := [] }), (.exit 0, { env := [], objs := [] })]
def Zt_B2 (x : Q30) : Option (Q30 ⊕ ((Bool × Unit) ⊕ (Unit ⊕ Empty))) :=
 let (a,b,c,d,e,f,g,_) := x; cond (ltI g (e.length : Nat)) ((getI e g).bind fun y1 => cond (gtI (y1.size : Nat) 64) (some (.inr (.inl (false,())))) ((getI e (xorI .i64 g 1)).bind fun y2 => (getI e g).bind fun y3 => (Zn (y3,())).bind fun r4 => cond (neS y2 r4.1) (some (.inr (.inl (false,())))) ((Zt_L7 (a,b,c,d,e,f,g,0,())).bind (Sum.elim (fun z6 => some (.inr (.inl (z6.1,())))) (Sum.elim (fun (a_7,b_7,c_7,d_7,e_7,f_7,g_7,_) => some (.inl (a_7,b_7,c_7,d_7,e_7,f_7,(addI .i64 g_7 1),()))) (fun _ => none)))))) (some (.inr (.inr (.inl ()))))
def Zt_L2 : Q30 → Option ((Bool × Unit) ⊕ (Unit ⊕ Empty)) := loopFix Zt_B2
def Zt_A2 : Ann := { head := Zt_H2, exits := Zt_E2, fn := Zt_L2 }
def Zt_As : Anns := [(2, Zt_A2), (7, Zt_A7)]
def Zt (x : (Q10 × Unit)) : Option (Bool × Unit) :=
 let (((a,b,c,_),d,e,f,_),_) := x; (Zt_L2 (a,b,c,d,e,f,0,())).bind (Sum.elim (fun z2 => some (z2.1,())) (Sum.elim (fun z3 => some (true,())) (fun _ => none)))
def Zt_c : Con := { ins := [(.rd, yQ11)], outs := [(true, .bool)], fn := Zt }
def Zt_C : Ctx := { tab := tab, con := fun | 61, _ => some Zn_c | _, _ => none, glob := glob, eqs := eqs, maps := maps }
theorem Zt_R7 (x : Zt_H7.ty.den) : round Zt_C Zt_As Zt_A7 (loopBody 7 (bodyOf Tryd.f42)) x = Zt_B7 x := by kernel_rfl
theorem Zt_R2 (x : Zt_H2.ty.den) : round Zt_C Zt_As Zt_A2 (loopBody 2 (bodyOf Tryd.f42)) x = Zt_B2 x := by kernel_rfl
theorem Zt_eq (x : (tupTy [yQ11]).den) : callFn Zt_C Zt_As (bodyOf Tryd.f42) [(.rd, yQ11)] [(.tmp 2, true, .bool)] x = Zt x := by kernel_rfl
def Zaq_H2 : Shape := { env := [(0, .av (.val (.slice I))), (1, .av (.val I)), (5, .av (.val I))], objs := [] }
def Zaq_E2 : List (Ex × Shape) := [(.ret, { env := [(4, .av (.val .bool))], objs := [] }), (.exit 0, { env := [], objs := [] })]
def Zaq_B2 (x : Q7) : Option (Q7 ⊕ ((Bool × Unit) ⊕ (Unit ⊕ Empty))) :=
 let (a,b,c,_) := x; cond (ltI c (a.length : Nat)) ((getI a c).bind fun y1 => cond (eqI y1 b) (some (.inr (.inl (true,())))) (some (.inl (a,b,(addI .i64 c 1),())))) (some (.inr (.inr (.inl ()))))
def Zaq_L2 : Q7 → Option ((Bool × Unit) ⊕ (Unit ⊕ Empty)) := loopFix Zaq_B2
def Zaq_A2 : Ann := { head := Zaq_H2, exits := Zaq_E2, fn := Zaq_L2 }
def Zaq_As : Anns := [(2, Zaq_A2)]
def Zaq (x : Q5) : Option (Bool × Unit) :=
 (Zaq_L2 (x.1,x.2.1,0,())).bind (Sum.elim (fun z2 => some (z2.1,())) (Sum.elim (fun z3 => some (false,())) (fun _ => none)))
def Zaq_c : Con := { ins := [(.rd, (.slice I)), (.rd, I)], outs := [(true, .bool)], fn := Zaq }
def Zaq_C : Ctx := { tab := tab, con := fun _ _ => none, glob := glob, eqs := eqs, maps := maps }
theorem Zaq_R2 (x : Zaq_H2.ty.den) : round Zaq_C Zaq_As Zaq_A2 (loopBody 2 (bodyOf Tryd.f43)) x = Zaq_B2 x := by kernel_rfl
theorem Zaq_eq (x : (tupTy [(.slice I), I]).den) : callFn Zaq_C Zaq_As (bodyOf Tryd.f43) [(.rd, (.slice I)), (.rd, I)] [(.tmp 4, true, .bool)] x = Zaq x := by kernel_rfl
def Zan_H3 : Shape := { env := [(0, .av (.val .str)), (3, .av (.val I)), (4, .av (.val I))], objs := [] }
def Zan_E3 : List (Ex × Shape) := [(.exit 0, { env := [(3, .av (.val I))], objs := [] })]
def Zan_B3 (x : (ByteArray × Int × Int × Unit)) : Option ((ByteArray × Int × Int × Unit) ⊕ ((Int × Unit) ⊕ Empty)) :=
 let (a,b,c,_) := x; cond (ltI c (a.size : Nat)) ((getI a.data.toList c).bind fun c1 => cond (eqI (c1.toNat : Int) 76) ((getI a.data.toList c).bind fun c2 => cond (eqI (c2.toNat : Int) 82) (some (.inl (a,(subI .i64 (addI .i64 b 1) 1),(addI .i64 c 1),()))) (some (.inl (a,(addI .i64 b 1),(addI .i64 c 1),())))) ((getI a.data.toList c).bind fun c3 => cond (eqI (c3.toNat : Int) 82) (some (.inl (a,(subI .i64 b 1),(addI .i64 c 1),()))) (some (.inl (a,b,(addI .i64 c 1),()))))) (some (.inr (.inl (b,()))))
def Zan_L3 : (ByteArray × Int × Int × Unit) → Option ((Int × Unit) ⊕ Empty) := loopFix Zan_B3
def Zan_A3 : Ann := { head := Zan_H3, exits := Zan_E3, fn := Zan_L3 }
def Zan_As : Anns := [(3, Zan_A3)]
def Zan (x : Q4) : Option (Int × Unit) :=
 (Zan_L3 (x.1,0,0,())).bind (Sum.elim (fun z2 => some (z2.1,())) (fun _ => none))
def Zan_c : Con := { ins := [(.rd, .str)], outs := [(true, I)], fn := Zan }
def Zan_C : Ctx := { tab := tab, con := fun _ _ => none, glob := glob, eqs := eqs, maps := maps }
theorem Zan_R3 (x : Zan_H3.ty.den) : round Zan_C Zan_As Zan_A3 (loopBody 3 (bodyOf Tryd.f62)) x = Zan_B3 x := by kernel_rfl
theorem Zan_eq (x : (tupTy [.str]).den) : callFn Zan_C Zan_As (bodyOf Tryd.f62) [(.rd, .str)] [(.tmp 2, true, I)] x = Zan x := by kernel_rfl
def Zac_H3 : Shape := { env := [(1, .av (.val (.slice I))), (2, .av (.ptr 2 0)), (5, .av (.val I)), (6, .av (.val I))], objs := [(2, .box [.val I, .val (.slice yQ2), .val yQ5, .val (.slice I), .val (.slice .str), .val I])] }
def Zac_E3 : List (Ex × Shape) := [(.exit 0, { env := [(5, .av (.val I))], objs := [] })]
def Zac_B3 (x : Q42) : Option (Q42 ⊕ ((Int × Unit) ⊕ Empty)) :=
 let (a,b,c,d,e,f,g,h,i,_) := x; cond (ltI i (g.length : Nat)) ((getI g i).bind fun y1 => (getI e y1).bind fun y2 => (Zan (y2,())).bind fun r3 => (getI g i).bind fun y4 => (getI d (xorI .i64 y4 1)).bind fun y5 => some (.inl (a,b,c,d,e,f,g,(subI .i64 (addI .i64 (addI .i64 h r3.1) 2) y5),(addI .i64 i 1),()))) (some (.inr (.inl (h,()))))
def Zac_L3 : Q42 → Option ((Int × Unit) ⊕ Empty) := loopFix Zac_B3
def Zac_A3 : Ann := { head := Zac_H3, exits := Zac_E3, fn := Zac_L3 }
def Zac_As : Anns := [(3, Zac_A3)]
def Zac (x : (Q10 × List Int × Unit)) : Option (Int × Unit) :=
 let (((a,b,c,_),d,e,f,_),g,_) := x; (Zac_L3 (a,b,c,d,e,f,g,0,0,())).bind (Sum.elim (fun z2 => some (z2.1,())) (fun _ => none))
def Zac_c : Con := { ins := [(.rd, yQ11), (.rd, (.slice I))], outs := [(true, I)], fn := Zac }
def Zac_C : Ctx := { tab := tab, con := fun | 62, _ => some Zan_c | _, _ => none, glob := glob, eqs := eqs, maps := maps }
theorem Zac_R3 (x : Zac_H3.ty.den) : round Zac_C Zac_As Zac_A3 (loopBody 3 (bodyOf Tryd.f44)) x = Zac_B3 x := by kernel_rfl
theorem Zac_eq (x : (tupTy [yQ11, (.slice I)]).den) : callFn Zac_C Zac_As (bodyOf Tryd.f44) [(.rd, yQ11), (.rd, (.slice I))] [(.tmp 4, true, I)] x = Zac x := by kernel_rfl
def Zx_H8 : Shape := { env := [(1, .av (.ptr 1 0)), (4, .av (.own 4)), (5, .av (.val I))], objs := [(1, .box [.val I, .val (.slice yQ2), .val yQ5, .val (.slice I), .val (.slice .str), .val I]), (4, .arr (.slice I))] }
def Zx_E8 : List (Ex × Shape) := [(.ret, { env := [(2, .av (.val I))], objs := [] }), (.exit 0, { env := [], objs := [] })]
def Zx_B8 (x : Q44) : Option (Q44 ⊕ ((Int × Unit) ⊕ (Unit ⊕ Empty))) :=
 let (a,b,c,d,e,f,g,h,_) := x; cond (ltI h (g.length : Nat)) ((idxI g.length h).bind fun j1 => (g[j1]?).bind fun y2 => (Zaq (y2,f,())).bind fun r3 => cond r3.1 ((idxI g.length h).bind fun j4 => (g[j4]?).bind fun y5 => (Zac (((a,b,c,()),d,e,f,()),y5,())).bind fun r6 => cond (neI r6.1 (-4)) (some (.inr (.inl (13,())))) (some (.inl (a,b,c,d,e,f,g,(addI .i64 h 1),())))) ((idxI g.length h).bind fun j7 => (g[j7]?).bind fun y8 => (Zac (((a,b,c,()),d,e,f,()),y8,())).bind fun r9 => cond (neI r9.1 4) (some (.inr (.inl (13,())))) (some (.inl (a,b,c,d,e,f,g,(addI .i64 h 1),()))))) (some (.inr (.inr (.inl ()))))
def Zx_L8 : Q44 → Option ((Int × Unit) ⊕ (Unit ⊕ Empty)) := loopFix Zx_B8
def Zx_A8 : Ann := { head := Zx_H8, exits := Zx_E8, fn := Zx_L8 }
def Zx_As : Anns := [(8, Zx_A8)]
def Zx (x : (Q10 × Unit)) : Option (Int × Unit) :=
 let (((a,b,c,_),d,e,f,_),_) := x; let t_0 := (Zv ((a,b,c,()),())).bind fun r5 => (Zx_L8 (a,b,c,d,e,f,r5.1,0,())).bind (Sum.elim (fun z7 => some (z7.1,())) (Sum.elim (fun z8 => some (0,())) (fun _ => none))); (Zab ((a,b,c,()),())).bind fun r1 => cond (!r1.1) (some (13,())) (cond (ltI a 1) (some (13,())) ((Zr ((a,b,c,()),())).bind fun r2 => cond (!r2.1) (some (13,())) (cond (neI (d.length : Nat) (mulI .i64 2 (b.length : Nat))) (some (13,())) (cond (neI (e.length : Nat) (mulI .i64 2 (b.length : Nat))) (some (13,())) ((Zam (((a,b,c,()),d,e,f,()),())).bind fun r3 => cond (!r3.1) (some (13,())) ((Zt (((a,b,c,()),d,e,f,()),())).bind fun r4 => cond (!r4.1) (some (13,())) (cond (ltI f 0) (some (13,())) (cond (gtI f 0) (cond (geI f (mulI .i64 2 (b.length : Nat))) (some (13,())) t_0) t_0))))))))
def Zx_c : Con := { ins := [(.rd, yQ11)], outs := [(true, I)], fn := Zx }
def Zx_C : Ctx := { tab := tab, con := fun | 37, _ => some Zv_c | 39, _ => some Zab_c | 40, _ => some Zr_c | 41, _ => some Zam_c | 42, _ => some Zt_c | 43, _ => some Zaq_c | 44, _ => some Zac_c | _, _ => none, glob := glob, eqs := eqs, maps := maps }
theorem Zx_R8 (x : Zx_H8.ty.den) : round Zx_C Zx_As Zx_A8 (loopBody 8 (bodyOf Tryd.f19)) x = Zx_B8 x := by kernel_rfl
theorem Zx_eq (x : (tupTy [yQ11]).den) : callFn Zx_C Zx_As (bodyOf Tryd.f19) [(.rd, yQ11)] [(.tmp 2, true, I)] x = Zx x := by kernel_rfl
def Zae_H5 : Shape := { env := [(1, .av (.ptr 1 0)), (3, .av (.val I)), (4, .av (.val I))], objs := [(1, .box [.val I, .val (.slice yQ2), .val yQ5, .val (.slice I), .val (.slice .str), .val I])] }
def Zae_E5 : List (Ex × Shape) := [(.exit 0, { env := [(3, .av (.val I))], objs := [] })]
def Zae_B5 (x : Q34) : Option (Q34 ⊕ ((Int × Unit) ⊕ Empty)) :=
 let (a,b,c,d,e,f,g,h,_) := x; cond (ltI h (e.length : Nat)) ((getI e h).bind fun y1 => some (.inl (a,b,c,d,e,f,(addI .i64 g (y1.size : Nat)),(addI .i64 h 2),()))) (some (.inr (.inl (g,()))))
def Zae_L5 : Q34 → Option ((Int × Unit) ⊕ Empty) := loopFix Zae_B5
def Zae_A5 : Ann := { head := Zae_H5, exits := Zae_E5, fn := Zae_L5 }
def Zae_As : Anns := [(5, Zae_A5)]
def Zae (x : (Q10 × Unit)) : Option (Int × Unit) :=
 let (((a,b,c,_),d,e,f,_),_) := x; (Zx (((a,b,c,()),d,e,f,()),())).bind fun r1 => cond (neI r1.1 0) (some (0,())) ((Zae_L5 (a,b,c,d,e,f,0,0,())).bind (Sum.elim (fun z3 => some (z3.1,())) (fun _ => none)))
def Zae_c : Con := { ins := [(.rd, yQ11)], outs := [(true, I)], fn := Zae }
def Zae_C : Ctx := { tab := tab, con := fun | 19, _ => some Zx_c | _, _ => none, glob := glob, eqs := eqs, maps := maps }
theorem Zae_R5 (x : Zae_H5.ty.den) : round Zae_C Zae_As Zae_A5 (loopBody 5 (bodyOf Tryd.f20)) x = Zae_B5 x := by kernel_rfl
theorem Zae_eq (x : (tupTy [yQ11]).den) : callFn Zae_C Zae_As (bodyOf Tryd.f20) [(.rd, yQ11)] [(.tmp 2, true, I)] x = Zae x := by kernel_rfl
def Zh_As : Anns := []
def Zh (x : (Q10 × Unit)) : Option (Bool × Unit) :=
 let (((a,b,c,_),d,e,f,_),_) := x; (Zx (((a,b,c,()),d,e,f,()),())).bind fun r1 => cond (eqI r1.1 0) ((Zae (((a,b,c,()),d,e,f,()),())).bind fun r2 => some ((eqI r2.1 0),())) (some (false,()))
def Zh_c : Con := { ins := [(.rd, yQ11)], outs := [(true, .bool)], fn := Zh }
def Zh_C : Ctx := { tab := tab, con := fun | 19, _ => some Zx_c | 20, _ => some Zae_c | _, _ => none, glob := glob, eqs := eqs, maps := maps }
theorem Zh_eq (x : (tupTy [yQ11]).den) : callFn Zh_C Zh_As (bodyOf Tryd.f24) [(.rd, yQ11)] [(.tmp 2, true, .bool)] x = Zh x := by kernel_rfl
def Zd_H19 : Shape := { env := [(1, .av (.ptr 1 0)), (5, .av (.own 5)), (7, .av (.val .bool)), (8, .av (.val I)), (9, .av (.val (.slice I))), (10, .av (.val I))], objs := [(1, .box [.val I, .val (.slice yQ2), .val yQ5, .val (.slice I), .val (.slice .str), .val I]), (5, .arr I)] }
def Zd_E19 : List (Ex × Shape) := [(.exit 6, { env := [(1, .av (.ptr 1 0)), (5, .av (.own 5)), (7, .av (.val .bool)), (8, .av (.val I))], objs := [(1, .box [.val I, .val (.slice yQ2), .val yQ5, .val (.slice I), .val (.slice .str), .val I]), (5, .arr I)] })]
def Zd_B19 (x : Q56) : Option (Q56 ⊕ (Q43 ⊕ Empty)) :=
 let (a,b,c,d,e,f,g,h,i,k,l,_) := x; cond (ltI l (k.length : Nat)) ((getI k l).bind fun y1 => let t_0 := (idxI g.length y1).bind fun j20 => (g[j20]?).bind fun y21 => cond (geI y21 0) ((idxI g.length (xorI .i64 y1 1)).bind fun j22 => (g[j22]?).bind fun y23 => cond (ltI y23 0) ((idxI g.length y1).bind fun j24 => (g[j24]?).bind fun y25 => (idxI g.length (xorI .i64 y1 1)).bind fun j26 => (g[j26]?).bind fun y27 => some (.inl (a,b,c,d,e,f,(g.set j26 (remI (addI .i64 y25 2) 4)),true,i,k,(addI .i64 l 1),()))) (some (.inl (a,b,c,d,e,f,g,h,i,k,(addI .i64 l 1),())))) (some (.inl (a,b,c,d,e,f,g,h,i,k,(addI .i64 l 1),()))); cond (eqI (k.length : Nat) 0) none ((getI k (remI (addI .i64 l 1) (k.length : Nat))).bind fun y2 => (idxI g.length y1).bind fun j3 => (g[j3]?).bind fun y4 => cond (geI y4 0) ((idxI g.length y2).bind fun j5 => (g[j5]?).bind fun y6 => cond (ltI y6 0) ((idxI g.length y1).bind fun j7 => (g[j7]?).bind fun y8 => (getI d y1).bind fun y9 => (idxI g.length y2).bind fun j10 => (g[j10]?).bind fun y11 => (idxI (g.set j10 (remI (addI .i64 y8 y9) 4)).length y1).bind fun j12 => ((g.set j10 (remI (addI .i64 y8 y9) 4))[j12]?).bind fun y13 => cond (geI y13 0) ((idxI (g.set j10 (remI (addI .i64 y8 y9) 4)).length (xorI .i64 y1 1)).bind fun j14 => ((g.set j10 (remI (addI .i64 y8 y9) 4))[j14]?).bind fun y15 => cond (ltI y15 0) ((idxI (g.set j10 (remI (addI .i64 y8 y9) 4)).length y1).bind fun j16 => ((g.set j10 (remI (addI .i64 y8 y9) 4))[j16]?).bind fun y17 => (idxI (g.set j10 (remI (addI .i64 y8 y9) 4)).length (xorI .i64 y1 1)).bind fun j18 => ((g.set j10 (remI (addI .i64 y8 y9) 4))[j18]?).bind fun y19 => some (.inl (a,b,c,d,e,f,((g.set j10 (remI (addI .i64 y8 y9) 4)).set j18 (remI (addI .i64 y17 2) 4)),true,i,k,(addI .i64 l 1),()))) (some (.inl (a,b,c,d,e,f,(g.set j10 (remI (addI .i64 y8 y9) 4)),true,i,k,(addI .i64 l 1),())))) (some (.inl (a,b,c,d,e,f,(g.set j10 (remI (addI .i64 y8 y9) 4)),true,i,k,(addI .i64 l 1),())))) t_0) t_0)) (some (.inr (.inl (a,b,c,d,e,f,g,h,i,()))))
def Zd_L19 : Q56 → Option (Q43 ⊕ Empty) := loopFix Zd_B19
def Zd_A19 : Ann := { head := Zd_H19, exits := Zd_E19, fn := Zd_L19 }
def Zd_H15 : Shape := { env := [(1, .av (.ptr 1 0)), (5, .av (.own 5)), (7, .av (.val .bool)), (8, .av (.val I))], objs := [(1, .box [.val I, .val (.slice yQ2), .val yQ5, .val (.slice I), .val (.slice .str), .val I]), (5, .arr I)] }
def Zd_E15 : List (Ex × Shape) := [(.exit 4, { env := [(1, .av (.ptr 1 0)), (5, .av (.own 5)), (7, .av (.val .bool))], objs := [(1, .box [.val I, .val (.slice yQ2), .val yQ5, .val (.slice I), .val (.slice .str), .val I]), (5, .arr I)] })]
def Zd_B15 (x : Q43) : Option (Q43 ⊕ (Q40 ⊕ Empty)) :=
 let (a,b,c,d,e,f,g,h,i,_) := x; cond (ltI i a) ((getI c i).bind fun y1 => (Zd_L19 (a,b,c,d,e,f,g,h,i,y1,0,())).bind (Sum.elim (fun (a_3,b_3,c_3,d_3,e_3,f_3,g_3,h_3,i_3,_) => some (.inl (a_3,b_3,c_3,d_3,e_3,f_3,g_3,h_3,(addI .i64 i_3 1),()))) (fun _ => none))) (some (.inr (.inl (a,b,c,d,e,f,g,h,()))))
def Zd_L15 : Q43 → Option (Q40 ⊕ Empty) := loopFix Zd_B15
def Zd_A15 : Ann := { head := Zd_H15, exits := Zd_E15, fn := Zd_L15 }
def Zd_H12 : Shape := { env := [(1, .av (.ptr 1 0)), (5, .av (.own 5)), (7, .av (.val .bool))], objs := [(1, .box [.val I, .val (.slice yQ2), .val yQ5, .val (.slice I), .val (.slice .str), .val I]), (5, .arr I)] }
def Zd_E12 : List (Ex × Shape) := [(.exit 2, { env := [(5, .av (.own 5))], objs := [(5, .arr I)] })]
def Zd_B12 (x : Q40) : Option (Q40 ⊕ (Q1 ⊕ Empty)) :=
 let (a,b,c,d,e,f,g,h,_) := x; cond h ((Zd_L15 (a,b,c,d,e,f,g,false,0,())).bind (Sum.elim (fun (a_2,b_2,c_2,d_2,e_2,f_2,g_2,h_2,_) => some (.inl (a_2,b_2,c_2,d_2,e_2,f_2,g_2,h_2,()))) (fun _ => none))) (some (.inr (.inl (g,()))))
def Zd_L12 : Q40 → Option (Q1 ⊕ Empty) := loopFix Zd_B12
def Zd_A12 : Ann := { head := Zd_H12, exits := Zd_E12, fn := Zd_L12 }
def Zd_H6 : Shape := { env := [(1, .av (.ptr 1 0)), (4, .av (.val I)), (5, .av (.own 5)), (6, .av (.val I))], objs := [(1, .box [.val I, .val (.slice yQ2), .val yQ5, .val (.slice I), .val (.slice .str), .val I]), (5, .arr I)] }
def Zd_E6 : List (Ex × Shape) := [(.exit 0, { env := [(1, .av (.ptr 1 0)), (4, .av (.val I)), (5, .av (.own 5))], objs := [(1, .box [.val I, .val (.slice yQ2), .val yQ5, .val (.slice I), .val (.slice .str), .val I]), (5, .arr I)] })]
def Zd_B6 (x : Q42) : Option (Q42 ⊕ (Q37 ⊕ Empty)) :=
 let (a,b,c,d,e,f,g,h,i,_) := x; cond (ltI i h) ((idxI g.length i).bind fun j1 => (g[j1]?).bind fun y2 => some (.inl (a,b,c,d,e,f,(g.set j1 (-1)),h,(addI .i64 i 1),()))) (some (.inr (.inl (a,b,c,d,e,f,g,h,()))))
def Zd_L6 : Q42 → Option (Q37 ⊕ Empty) := loopFix Zd_B6
def Zd_A6 : Ann := { head := Zd_H6, exits := Zd_E6, fn := Zd_L6 }
def Zd_As : Anns := [(6, Zd_A6), (12, Zd_A12), (15, Zd_A15), (19, Zd_A19)]
def Zd (x : (Q10 × Unit)) : Option Q5 :=
 let (((a,b,c,_),d,e,f,_),_) := x; (Zh (((a,b,c,()),d,e,f,()),())).bind fun r1 => cond (!r1.1) (some ([],13,())) ((makeL I (mulI .i64 2 (b.length : Nat)) (mulI .i64 2 (b.length : Nat))).bind fun m2 => (Zd_L6 (a,b,c,d,e,f,m2,(mulI .i64 2 (b.length : Nat)),0,())).bind (Sum.elim (fun (a_4,b_4,c_4,d_4,e_4,f_4,g_4,h_4,_) => cond (gtI h_4 0) ((idxI g_4.length 0).bind fun j5 => (g_4[j5]?).bind fun y6 => (Zd_L12 (a_4,b_4,c_4,d_4,e_4,f_4,(g_4.set j5 1),true,())).bind (Sum.elim (fun z8 => some (z8.1,0,())) (fun _ => none))) ((Zd_L12 (a_4,b_4,c_4,d_4,e_4,f_4,g_4,true,())).bind (Sum.elim (fun z10 => some (z10.1,0,())) (fun _ => none)))) (fun _ => none)))
def Zd_c : Con := { ins := [(.rd, yQ11)], outs := [(true, (.slice I)), (true, I)], fn := Zd }
def Zd_C : Ctx := { tab := tab, con := fun | 24, _ => some Zh_c | _, _ => none, glob := glob, eqs := eqs, maps := maps }
theorem Zd_R19 (x : Zd_H19.ty.den) : round Zd_C Zd_As Zd_A19 (loopBody 19 (bodyOf Tryd.f11)) x = Zd_B19 x := by kernel_rfl
theorem Zd_R15 (x : Zd_H15.ty.den) : round Zd_C Zd_As Zd_A15 (loopBody 15 (bodyOf Tryd.f11)) x = Zd_B15 x := by kernel_rfl
theorem Zd_R12 (x : Zd_H12.ty.den) : round Zd_C Zd_As Zd_A12 (loopBody 12 (bodyOf Tryd.f11)) x = Zd_B12 x := by kernel_rfl
theorem Zd_R6 (x : Zd_H6.ty.den) : round Zd_C Zd_As Zd_A6 (loopBody 6 (bodyOf Tryd.f11)) x = Zd_B6 x := by kernel_rfl
theorem Zd_eq (x : (tupTy [yQ11]).den) : callFn Zd_C Zd_As (bodyOf Tryd.f11) [(.rd, yQ11)] [(.tmp 2, true, (.slice I)), (.tmp 3, true, I)] x = Zd x := by kernel_rfl
def Za_As : Anns := []
def Za (x : (Q10 × Unit)) : Option (Bool × Unit) :=
 let (((a,b,c,_),d,e,f,_),_) := x; (Zu (((a,b,c,()),d,e,f,()),())).bind fun r1 => cond (!r1.1) ((Zy ()).bind fun r2 => some (r2.1,())) ((Zq (((a,b,c,()),d,e,f,()),())).bind fun r3 => (Zd (((a,b,c,()),d,e,f,()),())).bind fun r4 => cond (eqI r3.2.1 r4.2.1) ((Zi (r3.1,r4.1,())).bind fun r5 => cond r5.1 ((Zy ()).bind fun r6 => some (r6.1,())) (some (false,()))) (some (false,())))
def Za_c : Con := { ins := [(.rd, yQ11)], outs := [(true, .bool)], fn := Za }
def Za_C : Ctx := { tab := tab, con := fun | 8, _ => some Zu_c | 9, _ => some Zy_c | 10, _ => some Zq_c | 11, _ => some Zd_c | 12, _ => some Zi_c | _, _ => none, glob := glob, eqs := eqs, maps := maps }
def Zat_H2 : Shape := { env := [(0, .av (.val (.slice I))), (1, .av (.val I)), (5, .av (.val I))], objs := [] }
def Zat_E2 : List (Ex × Shape) := [(.ret, { env := [(4, .av (.val .bool))], objs := [] }), (.exit 0, { env := [], objs := [] })]
def Zat_B2 (x : Q7) : Option (Q7 ⊕ ((Bool × Unit) ⊕ (Unit ⊕ Empty))) :=
 let (a,b,c,_) := x; cond (ltI c (a.length : Nat)) ((getI a c).bind fun y1 => cond (eqI y1 b) (some (.inr (.inl (true,())))) (some (.inl (a,b,(addI .i64 c 1),())))) (some (.inr (.inr (.inl ()))))
def Zat_L2 : Q7 → Option ((Bool × Unit) ⊕ (Unit ⊕ Empty)) := loopFix Zat_B2
def Zat_A2 : Ann := { head := Zat_H2, exits := Zat_E2, fn := Zat_L2 }
def Zat_As : Anns := [(2, Zat_A2)]
def Zat (x : Q5) : Option (Bool × Unit) :=
 (Zat_L2 (x.1,x.2.1,0,())).bind (Sum.elim (fun z2 => some (z2.1,())) (Sum.elim (fun z3 => some (false,())) (fun _ => none)))
def Zat_c : Con := { ins := [(.rd, (.slice I)), (.rd, I)], outs := [(true, .bool)], fn := Zat }
def Zat_C : Ctx := { tab := tab, con := fun _ _ => none, glob := glob, eqs := eqs, maps := maps }
theorem Zat_R2 (x : Zat_H2.ty.den) : round Zat_C Zat_As Zat_A2 (loopBody 2 (bodyOf Tryd.f38)) x = Zat_B2 x := by kernel_rfl
theorem Zat_eq (x : (tupTy [(.slice I), I]).den) : callFn Zat_C Zat_As (bodyOf Tryd.f38) [(.rd, (.slice I)), (.rd, I)] [(.tmp 4, true, .bool)] x = Zat x := by kernel_rfl
def Zc_H12 : Shape := { env := [(1, .av (.ptr 1 0)), (3, .av (.own 3)), (4, .av (.val I)), (5, .av (.val I)), (6, .av (.val I)), (7, .av (.val I))], objs := [(1, .box [.val I, .val (.slice yQ2), .val yQ5, .val (.slice I), .val (.slice .str), .val I]), (3, .arr (.slice I))] }
def Zc_E12 : List (Ex × Shape) := [(.ret, { env := [(2, .av (.val .bool))], objs := [] }), (.exit 2, { env := [(1, .av (.ptr 1 0)), (3, .av (.own 3)), (4, .av (.val I)), (6, .av (.val I))], objs := [(1, .box [.val I, .val (.slice yQ2), .val yQ5, .val (.slice I), .val (.slice .str), .val I]), (3, .arr (.slice I))] })]
def Zc_B12 (x : Q58) : Option (Q58 ⊕ ((Bool × Unit) ⊕ (Q48 ⊕ Empty))) :=
 let (a,b,c,d,e,f,g,h,i,k,l,_) := x; (idxI g.length h).bind fun j1 => (g[j1]?).bind fun y2 => cond (ltI l (y2.length : Nat)) ((idxI g.length h).bind fun j3 => (g[j3]?).bind fun y4 => (getI y4 l).bind fun y5 => (getI d (xorI .i64 y5 1)).bind fun y6 => let t_0 := cond (neI (subI .i64 2 y6) 0) (some (.inl (a,b,c,d,e,f,g,h,i,(addI .i64 k 1),(addI .i64 l 1),()))) (some (.inl (a,b,c,d,e,f,g,h,i,k,(addI .i64 l 1),()))); cond (neI (subI .i64 2 y6) 0) (cond (neI (subI .i64 2 y6) i) (some (.inr (.inl (false,())))) t_0) t_0) (some (.inr (.inr (.inl (a,b,c,d,e,f,g,h,k,())))))
def Zc_L12 : Q58 → Option ((Bool × Unit) ⊕ (Q48 ⊕ Empty)) := loopFix Zc_B12
def Zc_A12 : Ann := { head := Zc_H12, exits := Zc_E12, fn := Zc_L12 }
def Zc_H5 : Shape := { env := [(1, .av (.ptr 1 0)), (3, .av (.own 3)), (4, .av (.val I))], objs := [(1, .box [.val I, .val (.slice yQ2), .val yQ5, .val (.slice I), .val (.slice .str), .val I]), (3, .arr (.slice I))] }
def Zc_E5 : List (Ex × Shape) := [(.ret, { env := [(2, .av (.val .bool))], objs := [] }), (.exit 0, { env := [], objs := [] })]
def Zc_B5 (x : Q44) : Option (Q44 ⊕ ((Bool × Unit) ⊕ (Unit ⊕ Empty))) :=
  let t_0 := Sum.elim (fun z5 => some (.inr (.inl (z5.1,())))) (Sum.elim (fun (a_6,b_6,c_6,d_6,e_6,f_6,g_6,h_6,i_6,_) => cond (neI i_6 4) (some (.inr (.inl (false,())))) (some (.inl (a_6,b_6,c_6,d_6,e_6,f_6,g_6,(addI .i64 h_6 1),())))) (fun _ => none));let (a,b,c,d,e,f,g,h,_) := x; cond (ltI h (g.length : Nat)) ((idxI g.length h).bind fun j1 => (g[j1]?).bind fun y2 => (Zat (y2,f,())).bind fun r3 => cond r3.1 ((Zc_L12 (a,b,c,d,e,f,g,h,(-1),0,0,())).bind t_0) ((Zc_L12 (a,b,c,d,e,f,g,h,1,0,0,())).bind t_0)) (some (.inr (.inr (.inl ()))))
def Zc_L5 : Q44 → Option ((Bool × Unit) ⊕ (Unit ⊕ Empty)) := loopFix Zc_B5
def Zc_A5 : Ann := { head := Zc_H5, exits := Zc_E5, fn := Zc_L5 }
def Zc_As : Anns := [(5, Zc_A5), (12, Zc_A12)]
def Zc (x : (Q10 × Unit)) : Option (Bool × Unit) :=
 let (((a,b,c,_),d,e,f,_),_) := x; (Zh (((a,b,c,()),d,e,f,()),())).bind fun r1 => cond (!r1.1) (some (false,())) (cond (eqI (b.length : Nat) 0) (some (false,())) ((Zv ((a,b,c,()),())).bind fun r2 => (Zc_L5 (a,b,c,d,e,f,r2.1,0,())).bind (Sum.elim (fun z4 => some (z4.1,())) (Sum.elim (fun z5 => some (true,())) (fun _ => none)))))
def Zc_c : Con := { ins := [(.rd, yQ11)], outs := [(true, .bool)], fn := Zc }
def Zc_C : Ctx := { tab := tab, con := fun | 24, _ => some Zh_c | 37, _ => some Zv_c | 38, _ => some Zat_c | _, _ => none, glob := glob, eqs := eqs, maps := maps }
theorem Zc_R12 (x : Zc_H12.ty.den) : round Zc_C Zc_As Zc_A12 (loopBody 12 (bodyOf Tryd.f18)) x = Zc_B12 x := by kernel_rfl
theorem Zc_R5 (x : Zc_H5.ty.den) : round Zc_C Zc_As Zc_A5 (loopBody 5 (bodyOf Tryd.f18)) x = Zc_B5 x := by kernel_rfl
theorem Zc_eq (x : (tupTy [yQ11]).den) : callFn Zc_C Zc_As (bodyOf Tryd.f18) [(.rd, yQ11)] [(.tmp 2, true, .bool)] x = Zc x := by kernel_rfl
def Zag_As : Anns := []
def Zag (x : (Q9 × Int × Unit)) : Option (Int × Unit) :=
 let ((a,b,c,_),d,_) := x; (Zab ((a,b,c,()),())).bind fun r1 => cond (!r1.1) (some ((-1),())) (cond (ltI d 0) (some ((-1),())) (cond (geI d (mulI .i64 2 (b.length : Nat))) (some ((-1),())) ((Zaf ((a,b,c,()),())).bind fun r2 => (idxI r2.1.length d).bind fun j3 => (r2.1[j3]?).bind fun y4 => some (y4,()))))
def Zag_c : Con := { ins := [(.rd, yQ8), (.rd, I)], outs := [(true, I)], fn := Zag }
def Zag_C : Ctx := { tab := tab, con := fun | 39, _ => some Zab_c | 54, _ => some Zaf_c | _, _ => none, glob := glob, eqs := eqs, maps := maps }
theorem Zag_eq (x : (tupTy [yQ8, I]).den) : callFn Zag_C Zag_As (bodyOf Tryd.f35) [(.rd, yQ8), (.rd, I)] [(.tmp 4, true, I)] x = Zag x := by kernel_rfl
def Zo_H6 : Shape := { env := [(1, .av (.val (.slice I))), (2, .av (.val I)), (3, .av (.val I)), (4, .av (.ptr 4 0)), (9, .av (.own 9)), (10, .av (.val .bool)), (11, .av (.val I))], objs := [(4, .box [.val I, .val (.slice yQ2), .val yQ5, .val (.slice I), .val (.slice .str), .val I]), (9, .arr I)] }
def Zo_E6 : List (Ex × Shape) := [(.exit 2, { env := [(1, .av (.val (.slice I))), (2, .av (.val I)), (3, .av (.val I)), (4, .av (.ptr 4 0)), (9, .av (.own 9)), (10, .av (.val .bool))], objs := [(4, .box [.val I, .val (.slice yQ2), .val yQ5, .val (.slice I), .val (.slice .str), .val I]), (9, .arr I)] })]
def Zo_B6 (x : Q60) : Option (Q60 ⊕ (Q57 ⊕ Empty)) :=
 let (a,b,c,d,e,f,g,h,i,k,l,m,_) := x; cond (ltI m (h.length : Nat)) ((Zag ((a,b,c,()),m,())).bind fun r1 => (Zag ((a,b,c,()),(xorI .i64 m 1),())).bind fun r2 => let t_0 := (idxI g.length r1.1).bind fun j7 => (g[j7]?).bind fun y8 => (idxI g.length r2.1).bind fun j9 => (g[j9]?).bind fun y10 => cond (ltI y10 y8) ((idxI g.length r2.1).bind fun j11 => (g[j11]?).bind fun y12 => some (.inl (a,b,c,d,e,f,(g.set j11 y8),h,i,k,true,(addI .i64 m 1),()))) (some (.inl (a,b,c,d,e,f,g,h,i,k,l,(addI .i64 m 1),()))); (getI h m).bind fun y3 => cond (eqI y3 i) ((idxI g.length r1.1).bind fun j4 => (g[j4]?).bind fun y5 => (getI h m).bind fun y6 => cond (eqI (remI y6 2) (remI k 2)) t_0 ((idxI g.length r2.1).bind fun j13 => (g[j13]?).bind fun y14 => cond (ltI y14 (addI .i64 y5 1)) ((idxI g.length r2.1).bind fun j15 => (g[j15]?).bind fun y16 => some (.inl (a,b,c,d,e,f,(g.set j15 (addI .i64 y5 1)),h,i,k,true,(addI .i64 m 1),()))) (some (.inl (a,b,c,d,e,f,g,h,i,k,l,(addI .i64 m 1),()))))) ((getI h m).bind fun y17 => cond (eqI (remI y17 2) (remI k 2)) t_0 ((idxI g.length r2.1).bind fun j24 => (g[j24]?).bind fun y25 => cond (ltI y25 (-1)) ((idxI g.length r2.1).bind fun j26 => (g[j26]?).bind fun y27 => some (.inl (a,b,c,d,e,f,(g.set j26 (-1)),h,i,k,true,(addI .i64 m 1),()))) (some (.inl (a,b,c,d,e,f,g,h,i,k,l,(addI .i64 m 1),())))))) (some (.inr (.inl (a,b,c,d,e,f,g,h,i,k,l,()))))
def Zo_L6 : Q60 → Option (Q57 ⊕ Empty) := loopFix Zo_B6
def Zo_A6 : Ann := { head := Zo_H6, exits := Zo_E6, fn := Zo_L6 }
def Zo_H3 : Shape := { env := [(1, .av (.val (.slice I))), (2, .av (.val I)), (3, .av (.val I)), (4, .av (.ptr 4 0)), (9, .av (.own 9)), (10, .av (.val .bool))], objs := [(4, .box [.val I, .val (.slice yQ2), .val yQ5, .val (.slice I), .val (.slice .str), .val I]), (9, .arr I)] }
def Zo_E3 : List (Ex × Shape) := [(.exit 0, { env := [(9, .av (.own 9))], objs := [(9, .arr I)] })]
def Zo_B3 (x : Q57) : Option (Q57 ⊕ (Q1 ⊕ Empty)) :=
 let (a,b,c,d,e,f,g,h,i,k,l,_) := x; cond l ((Zo_L6 (a,b,c,d,e,f,g,h,i,k,false,0,())).bind (Sum.elim (fun (a_2,b_2,c_2,d_2,e_2,f_2,g_2,h_2,i_2,k_2,l_2,_) => some (.inl (a_2,b_2,c_2,d_2,e_2,f_2,g_2,h_2,i_2,k_2,l_2,()))) (fun _ => none))) (some (.inr (.inl (g,()))))
def Zo_L3 : Q57 → Option (Q1 ⊕ Empty) := loopFix Zo_B3
def Zo_A3 : Ann := { head := Zo_H3, exits := Zo_E3, fn := Zo_L3 }
def Zo_As : Anns := [(3, Zo_A3), (6, Zo_A6)]
def Zo (x : (Q10 × List Int × Int × Int × Unit)) : Option Q1 :=
 let (((a,b,c,_),d,e,f,_),g,h,i,_) := x; (makeL I a a).bind fun m1 => (Zo_L3 (a,b,c,d,e,f,m1,g,h,i,true,())).bind (Sum.elim (fun z3 => some (z3.1,())) (fun _ => none))
def Zo_c : Con := { ins := [(.rd, yQ11), (.rd, (.slice I)), (.rd, I), (.rd, I)], outs := [(true, (.slice I))], fn := Zo }
def Zo_C : Ctx := { tab := tab, con := fun | 35, _ => some Zag_c | _, _ => none, glob := glob, eqs := eqs, maps := maps }
theorem Zo_R6 (x : Zo_H6.ty.den) : round Zo_C Zo_As Zo_A6 (loopBody 6 (bodyOf Tryd.f28)) x = Zo_B6 x := by kernel_rfl
theorem Zo_R3 (x : Zo_H3.ty.den) : round Zo_C Zo_As Zo_A3 (loopBody 3 (bodyOf Tryd.f28)) x = Zo_B3 x := by kernel_rfl
theorem Zo_eq (x : (tupTy [yQ11, (.slice I), I, I]).den) : callFn Zo_C Zo_As (bodyOf Tryd.f28) [(.rd, yQ11), (.rd, (.slice I)), (.rd, I), (.rd, I)] [(.tmp 8, true, (.slice I))] x = Zo x := by kernel_rfl
def Zad_H8 : Shape := { env := [(1, .av (.ptr 1 0)), (6, .av (.own 6)), (7, .av (.own 7)), (8, .av (.own 8)), (9, .av (.val I))], objs := [(1, .box [.val I, .val (.slice yQ2), .val yQ5, .val (.slice I), .val (.slice .str), .val I]), (6, .arr I), (7, .arr I), (8, .arr yQ2)] }
def Zad_E8 : List (Ex × Shape) := [(.exit 0, { env := [(8, .av (.own 8))], objs := [(8, .arr yQ2)] })]
def Zad_B8 (x : Q55) : Option (Q55 ⊕ (((List Q2) × Unit) ⊕ Empty)) :=
 let (a,b,c,d,e,f,g,h,i,k,_) := x; cond (ltI k a) ((idxI g.length k).bind fun j1 => (g[j1]?).bind fun y2 => (idxI h.length k).bind fun j3 => (h[j3]?).bind fun y4 => (app i [(y2,y4,())]).bind fun a5 => some (.inl (a,b,c,d,e,f,g,h,a5,(addI .i64 k 1),()))) (some (.inr (.inl (i,()))))
def Zad_L8 : Q55 → Option (((List Q2) × Unit) ⊕ Empty) := loopFix Zad_B8
def Zad_A8 : Ann := { head := Zad_H8, exits := Zad_E8, fn := Zad_L8 }
def Zad_As : Anns := [(8, Zad_A8)]
def Zad (x : (Q10 × Unit)) : Option ((List Q2) × Int × Unit) :=
 let (((a,b,c,_),d,e,f,_),_) := x; (Zc (((a,b,c,()),d,e,f,()),())).bind fun r1 => cond (!r1.1) (some ([],13,())) ((Zd (((a,b,c,()),d,e,f,()),())).bind fun r2 => (Zo (((a,b,c,()),d,e,f,()),r2.1,1,0,())).bind fun r3 => (Zo (((a,b,c,()),d,e,f,()),r2.1,2,1,())).bind fun r4 => (Zad_L8 (a,b,c,d,e,f,r3.1,r4.1,[],0,())).bind (Sum.elim (fun z6 => some (z6.1,0,())) (fun _ => none)))
def Zad_c : Con := { ins := [(.rd, yQ11)], outs := [(true, (.slice yQ2)), (true, I)], fn := Zad }
def Zad_C : Ctx := { tab := tab, con := fun | 11, _ => some Zd_c | 18, _ => some Zc_c | 28, _ => some Zo_c | _, _ => none, glob := glob, eqs := eqs, maps := maps }
theorem Zad_R8 (x : Zad_H8.ty.den) : round Zad_C Zad_As Zad_A8 (loopBody 8 (bodyOf Tryd.f14)) x = Zad_B8 x := by kernel_rfl
theorem Zad_eq (x : (tupTy [yQ11]).den) : callFn Zad_C Zad_As (bodyOf Tryd.f14) [(.rd, yQ11)] [(.tmp 2, true, (.slice yQ2)), (.tmp 3, true, I)] x = Zad x := by kernel_rfl
def Zb_As : Anns := []
def Zb (x : (Q10 × Unit)) : Option (Bool × Unit) :=
 let (((a,b,c,_),d,e,f,_),_) := x; (Zu (((a,b,c,()),d,e,f,()),())).bind fun r1 => cond (!r1.1) ((Zy ()).bind fun r2 => some (r2.1,())) ((Zbb (((a,b,c,()),d,e,f,()),())).bind fun r3 => (Zad (((a,b,c,()),d,e,f,()),())).bind fun r4 => cond (eqI r3.2.1 r4.2.1) ((Zf (r3.1,r4.1,())).bind fun r5 => cond r5.1 ((Zy ()).bind fun r6 => some (r6.1,())) (some (false,()))) (some (false,())))
def Zb_c : Con := { ins := [(.rd, yQ11)], outs := [(true, .bool)], fn := Zb }
def Zb_C : Ctx := { tab := tab, con := fun | 8, _ => some Zu_c | 9, _ => some Zy_c | 13, _ => some Zbb_c | 14, _ => some Zad_c | 15, _ => some Zf_c | _, _ => none, glob := glob, eqs := eqs, maps := maps }
theorem Zb_eq (x : (tupTy [yQ11]).den) : callFn Zb_C Zb_As (bodyOf Tryd.f4) [(.rd, yQ11)] [(.tmp 2, true, .bool)] x = Zb x := by kernel_rfl
end
end Go.Vm

/-
 The functions that the law reaches, as functions on values, and the proofs that the machine computes them.
-/
import Derived.Test.YtpgfkljmcacegaaDoorVmA
import Derived.Test.YtpgfkljmcacegaaDoorProg
import Derived.KernelRfl
set_option linter.unusedVariables false
set_option linter.unusedSimpArgs false
namespace Go.Vm
open Go.Proofs
abbrev I : Ty := .int .i64
abbrev yQ1 : Ty := .prod I .unit
abbrev yQ2 : Ty := .prod I yQ1
abbrev yQ3 : Ty := .prod yQ2 .unit
abbrev yQ4 : Ty := .prod yQ2 yQ3
abbrev yQ5 : Ty := .slice (.slice I)
abbrev yQ6 : Ty := .prod yQ5 .unit
abbrev yQ7 : Ty := .prod (.slice yQ2) yQ6
abbrev yQ8 : Ty := .prod I yQ7
abbrev yQ9 : Ty := .prod (.slice .str) yQ1
abbrev yQ10 : Ty := .prod (.slice I) yQ9
abbrev yQ11 : Ty := .prod yQ8 yQ10
abbrev Q1 := List Int × Unit
abbrev Q2 := Int × Int × Unit
abbrev Q3 := Q2 × Q2 × Unit
abbrev Q4 := ByteArray × Unit
abbrev Q5 := List Int × Int × Unit
abbrev Q6 := (List (List Int)) × Unit
abbrev Q7 := List Int × Int × Int × Unit
abbrev Q8 := List Int × Int × Int × Int × Unit
abbrev Q9 := Int × (List Q2) × (List (List Int)) × Unit
abbrev Q10 := Q9 × List Int × List ByteArray × Int × Unit
abbrev Q11 := List Int × (List (List Int)) × Int × Int × Unit
abbrev Q12 := Int × (List Q2) × (List (List Int)) × Int × Unit
abbrev Q13 := List Int × List Int × List Int × Int × Int × Unit
abbrev Q14 := (List (Q2 × Bool)) × (List Q2) × Int × Int × Unit
abbrev Q15 := List Int × List Int × (List Q2) × Int × Int × Unit
abbrev Q16 := (List (List Int)) × List Int × List Bool × Int × Unit
abbrev Q17 := Int × (List Q2) × (List (List Int)) × Int × Int × Unit
abbrev Q18 := List Int × List Bool × (List (List Int)) × Int × Int × Unit
abbrev Q19 := Int × (List Q2) × (List (List Int)) × List Int × Int × Unit
abbrev Q20 := Int × (List Q2) × (List (List Int)) × List Int × Int × Int × Unit
abbrev Q21 := Int × (List Q2) × (List (List Int)) × (List Q2) × Int × Int × Unit
abbrev Q22 := (List (List Int)) × List Int × List Bool × List Int × Int × Int × Unit
abbrev Q23 := Int × (List Q2) × (List (List Int)) × List Bool × List Int × Int × Unit
abbrev Q24 := Int × (List Q2) × (List (List Int)) × List Bool × Int × Int × Int × Unit
abbrev Q25 := List Int × List Bool × (List (List Int)) × List Int × Int × Int × Int × Unit
abbrev Q26 := Int × (List Q2) × (List (List Int)) × List Int × Int × List Int × Int × Unit
abbrev Q27 := Int × (List Q2) × (List (List Int)) × List Int × List Bool × Int × Int × Unit
abbrev Q28 := Int × (List Q2) × (List (List Int)) × Int × (List (List Int)) × Int × Int × Unit
abbrev Q29 := List Int × List Int × (List (List Int)) × Int × Int × List Int × Int × Int × Unit
abbrev Q30 := Int × (List Q2) × (List (List Int)) × List Int × List ByteArray × Int × Int × Unit
abbrev Q31 := Int × (List Q2) × (List (List Int)) × List Bool × List Int × Int × Int × Int × Unit
abbrev Q32 := Int × (List Q2) × (List (List Int)) × List Int × List Bool × Int × Int × Int × Unit
abbrev Q33 := Int × (List Q2) × (List (List Int)) × List Int × List ByteArray × Int × List Int × Unit
abbrev Q34 := Int × (List Q2) × (List (List Int)) × List Int × List ByteArray × Int × Int × Int × Unit
abbrev Q35 := Int × (List Q2) × (List (List Int)) × List Int × List ByteArray × Int × (List Q2) × Unit
abbrev Q36 := Int × (List Q2) × (List (List Int)) × List Bool × Int × (List (List Int)) × Int × Int × Unit
abbrev Q37 := Int × (List Q2) × (List (List Int)) × List Int × List ByteArray × Int × List Int × Int × Unit
abbrev Q38 := Int × (List Q2) × (List (List Int)) × List Bool × List Int × Int × List Int × Int × Int × Unit
abbrev Q39 := Int × (List Q2) × (List (List Int)) × List Int × List ByteArray × Int × Int × Int × Int × Unit
abbrev Q40 := Int × (List Q2) × (List (List Int)) × List Int × List ByteArray × Int × List Int × Bool × Unit
abbrev Q41 := Int × (List Q2) × (List (List Int)) × List Int × List ByteArray × Int × (List Q2) × Int × Unit
abbrev Q42 := Int × (List Q2) × (List (List Int)) × List Int × List ByteArray × Int × List Int × List Int × Unit
abbrev Q43 := Int × (List Q2) × (List (List Int)) × List Int × List ByteArray × Int × List Int × Int × Int × Unit
abbrev Q44 := Int × (List Q2) × (List (List Int)) × List Int × List ByteArray × Int × List Int × (List Q2) × Unit
abbrev Q45 := Int × (List Q2) × (List (List Int)) × List Int × List ByteArray × Int × List Int × Bool × Int × Unit
abbrev Q46 := Int × (List Q2) × (List (List Int)) × List Int × List ByteArray × Int × (List Q2) × Int × Int × Unit
abbrev Q47 := Int × (List Q2) × (List (List Int)) × List Int × List ByteArray × Int × (List (List Int)) × Int × Unit
abbrev Q48 := Int × (List Q2) × (List (List Int)) × List Int × List ByteArray × Int × List Int × List Int × Int × Unit
abbrev Q49 := Int × (List Q2) × (List (List Int)) × List Int × List ByteArray × Int × Int × List Int × Int × Int × Unit
abbrev Q50 := Int × (List Q2) × (List (List Int)) × List Int × List ByteArray × Int × List Int × (List Q2) × Int × Unit
abbrev Q51 := Int × (List Q2) × (List (List Int)) × List Bool × List Int × Int × Int × Int × List Int × Int × Int × Unit
abbrev Q52 := Int × (List Q2) × (List (List Int)) × List Int × List ByteArray × Int × (List (List Int)) × Int × Int × Unit
abbrev Q53 := Int × (List Q2) × (List (List Int)) × List Int × List ByteArray × Int × List Int × List Int × Int × Bool × Unit
abbrev Q54 := Int × (List Q2) × (List (List Int)) × List Int × List ByteArray × Int × List Int × (List Q2) × Int × Int × Unit
abbrev Q55 := Int × (List Q2) × (List (List Int)) × List Int × List ByteArray × Int × (List Q2) × (List Q2) × Int × Int × Unit
abbrev Q56 := Int × (List Q2) × (List (List Int)) × List Int × List ByteArray × Int × Int × (List Q2) × (List (List Int)) × Unit
abbrev Q57 := Int × (List Q2) × (List (List Int)) × List Int × List ByteArray × Int × (List (List Int)) × Int × Int × Int × Unit
abbrev Q58 := Int × (List Q2) × (List (List Int)) × List Int × List ByteArray × Int × List Int × List Int × Int × Int × Int × Unit
abbrev Q59 := Int × (List Q2) × (List (List Int)) × List Int × List ByteArray × Int × List Int × Bool × Int × List Int × Int × Unit
abbrev Q60 := Int × (List Q2) × (List (List Int)) × List Bool × Int × Int × (List (List Int)) × Int × Int × List Int × Int × Int × Unit
abbrev Q61 := Int × (List Q2) × (List (List Int)) × List Int × List ByteArray × Int × List Int × Int × (List (List Int)) × Int × Int × Unit
abbrev Q62 := Int × (List Q2) × (List (List Int)) × List Int × List ByteArray × Int × (List (List Int)) × List Int × Int × Int × Int × Unit
abbrev Q63 := Int × (List Q2) × (List (List Int)) × List Int × List ByteArray × Int × Int × (List Q2) × (List (List Int)) × Int × Int × Unit
abbrev Q64 := Int × (List Q2) × (List (List Int)) × List Int × List ByteArray × Int × List Int × List Int × List Int × Int × Int × Int × Unit
abbrev Q65 := Int × (List Q2) × (List (List Int)) × List Int × List ByteArray × Int × List Int × List Int × Int × Int × Int × Int × Int × Unit
abbrev Q66 := Int × (List Q2) × (List (List Int)) × List Int × List ByteArray × Int × List Int × List Int × Int × Bool × List Int × Int × Int × Unit
abbrev Q67 := Int × (List Q2) × (List (List Int)) × List Int × List ByteArray × Int × (List (List Int)) × Int × Int × Int × Int × List Int × Int × Int × Unit
abbrev Q68 := Int × (List Q2) × (List (List Int)) × List Int × List ByteArray × Int × List Int × Int × (List (List Int)) × Int × Int × List Int × Int × Int × Unit
abbrev Q69 := Int × (List Q2) × (List (List Int)) × List Int × List ByteArray × Int × (List (List Int)) × List Int × Int × Int × Int × List Int × Int × Int × Unit
abbrev Q70 := Int × (List Q2) × (List (List Int)) × List Int × List ByteArray × Int × Int × Int × (List Q2) × (List Q2) × Int × Int × (List Q2) × Int × Int × Unit
abbrev Q71 := Int × (List Q2) × (List (List Int)) × List Int × List ByteArray × Int × List Int × List Int × List Int × Int × Int × Int × List Int × Int × Int × Unit
noncomputable section
def tab : Tab := [(2, I), (3, I), (4, .bool), (5, (.int .u8)), (6, (.int .u8)), (7, (.prod I (.prod I (.prod .bool (.prod (.int .u8) .unit))))), (8, (.prod I (.prod I (.prod .bool (.prod (.int .u8) .unit))))), (9, .str), (10, .str), (11, .str), (12, (.int .u64)), (13, (.prod .str (.prod (.int .u64) .unit))), (14, (.prod .str (.prod (.int .u64) .unit))), (21, (.int .i32)), (22, (.slice yQ2)), (23, yQ5), (24, yQ8), (25, yQ8), (26, (.slice I)), (27, (.slice .str)), (28, yQ11), (29, yQ11), (32, I), (36, (.slice yQ2)), (41, yQ2), (42, yQ2), (53, yQ2), (54, yQ2), (62, (.arr 2 I)), (63, (.arr 2 (.arr 2 I))), (66, yQ4), (67, yQ4), (71, (.slice .bool)), (77, yQ4), (78, yQ4), (84, (.slice (.int .u8))), (99, (.int .u32)), (100, (.int .u8)), (101, (.int .u8)), (104, (.int .i32)), (105, (.int .i32))]
def eqs : List Nat := [42]
def maps : List (Nat × Ty × Ty) := [(64, yQ2, .bool)]
def glob : List (Nat × (Σ t : Ty, t.den)) := [(0, ⟨(.arr 2 I), [16384, 32768]⟩)]
set_option maxRecDepth 100000
def Zae_H4 : Shape := { env := [(1, .av (.ptr 1 0)), (3, .av (.val I))], objs := [(1, .box [.val I, .val (.slice yQ2), .val yQ5, .val (.slice I), .val (.slice .str), .val I])] }
def Zae_E4 : List (Ex × Shape) := [(.ret, { env := [(2, .av (.val .bool))], objs := [] }), (.exit 0, { env := [], objs := [] })]
def Zae_B4 (x : Q30) : Option (Q30 ⊕ ((Bool × Unit) ⊕ (Unit ⊕ Empty))) :=
 let (a,b,c,d,e,f,g,_) := x; cond (ltI g (e.length : Nat)) ((getI e g).bind fun y1 => cond (gtI (y1.size : Nat) 70) (some (.inr (.inl (false,())))) (some (.inl (a,b,c,d,e,f,(addI .i64 g 1),())))) (some (.inr (.inr (.inl ()))))
def Zae_L4 : Q30 → Option ((Bool × Unit) ⊕ (Unit ⊕ Empty)) := loopFix Zae_B4
def Zae_A4 : Ann := { head := Zae_H4, exits := Zae_E4, fn := Zae_L4 }
def Zae_As : Anns := [(4, Zae_A4)]
def Zae (x : (Q10 × Unit)) : Option (Bool × Unit) :=
 let (((a,b,c,_),d,e,f,_),_) := x; cond (gtI a 30) (some (false,())) (cond (gtI (b.length : Nat) 40) (some (false,())) (cond (gtI (c.length : Nat) 40) (some (false,())) (cond (gtI (d.length : Nat) 100) (some (false,())) (cond (gtI (e.length : Nat) 100) (some (false,())) ((Zae_L4 (a,b,c,d,e,f,0,())).bind (Sum.elim (fun z2 => some (z2.1,())) (Sum.elim (fun z3 => some (true,())) (fun _ => none))))))))
def Zae_c : Con := { ins := [(.rd, yQ11)], outs := [(true, .bool)], fn := Zae }
def Zae_C : Ctx := { tab := tab, con := fun _ _ => none, glob := glob, eqs := eqs, maps := maps }
theorem Zae_R4 (x : Zae_H4.ty.den) : round Zae_C Zae_As Zae_A4 (loopBody 4 (bodyOf Tryd.f8)) x = Zae_B4 x := by kernel_rfl
theorem Zae_eq (x : (tupTy [yQ11]).den) : callFn Zae_C Zae_As (bodyOf Tryd.f8) [(.rd, yQ11)] [(.tmp 2, true, .bool)] x = Zae x := by kernel_rfl
def Zq_As : Anns := []
def Zq (x : Unit) : Option (Q10 × Unit) :=
 (makeL .str 8 8).bind fun m1 => some (((4,[(0,1,()),(1,2,()),(2,3,()),(3,0,())],[[0,7],[2,1],[4,3],[6,5]],()),[3,1,3,1,3,1,3,1],m1,1,()),())
def Zq_c : Con := { ins := [], outs := [(true, yQ11)], fn := Zq }
def Zq_C : Ctx := { tab := tab, con := fun _ _ => none, glob := glob, eqs := eqs, maps := maps }
theorem Zq_eq (x : (tupTy []).den) : callFn Zq_C Zq_As (bodyOf Tryd.f21) [] [(.cell 0 29, true, yQ11)] x = Zq x := by kernel_rfl
def Zbe_As : Anns := []
def Zbe (x : (Q2 × Int × Unit)) : Option (Int × Unit) :=
 cond (eqI x.2.1 0) (some (x.1.1,())) (some (x.1.2.1,()))
def Zbe_c : Con := { ins := [(.rd, yQ2), (.rd, I)], outs := [(true, I)], fn := Zbe }
def Zbe_C : Ctx := { tab := tab, con := fun _ _ => none, glob := glob, eqs := eqs, maps := maps }
theorem Zbe_eq (x : (tupTy [yQ2, I]).den) : callFn Zbe_C Zbe_As (bodyOf Tryd.f51) [(.rd, yQ2), (.rd, I)] [(.tmp 4, true, I)] x = Zbe x := by kernel_rfl
def Zba_H15 : Shape := { env := [(1, .av (.ptr 1 0)), (5, .av (.own 5)), (6, .av (.val I)), (7, .av (.val I)), (80, .av (.val yQ5)), (81, .av (.val I)), (82, .av (.val I)), (87, .av (.val (.slice I))), (88, .av (.val I)), (89, .av (.val I))], objs := [(1, .box [.val I, .val (.slice yQ2), .val yQ5]), (5, .arr .bool)] }
def Zba_E15 : List (Ex × Shape) := [(.ret, { env := [(2, .av (.val .bool))], objs := [] }), (.exit 4, { env := [(1, .av (.ptr 1 0)), (5, .av (.own 5)), (6, .av (.val I)), (80, .av (.val yQ5)), (81, .av (.val I)), (82, .av (.val I))], objs := [(1, .box [.val I, .val (.slice yQ2), .val yQ5]), (5, .arr .bool)] })]
def Zba_B15 (x : Q60) : Option (Q60 ⊕ ((Bool × Unit) ⊕ (Q36 ⊕ Empty))) :=
 let (a,b,c,d,e,f,g,h,i,k,l,m,_) := x; cond (ltI m l) ((getI k m).bind fun y1 => cond (ltI y1 0) (some (.inr (.inl (false,())))) (cond (geI y1 (d.length : Nat)) (some (.inr (.inl (false,())))) ((idxI d.length y1).bind fun j2 => (d[j2]?).bind fun y3 => cond y3 (some (.inr (.inl (false,())))) ((getI b (quoI .i64 y1 2)).bind fun y4 => (Zbe (y4,(remI y1 2),())).bind fun r5 => cond (neI r5.1 f) (some (.inr (.inl (false,())))) ((idxI d.length y1).bind fun j6 => (d[j6]?).bind fun y7 => some (.inl (a,b,c,(d.set j6 true),(addI .i64 e 1),f,g,h,i,k,l,(addI .i64 m 1),()))))))) (some (.inr (.inr (.inl (a,b,c,d,e,g,h,i,())))))
def Zba_L15 : Q60 → Option ((Bool × Unit) ⊕ (Q36 ⊕ Empty)) := loopFix Zba_B15
def Zba_A15 : Ann := { head := Zba_H15, exits := Zba_E15, fn := Zba_L15 }
def Zba_H12 : Shape := { env := [(1, .av (.ptr 1 0)), (5, .av (.own 5)), (6, .av (.val I)), (80, .av (.val yQ5)), (81, .av (.val I)), (82, .av (.val I))], objs := [(1, .box [.val I, .val (.slice yQ2), .val yQ5]), (5, .arr .bool)] }
def Zba_E12 : List (Ex × Shape) := [(.ret, { env := [(2, .av (.val .bool))], objs := [] }), (.exit 2, { env := [(5, .av (.own 5)), (6, .av (.val I))], objs := [(5, .arr .bool)] })]
def Zba_B12 (x : Q36) : Option (Q36 ⊕ ((Bool × Unit) ⊕ ((List Bool × Int × Unit) ⊕ Empty))) :=
 let (a,b,c,d,e,f,g,h,_) := x; cond (ltI h g) ((getI f h).bind fun y1 => (Zba_L15 (a,b,c,d,e,h,f,g,h,y1,(y1.length : Nat),0,())).bind (Sum.elim (fun z3 => some (.inr (.inl (z3.1,())))) (Sum.elim (fun (a_4,b_4,c_4,d_4,e_4,f_4,g_4,h_4,_) => some (.inl (a_4,b_4,c_4,d_4,e_4,f_4,g_4,(addI .i64 h_4 1),()))) (fun _ => none)))) (some (.inr (.inr (.inl (d,e,())))))
def Zba_L12 : Q36 → Option ((Bool × Unit) ⊕ ((List Bool × Int × Unit) ⊕ Empty)) := loopFix Zba_B12
def Zba_A12 : Ann := { head := Zba_H12, exits := Zba_E12, fn := Zba_L12 }
def Zba_H4 : Shape := { env := [(1, .av (.ptr 1 0)), (38, .av (.val (.slice yQ2))), (39, .av (.val I)), (40, .av (.val I))], objs := [(1, .box [.val I, .val (.slice yQ2), .val yQ5])] }
def Zba_E4 : List (Ex × Shape) := [(.ret, { env := [(2, .av (.val .bool))], objs := [] }), (.exit 0, { env := [(1, .av (.ptr 1 0))], objs := [(1, .box [.val I, .val (.slice yQ2), .val yQ5])] })]
def Zba_B4 (x : Q21) : Option (Q21 ⊕ ((Bool × Unit) ⊕ (Q9 ⊕ Empty))) :=
 let (a,b,c,d,e,f,_) := x; cond (ltI f e) ((getI d f).bind fun y1 => cond (ltI y1.1 0) (some (.inr (.inl (false,())))) (cond (geI y1.1 a) (some (.inr (.inl (false,())))) (cond (ltI y1.2.1 0) (some (.inr (.inl (false,())))) (cond (geI y1.2.1 a) (some (.inr (.inl (false,())))) (cond (eqI y1.1 y1.2.1) (some (.inr (.inl (false,())))) (some (.inl (a,b,c,d,e,(addI .i64 f 1),())))))))) (some (.inr (.inr (.inl (a,b,c,())))))
def Zba_L4 : Q21 → Option ((Bool × Unit) ⊕ (Q9 ⊕ Empty)) := loopFix Zba_B4
def Zba_A4 : Ann := { head := Zba_H4, exits := Zba_E4, fn := Zba_L4 }
def Zba_As : Anns := [(4, Zba_A4), (12, Zba_A12), (15, Zba_A15)]
def Zba (x : (Q9 × Unit)) : Option (Bool × Unit) :=
 let ((a,b,c,_),_) := x; cond (ltI a 0) (some (false,())) ((getI [16384,32768] 0).bind fun y1 => cond (gtI a y1) (some (false,())) ((getI [16384,32768] 1).bind fun y2 => cond (gtI (b.length : Nat) y2) (some (false,())) (cond (neI (c.length : Nat) a) (some (false,())) ((Zba_L4 (a,b,c,b,(b.length : Nat),0,())).bind (Sum.elim (fun z4 => some (z4.1,())) (Sum.elim (fun (a_5,b_5,c_5,_) => (makeL .bool (mulI .i64 2 (b_5.length : Nat)) (mulI .i64 2 (b_5.length : Nat))).bind fun m6 => (Zba_L12 (a_5,b_5,c_5,m6,0,c_5,(c_5.length : Nat),0,())).bind (Sum.elim (fun z8 => some (z8.1,())) (Sum.elim (fun z9 => some ((eqI z9.2.1 (z9.1.length : Nat)),())) (fun _ => none)))) (fun _ => none)))))))
def Zba_c : Con := { ins := [(.rd, yQ8)], outs := [(true, .bool)], fn := Zba }
def Zba_C : Ctx := { tab := tab, con := fun | 51, _ => some Zbe_c | _, _ => none, glob := glob, eqs := eqs, maps := maps }
theorem Zba_R15 (x : Zba_H15.ty.den) : round Zba_C Zba_As Zba_A15 (loopBody 15 (bodyOf Tryd.f50)) x = Zba_B15 x := by kernel_rfl
theorem Zba_R12 (x : Zba_H12.ty.den) : round Zba_C Zba_As Zba_A12 (loopBody 12 (bodyOf Tryd.f50)) x = Zba_B12 x := by kernel_rfl
theorem Zba_R4 (x : Zba_H4.ty.den) : round Zba_C Zba_As Zba_A4 (loopBody 4 (bodyOf Tryd.f50)) x = Zba_B4 x := by kernel_rfl
theorem Zba_eq (x : (tupTy [yQ8]).den) : callFn Zba_C Zba_As (bodyOf Tryd.f50) [(.rd, yQ8)] [(.tmp 2, true, .bool)] x = Zba x := by kernel_rfl
def Zbm_As : Anns := []
def Zbm (x : (Q9 × Int × Unit)) : Option (Int × Unit) :=
 let ((a,b,c,_),d,_) := x; (Zba ((a,b,c,()),())).bind fun r1 => cond (!r1.1) (some ((-1),())) (cond (ltI d 0) (some ((-1),())) (cond (geI d (mulI .i64 2 (b.length : Nat))) (some ((-1),())) ((getI b (quoI .i64 d 2)).bind fun y2 => (Zbe (y2,(remI d 2),())).bind fun r3 => some (r3.1,()))))
def Zbm_c : Con := { ins := [(.rd, yQ8), (.rd, I)], outs := [(true, I)], fn := Zbm }
def Zbm_C : Ctx := { tab := tab, con := fun | 50, _ => some Zba_c | 51, _ => some Zbe_c | _, _ => none, glob := glob, eqs := eqs, maps := maps }
theorem Zbm_eq (x : (tupTy [yQ8, I]).den) : callFn Zbm_C Zbm_As (bodyOf Tryd.f31) [(.rd, yQ8), (.rd, I)] [(.tmp 4, true, I)] x = Zbm x := by kernel_rfl
def Zax_H11 : Shape := { env := [(1, .av (.ptr 1 0)), (3, .av (.own 3)), (4, .av (.own 4)), (5, .av (.val I)), (39, .av (.val (.slice I))), (40, .av (.val I)), (41, .av (.val I))], objs := [(1, .box [.val I, .val (.slice yQ2), .val yQ5]), (3, .arr .bool), (4, .arr I)] }
def Zax_E11 : List (Ex × Shape) := [(.exit 2, { env := [(1, .av (.ptr 1 0)), (3, .av (.own 3)), (4, .av (.own 4)), (5, .av (.val I))], objs := [(1, .box [.val I, .val (.slice yQ2), .val yQ5]), (3, .arr .bool), (4, .arr I)] })]
def Zax_B11 (x : Q38) : Option (Q38 ⊕ (Q23 ⊕ Empty)) :=
 let (a,b,c,d,e,f,g,h,i,_) := x; cond (ltI i h) ((getI g i).bind fun y1 => (Zbm ((a,b,c,()),(xorI .i64 y1 1),())).bind fun r2 => (idxI d.length r2.1).bind fun j3 => (d[j3]?).bind fun y4 => cond (!y4) ((idxI d.length r2.1).bind fun j5 => (d[j5]?).bind fun y6 => (app e [r2.1]).bind fun a7 => some (.inl (a,b,c,(d.set j5 true),a7,f,g,h,(addI .i64 i 1),()))) (some (.inl (a,b,c,d,e,f,g,h,(addI .i64 i 1),())))) (some (.inr (.inl (a,b,c,d,e,f,()))))
def Zax_L11 : Q38 → Option (Q23 ⊕ Empty) := loopFix Zax_B11
def Zax_A11 : Ann := { head := Zax_H11, exits := Zax_E11, fn := Zax_L11 }
def Zax_H6 : Shape := { env := [(1, .av (.ptr 1 0)), (3, .av (.own 3)), (4, .av (.own 4)), (5, .av (.val I))], objs := [(1, .box [.val I, .val (.slice yQ2), .val yQ5]), (3, .arr .bool), (4, .arr I)] }
def Zax_E6 : List (Ex × Shape) := [(.exit 0, { env := [(1, .av (.ptr 1 0)), (5, .av (.val I))], objs := [(1, .box [.val I, .val (.slice yQ2), .val yQ5])] })]
def Zax_B6 (x : Q23) : Option (Q23 ⊕ (Q12 ⊕ Empty)) :=
 let (a,b,c,d,e,f,_) := x; cond (gtI (e.length : Nat) 0) ((idxI e.length (subI .i64 (e.length : Nat) 1)).bind fun j1 => (e[j1]?).bind fun y2 => (viewB e.length 0 (subI .i64 (e.length : Nat) 1)).bind fun v3 => (getI c y2).bind fun y4 => (Zax_L11 (a,b,c,d,((e.drop v3.1).take v3.2),(addI .i64 f 1),y4,(y4.length : Nat),0,())).bind (Sum.elim (fun (a_6,b_6,c_6,d_6,e_6,f_6,_) => some (.inl (a_6,b_6,c_6,d_6,e_6,f_6,()))) (fun _ => none))) (some (.inr (.inl (a,b,c,f,()))))
def Zax_L6 : Q23 → Option (Q12 ⊕ Empty) := loopFix Zax_B6
def Zax_A6 : Ann := { head := Zax_H6, exits := Zax_E6, fn := Zax_L6 }
def Zax_As : Anns := [(6, Zax_A6), (11, Zax_A11)]
def Zax (x : (Q9 × Unit)) : Option (Bool × Unit) :=
 let ((a,b,c,_),_) := x; cond (eqI a 0) (some (false,())) ((makeL .bool a a).bind fun m1 => (idxI m1.length 0).bind fun j2 => (m1[j2]?).bind fun y3 => (Zax_L6 (a,b,c,(m1.set j2 true),[0],0,())).bind (Sum.elim (fun z5 => some ((eqI z5.2.2.2.1 z5.1),())) (fun _ => none)))
def Zax_c : Con := { ins := [(.rd, yQ8)], outs := [(true, .bool)], fn := Zax }
def Zax_C : Ctx := { tab := tab, con := fun | 31, _ => some Zbm_c | _, _ => none, glob := glob, eqs := eqs, maps := maps }
theorem Zax_R11 (x : Zax_H11.ty.den) : round Zax_C Zax_As Zax_A11 (loopBody 11 (bodyOf Tryd.f74)) x = Zax_B11 x := by kernel_rfl
theorem Zax_R6 (x : Zax_H6.ty.den) : round Zax_C Zax_As Zax_A6 (loopBody 6 (bodyOf Tryd.f74)) x = Zax_B6 x := by kernel_rfl
theorem Zax_eq (x : (tupTy [yQ8]).den) : callFn Zax_C Zax_As (bodyOf Tryd.f74) [(.rd, yQ8)] [(.tmp 2, true, .bool)] x = Zax x := by kernel_rfl
def Zaw_H6 : Shape := { env := [(3, .av (.own 3)), (5, .av (.val (.slice I))), (14, .av (.val yQ5)), (15, .av (.val I)), (16, .av (.val I)), (20, .av (.val (.slice I))), (21, .av (.val I)), (22, .av (.val I))], objs := [(3, .arr I)] }
def Zaw_E6 : List (Ex × Shape) := [(.exit 2, { env := [(3, .av (.own 3)), (14, .av (.val yQ5)), (15, .av (.val I)), (16, .av (.val I))], objs := [(3, .arr I)] })]
def Zaw_B6 (x : Q29) : Option (Q29 ⊕ (Q11 ⊕ Empty)) :=
 let (a,b,c,d,e,f,g,h,_) := x; cond (ltI h g) ((getI f h).bind fun y1 => cond (eqI (b.length : Nat) 0) none ((getI b (remI (addI .i64 h 1) (b.length : Nat))).bind fun y2 => (idxI a.length (xorI .i64 y1 1)).bind fun j3 => (a[j3]?).bind fun y4 => some (.inl ((a.set j3 y2),b,c,d,e,f,g,(addI .i64 h 1),())))) (some (.inr (.inl (a,c,d,e,()))))
def Zaw_L6 : Q29 → Option (Q11 ⊕ Empty) := loopFix Zaw_B6
def Zaw_A6 : Ann := { head := Zaw_H6, exits := Zaw_E6, fn := Zaw_L6 }
def Zaw_H3 : Shape := { env := [(3, .av (.own 3)), (14, .av (.val yQ5)), (15, .av (.val I)), (16, .av (.val I))], objs := [(3, .arr I)] }
def Zaw_E3 : List (Ex × Shape) := [(.exit 0, { env := [(3, .av (.own 3))], objs := [(3, .arr I)] })]
def Zaw_B3 (x : Q11) : Option (Q11 ⊕ (Q1 ⊕ Empty)) :=
 let (a,b,c,d,_) := x; cond (ltI d c) ((getI b d).bind fun y1 => (Zaw_L6 (a,y1,b,c,d,y1,(y1.length : Nat),0,())).bind (Sum.elim (fun z3 => some (.inl (z3.1,z3.2.1,z3.2.2.1,(addI .i64 z3.2.2.2.1 1),()))) (fun _ => none))) (some (.inr (.inl (a,()))))
def Zaw_L3 : Q11 → Option (Q1 ⊕ Empty) := loopFix Zaw_B3
def Zaw_A3 : Ann := { head := Zaw_H3, exits := Zaw_E3, fn := Zaw_L3 }
def Zaw_As : Anns := [(3, Zaw_A3), (6, Zaw_A6)]
def Zaw (x : (Q9 × Unit)) : Option Q1 :=
 let ((_,a,b,_),_) := x; (makeL I (mulI .i64 2 (a.length : Nat)) (mulI .i64 2 (a.length : Nat))).bind fun m1 => (Zaw_L3 (m1,b,(b.length : Nat),0,())).bind (Sum.elim (fun z3 => some (z3.1,())) (fun _ => none))
def Zaw_c : Con := { ins := [(.rd, yQ8)], outs := [(true, (.slice I))], fn := Zaw }
def Zaw_C : Ctx := { tab := tab, con := fun _ _ => none, glob := glob, eqs := eqs, maps := maps }
theorem Zaw_R6 (x : Zaw_H6.ty.den) : round Zaw_C Zaw_As Zaw_A6 (loopBody 6 (bodyOf Tryd.f65)) x = Zaw_B6 x := by kernel_rfl
theorem Zaw_R3 (x : Zaw_H3.ty.den) : round Zaw_C Zaw_As Zaw_A3 (loopBody 3 (bodyOf Tryd.f65)) x = Zaw_B3 x := by kernel_rfl
theorem Zaw_eq (x : (tupTy [yQ8]).den) : callFn Zaw_C Zaw_As (bodyOf Tryd.f65) [(.rd, yQ8)] [(.tmp 2, true, (.slice I))] x = Zaw x := by kernel_rfl
def Zbc_H11 : Shape := { env := [(3, .av (.own 3)), (4, .av (.own 4)), (5, .av (.own 5)), (7, .av (.own 7)), (8, .av (.val I)), (18, .av (.val I)), (19, .av (.val I))], objs := [(3, .arr I), (4, .arr .bool), (5, .arr (.slice I)), (7, .arr I)] }
def Zbc_E11 : List (Ex × Shape) := [(.exit 2, { env := [(3, .av (.own 3)), (4, .av (.own 4)), (5, .av (.own 5)), (7, .av (.own 7)), (18, .av (.val I)), (19, .av (.val I))], objs := [(3, .arr I), (4, .arr .bool), (5, .arr (.slice I)), (7, .arr I)] })]
def Zbc_B11 (x : Q25) : Option (Q25 ⊕ ((List Int × List Bool × (List (List Int)) × List Int × Int × Int × Unit) ⊕ Empty)) :=
 let (a,b,c,d,e,f,g,_) := x; (idxI b.length e).bind fun j1 => (b[j1]?).bind fun y2 => cond (!y2) ((idxI b.length e).bind fun j3 => (b[j3]?).bind fun y4 => (app d [e]).bind fun a5 => (idxI a.length e).bind fun j6 => (a[j6]?).bind fun y7 => some (.inl (a,(b.set j3 true),c,a5,y7,f,g,()))) (some (.inr (.inl (a,b,c,d,f,g,()))))
def Zbc_L11 : Q25 → Option ((List Int × List Bool × (List (List Int)) × List Int × Int × Int × Unit) ⊕ Empty) := loopFix Zbc_B11
def Zbc_A11 : Ann := { head := Zbc_H11, exits := Zbc_E11, fn := Zbc_L11 }
def Zbc_H7 : Shape := { env := [(3, .av (.own 3)), (4, .av (.own 4)), (5, .av (.own 5)), (18, .av (.val I)), (19, .av (.val I))], objs := [(3, .arr I), (4, .arr .bool), (5, .arr (.slice I))] }
def Zbc_E7 : List (Ex × Shape) := [(.exit 0, { env := [(5, .av (.own 5))], objs := [(5, .arr (.slice I))] })]
def Zbc_B7 (x : Q18) : Option (Q18 ⊕ (Q6 ⊕ Empty)) :=
 let (a,b,c,d,e,_) := x; cond (ltI e d) ((Zbc_L11 (a,b,c,[],e,d,e,())).bind (Sum.elim (fun (a_2,b_2,c_2,d_2,e_2,f_2,_) => cond (gtI (d_2.length : Nat) 0) ((app c_2 [d_2]).bind fun a3 => some (.inl (a_2,b_2,a3,e_2,(addI .i64 f_2 1),()))) (some (.inl (a_2,b_2,c_2,e_2,(addI .i64 f_2 1),())))) (fun _ => none))) (some (.inr (.inl (c,()))))
def Zbc_L7 : Q18 → Option (Q6 ⊕ Empty) := loopFix Zbc_B7
def Zbc_A7 : Ann := { head := Zbc_H7, exits := Zbc_E7, fn := Zbc_L7 }
def Zbc_As : Anns := [(7, Zbc_A7), (11, Zbc_A11)]
def Zbc (x : (Q9 × Unit)) : Option Q6 :=
 let ((a,b,c,_),_) := x; (Zba ((a,b,c,()),())).bind fun r1 => cond (!r1.1) (some ([],())) ((Zaw ((a,b,c,()),())).bind fun r2 => (makeL .bool (r2.1.length : Nat) (r2.1.length : Nat)).bind fun m3 => (Zbc_L7 (r2.1,m3,[],(r2.1.length : Nat),0,())).bind (Sum.elim (fun z5 => some (z5.1,())) (fun _ => none)))
def Zbc_c : Con := { ins := [(.rd, yQ8)], outs := [(true, yQ5)], fn := Zbc }
def Zbc_C : Ctx := { tab := tab, con := fun | 50, _ => some Zba_c | 65, _ => some Zaw_c | _, _ => none, glob := glob, eqs := eqs, maps := maps }
theorem Zbc_R11 (x : Zbc_H11.ty.den) : round Zbc_C Zbc_As Zbc_A11 (loopBody 11 (bodyOf Tryd.f48)) x = Zbc_B11 x := by kernel_rfl
theorem Zbc_R7 (x : Zbc_H7.ty.den) : round Zbc_C Zbc_As Zbc_A7 (loopBody 7 (bodyOf Tryd.f48)) x = Zbc_B7 x := by kernel_rfl
theorem Zbc_eq (x : (tupTy [yQ8]).den) : callFn Zbc_C Zbc_As (bodyOf Tryd.f48) [(.rd, yQ8)] [(.tmp 2, true, yQ5)] x = Zbc x := by kernel_rfl
def Zi_H13 : Shape := { env := [(1, .av (.ptr 1 0)), (3, .av (.own 3)), (4, .av (.val I)), (6, .av (.own 6)), (14, .av (.val I)), (15, .av (.val I)), (40, .av (.val (.slice I))), (41, .av (.val I)), (42, .av (.val I))], objs := [(1, .box [.val I, .val (.slice yQ2), .val yQ5]), (3, .arr .bool), (6, .arr I)] }
def Zi_E13 : List (Ex × Shape) := [(.exit 4, { env := [(1, .av (.ptr 1 0)), (3, .av (.own 3)), (4, .av (.val I)), (6, .av (.own 6)), (14, .av (.val I)), (15, .av (.val I))], objs := [(1, .box [.val I, .val (.slice yQ2), .val yQ5]), (3, .arr .bool), (6, .arr I)] })]
def Zi_B13 (x : Q51) : Option (Q51 ⊕ (Q31 ⊕ Empty)) :=
 let (a,b,c,d,e,f,g,h,i,k,l,_) := x; cond (ltI l k) ((getI i l).bind fun y1 => (getI b (quoI .i64 y1 2)).bind fun y2 => (Zbe (y2,(xorI .i64 (remI y1 2) 1),())).bind fun r3 => (idxI d.length r3.1).bind fun j4 => (d[j4]?).bind fun y5 => cond (!y5) ((idxI d.length r3.1).bind fun j6 => (d[j6]?).bind fun y7 => (app e [r3.1]).bind fun a8 => some (.inl (a,b,c,(d.set j6 true),a8,f,g,h,i,k,(addI .i64 l 1),()))) (some (.inl (a,b,c,d,e,f,g,h,i,k,(addI .i64 l 1),())))) (some (.inr (.inl (a,b,c,d,e,f,g,h,()))))
def Zi_L13 : Q51 → Option (Q31 ⊕ Empty) := loopFix Zi_B13
def Zi_A13 : Ann := { head := Zi_H13, exits := Zi_E13, fn := Zi_L13 }
def Zi_H10 : Shape := { env := [(1, .av (.ptr 1 0)), (3, .av (.own 3)), (4, .av (.val I)), (6, .av (.own 6)), (14, .av (.val I)), (15, .av (.val I))], objs := [(1, .box [.val I, .val (.slice yQ2), .val yQ5]), (3, .arr .bool), (6, .arr I)] }
def Zi_E10 : List (Ex × Shape) := [(.exit 2, { env := [(1, .av (.ptr 1 0)), (3, .av (.own 3)), (4, .av (.val I)), (14, .av (.val I)), (15, .av (.val I))], objs := [(1, .box [.val I, .val (.slice yQ2), .val yQ5]), (3, .arr .bool)] })]
def Zi_B10 (x : Q31) : Option (Q31 ⊕ (Q24 ⊕ Empty)) :=
 let (a,b,c,d,e,f,g,h,_) := x; cond (gtI (e.length : Nat) 0) ((idxI e.length 0).bind fun j1 => (e[j1]?).bind fun y2 => (getI c y2).bind fun y3 => (Zi_L13 (a,b,c,d,e,f,g,h,y3,(y3.length : Nat),0,())).bind (Sum.elim (fun (a_5,b_5,c_5,d_5,e_5,f_5,g_5,h_5,_) => (viewB e_5.length 1 (e_5.length : Nat)).bind fun v6 => some (.inl (a_5,b_5,c_5,d_5,((e_5.drop v6.1).take v6.2),f_5,g_5,h_5,()))) (fun _ => none))) (some (.inr (.inl (a,b,c,d,f,g,h,()))))
def Zi_L10 : Q31 → Option (Q24 ⊕ Empty) := loopFix Zi_B10
def Zi_A10 : Ann := { head := Zi_H10, exits := Zi_E10, fn := Zi_L10 }
def Zi_H4 : Shape := { env := [(1, .av (.ptr 1 0)), (3, .av (.own 3)), (4, .av (.val I)), (14, .av (.val I)), (15, .av (.val I))], objs := [(1, .box [.val I, .val (.slice yQ2), .val yQ5]), (3, .arr .bool)] }
def Zi_E4 : List (Ex × Shape) := [(.exit 0, { env := [(4, .av (.val I))], objs := [] })]
def Zi_B4 (x : Q24) : Option (Q24 ⊕ ((Int × Unit) ⊕ Empty)) :=
 let (a,b,c,d,e,f,g,_) := x; cond (ltI g f) ((idxI d.length g).bind fun j1 => (d[j1]?).bind fun y2 => cond y2 (some (.inl (a,b,c,d,e,f,(addI .i64 g 1),()))) ((idxI d.length g).bind fun j3 => (d[j3]?).bind fun y4 => (Zi_L10 (a,b,c,(d.set j3 true),[g],(addI .i64 e 1),f,g,())).bind (Sum.elim (fun (a_6,b_6,c_6,d_6,e_6,f_6,g_6,_) => some (.inl (a_6,b_6,c_6,d_6,e_6,f_6,(addI .i64 g_6 1),()))) (fun _ => none)))) (some (.inr (.inl (e,()))))
def Zi_L4 : Q24 → Option ((Int × Unit) ⊕ Empty) := loopFix Zi_B4
def Zi_A4 : Ann := { head := Zi_H4, exits := Zi_E4, fn := Zi_L4 }
def Zi_As : Anns := [(4, Zi_A4), (10, Zi_A10), (13, Zi_A13)]
def Zi (x : (Q9 × Unit)) : Option (Int × Unit) :=
 let ((a,b,c,_),_) := x; (makeL .bool a a).bind fun m1 => (Zi_L4 (a,b,c,m1,0,a,0,())).bind (Sum.elim (fun z3 => some (z3.1,())) (fun _ => none))
def Zi_c : Con := { ins := [(.rd, yQ8)], outs := [(true, I)], fn := Zi }
def Zi_C : Ctx := { tab := tab, con := fun | 51, _ => some Zbe_c | _, _ => none, glob := glob, eqs := eqs, maps := maps }
theorem Zi_R13 (x : Zi_H13.ty.den) : round Zi_C Zi_As Zi_A13 (loopBody 13 (bodyOf Tryd.f84)) x = Zi_B13 x := by kernel_rfl
theorem Zi_R10 (x : Zi_H10.ty.den) : round Zi_C Zi_As Zi_A10 (loopBody 10 (bodyOf Tryd.f84)) x = Zi_B10 x := by kernel_rfl
theorem Zi_R4 (x : Zi_H4.ty.den) : round Zi_C Zi_As Zi_A4 (loopBody 4 (bodyOf Tryd.f84)) x = Zi_B4 x := by kernel_rfl
theorem Zi_eq (x : (tupTy [yQ8]).den) : callFn Zi_C Zi_As (bodyOf Tryd.f84) [(.rd, yQ8)] [(.tmp 2, true, I)] x = Zi x := by kernel_rfl
def Zbd_H5 : Shape := { env := [(1, .av (.ptr 1 0)), (3, .av (.val I)), (13, .av (.val yQ5)), (14, .av (.val I)), (15, .av (.val I))], objs := [(1, .box [.val I, .val (.slice yQ2), .val yQ5])] }
def Zbd_E5 : List (Ex × Shape) := [(.exit 0, { env := [(1, .av (.ptr 1 0)), (3, .av (.val I))], objs := [(1, .box [.val I, .val (.slice yQ2), .val yQ5])] })]
def Zbd_B5 (x : Q28) : Option (Q28 ⊕ (Q12 ⊕ Empty)) :=
 let (a,b,c,d,e,f,g,_) := x; cond (ltI g f) ((getI e g).bind fun y1 => cond (eqI (y1.length : Nat) 0) (some (.inl (a,b,c,(addI .i64 d 1),e,f,(addI .i64 g 1),()))) (some (.inl (a,b,c,d,e,f,(addI .i64 g 1),())))) (some (.inr (.inl (a,b,c,d,()))))
def Zbd_L5 : Q28 → Option (Q12 ⊕ Empty) := loopFix Zbd_B5
def Zbd_A5 : Ann := { head := Zbd_H5, exits := Zbd_E5, fn := Zbd_L5 }
def Zbd_As : Anns := [(5, Zbd_A5)]
def Zbd (x : (Q9 × Unit)) : Option (Int × Unit) :=
 let ((a,b,c,_),_) := x; (Zba ((a,b,c,()),())).bind fun r1 => cond (!r1.1) (some ((-1),())) ((Zbc ((a,b,c,()),())).bind fun r2 => (Zbd_L5 (a,b,c,(r2.1.length : Nat),c,(c.length : Nat),0,())).bind (Sum.elim (fun z4 => (Zi ((z4.1,z4.2.1,z4.2.2.1,()),())).bind fun r5 => some ((subI .i64 r5.1 (quoI .i64 (addI .i64 (subI .i64 z4.1 (z4.2.1.length : Nat)) z4.2.2.2.1) 2)),())) (fun _ => none)))
def Zbd_c : Con := { ins := [(.rd, yQ8)], outs := [(true, I)], fn := Zbd }
def Zbd_C : Ctx := { tab := tab, con := fun | 48, _ => some Zbc_c | 50, _ => some Zba_c | 84, _ => some Zi_c | _, _ => none, glob := glob, eqs := eqs, maps := maps }
theorem Zbd_R5 (x : Zbd_H5.ty.den) : round Zbd_C Zbd_As Zbd_A5 (loopBody 5 (bodyOf Tryd.f75)) x = Zbd_B5 x := by kernel_rfl
theorem Zbd_eq (x : (tupTy [yQ8]).den) : callFn Zbd_C Zbd_As (bodyOf Tryd.f75) [(.rd, yQ8)] [(.tmp 2, true, I)] x = Zbd x := by kernel_rfl
def Zbp_H6 : Shape := { env := [(1, .av (.ptr 1 0)), (4, .av (.val (.slice I))), (5, .av (.val I)), (10, .av (.val yQ5)), (11, .av (.val I)), (12, .av (.val I)), (16, .av (.val (.slice I))), (17, .av (.val I)), (18, .av (.val I))], objs := [(1, .box [.val I, .val (.slice yQ2), .val yQ5, .val (.slice I), .val (.slice .str), .val I])] }
def Zbp_E6 : List (Ex × Shape) := [(.ret, { env := [(2, .av (.val .bool))], objs := [] }), (.exit 2, { env := [(1, .av (.ptr 1 0)), (4, .av (.val (.slice I))), (5, .av (.val I)), (10, .av (.val yQ5)), (11, .av (.val I)), (12, .av (.val I))], objs := [(1, .box [.val I, .val (.slice yQ2), .val yQ5, .val (.slice I), .val (.slice .str), .val I])] })]
def Zbp_B6 (x : Q68) : Option (Q68 ⊕ ((Bool × Unit) ⊕ (Q61 ⊕ Empty))) :=
 let (a,b,c,d,e,f,g,h,i,k,l,m,n,o,_) := x; cond (ltI o n) ((getI m o).bind fun y1 => (getI d y1).bind fun y2 => cond (ltI y2 1) (some (.inr (.inl (false,())))) ((getI d y1).bind fun y3 => cond (gtI y3 4) (some (.inr (.inl (false,())))) ((getI d y1).bind fun y4 => some (.inl (a,b,c,d,e,f,g,(addI .i64 h y4),i,k,l,m,n,(addI .i64 o 1),()))))) (some (.inr (.inr (.inl (a,b,c,d,e,f,g,h,i,k,l,())))))
def Zbp_L6 : Q68 → Option ((Bool × Unit) ⊕ (Q61 ⊕ Empty)) := loopFix Zbp_B6
def Zbp_A6 : Ann := { head := Zbp_H6, exits := Zbp_E6, fn := Zbp_L6 }
def Zbp_H2 : Shape := { env := [(1, .av (.ptr 1 0)), (10, .av (.val yQ5)), (11, .av (.val I)), (12, .av (.val I))], objs := [(1, .box [.val I, .val (.slice yQ2), .val yQ5, .val (.slice I), .val (.slice .str), .val I])] }
def Zbp_E2 : List (Ex × Shape) := [(.ret, { env := [(2, .av (.val .bool))], objs := [] }), (.exit 0, { env := [], objs := [] })]
def Zbp_B2 (x : Q52) : Option (Q52 ⊕ ((Bool × Unit) ⊕ (Unit ⊕ Empty))) :=
 let (a,b,c,d,e,f,g,h,i,_) := x; cond (ltI i h) ((getI g i).bind fun y1 => (Zbp_L6 (a,b,c,d,e,f,y1,0,g,h,i,y1,(y1.length : Nat),0,())).bind (Sum.elim (fun z3 => some (.inr (.inl (z3.1,())))) (Sum.elim (fun (a_4,b_4,c_4,d_4,e_4,f_4,g_4,h_4,i_4,k_4,l_4,_) => cond (gtI (g_4.length : Nat) 0) (cond (neI h_4 4) (some (.inr (.inl (false,())))) (some (.inl (a_4,b_4,c_4,d_4,e_4,f_4,i_4,k_4,(addI .i64 l_4 1),())))) (some (.inl (a_4,b_4,c_4,d_4,e_4,f_4,i_4,k_4,(addI .i64 l_4 1),())))) (fun _ => none)))) (some (.inr (.inr (.inl ()))))
def Zbp_L2 : Q52 → Option ((Bool × Unit) ⊕ (Unit ⊕ Empty)) := loopFix Zbp_B2
def Zbp_A2 : Ann := { head := Zbp_H2, exits := Zbp_E2, fn := Zbp_L2 }
def Zbp_As : Anns := [(2, Zbp_A2), (6, Zbp_A6)]
def Zbp (x : (Q10 × Unit)) : Option (Bool × Unit) :=
 let (((a,b,c,_),d,e,f,_),_) := x; (Zbp_L2 (a,b,c,d,e,f,c,(c.length : Nat),0,())).bind (Sum.elim (fun z2 => some (z2.1,())) (Sum.elim (fun z3 => some (true,())) (fun _ => none)))
def Zbp_c : Con := { ins := [(.rd, yQ11)], outs := [(true, .bool)], fn := Zbp }
def Zbp_C : Ctx := { tab := tab, con := fun _ _ => none, glob := glob, eqs := eqs, maps := maps }
theorem Zbp_R6 (x : Zbp_H6.ty.den) : round Zbp_C Zbp_As Zbp_A6 (loopBody 6 (bodyOf Tryd.f76)) x = Zbp_B6 x := by kernel_rfl
theorem Zbp_R2 (x : Zbp_H2.ty.den) : round Zbp_C Zbp_As Zbp_A2 (loopBody 2 (bodyOf Tryd.f76)) x = Zbp_B2 x := by kernel_rfl
theorem Zbp_eq (x : (tupTy [yQ11]).den) : callFn Zbp_C Zbp_As (bodyOf Tryd.f76) [(.rd, yQ11)] [(.tmp 2, true, .bool)] x = Zbp x := by kernel_rfl
def Zbk_As : Anns := []
def Zbk (x : (Int × Unit)) : Option (Int × Bool × Unit) :=
 cond (eqI x.1 76) (some (82,true,())) (cond (eqI x.1 82) (some (76,true,())) (some (x.1,false,())))
def Zbk_c : Con := { ins := [(.rd, (.int .u8))], outs := [(true, (.int .u8)), (true, .bool)], fn := Zbk }
def Zbk_C : Ctx := { tab := tab, con := fun _ _ => none, glob := glob, eqs := eqs, maps := maps }
theorem Zbk_eq (x : (tupTy [(.int .u8)]).den) : callFn Zbk_C Zbk_As (bodyOf Tryd.f85) [(.rd, (.int .u8))] [(.tmp 2, true, (.int .u8)), (.tmp 3, true, .bool)] x = Zbk x := by kernel_rfl
def Zbv_H4 : Shape := { env := [(11, .av (.own 11)), (12, .av (.val I)), (13, .av (.val I))], objs := [(11, .arr (.int .u8))] }
def Zbv_E4 : List (Ex × Shape) := [(.ret, { env := [(2, .av (.val .bool))], objs := [] }), (.exit 0, { env := [], objs := [] })]
def Zbv_B4 (x : Q7) : Option (Q7 ⊕ ((Bool × Unit) ⊕ (Unit ⊕ Empty))) :=
 let (a,b,c,_) := x; cond (ltI c b) ((idxI a.length c).bind fun j1 => (a[j1]?).bind fun y2 => (Zbk (y2,())).bind fun r3 => cond (!r3.2.1) (some (.inr (.inl (false,())))) (some (.inl (a,b,(addI .i64 c 1),())))) (some (.inr (.inr (.inl ()))))
def Zbv_L4 : Q7 → Option ((Bool × Unit) ⊕ (Unit ⊕ Empty)) := loopFix Zbv_B4
def Zbv_A4 : Ann := { head := Zbv_H4, exits := Zbv_E4, fn := Zbv_L4 }
def Zbv_As : Anns := [(4, Zbv_A4)]
def Zbv (x : Q4) : Option (Bool × Unit) :=
 cond (gtI (x.1.size : Nat) 64) (some (false,())) ((Zbv_L4 ((bytesOf x.1),((bytesOf x.1).length : Nat),0,())).bind (Sum.elim (fun z2 => some (z2.1,())) (Sum.elim (fun z3 => some (true,())) (fun _ => none))))
def Zbv_c : Con := { ins := [(.rd, .str)], outs := [(true, .bool)], fn := Zbv }
def Zbv_C : Ctx := { tab := tab, con := fun | 85, _ => some Zbk_c | _, _ => none, glob := glob, eqs := eqs, maps := maps }
theorem Zbv_R4 (x : Zbv_H4.ty.den) : round Zbv_C Zbv_As Zbv_A4 (loopBody 4 (bodyOf Tryd.f77)) x = Zbv_B4 x := by kernel_rfl
theorem Zbv_eq (x : (tupTy [.str]).den) : callFn Zbv_C Zbv_As (bodyOf Tryd.f77) [(.rd, .str)] [(.tmp 2, true, .bool)] x = Zbv x := by kernel_rfl
def Zj_H1 : Shape := { env := [(0, .av (.own 0)), (2, .av (.val I)), (3, .av (.val I))], objs := [(0, .arr (.int .u8))], pins := [0] }
def Zj_E1 : List (Ex × Shape) := [(.exit 0, { env := [(0, .av (.own 0))], objs := [(0, .arr (.int .u8))], pins := [0] })]
def Zj_B1 (x : Q7) : Option (Q7 ⊕ (Q1 ⊕ Empty)) :=
 let (a,b,c,_) := x; cond (ltI b c) ((idxI a.length c).bind fun j1 => (a[j1]?).bind fun y2 => (idxI a.length b).bind fun j3 => (a[j3]?).bind fun y4 => (idxI a.length b).bind fun j5 => (a[j5]?).bind fun y6 => (idxI (a.set j5 y2).length c).bind fun j7 => ((a.set j5 y2)[j7]?).bind fun y8 => some (.inl (((a.set j5 y2).set j7 y4),(addI .i64 b 1),(subI .i64 c 1),()))) (some (.inr (.inl (a,()))))
def Zj_L1 : Q7 → Option (Q1 ⊕ Empty) := loopFix Zj_B1
def Zj_A1 : Ann := { head := Zj_H1, exits := Zj_E1, fn := Zj_L1 }
def Zj_As : Anns := [(1, Zj_A1)]
def Zj (x : Q1) : Option Q1 :=
 (Zj_L1 (x.1,0,(subI .i64 (x.1.length : Nat) 1),())).bind (Sum.elim (fun z2 => some (z2.1,())) (fun _ => none))
def Zj_c : Con := { ins := [(.upd, (.slice (.int .u8)))], outs := [], fn := Zj }
def Zj_C : Ctx := { tab := tab, con := fun _ _ => none, glob := glob, eqs := eqs, maps := maps }
theorem Zj_R1 (x : Zj_H1.ty.den) : round Zj_C Zj_As Zj_A1 (loopBody 1 (bodyOf Tryd.f86)) x = Zj_B1 x := by kernel_rfl
theorem Zj_eq (x : (tupTy [(.slice (.int .u8))]).den) : callFn Zj_C Zj_As (bodyOf Tryd.f86) [(.upd, (.slice (.int .u8)))] [] x = Zj x := by kernel_rfl
def Zbf_H4 : Shape := { env := [(3, .av (.own 3)), (10, .av (.own 3)), (11, .av (.val I)), (12, .av (.val I))], objs := [(3, .arr (.int .u8))] }
def Zbf_E4 : List (Ex × Shape) := [(.exit 0, { env := [(3, .av (.own 3))], objs := [(3, .arr (.int .u8))] })]
def Zbf_B4 (x : Q7) : Option (Q7 ⊕ (Q1 ⊕ Empty)) :=
 let (a,b,c,_) := x; cond (ltI c b) ((idxI a.length c).bind fun j1 => (a[j1]?).bind fun y2 => (Zbk (y2,())).bind fun r3 => (idxI a.length c).bind fun j4 => (a[j4]?).bind fun y5 => some (.inl ((a.set j4 r3.1),b,(addI .i64 c 1),()))) (some (.inr (.inl (a,()))))
def Zbf_L4 : Q7 → Option (Q1 ⊕ Empty) := loopFix Zbf_B4
def Zbf_A4 : Ann := { head := Zbf_H4, exits := Zbf_E4, fn := Zbf_L4 }
def Zbf_As : Anns := [(4, Zbf_A4)]
def Zbf (x : Q4) : Option Q4 :=
 (Zj ((bytesOf x.1),())).bind fun r1 => (Zbf_L4 (r1.1,(r1.1.length : Nat),0,())).bind (Sum.elim (fun z3 => some ((ofBytes z3.1),())) (fun _ => none))
def Zbf_c : Con := { ins := [(.rd, .str)], outs := [(true, .str)], fn := Zbf }
def Zbf_C : Ctx := { tab := tab, con := fun | 85, _ => some Zbk_c | 86, _ => some Zj_c | _, _ => none, glob := glob, eqs := eqs, maps := maps }
theorem Zbf_R4 (x : Zbf_H4.ty.den) : round Zbf_C Zbf_As Zbf_A4 (loopBody 4 (bodyOf Tryd.f78)) x = Zbf_B4 x := by kernel_rfl
theorem Zbf_eq (x : (tupTy [.str]).den) : callFn Zbf_C Zbf_As (bodyOf Tryd.f78) [(.rd, .str)] [(.tmp 2, true, .str)] x = Zbf x := by kernel_rfl
def Zal_H2 : Shape := { env := [(0, .av (.val (.slice I))), (1, .av (.val I)), (7, .av (.val I)), (8, .av (.val I))], objs := [] }
def Zal_E2 : List (Ex × Shape) := [(.ret, { env := [(4, .av (.val I))], objs := [] }), (.exit 0, { env := [], objs := [] })]
def Zal_B2 (x : Q8) : Option (Q8 ⊕ ((Int × Unit) ⊕ (Unit ⊕ Empty))) :=
 let (a,b,c,d,_) := x; cond (ltI d c) ((getI a d).bind fun y1 => cond (eqI b y1) (some (.inr (.inl (d,())))) (some (.inl (a,b,c,(addI .i64 d 1),())))) (some (.inr (.inr (.inl ()))))
def Zal_L2 : Q8 → Option ((Int × Unit) ⊕ (Unit ⊕ Empty)) := loopFix Zal_B2
def Zal_A2 : Ann := { head := Zal_H2, exits := Zal_E2, fn := Zal_L2 }
def Zal_As : Anns := [(2, Zal_A2)]
def Zal (x : Q5) : Option (Int × Unit) :=
 (Zal_L2 (x.1,x.2.1,(x.1.length : Nat),0,())).bind (Sum.elim (fun z2 => some (z2.1,())) (Sum.elim (fun z3 => some ((-1),())) (fun _ => none)))
def Zal_c : Con := { ins := [(.rd, (.slice I)), (.rd, I)], outs := [(true, I)], fn := Zal }
def Zal_C : Ctx := { tab := tab, con := fun _ _ => none, glob := glob, eqs := eqs, maps := maps }
theorem Zal_R2 (x : Zal_H2.ty.den) : round Zal_C Zal_As Zal_A2 (loopBody 2 (bodyOf Tryd.f64)) x = Zal_B2 x := by kernel_rfl
theorem Zal_eq (x : (tupTy [(.slice I), I]).den) : callFn Zal_C Zal_As (bodyOf Tryd.f64) [(.rd, (.slice I)), (.rd, I)] [(.tmp 4, true, I)] x = Zal x := by kernel_rfl
def Zm_As : Anns := []
def Zm (x : Q5) : Option (Bool × Unit) :=
 (Zal (x.1,x.2.1,())).bind fun r1 => some ((geI r1.1 0),())
def Zm_c : Con := { ins := [(.rd, (.slice I)), (.rd, I)], outs := [(true, .bool)], fn := Zm }
def Zm_C : Ctx := { tab := tab, con := fun | 64, _ => some Zal_c | _, _ => none, glob := glob, eqs := eqs, maps := maps }
theorem Zm_eq (x : (tupTy [(.slice I), I]).den) : callFn Zm_C Zm_As (bodyOf Tryd.f79) [(.rd, (.slice I)), (.rd, I)] [(.tmp 4, true, .bool)] x = Zm x := by kernel_rfl
def Zbu_H3 : Shape := { env := [(5, .av (.val I)), (20, .av (.own 20)), (21, .av (.val I)), (22, .av (.val I))], objs := [(20, .arr (.int .u8))] }
def Zbu_E3 : List (Ex × Shape) := [(.exit 0, { env := [(5, .av (.val I))], objs := [] })]
def Zbu_B3 (x : Q8) : Option (Q8 ⊕ ((Int × Unit) ⊕ Empty)) :=
 let (a,b,c,d,_) := x; cond (ltI d c) ((idxI a.length d).bind fun j1 => (a[j1]?).bind fun y2 => cond (eqI y2 76) (some (.inl (a,(addI .i64 b 1),c,(addI .i64 d 1),()))) (some (.inl (a,(subI .i64 b 1),c,(addI .i64 d 1),())))) (some (.inr (.inl (b,()))))
def Zbu_L3 : Q8 → Option ((Int × Unit) ⊕ Empty) := loopFix Zbu_B3
def Zbu_A3 : Ann := { head := Zbu_H3, exits := Zbu_E3, fn := Zbu_L3 }
def Zbu_As : Anns := [(3, Zbu_A3)]
def Zbu (x : (Q10 × Int × Unit)) : Option (Int × Unit) :=
 (getI x.1.2.1 (xorI .i64 x.2.1 1)).bind fun y1 => (getI x.1.2.2.1 x.2.1).bind fun y2 => (Zbu_L3 ((bytesOf y2),(subI .i64 2 y1),((bytesOf y2).length : Nat),0,())).bind (Sum.elim (fun z4 => some (z4.1,())) (fun _ => none))
def Zbu_c : Con := { ins := [(.rd, yQ11), (.rd, I)], outs := [(true, I)], fn := Zbu }
def Zbu_C : Ctx := { tab := tab, con := fun _ _ => none, glob := glob, eqs := eqs, maps := maps }
theorem Zbu_R3 (x : Zbu_H3.ty.den) : round Zbu_C Zbu_As Zbu_A3 (loopBody 3 (bodyOf Tryd.f87)) x = Zbu_B3 x := by kernel_rfl
theorem Zbu_eq (x : (tupTy [yQ11, I]).den) : callFn Zbu_C Zbu_As (bodyOf Tryd.f87) [(.rd, yQ11), (.rd, I)] [(.tmp 4, true, I)] x = Zbu x := by kernel_rfl
def Zbr_H3 : Shape := { env := [(2, .av (.ptr 2 0)), (5, .av (.val I)), (8, .av (.val (.slice I))), (9, .av (.val I)), (10, .av (.val I))], objs := [(2, .box [.val I, .val (.slice yQ2), .val yQ5, .val (.slice I), .val (.slice .str), .val I])] }
def Zbr_E3 : List (Ex × Shape) := [(.exit 0, { env := [(5, .av (.val I))], objs := [] })]
def Zbr_B3 (x : Q49) : Option (Q49 ⊕ ((Int × Unit) ⊕ Empty)) :=
 let (a,b,c,d,e,f,g,h,i,k,_) := x; cond (ltI k i) ((getI h k).bind fun y1 => (Zbu (((a,b,c,()),d,e,f,()),y1,())).bind fun r2 => some (.inl (a,b,c,d,e,f,(addI .i64 g r2.1),h,i,(addI .i64 k 1),()))) (some (.inr (.inl (g,()))))
def Zbr_L3 : Q49 → Option ((Int × Unit) ⊕ Empty) := loopFix Zbr_B3
def Zbr_A3 : Ann := { head := Zbr_H3, exits := Zbr_E3, fn := Zbr_L3 }
def Zbr_As : Anns := [(3, Zbr_A3)]
def Zbr (x : (Q10 × List Int × Unit)) : Option (Int × Unit) :=
 let (((a,b,c,_),d,e,f,_),g,_) := x; (Zbr_L3 (a,b,c,d,e,f,0,g,(g.length : Nat),0,())).bind (Sum.elim (fun z2 => some (z2.1,())) (fun _ => none))
def Zbr_c : Con := { ins := [(.rd, yQ11), (.rd, (.slice I))], outs := [(true, I)], fn := Zbr }
def Zbr_C : Ctx := { tab := tab, con := fun | 87, _ => some Zbu_c | _, _ => none, glob := glob, eqs := eqs, maps := maps }
theorem Zbr_R3 (x : Zbr_H3.ty.den) : round Zbr_C Zbr_As Zbr_A3 (loopBody 3 (bodyOf Tryd.f80)) x = Zbr_B3 x := by kernel_rfl
theorem Zbr_eq (x : (tupTy [yQ11, (.slice I)]).den) : callFn Zbr_C Zbr_As (bodyOf Tryd.f80) [(.rd, yQ11), (.rd, (.slice I))] [(.tmp 4, true, I)] x = Zbr x := by kernel_rfl
def Zbt_H13 : Shape := { env := [(1, .av (.ptr 1 0)), (85, .av (.own 85)), (86, .av (.val I)), (87, .av (.val I))], objs := [(1, .box [.val I, .val (.slice yQ2), .val yQ5, .val (.slice I), .val (.slice .str), .val I]), (85, .arr (.slice I))] }
def Zbt_E13 : List (Ex × Shape) := [(.ret, { env := [(2, .av (.val .bool))], objs := [] }), (.exit 2, { env := [], objs := [] })]
def Zbt_B13 (x : Q52) : Option (Q52 ⊕ ((Bool × Unit) ⊕ (Unit ⊕ Empty))) :=
 let (a,b,c,d,e,f,g,h,i,_) := x; cond (ltI i h) ((idxI g.length i).bind fun j1 => (g[j1]?).bind fun y2 => (Zm (y2,f,())).bind fun r3 => cond r3.1 ((Zbr (((a,b,c,()),d,e,f,()),y2,())).bind fun r4 => cond (neI r4.1 (-4)) (some (.inr (.inl (false,())))) (some (.inl (a,b,c,d,e,f,g,h,(addI .i64 i 1),())))) ((Zbr (((a,b,c,()),d,e,f,()),y2,())).bind fun r5 => cond (neI r5.1 4) (some (.inr (.inl (false,())))) (some (.inl (a,b,c,d,e,f,g,h,(addI .i64 i 1),()))))) (some (.inr (.inr (.inl ()))))
def Zbt_L13 : Q52 → Option ((Bool × Unit) ⊕ (Unit ⊕ Empty)) := loopFix Zbt_B13
def Zbt_A13 : Ann := { head := Zbt_H13, exits := Zbt_E13, fn := Zbt_L13 }
def Zbt_H8 : Shape := { env := [(1, .av (.ptr 1 0)), (3, .av (.ptr 3 0)), (4, .av (.val I)), (5, .av (.val I))], objs := [(1, .box [.val I, .val (.slice yQ2), .val yQ5, .val (.slice I), .val (.slice .str), .val I]), (3, .box [.val I, .val (.slice yQ2), .val yQ5])] }
def Zbt_E8 : List (Ex × Shape) := [(.ret, { env := [(2, .av (.val .bool))], objs := [] }), (.exit 0, { env := [(1, .av (.ptr 1 0)), (3, .av (.ptr 3 0))], objs := [(1, .box [.val I, .val (.slice yQ2), .val yQ5, .val (.slice I), .val (.slice .str), .val I]), (3, .box [.val I, .val (.slice yQ2), .val yQ5])] })]
def Zbt_B8 (x : Q63) : Option (Q63 ⊕ ((Bool × Unit) ⊕ (Q56 ⊕ Empty))) :=
 let (a,b,c,d,e,f,g,h,i,k,l,_) := x; cond (ltI l k) ((getI e l).bind fun y1 => (Zbv (y1,())).bind fun r2 => cond (!r2.1) (some (.inr (.inl (false,())))) ((getI e (addI .i64 l 1)).bind fun y3 => (getI e l).bind fun y4 => (Zbf (y4,())).bind fun r5 => cond (neS y3 r5.1) (some (.inr (.inl (false,())))) (some (.inl (a,b,c,d,e,f,g,h,i,k,(addI .i64 l 2),()))))) (some (.inr (.inr (.inl (a,b,c,d,e,f,g,h,i,())))))
def Zbt_L8 : Q63 → Option ((Bool × Unit) ⊕ (Q56 ⊕ Empty)) := loopFix Zbt_B8
def Zbt_A8 : Ann := { head := Zbt_H8, exits := Zbt_E8, fn := Zbt_L8 }
def Zbt_As : Anns := [(8, Zbt_A8), (13, Zbt_A13)]
def Zbt (x : (Q10 × Unit)) : Option (Bool × Unit) :=
 let (((a,b,c,_),d,e,f,_),_) := x; (Zba ((a,b,c,()),())).bind fun r1 => cond (!r1.1) (some (false,())) ((Zax ((a,b,c,()),())).bind fun r2 => cond (!r2.1) (some (false,())) ((Zbd ((a,b,c,()),())).bind fun r3 => cond (neI r3.1 0) (some (false,())) (cond (neI (d.length : Nat) (mulI .i64 2 (b.length : Nat))) (some (false,())) (cond (neI (e.length : Nat) (mulI .i64 2 (b.length : Nat))) (some (false,())) (cond (ltI f 0) (some (false,())) (cond (geI f (maxI (mulI .i64 2 (b.length : Nat)) 1)) (some (false,())) ((Zbp (((a,b,c,()),d,e,f,()),())).bind fun r4 => cond (!r4.1) (some (false,())) ((Zbt_L8 (a,b,c,d,e,f,a,b,c,(mulI .i64 2 (b.length : Nat)),0,())).bind (Sum.elim (fun z6 => some (z6.1,())) (Sum.elim (fun (a_7,b_7,c_7,d_7,e_7,f_7,g_7,h_7,i_7,_) => (Zbc ((g_7,h_7,i_7,()),())).bind fun r8 => (Zbt_L13 (a_7,b_7,c_7,d_7,e_7,f_7,r8.1,(r8.1.length : Nat),0,())).bind (Sum.elim (fun z10 => some (z10.1,())) (Sum.elim (fun z11 => some (true,())) (fun _ => none)))) (fun _ => none)))))))))))
def Zbt_c : Con := { ins := [(.rd, yQ11)], outs := [(true, .bool)], fn := Zbt }
def Zbt_C : Ctx := { tab := tab, con := fun | 48, _ => some Zbc_c | 50, _ => some Zba_c | 74, _ => some Zax_c | 75, _ => some Zbd_c | 76, _ => some Zbp_c | 77, _ => some Zbv_c | 78, _ => some Zbf_c | 79, _ => some Zm_c | 80, _ => some Zbr_c | _, _ => none, glob := glob, eqs := eqs, maps := maps }
theorem Zbt_R13 (x : Zbt_H13.ty.den) : round Zbt_C Zbt_As Zbt_A13 (loopBody 13 (bodyOf Tryd.f63)) x = Zbt_B13 x := by kernel_rfl
theorem Zbt_R8 (x : Zbt_H8.ty.den) : round Zbt_C Zbt_As Zbt_A8 (loopBody 8 (bodyOf Tryd.f63)) x = Zbt_B8 x := by kernel_rfl
theorem Zbt_eq (x : (tupTy [yQ11]).den) : callFn Zbt_C Zbt_As (bodyOf Tryd.f63) [(.rd, yQ11)] [(.tmp 2, true, .bool)] x = Zbt x := by kernel_rfl
def Zbs_As : Anns := []
def Zbs (x : (Q10 × Unit)) : Option (Int × Unit) :=
 let (((a,b,c,_),d,e,f,_),_) := x; (Zbt (((a,b,c,()),d,e,f,()),())).bind fun r1 => cond (!r1.1) (some (13,())) (some (0,()))
def Zbs_c : Con := { ins := [(.rd, yQ11)], outs := [(true, I)], fn := Zbs }
def Zbs_C : Ctx := { tab := tab, con := fun | 63, _ => some Zbt_c | _, _ => none, glob := glob, eqs := eqs, maps := maps }
theorem Zbs_eq (x : (tupTy [yQ11]).den) : callFn Zbs_C Zbs_As (bodyOf Tryd.f45) [(.rd, yQ11)] [(.tmp 2, true, I)] x = Zbs x := by kernel_rfl
def Zbq_H5 : Shape := { env := [(1, .av (.ptr 1 0)), (3, .av (.val I)), (4, .av (.val I))], objs := [(1, .box [.val I, .val (.slice yQ2), .val yQ5, .val (.slice I), .val (.slice .str), .val I])] }
def Zbq_E5 : List (Ex × Shape) := [(.exit 0, { env := [(3, .av (.val I))], objs := [] })]
def Zbq_B5 (x : Q34) : Option (Q34 ⊕ ((Int × Unit) ⊕ Empty)) :=
 let (a,b,c,d,e,f,g,h,_) := x; cond (ltI h (e.length : Nat)) ((getI e h).bind fun y1 => some (.inl (a,b,c,d,e,f,(addI .i64 g (y1.size : Nat)),(addI .i64 h 2),()))) (some (.inr (.inl (g,()))))
def Zbq_L5 : Q34 → Option ((Int × Unit) ⊕ Empty) := loopFix Zbq_B5
def Zbq_A5 : Ann := { head := Zbq_H5, exits := Zbq_E5, fn := Zbq_L5 }
def Zbq_As : Anns := [(5, Zbq_A5)]
def Zbq (x : (Q10 × Unit)) : Option (Int × Unit) :=
 let (((a,b,c,_),d,e,f,_),_) := x; (Zbt (((a,b,c,()),d,e,f,()),())).bind fun r1 => cond (!r1.1) (some (0,())) ((Zbq_L5 (a,b,c,d,e,f,0,0,())).bind (Sum.elim (fun z3 => some (z3.1,())) (fun _ => none)))
def Zbq_c : Con := { ins := [(.rd, yQ11)], outs := [(true, I)], fn := Zbq }
def Zbq_C : Ctx := { tab := tab, con := fun | 63, _ => some Zbt_c | _, _ => none, glob := glob, eqs := eqs, maps := maps }
theorem Zbq_R5 (x : Zbq_H5.ty.den) : round Zbq_C Zbq_As Zbq_A5 (loopBody 5 (bodyOf Tryd.f46)) x = Zbq_B5 x := by kernel_rfl
theorem Zbq_eq (x : (tupTy [yQ11]).den) : callFn Zbq_C Zbq_As (bodyOf Tryd.f46) [(.rd, yQ11)] [(.tmp 2, true, I)] x = Zbq x := by kernel_rfl
def Zan_As : Anns := []
def Zan (x : (Q10 × Unit)) : Option (Bool × Unit) :=
 let (((a,b,c,_),d,e,f,_),_) := x; (Zbs (((a,b,c,()),d,e,f,()),())).bind fun r1 => cond (eqI r1.1 0) ((Zbq (((a,b,c,()),d,e,f,()),())).bind fun r2 => some ((eqI r2.1 0),())) (some (false,()))
def Zan_c : Con := { ins := [(.rd, yQ11)], outs := [(true, .bool)], fn := Zan }
def Zan_C : Ctx := { tab := tab, con := fun | 45, _ => some Zbs_c | 46, _ => some Zbq_c | _, _ => none, glob := glob, eqs := eqs, maps := maps }
theorem Zan_eq (x : (tupTy [yQ11]).den) : callFn Zan_C Zan_As (bodyOf Tryd.f22) [(.rd, yQ11)] [(.tmp 2, true, .bool)] x = Zan x := by kernel_rfl
def Zbg_As : Anns := []
def Zbg (x : (Q9 × Int × Unit)) : Option (Int × Unit) :=
 let ((a,b,c,_),d,_) := x; (Zba ((a,b,c,()),())).bind fun r1 => cond (!r1.1) (some ((-1),())) (cond (ltI d 0) (some ((-1),())) (cond (geI d (mulI .i64 2 (b.length : Nat))) (some ((-1),())) ((getI b (quoI .i64 d 2)).bind fun y2 => (Zbe (y2,(xorI .i64 (remI d 2) 1),())).bind fun r3 => (getI c r3.1).bind fun y4 => (Zal (y4,(xorI .i64 d 1),())).bind fun r5 => cond (eqI (y4.length : Nat) 0) none ((getI y4 (remI (addI .i64 r5.1 1) (y4.length : Nat))).bind fun y6 => some (y6,())))))
def Zbg_c : Con := { ins := [(.rd, yQ8), (.rd, I)], outs := [(true, I)], fn := Zbg }
def Zbg_C : Ctx := { tab := tab, con := fun | 50, _ => some Zba_c | 51, _ => some Zbe_c | 64, _ => some Zal_c | _, _ => none, glob := glob, eqs := eqs, maps := maps }
theorem Zbg_eq (x : (tupTy [yQ8, I]).den) : callFn Zbg_C Zbg_As (bodyOf Tryd.f47) [(.rd, yQ8), (.rd, I)] [(.tmp 4, true, I)] x = Zbg x := by kernel_rfl
def Zau_H16 : Shape := { env := [(1, .av (.ptr 1 0)), (3, .av (.own 3)), (5, .av (.own 5)), (68, .agg [.val I, .val I, .val I, .val I]), (69, .av (.val I))], objs := [(1, .box [.val I, .val (.slice yQ2), .val yQ5, .val (.slice I), .val (.slice .str), .val I]), (3, .arr I), (5, .arr I)] }
def Zau_E16 : List (Ex × Shape) := [(.exit 4, { env := [(1, .av (.ptr 1 0)), (3, .av (.own 3)), (5, .av (.own 5))], objs := [(1, .box [.val I, .val (.slice yQ2), .val yQ5, .val (.slice I), .val (.slice .str), .val I]), (3, .arr I), (5, .arr I)] })]
def Zau_B16 (x : Q65) : Option (Q65 ⊕ (Q42 ⊕ Empty)) :=
 let (a,b,c,d,e,f,g,h,i,k,l,m,n,_) := x; cond (ltI n 2) (cond (eqI n 0) ((idxI g.length i).bind fun j1 => (g[j1]?).bind fun y2 => cond (ltI y2 0) ((idxI g.length i).bind fun j3 => (g[j3]?).bind fun y4 => (app h [i]).bind fun a5 => some (.inl (a,b,c,d,e,f,(g.set j3 (remI k 4)),a5,i,k,l,m,(addI .i64 n 1),()))) (some (.inl (a,b,c,d,e,f,g,h,i,k,l,m,(addI .i64 n 1),())))) (cond (eqI n 1) ((idxI g.length l).bind fun j6 => (g[j6]?).bind fun y7 => cond (ltI y7 0) ((idxI g.length l).bind fun j8 => (g[j8]?).bind fun y9 => (app h [l]).bind fun a10 => some (.inl (a,b,c,d,e,f,(g.set j8 (remI m 4)),a10,i,k,l,m,(addI .i64 n 1),()))) (some (.inl (a,b,c,d,e,f,g,h,i,k,l,m,(addI .i64 n 1),())))) (none))) (some (.inr (.inl (a,b,c,d,e,f,g,h,()))))
def Zau_L16 : Q65 → Option (Q42 ⊕ Empty) := loopFix Zau_B16
def Zau_A16 : Ann := { head := Zau_H16, exits := Zau_E16, fn := Zau_L16 }
def Zau_H11 : Shape := { env := [(1, .av (.ptr 1 0)), (3, .av (.own 3)), (5, .av (.own 5))], objs := [(1, .box [.val I, .val (.slice yQ2), .val yQ5, .val (.slice I), .val (.slice .str), .val I]), (3, .arr I), (5, .arr I)] }
def Zau_E11 : List (Ex × Shape) := [(.exit 2, { env := [(3, .av (.own 3))], objs := [(3, .arr I)] })]
def Zau_B11 (x : Q42) : Option (Q42 ⊕ (Q1 ⊕ Empty)) :=
 let (a,b,c,d,e,f,g,h,_) := x; cond (gtI (h.length : Nat) 0) ((idxI h.length (subI .i64 (h.length : Nat) 1)).bind fun j1 => (h[j1]?).bind fun y2 => (viewB h.length 0 (subI .i64 (h.length : Nat) 1)).bind fun v3 => (Zbg ((a,b,c,()),(xorI .i64 y2 1),())).bind fun r4 => (idxI g.length y2).bind fun j5 => (g[j5]?).bind fun y6 => (getI d y2).bind fun y7 => (idxI g.length y2).bind fun j8 => (g[j8]?).bind fun y9 => (Zau_L16 (a,b,c,d,e,f,g,((h.drop v3.1).take v3.2),r4.1,(addI .i64 y6 y7),(xorI .i64 y2 1),(addI .i64 y9 2),0,())).bind (Sum.elim (fun (a_11,b_11,c_11,d_11,e_11,f_11,g_11,h_11,_) => some (.inl (a_11,b_11,c_11,d_11,e_11,f_11,g_11,h_11,()))) (fun _ => none))) (some (.inr (.inl (g,()))))
def Zau_L11 : Q42 → Option (Q1 ⊕ Empty) := loopFix Zau_B11
def Zau_A11 : Ann := { head := Zau_H11, exits := Zau_E11, fn := Zau_L11 }
def Zau_H3 : Shape := { env := [(1, .av (.ptr 1 0)), (3, .av (.own 3)), (15, .av (.val I)), (16, .av (.val I))], objs := [(1, .box [.val I, .val (.slice yQ2), .val yQ5, .val (.slice I), .val (.slice .str), .val I]), (3, .arr I)] }
def Zau_E3 : List (Ex × Shape) := [(.exit 0, { env := [(1, .av (.ptr 1 0)), (3, .av (.own 3))], objs := [(1, .box [.val I, .val (.slice yQ2), .val yQ5, .val (.slice I), .val (.slice .str), .val I]), (3, .arr I)] })]
def Zau_B3 (x : Q43) : Option (Q43 ⊕ (Q33 ⊕ Empty)) :=
 let (a,b,c,d,e,f,g,h,i,_) := x; cond (ltI i h) ((idxI g.length i).bind fun j1 => (g[j1]?).bind fun y2 => some (.inl (a,b,c,d,e,f,(g.set j1 (-1)),h,(addI .i64 i 1),()))) (some (.inr (.inl (a,b,c,d,e,f,g,()))))
def Zau_L3 : Q43 → Option (Q33 ⊕ Empty) := loopFix Zau_B3
def Zau_A3 : Ann := { head := Zau_H3, exits := Zau_E3, fn := Zau_L3 }
def Zau_As : Anns := [(3, Zau_A3), (11, Zau_A11), (16, Zau_A16)]
def Zau (x : (Q10 × Unit)) : Option Q1 :=
 let (((a,b,c,_),d,e,f,_),_) := x; (makeL I (d.length : Nat) (d.length : Nat)).bind fun m1 => (Zau_L3 (a,b,c,d,e,f,m1,(m1.length : Nat),0,())).bind (Sum.elim (fun (a_3,b_3,c_3,d_3,e_3,f_3,g_3,_) => cond (eqI (g_3.length : Nat) 0) (some ([],())) ((idxI g_3.length 0).bind fun j4 => (g_3[j4]?).bind fun y5 => (Zau_L11 (a_3,b_3,c_3,d_3,e_3,f_3,(g_3.set j4 1),[0],())).bind (Sum.elim (fun z7 => some (z7.1,())) (fun _ => none)))) (fun _ => none))
def Zau_c : Con := { ins := [(.rd, yQ11)], outs := [(true, (.slice I))], fn := Zau }
def Zau_C : Ctx := { tab := tab, con := fun | 47, _ => some Zbg_c | _, _ => none, glob := glob, eqs := eqs, maps := maps }
theorem Zau_R16 (x : Zau_H16.ty.den) : round Zau_C Zau_As Zau_A16 (loopBody 16 (bodyOf Tryd.f23)) x = Zau_B16 x := by kernel_rfl
theorem Zau_R11 (x : Zau_H11.ty.den) : round Zau_C Zau_As Zau_A11 (loopBody 11 (bodyOf Tryd.f23)) x = Zau_B11 x := by kernel_rfl
theorem Zau_R3 (x : Zau_H3.ty.den) : round Zau_C Zau_As Zau_A3 (loopBody 3 (bodyOf Tryd.f23)) x = Zau_B3 x := by kernel_rfl
theorem Zau_eq (x : (tupTy [yQ11]).den) : callFn Zau_C Zau_As (bodyOf Tryd.f23) [(.rd, yQ11)] [(.tmp 2, true, (.slice I))] x = Zau x := by kernel_rfl
def Zs_As : Anns := []
def Zs (x : (Q10 × Unit)) : Option Q5 :=
 let (((a,b,c,_),d,e,f,_),_) := x; (Zan (((a,b,c,()),d,e,f,()),())).bind fun r1 => cond (!r1.1) (some ([],13,())) ((Zau (((a,b,c,()),d,e,f,()),())).bind fun r2 => some (r2.1,0,()))
def Zs_c : Con := { ins := [(.rd, yQ11)], outs := [(true, (.slice I)), (true, I)], fn := Zs }
def Zs_C : Ctx := { tab := tab, con := fun | 22, _ => some Zan_c | 23, _ => some Zau_c | _, _ => none, glob := glob, eqs := eqs, maps := maps }
theorem Zs_eq (x : (tupTy [yQ11]).den) : callFn Zs_C Zs_As (bodyOf Tryd.f10) [(.rd, yQ11)] [(.tmp 2, true, (.slice I)), (.tmp 3, true, I)] x = Zs x := by kernel_rfl
def Zl_H15 : Shape := { env := [(1, .av (.ptr 1 0)), (5, .av (.val I)), (8, .av (.val I)), (17, .av (.own 17)), (18, .av (.val I)), (19, .av (.val I)), (34, .av (.val (.slice I))), (35, .av (.val I)), (36, .av (.val I))], objs := [(1, .box [.val I, .val (.slice yQ2), .val yQ5, .val (.slice I), .val (.slice .str), .val I]), (17, .arr (.slice I))] }
def Zl_E15 : List (Ex × Shape) := [(.ret, { env := [(2, .av (.val .bool))], objs := [] }), (.exit 4, { env := [(1, .av (.ptr 1 0)), (8, .av (.val I)), (17, .av (.own 17)), (18, .av (.val I)), (19, .av (.val I))], objs := [(1, .box [.val I, .val (.slice yQ2), .val yQ5, .val (.slice I), .val (.slice .str), .val I]), (17, .arr (.slice I))] })]
def Zl_B15 (x : Q67) : Option (Q67 ⊕ ((Bool × Unit) ⊕ (Q57 ⊕ Empty))) :=
 let (a,b,c,d,e,f,g,h,i,k,l,m,n,o,_) := x; cond (ltI o n) ((getI m o).bind fun y1 => (getI d (xorI .i64 y1 1)).bind fun y2 => cond (eqI (subI .i64 2 y2) 0) (some (.inl (a,b,c,d,e,f,g,h,i,k,l,m,n,(addI .i64 o 1),()))) (cond (eqI (subI .i64 2 y2) h) (some (.inl (a,b,c,d,e,f,g,h,(addI .i64 i 1),k,l,m,n,(addI .i64 o 1),()))) (some (.inr (.inl (false,())))))) (some (.inr (.inr (.inl (a,b,c,d,e,f,g,i,k,l,())))))
def Zl_L15 : Q67 → Option ((Bool × Unit) ⊕ (Q57 ⊕ Empty)) := loopFix Zl_B15
def Zl_A15 : Ann := { head := Zl_H15, exits := Zl_E15, fn := Zl_L15 }
def Zl_H8 : Shape := { env := [(1, .av (.ptr 1 0)), (4, .av (.val (.slice I))), (5, .av (.val I)), (17, .av (.own 17)), (18, .av (.val I)), (19, .av (.val I)), (23, .av (.val (.slice I))), (24, .av (.val I)), (25, .av (.val I))], objs := [(1, .box [.val I, .val (.slice yQ2), .val yQ5, .val (.slice I), .val (.slice .str), .val I]), (17, .arr (.slice I))] }
def Zl_E8 : List (Ex × Shape) := [(.exit 2, { env := [(1, .av (.ptr 1 0)), (4, .av (.val (.slice I))), (5, .av (.val I)), (17, .av (.own 17)), (18, .av (.val I)), (19, .av (.val I))], objs := [(1, .box [.val I, .val (.slice yQ2), .val yQ5, .val (.slice I), .val (.slice .str), .val I]), (17, .arr (.slice I))] })]
def Zl_B8 (x : Q69) : Option (Q69 ⊕ (Q62 ⊕ Empty)) :=
 let (a,b,c,d,e,f,g,h,i,k,l,m,n,o,_) := x; cond (ltI o n) ((getI m o).bind fun y1 => cond (eqI y1 f) (some (.inl (a,b,c,d,e,f,g,h,(-1),k,l,m,n,(addI .i64 o 1),()))) (some (.inl (a,b,c,d,e,f,g,h,i,k,l,m,n,(addI .i64 o 1),())))) (some (.inr (.inl (a,b,c,d,e,f,g,h,i,k,l,()))))
def Zl_L8 : Q69 → Option (Q62 ⊕ Empty) := loopFix Zl_B8
def Zl_A8 : Ann := { head := Zl_H8, exits := Zl_E8, fn := Zl_L8 }
def Zl_H4 : Shape := { env := [(1, .av (.ptr 1 0)), (17, .av (.own 17)), (18, .av (.val I)), (19, .av (.val I))], objs := [(1, .box [.val I, .val (.slice yQ2), .val yQ5, .val (.slice I), .val (.slice .str), .val I]), (17, .arr (.slice I))] }
def Zl_E4 : List (Ex × Shape) := [(.ret, { env := [(2, .av (.val .bool))], objs := [] }), (.exit 0, { env := [], objs := [] })]
def Zl_B4 (x : Q52) : Option (Q52 ⊕ ((Bool × Unit) ⊕ (Unit ⊕ Empty))) :=
 let (a,b,c,d,e,f,g,h,i,_) := x; cond (ltI i h) ((idxI g.length i).bind fun j1 => (g[j1]?).bind fun y2 => (Zl_L8 (a,b,c,d,e,f,g,y2,1,h,i,y2,(y2.length : Nat),0,())).bind (Sum.elim (fun (a_4,b_4,c_4,d_4,e_4,f_4,g_4,h_4,i_4,k_4,l_4,_) => (Zl_L15 (a_4,b_4,c_4,d_4,e_4,f_4,g_4,i_4,0,k_4,l_4,h_4,(h_4.length : Nat),0,())).bind (Sum.elim (fun z6 => some (.inr (.inl (z6.1,())))) (Sum.elim (fun (a_7,b_7,c_7,d_7,e_7,f_7,g_7,h_7,i_7,k_7,_) => cond (neI h_7 4) (some (.inr (.inl (false,())))) (some (.inl (a_7,b_7,c_7,d_7,e_7,f_7,g_7,i_7,(addI .i64 k_7 1),())))) (fun _ => none)))) (fun _ => none))) (some (.inr (.inr (.inl ()))))
def Zl_L4 : Q52 → Option ((Bool × Unit) ⊕ (Unit ⊕ Empty)) := loopFix Zl_B4
def Zl_A4 : Ann := { head := Zl_H4, exits := Zl_E4, fn := Zl_L4 }
def Zl_As : Anns := [(4, Zl_A4), (8, Zl_A8), (15, Zl_A15)]
def Zl (x : (Q10 × Unit)) : Option (Bool × Unit) :=
 let (((a,b,c,_),d,e,f,_),_) := x; cond (eqI (d.length : Nat) 0) (some (false,())) ((Zbc ((a,b,c,()),())).bind fun r1 => (Zl_L4 (a,b,c,d,e,f,r1.1,(r1.1.length : Nat),0,())).bind (Sum.elim (fun z3 => some (z3.1,())) (Sum.elim (fun z4 => some (true,())) (fun _ => none))))
def Zl_c : Con := { ins := [(.rd, yQ11)], outs := [(true, .bool)], fn := Zl }
def Zl_C : Ctx := { tab := tab, con := fun | 48, _ => some Zbc_c | _, _ => none, glob := glob, eqs := eqs, maps := maps }
theorem Zl_R15 (x : Zl_H15.ty.den) : round Zl_C Zl_As Zl_A15 (loopBody 15 (bodyOf Tryd.f25)) x = Zl_B15 x := by kernel_rfl
theorem Zl_R8 (x : Zl_H8.ty.den) : round Zl_C Zl_As Zl_A8 (loopBody 8 (bodyOf Tryd.f25)) x = Zl_B8 x := by kernel_rfl
theorem Zl_R4 (x : Zl_H4.ty.den) : round Zl_C Zl_As Zl_A4 (loopBody 4 (bodyOf Tryd.f25)) x = Zl_B4 x := by kernel_rfl
theorem Zl_eq (x : (tupTy [yQ11]).den) : callFn Zl_C Zl_As (bodyOf Tryd.f25) [(.rd, yQ11)] [(.tmp 2, true, .bool)] x = Zl x := by kernel_rfl
def Zaz_H11 : Shape := { env := [(1, .av (.val (.slice I))), (2, .av (.val I)), (3, .av (.ptr 3 0)), (7, .av (.own 7)), (9, .av (.val .bool)), (29, .av (.val (.slice I))), (30, .av (.val I)), (31, .av (.val I))], objs := [(3, .box [.val I, .val (.slice yQ2), .val yQ5, .val (.slice I), .val (.slice .str), .val I]), (7, .arr I)] }
def Zaz_E11 : List (Ex × Shape) := [(.exit 4, { env := [(1, .av (.val (.slice I))), (2, .av (.val I)), (3, .av (.ptr 3 0)), (7, .av (.own 7)), (9, .av (.val .bool))], objs := [(3, .box [.val I, .val (.slice yQ2), .val yQ5, .val (.slice I), .val (.slice .str), .val I]), (7, .arr I)] })]
def Zaz_B11 (x : Q66) : Option (Q66 ⊕ (Q53 ⊕ Empty)) :=
 let (a,b,c,d,e,f,g,h,i,k,l,m,n,_) := x; cond (ltI n m) ((getI l n).bind fun y1 => (Zbm ((a,b,c,()),n,())).bind fun r2 => (Zbm ((a,b,c,()),(xorI .i64 n 1),())).bind fun r3 => cond (eqI y1 i) ((idxI g.length r2.1).bind fun j4 => (g[j4]?).bind fun y5 => (idxI g.length r3.1).bind fun j6 => (g[j6]?).bind fun y7 => cond (neI y5 y7) ((idxI g.length r2.1).bind fun j8 => (g[j8]?).bind fun y9 => (idxI g.length r3.1).bind fun j10 => (g[j10]?).bind fun y11 => (idxI g.length r2.1).bind fun j12 => (g[j12]?).bind fun y13 => (idxI (g.set j12 (minI y9 y11)).length r2.1).bind fun j14 => ((g.set j12 (minI y9 y11))[j14]?).bind fun y15 => (idxI (g.set j12 (minI y9 y11)).length r3.1).bind fun j16 => ((g.set j12 (minI y9 y11))[j16]?).bind fun y17 => some (.inl (a,b,c,d,e,f,((g.set j12 (minI y9 y11)).set j16 y15),h,i,true,l,m,(addI .i64 n 1),()))) (some (.inl (a,b,c,d,e,f,g,h,i,k,l,m,(addI .i64 n 1),())))) (some (.inl (a,b,c,d,e,f,g,h,i,k,l,m,(addI .i64 n 1),())))) (some (.inr (.inl (a,b,c,d,e,f,g,h,i,k,()))))
def Zaz_L11 : Q66 → Option (Q53 ⊕ Empty) := loopFix Zaz_B11
def Zaz_A11 : Ann := { head := Zaz_H11, exits := Zaz_E11, fn := Zaz_L11 }
def Zaz_H8 : Shape := { env := [(1, .av (.val (.slice I))), (2, .av (.val I)), (3, .av (.ptr 3 0)), (7, .av (.own 7)), (9, .av (.val .bool))], objs := [(3, .box [.val I, .val (.slice yQ2), .val yQ5, .val (.slice I), .val (.slice .str), .val I]), (7, .arr I)] }
def Zaz_E8 : List (Ex × Shape) := [(.exit 2, { env := [(7, .av (.own 7))], objs := [(7, .arr I)] })]
def Zaz_B8 (x : Q53) : Option (Q53 ⊕ (Q1 ⊕ Empty)) :=
 let (a,b,c,d,e,f,g,h,i,k,_) := x; cond k ((Zaz_L11 (a,b,c,d,e,f,g,h,i,false,h,(h.length : Nat),0,())).bind (Sum.elim (fun (a_2,b_2,c_2,d_2,e_2,f_2,g_2,h_2,i_2,k_2,_) => some (.inl (a_2,b_2,c_2,d_2,e_2,f_2,g_2,h_2,i_2,k_2,()))) (fun _ => none))) (some (.inr (.inl (g,()))))
def Zaz_L8 : Q53 → Option (Q1 ⊕ Empty) := loopFix Zaz_B8
def Zaz_A8 : Ann := { head := Zaz_H8, exits := Zaz_E8, fn := Zaz_L8 }
def Zaz_H3 : Shape := { env := [(1, .av (.val (.slice I))), (2, .av (.val I)), (3, .av (.ptr 3 0)), (7, .av (.own 7)), (19, .av (.val I)), (20, .av (.val I))], objs := [(3, .box [.val I, .val (.slice yQ2), .val yQ5, .val (.slice I), .val (.slice .str), .val I]), (7, .arr I)] }
def Zaz_E3 : List (Ex × Shape) := [(.exit 0, { env := [(1, .av (.val (.slice I))), (2, .av (.val I)), (3, .av (.ptr 3 0)), (7, .av (.own 7))], objs := [(3, .box [.val I, .val (.slice yQ2), .val yQ5, .val (.slice I), .val (.slice .str), .val I]), (7, .arr I)] })]
def Zaz_B3 (x : Q58) : Option (Q58 ⊕ (Q48 ⊕ Empty)) :=
 let (a,b,c,d,e,f,g,h,i,k,l,_) := x; cond (ltI l k) ((idxI g.length l).bind fun j1 => (g[j1]?).bind fun y2 => some (.inl (a,b,c,d,e,f,(g.set j1 l),h,i,k,(addI .i64 l 1),()))) (some (.inr (.inl (a,b,c,d,e,f,g,h,i,()))))
def Zaz_L3 : Q58 → Option (Q48 ⊕ Empty) := loopFix Zaz_B3
def Zaz_A3 : Ann := { head := Zaz_H3, exits := Zaz_E3, fn := Zaz_L3 }
def Zaz_As : Anns := [(3, Zaz_A3), (8, Zaz_A8), (11, Zaz_A11)]
def Zaz (x : (Q10 × List Int × Int × Unit)) : Option Q1 :=
 let (((a,b,c,_),d,e,f,_),g,h,_) := x; (makeL I a a).bind fun m1 => (Zaz_L3 (a,b,c,d,e,f,m1,g,h,(m1.length : Nat),0,())).bind (Sum.elim (fun (a_3,b_3,c_3,d_3,e_3,f_3,g_3,h_3,i_3,_) => (Zaz_L8 (a_3,b_3,c_3,d_3,e_3,f_3,g_3,h_3,i_3,true,())).bind (Sum.elim (fun z5 => some (z5.1,())) (fun _ => none))) (fun _ => none))
def Zaz_c : Con := { ins := [(.rd, yQ11), (.rd, (.slice I)), (.rd, I)], outs := [(true, (.slice I))], fn := Zaz }
def Zaz_C : Ctx := { tab := tab, con := fun | 31, _ => some Zbm_c | _, _ => none, glob := glob, eqs := eqs, maps := maps }
theorem Zaz_R11 (x : Zaz_H11.ty.den) : round Zaz_C Zaz_As Zaz_A11 (loopBody 11 (bodyOf Tryd.f27)) x = Zaz_B11 x := by kernel_rfl
theorem Zaz_R8 (x : Zaz_H8.ty.den) : round Zaz_C Zaz_As Zaz_A8 (loopBody 8 (bodyOf Tryd.f27)) x = Zaz_B8 x := by kernel_rfl
theorem Zaz_R3 (x : Zaz_H3.ty.den) : round Zaz_C Zaz_As Zaz_A3 (loopBody 3 (bodyOf Tryd.f27)) x = Zaz_B3 x := by kernel_rfl
theorem Zaz_eq (x : (tupTy [yQ11, (.slice I), I]).den) : callFn Zaz_C Zaz_As (bodyOf Tryd.f27) [(.rd, yQ11), (.rd, (.slice I)), (.rd, I)] [(.tmp 6, true, (.slice I))] x = Zaz x := by kernel_rfl
def Zbl_H14 : Shape := { env := [(2, .av (.val (.slice I))), (9, .av (.own 9)), (14, .av (.own 14)), (70, .av (.val I)), (71, .av (.val I))], objs := [(9, .arr I), (14, .arr I)] }
def Zbl_E14 : List (Ex × Shape) := [(.exit 4, { env := [(14, .av (.own 14))], objs := [(14, .arr I)] })]
def Zbl_B14 (x : Q13) : Option (Q13 ⊕ (Q1 ⊕ Empty)) :=
 let (a,b,c,d,e,_) := x; cond (ltI e d) ((getI c e).bind fun y1 => (idxI a.length y1).bind fun j2 => (a[j2]?).bind fun y3 => (idxI b.length e).bind fun j4 => (b[j4]?).bind fun y5 => some (.inl (a,(b.set j4 y3),c,d,(addI .i64 e 1),()))) (some (.inr (.inl (b,()))))
def Zbl_L14 : Q13 → Option (Q1 ⊕ Empty) := loopFix Zbl_B14
def Zbl_A14 : Ann := { head := Zbl_H14, exits := Zbl_E14, fn := Zbl_L14 }
def Zbl_H5 : Shape := { env := [(1, .av (.val (.slice I))), (2, .av (.val (.slice I))), (3, .av (.val I)), (4, .av (.ptr 4 0)), (9, .av (.own 9)), (22, .av (.val I)), (23, .av (.val I)), (25, .av (.val (.slice I))), (26, .av (.val I)), (27, .av (.val I))], objs := [(4, .box [.val I, .val (.slice yQ2), .val yQ5, .val (.slice I), .val (.slice .str), .val I]), (9, .arr I)] }
def Zbl_E5 : List (Ex × Shape) := [(.exit 2, { env := [(1, .av (.val (.slice I))), (2, .av (.val (.slice I))), (3, .av (.val I)), (4, .av (.ptr 4 0)), (9, .av (.own 9)), (22, .av (.val I)), (23, .av (.val I))], objs := [(4, .box [.val I, .val (.slice yQ2), .val yQ5, .val (.slice I), .val (.slice .str), .val I]), (9, .arr I)] })]
def Zbl_B5 (x : Q71) : Option (Q71 ⊕ (Q64 ⊕ Empty)) :=
 let (a,b,c,d,e,f,g,h,i,k,l,m,n,o,p,_) := x; cond (ltI p o) ((getI n p).bind fun y1 => (Zbm ((a,b,c,()),p,())).bind fun r2 => (getI i r2.1).bind fun y3 => (Zbm ((a,b,c,()),(xorI .i64 p 1),())).bind fun r4 => (getI i r4.1).bind fun y5 => cond (eqI y1 k) ((idxI g.length y5).bind fun j6 => (g[j6]?).bind fun y7 => (idxI g.length y3).bind fun j8 => (g[j8]?).bind fun y9 => (idxI g.length y5).bind fun j10 => (g[j10]?).bind fun y11 => some (.inl (a,b,c,d,e,f,(g.set j10 (maxI y7 (addI .i64 y9 1))),h,i,k,l,m,n,o,(addI .i64 p 1),()))) (some (.inl (a,b,c,d,e,f,g,h,i,k,l,m,n,o,(addI .i64 p 1),())))) (some (.inr (.inl (a,b,c,d,e,f,g,h,i,k,l,m,()))))
def Zbl_L5 : Q71 → Option (Q64 ⊕ Empty) := loopFix Zbl_B5
def Zbl_A5 : Ann := { head := Zbl_H5, exits := Zbl_E5, fn := Zbl_L5 }
def Zbl_H3 : Shape := { env := [(1, .av (.val (.slice I))), (2, .av (.val (.slice I))), (3, .av (.val I)), (4, .av (.ptr 4 0)), (9, .av (.own 9)), (22, .av (.val I)), (23, .av (.val I))], objs := [(4, .box [.val I, .val (.slice yQ2), .val yQ5, .val (.slice I), .val (.slice .str), .val I]), (9, .arr I)] }
def Zbl_E3 : List (Ex × Shape) := [(.exit 0, { env := [(2, .av (.val (.slice I))), (4, .av (.ptr 4 0)), (9, .av (.own 9))], objs := [(4, .box [.val I, .val (.slice yQ2), .val yQ5, .val (.slice I), .val (.slice .str), .val I]), (9, .arr I)] })]
def Zbl_B3 (x : Q64) : Option (Q64 ⊕ (Q42 ⊕ Empty)) :=
 let (a,b,c,d,e,f,g,h,i,k,l,m,_) := x; cond (ltI m l) ((Zbl_L5 (a,b,c,d,e,f,g,h,i,k,l,m,h,(h.length : Nat),0,())).bind (Sum.elim (fun (a_2,b_2,c_2,d_2,e_2,f_2,g_2,h_2,i_2,k_2,l_2,m_2,_) => some (.inl (a_2,b_2,c_2,d_2,e_2,f_2,g_2,h_2,i_2,k_2,l_2,(addI .i64 m_2 1),()))) (fun _ => none))) (some (.inr (.inl (a,b,c,d,e,f,g,i,()))))
def Zbl_L3 : Q64 → Option (Q42 ⊕ Empty) := loopFix Zbl_B3
def Zbl_A3 : Ann := { head := Zbl_H3, exits := Zbl_E3, fn := Zbl_L3 }
def Zbl_As : Anns := [(3, Zbl_A3), (5, Zbl_A5), (14, Zbl_A14)]
def Zbl (x : (Q10 × List Int × List Int × Int × Unit)) : Option Q1 :=
 let (((a,b,c,_),d,e,f,_),g,h,i,_) := x; (makeL I a a).bind fun m1 => (Zbl_L3 (a,b,c,d,e,f,m1,g,h,i,a,0,())).bind (Sum.elim (fun (a_3,_,_,_,_,_,b_3,c_3,_) => (makeL I a_3 a_3).bind fun m4 => (Zbl_L14 (b_3,m4,c_3,(m4.length : Nat),0,())).bind (Sum.elim (fun z6 => some (z6.1,())) (fun _ => none))) (fun _ => none))
def Zbl_c : Con := { ins := [(.rd, yQ11), (.rd, (.slice I)), (.rd, (.slice I)), (.rd, I)], outs := [(true, (.slice I))], fn := Zbl }
def Zbl_C : Ctx := { tab := tab, con := fun | 31, _ => some Zbm_c | _, _ => none, glob := glob, eqs := eqs, maps := maps }
theorem Zbl_R14 (x : Zbl_H14.ty.den) : round Zbl_C Zbl_As Zbl_A14 (loopBody 14 (bodyOf Tryd.f26)) x = Zbl_B14 x := by kernel_rfl
theorem Zbl_R5 (x : Zbl_H5.ty.den) : round Zbl_C Zbl_As Zbl_A5 (loopBody 5 (bodyOf Tryd.f26)) x = Zbl_B5 x := by kernel_rfl
theorem Zbl_R3 (x : Zbl_H3.ty.den) : round Zbl_C Zbl_As Zbl_A3 (loopBody 3 (bodyOf Tryd.f26)) x = Zbl_B3 x := by kernel_rfl
theorem Zbl_eq (x : (tupTy [yQ11, (.slice I), (.slice I), I]).den) : callFn Zbl_C Zbl_As (bodyOf Tryd.f26) [(.rd, yQ11), (.rd, (.slice I)), (.rd, (.slice I)), (.rd, I)] [(.tmp 8, true, (.slice I))] x = Zbl x := by kernel_rfl
def Zbo_H8 : Shape := { env := [(5, .av (.own 5)), (6, .av (.own 6)), (7, .av (.own 7)), (36, .av (.val I)), (37, .av (.val I))], objs := [(5, .arr I), (6, .arr I), (7, .arr yQ2)] }
def Zbo_E8 : List (Ex × Shape) := [(.exit 0, { env := [(7, .av (.own 7))], objs := [(7, .arr yQ2)] })]
def Zbo_B8 (x : Q15) : Option (Q15 ⊕ (((List Q2) × Unit) ⊕ Empty)) :=
 let (a,b,c,d,e,_) := x; cond (ltI e d) ((idxI a.length e).bind fun j1 => (a[j1]?).bind fun y2 => (idxI b.length e).bind fun j3 => (b[j3]?).bind fun y4 => (idxI c.length e).bind fun j5 => (c[j5]?).bind fun y6 => some (.inl (a,b,(c.set j5 (y2,y4,())),d,(addI .i64 e 1),()))) (some (.inr (.inl (c,()))))
def Zbo_L8 : Q15 → Option (((List Q2) × Unit) ⊕ Empty) := loopFix Zbo_B8
def Zbo_A8 : Ann := { head := Zbo_H8, exits := Zbo_E8, fn := Zbo_L8 }
def Zbo_As : Anns := [(8, Zbo_A8)]
def Zbo (x : (Q10 × Unit)) : Option ((List Q2) × Int × Unit) :=
 let (((a,b,c,_),d,e,f,_),_) := x; (Zan (((a,b,c,()),d,e,f,()),())).bind fun r1 => cond (!r1.1) (some ([],13,())) ((Zl (((a,b,c,()),d,e,f,()),())).bind fun r2 => cond (!r2.1) (some ([],13,())) ((Zau (((a,b,c,()),d,e,f,()),())).bind fun r3 => (Zaz (((a,b,c,()),d,e,f,()),r3.1,0,())).bind fun r4 => (Zbl (((a,b,c,()),d,e,f,()),r3.1,r4.1,1,())).bind fun r5 => (Zaz (((a,b,c,()),d,e,f,()),r3.1,1,())).bind fun r6 => (Zbl (((a,b,c,()),d,e,f,()),r3.1,r6.1,2,())).bind fun r7 => (makeL yQ2 a a).bind fun m8 => (Zbo_L8 (r5.1,r7.1,m8,(m8.length : Nat),0,())).bind (Sum.elim (fun z10 => some (z10.1,0,())) (fun _ => none))))
def Zbo_c : Con := { ins := [(.rd, yQ11)], outs := [(true, (.slice yQ2)), (true, I)], fn := Zbo }
def Zbo_C : Ctx := { tab := tab, con := fun | 22, _ => some Zan_c | 23, _ => some Zau_c | 25, _ => some Zl_c | 26, _ => some Zbl_c | 27, _ => some Zaz_c | _, _ => none, glob := glob, eqs := eqs, maps := maps }
theorem Zbo_R8 (x : Zbo_H8.ty.den) : round Zbo_C Zbo_As Zbo_A8 (loopBody 8 (bodyOf Tryd.f13)) x = Zbo_B8 x := by kernel_rfl
theorem Zbo_eq (x : (tupTy [yQ11]).den) : callFn Zbo_C Zbo_As (bodyOf Tryd.f13) [(.rd, yQ11)] [(.tmp 2, true, (.slice yQ2)), (.tmp 3, true, I)] x = Zbo x := by kernel_rfl
def Zg_H4 : Shape := { env := [(0, .av (.val (.slice I))), (1, .av (.val (.slice I))), (5, .av (.val I))], objs := [] }
def Zg_E4 : List (Ex × Shape) := [(.ret, { env := [(4, .av (.val .bool))], objs := [] }), (.exit 0, { env := [], objs := [] })]
def Zg_B4 (x : (List Int × List Int × Int × Unit)) : Option ((List Int × List Int × Int × Unit) ⊕ ((Bool × Unit) ⊕ (Unit ⊕ Empty))) :=
 let (a,b,c,_) := x; cond (ltI c (a.length : Nat)) ((getI a c).bind fun y1 => (getI b c).bind fun y2 => cond (neI y1 y2) (some (.inr (.inl (false,())))) (some (.inl (a,b,(addI .i64 c 1),())))) (some (.inr (.inr (.inl ()))))
def Zg_L4 : (List Int × List Int × Int × Unit) → Option ((Bool × Unit) ⊕ (Unit ⊕ Empty)) := loopFix Zg_B4
def Zg_A4 : Ann := { head := Zg_H4, exits := Zg_E4, fn := Zg_L4 }
def Zg_As : Anns := [(4, Zg_A4)]
def Zg (x : (List Int × List Int × Unit)) : Option (Bool × Unit) :=
 cond (neI (x.1.length : Nat) (x.2.1.length : Nat)) (some (false,())) ((Zg_L4 (x.1,x.2.1,0,())).bind (Sum.elim (fun z2 => some (z2.1,())) (Sum.elim (fun z3 => some (true,())) (fun _ => none))))
def Zg_c : Con := { ins := [(.rd, (.slice I)), (.rd, (.slice I))], outs := [(true, .bool)], fn := Zg }
def Zg_C : Ctx := { tab := tab, con := fun _ _ => none, glob := glob, eqs := eqs, maps := maps }
theorem Zg_R4 (x : Zg_H4.ty.den) : round Zg_C Zg_As Zg_A4 (loopBody 4 (bodyOf Tryd.f12)) x = Zg_B4 x := by kernel_rfl
theorem Zg_eq (x : (tupTy [(.slice I), (.slice I)]).den) : callFn Zg_C Zg_As (bodyOf Tryd.f12) [(.rd, (.slice I)), (.rd, (.slice I))] [(.tmp 4, true, .bool)] x = Zg x := by kernel_rfl
def Zc_H4 : Shape := { env := [(0, .av (.val (.slice yQ2))), (1, .av (.val (.slice yQ2))), (5, .av (.val I))], objs := [] }
def Zc_E4 : List (Ex × Shape) := [(.ret, { env := [(4, .av (.val .bool))], objs := [] }), (.exit 0, { env := [], objs := [] })]
def Zc_B4 (x : ((List Q2) × (List Q2) × Int × Unit)) : Option (((List Q2) × (List Q2) × Int × Unit) ⊕ ((Bool × Unit) ⊕ (Unit ⊕ Empty))) :=
 let (a,b,c,_) := x; cond (ltI c (a.length : Nat)) ((getI a c).bind fun y1 => (getI b c).bind fun y2 => cond (!((eqI y1.1 y2.1) && ((eqI y1.2.1 y2.2.1) && true))) (some (.inr (.inl (false,())))) (some (.inl (a,b,(addI .i64 c 1),())))) (some (.inr (.inr (.inl ()))))
def Zc_L4 : ((List Q2) × (List Q2) × Int × Unit) → Option ((Bool × Unit) ⊕ (Unit ⊕ Empty)) := loopFix Zc_B4
def Zc_A4 : Ann := { head := Zc_H4, exits := Zc_E4, fn := Zc_L4 }
def Zc_As : Anns := [(4, Zc_A4)]
def Zc (x : ((List Q2) × (List Q2) × Unit)) : Option (Bool × Unit) :=
 cond (neI (x.1.length : Nat) (x.2.1.length : Nat)) (some (false,())) ((Zc_L4 (x.1,x.2.1,0,())).bind (Sum.elim (fun z2 => some (z2.1,())) (Sum.elim (fun z3 => some (true,())) (fun _ => none))))
def Zc_c : Con := { ins := [(.rd, (.slice yQ2)), (.rd, (.slice yQ2))], outs := [(true, .bool)], fn := Zc }
def Zc_C : Ctx := { tab := tab, con := fun _ _ => none, glob := glob, eqs := eqs, maps := maps }
theorem Zc_R4 (x : Zc_H4.ty.den) : round Zc_C Zc_As Zc_A4 (loopBody 4 (bodyOf Tryd.f15)) x = Zc_B4 x := by kernel_rfl
theorem Zc_eq (x : (tupTy [(.slice yQ2), (.slice yQ2)]).den) : callFn Zc_C Zc_As (bodyOf Tryd.f15) [(.rd, (.slice yQ2)), (.rd, (.slice yQ2))] [(.tmp 4, true, .bool)] x = Zc x := by kernel_rfl
def Zbw_As : Anns := []
def Zbw (x : (Q2 × Unit)) : Option (Bool × Unit) :=
 let ((a,b,_),_) := x; cond (geI a (-268435456)) (cond (leI a 268435456) (cond (geI b (-268435456)) (some ((leI b 268435456),())) (some (false,()))) (some (false,()))) (some (false,()))
def Zbw_c : Con := { ins := [(.rd, yQ2)], outs := [(true, .bool)], fn := Zbw }
def Zbw_C : Ctx := { tab := tab, con := fun _ _ => none, glob := glob, eqs := eqs, maps := maps }
theorem Zbw_eq (x : (tupTy [yQ2]).den) : callFn Zbw_C Zbw_As (bodyOf Tryd.f49) [(.rd, yQ2)] [(.tmp 2, true, .bool)] x = Zbw x := by kernel_rfl
def Zab_H3 : Shape := { env := [(3, .av (.ownm 3)), (7, .av (.val (.slice yQ2))), (8, .av (.val I)), (9, .av (.val I))], objs := [(3, .map yQ2 .bool)] }
def Zab_E3 : List (Ex × Shape) := [(.ret, { env := [(2, .av (.val .bool))], objs := [] }), (.exit 0, { env := [], objs := [] })]
def Zab_B3 (x : Q14) : Option (Q14 ⊕ ((Bool × Unit) ⊕ (Unit ⊕ Empty))) :=
 let (a,b,c,d,_) := x; cond (ltI d c) ((getI b d).bind fun y1 => (Zbw ((y1.1,y1.2.1,()),())).bind fun r2 => cond (!r2.1) (some (.inr (.inl (false,())))) (cond ((mapGet yQ2 .bool (y1.1,y1.2.1,()) a).getD (zeroVal .bool)) (some (.inr (.inl (false,())))) (some (.inl ((mapSet yQ2 .bool (y1.1,y1.2.1,()) true a),b,c,(addI .i64 d 1),()))))) (some (.inr (.inr (.inl ()))))
def Zab_L3 : Q14 → Option ((Bool × Unit) ⊕ (Unit ⊕ Empty)) := loopFix Zab_B3
def Zab_A3 : Ann := { head := Zab_H3, exits := Zab_E3, fn := Zab_L3 }
def Zab_As : Anns := [(3, Zab_A3)]
def Zab (x : ((List Q2) × Unit)) : Option (Bool × Unit) :=
 (Zab_L3 ([],x.1,(x.1.length : Nat),0,())).bind (Sum.elim (fun z2 => some (z2.1,())) (Sum.elim (fun z3 => some (true,())) (fun _ => none)))
def Zab_c : Con := { ins := [(.rd, (.slice yQ2))], outs := [(true, .bool)], fn := Zab }
def Zab_C : Ctx := { tab := tab, con := fun | 49, _ => some Zbw_c | _, _ => none, glob := glob, eqs := eqs, maps := maps }
theorem Zab_R3 (x : Zab_H3.ty.den) : round Zab_C Zab_As Zab_A3 (loopBody 3 (bodyOf Tryd.f29)) x = Zab_B3 x := by kernel_rfl
theorem Zab_eq (x : (tupTy [(.slice yQ2)]).den) : callFn Zab_C Zab_As (bodyOf Tryd.f29) [(.rd, (.slice yQ2))] [(.tmp 2, true, .bool)] x = Zab x := by kernel_rfl
def Zbn_As : Anns := []
def Zbn (x : (Q2 × Q2 × Int × Unit)) : Option (Bool × Unit) :=
 let ((a,b,_),(c,d,_),e,_) := x; cond (eqI e 0) (cond (eqI a c) (some ((ltI d b),())) (some (false,()))) (cond (eqI e 1) (cond (eqI b d) (some ((gtI c a),())) (some (false,()))) (cond (eqI e 2) (cond (eqI a c) (some ((gtI d b),())) (some (false,()))) (cond (eqI b d) (some ((ltI c a),())) (some (false,())))))
def Zbn_c : Con := { ins := [(.rd, yQ2), (.rd, yQ2), (.rd, I)], outs := [(true, .bool)], fn := Zbn }
def Zbn_C : Ctx := { tab := tab, con := fun _ _ => none, glob := glob, eqs := eqs, maps := maps }
theorem Zbn_eq (x : (tupTy [yQ2, yQ2, I]).den) : callFn Zbn_C Zbn_As (bodyOf Tryd.f30) [(.rd, yQ2), (.rd, yQ2), (.rd, I)] [(.tmp 6, true, .bool)] x = Zbn x := by kernel_rfl
def Zbz_As : Anns := []
def Zbz (x : (Q3 × Unit)) : Option (Q3 × Bool × Unit) :=
 let (((a,b,_),(c,d,_),_),_) := x; (Zbw ((a,b,()),())).bind fun r1 => cond r1.1 ((Zbw ((c,d,()),())).bind fun r2 => some (((a,b,()),(c,d,()),()),r2.1,())) (some (((a,b,()),(c,d,()),()),false,()))
def Zbz_c : Con := { ins := [(.rd, yQ4)], outs := [(true, yQ4), (true, .bool)], fn := Zbz }
def Zbz_C : Ctx := { tab := tab, con := fun | 49, _ => some Zbw_c | _, _ => none, glob := glob, eqs := eqs, maps := maps }
theorem Zbz_eq (x : (tupTy [yQ4]).den) : callFn Zbz_C Zbz_As (bodyOf Tryd.f66) [(.rd, yQ4)] [(.cell 2 78, true, yQ4), (.tmp 3, true, .bool)] x = Zbz x := by kernel_rfl
def Zak_As : Anns := []
def Zak (x : (Q3 × Q2 × Unit)) : Option (Bool × Unit) :=
 let (((a,b,_),(c,d,_),_),(e,f,_),_) := x; cond (geI e (minI a c)) (cond (leI e (maxI a c)) (cond (geI f (minI b d)) (some ((leI f (maxI b d)),())) (some (false,()))) (some (false,()))) (some (false,()))
def Zak_c : Con := { ins := [(.rd, yQ4), (.rd, yQ2)], outs := [(true, .bool)], fn := Zak }
def Zak_C : Ctx := { tab := tab, con := fun _ _ => none, glob := glob, eqs := eqs, maps := maps }
theorem Zak_eq (x : (tupTy [yQ4, yQ2]).den) : callFn Zak_C Zak_As (bodyOf Tryd.f81) [(.rd, yQ4), (.rd, yQ2)] [(.tmp 4, true, .bool)] x = Zak x := by kernel_rfl
def Zay_As : Anns := []
def Zay (x : (Q3 × Q2 × Unit)) : Option (Int × Unit) :=
 let (((a,b,_),(c,d,_),_),(e,f,_),_) := x; cond (gtI (subI .i64 (mulI .i64 (subI .i64 c a) (subI .i64 f b)) (mulI .i64 (subI .i64 d b) (subI .i64 e a))) 0) (some (1,())) (cond (ltI (subI .i64 (mulI .i64 (subI .i64 c a) (subI .i64 f b)) (mulI .i64 (subI .i64 d b) (subI .i64 e a))) 0) (some ((-1),())) (some (0,())))
def Zay_c : Con := { ins := [(.rd, yQ4), (.rd, yQ2)], outs := [(true, I)], fn := Zay }
def Zay_C : Ctx := { tab := tab, con := fun _ _ => none, glob := glob, eqs := eqs, maps := maps }
theorem Zay_eq (x : (tupTy [yQ4, yQ2]).den) : callFn Zay_C Zay_As (bodyOf Tryd.f82) [(.rd, yQ4), (.rd, yQ2)] [(.tmp 4, true, I)] x = Zay x := by kernel_rfl
def Zbi_As : Anns := []
def Zbi (x : (Q3 × Q2 × Unit)) : Option (Bool × Unit) :=
 let (((a,b,_),(c,d,_),_),(e,f,_),_) := x; (Zak (((a,b,()),(c,d,()),()),(e,f,()),())).bind fun r1 => cond r1.1 ((Zay (((a,b,()),(c,d,()),()),(e,f,()),())).bind fun r2 => some ((eqI r2.1 0),())) (some (false,()))
def Zbi_c : Con := { ins := [(.rd, yQ4), (.rd, yQ2)], outs := [(true, .bool)], fn := Zbi }
def Zbi_C : Ctx := { tab := tab, con := fun | 81, _ => some Zak_c | 82, _ => some Zay_c | _, _ => none, glob := glob, eqs := eqs, maps := maps }
theorem Zbi_eq (x : (tupTy [yQ4, yQ2]).den) : callFn Zbi_C Zbi_As (bodyOf Tryd.f67) [(.rd, yQ4), (.rd, yQ2)] [(.tmp 4, true, .bool)] x = Zbi x := by kernel_rfl
def Zby_As : Anns := []
def Zby (x : (Q2 × Q3 × Unit)) : Option (Bool × Unit) :=
 let ((a,b,_),((c,d,_),(e,f,_),_),_) := x; (Zbz (((c,d,()),(e,f,()),()),())).bind fun r1 => cond r1.2.1 ((Zbw ((a,b,()),())).bind fun r2 => cond r2.1 ((Zbi (((r1.1.1.1,r1.1.1.2.1,()),(r1.1.2.1.1,r1.1.2.1.2.1,()),()),(a,b,()),())).bind fun r3 => some (r3.1,())) (some (false,()))) (some (false,()))
def Zby_c : Con := { ins := [(.rd, yQ2), (.rd, yQ4)], outs := [(true, .bool)], fn := Zby }
def Zby_C : Ctx := { tab := tab, con := fun | 49, _ => some Zbw_c | 66, _ => some Zbz_c | 67, _ => some Zbi_c | _, _ => none, glob := glob, eqs := eqs, maps := maps }
theorem Zby_eq (x : (tupTy [yQ2, yQ4]).den) : callFn Zby_C Zby_As (bodyOf Tryd.f52) [(.rd, yQ2), (.rd, yQ4)] [(.tmp 4, true, .bool)] x = Zby x := by kernel_rfl
def Zap_As : Anns := []
def Zap (x : (Q3 × Q3 × Unit)) : Option (Bool × Unit) :=
 let (((a,b,_),(c,d,_),_),((e,f,_),(g,h,_),_),_) := x; (Zay (((a,b,()),(c,d,()),()),(e,f,()),())).bind fun r1 => (Zay (((a,b,()),(c,d,()),()),(g,h,()),())).bind fun r2 => some ((ltI (mulI .i64 r1.1 r2.1) 0),())
def Zap_c : Con := { ins := [(.rd, yQ4), (.rd, yQ4)], outs := [(true, .bool)], fn := Zap }
def Zap_C : Ctx := { tab := tab, con := fun | 82, _ => some Zay_c | _, _ => none, glob := glob, eqs := eqs, maps := maps }
theorem Zap_eq (x : (tupTy [yQ4, yQ4]).den) : callFn Zap_C Zap_As (bodyOf Tryd.f68) [(.rd, yQ4), (.rd, yQ4)] [(.tmp 4, true, .bool)] x = Zap x := by kernel_rfl
def Zbx_As : Anns := []
def Zbx (x : (Q3 × Q3 × Unit)) : Option (Bool × Unit) :=
 let (((a,b,_),(c,d,_),_),((e,f,_),(g,h,_),_),_) := x; (Zbz (((a,b,()),(c,d,()),()),())).bind fun r1 => (Zbz (((e,f,()),(g,h,()),()),())).bind fun r2 => let t_0 := (Zbi (((r1.1.1.1,r1.1.1.2.1,()),(r1.1.2.1.1,r1.1.2.1.2.1,()),()),(r2.1.1.1,r2.1.1.2.1,()),())).bind fun r5 => cond r5.1 (some (true,())) ((Zbi (((r1.1.1.1,r1.1.1.2.1,()),(r1.1.2.1.1,r1.1.2.1.2.1,()),()),(r2.1.2.1.1,r2.1.2.1.2.1,()),())).bind fun r6 => cond r6.1 (some (true,())) ((Zbi (((r2.1.1.1,r2.1.1.2.1,()),(r2.1.2.1.1,r2.1.2.1.2.1,()),()),(r1.1.1.1,r1.1.1.2.1,()),())).bind fun r7 => cond r7.1 (some (true,())) ((Zbi (((r2.1.1.1,r2.1.1.2.1,()),(r2.1.2.1.1,r2.1.2.1.2.1,()),()),(r1.1.2.1.1,r1.1.2.1.2.1,()),())).bind fun r8 => some (r8.1,())))); cond (!r1.2.1) (some (false,())) (cond (!r2.2.1) (some (false,())) ((Zap (((r1.1.1.1,r1.1.1.2.1,()),(r1.1.2.1.1,r1.1.2.1.2.1,()),()),((r2.1.1.1,r2.1.1.2.1,()),(r2.1.2.1.1,r2.1.2.1.2.1,()),()),())).bind fun r3 => cond r3.1 ((Zap (((r2.1.1.1,r2.1.1.2.1,()),(r2.1.2.1.1,r2.1.2.1.2.1,()),()),((r1.1.1.1,r1.1.1.2.1,()),(r1.1.2.1.1,r1.1.2.1.2.1,()),()),())).bind fun r4 => cond r4.1 (some (true,())) t_0) t_0))
def Zbx_c : Con := { ins := [(.rd, yQ4), (.rd, yQ4)], outs := [(true, .bool)], fn := Zbx }
def Zbx_C : Ctx := { tab := tab, con := fun | 66, _ => some Zbz_c | 67, _ => some Zbi_c | 68, _ => some Zap_c | _, _ => none, glob := glob, eqs := eqs, maps := maps }
theorem Zbx_eq (x : (tupTy [yQ4, yQ4]).den) : callFn Zbx_C Zbx_As (bodyOf Tryd.f53) [(.rd, yQ4), (.rd, yQ4)] [(.tmp 4, true, .bool)] x = Zbx x := by kernel_rfl
def Zbh_As : Anns := []
def Zbh (x : ((List Q2) × Q2 × Q2 × Unit)) : Option (Bool × Unit) :=
 let (a,(b,c,_),(d,e,_),_) := x; (getI a b).bind fun y1 => (getI a c).bind fun y2 => (getI a d).bind fun y3 => (getI a e).bind fun y4 => let t_1 := cond (eqI b d) ((Zby ((y2.1,y2.2.1,()),((y3.1,y3.2.1,()),(y4.1,y4.2.1,()),()),())).bind fun r5 => cond (!r5.1) ((Zby ((y4.1,y4.2.1,()),((y1.1,y1.2.1,()),(y2.1,y2.2.1,()),()),())).bind fun r6 => some ((!r6.1),())) (some (false,()))) (cond (eqI b e) ((Zby ((y2.1,y2.2.1,()),((y3.1,y3.2.1,()),(y4.1,y4.2.1,()),()),())).bind fun r7 => cond (!r7.1) ((Zby ((y3.1,y3.2.1,()),((y1.1,y1.2.1,()),(y2.1,y2.2.1,()),()),())).bind fun r8 => some ((!r8.1),())) (some (false,()))) (cond (eqI c d) ((Zby ((y1.1,y1.2.1,()),((y3.1,y3.2.1,()),(y4.1,y4.2.1,()),()),())).bind fun r9 => cond (!r9.1) ((Zby ((y4.1,y4.2.1,()),((y1.1,y1.2.1,()),(y2.1,y2.2.1,()),()),())).bind fun r10 => some ((!r10.1),())) (some (false,()))) (cond (eqI c e) ((Zby ((y1.1,y1.2.1,()),((y3.1,y3.2.1,()),(y4.1,y4.2.1,()),()),())).bind fun r11 => cond (!r11.1) ((Zby ((y3.1,y3.2.1,()),((y1.1,y1.2.1,()),(y2.1,y2.2.1,()),()),())).bind fun r12 => some ((!r12.1),())) (some (false,()))) ((Zbx (((y1.1,y1.2.1,()),(y2.1,y2.2.1,()),()),((y3.1,y3.2.1,()),(y4.1,y4.2.1,()),()),())).bind fun r13 => some ((!r13.1),()))))); let t_0 := cond (eqI b e) (cond (eqI c d) (some (false,())) t_1) t_1; cond (eqI b d) (cond (eqI c e) (some (false,())) t_0) t_0
def Zbh_c : Con := { ins := [(.rd, (.slice yQ2)), (.rd, yQ2), (.rd, yQ2)], outs := [(true, .bool)], fn := Zbh }
def Zbh_C : Ctx := { tab := tab, con := fun | 52, _ => some Zby_c | 53, _ => some Zbx_c | _, _ => none, glob := glob, eqs := eqs, maps := maps }
theorem Zbh_eq (x : (tupTy [(.slice yQ2), yQ2, yQ2]).den) : callFn Zbh_C Zbh_As (bodyOf Tryd.f32) [(.rd, (.slice yQ2)), (.rd, yQ2), (.rd, yQ2)] [(.tmp 6, true, .bool)] x = Zbh x := by kernel_rfl
def Zbj_H13 : Shape := { env := [(1, .av (.val (.slice yQ2))), (2, .av (.ptr 2 0)), (8, .av (.ptr 8 0)), (56, .av (.val (.slice yQ2))), (57, .av (.val I)), (58, .av (.val I)), (67, .av (.val (.slice yQ2))), (68, .av (.val I)), (69, .av (.val I))], objs := [(2, .box [.val I, .val (.slice yQ2), .val yQ5, .val (.slice I), .val (.slice .str), .val I]), (8, .box [.val I, .val I])] }
def Zbj_E13 : List (Ex × Shape) := [(.ret, { env := [(4, .av (.val .bool))], objs := [] }), (.exit 4, { env := [(1, .av (.val (.slice yQ2))), (2, .av (.ptr 2 0)), (56, .av (.val (.slice yQ2))), (57, .av (.val I)), (58, .av (.val I))], objs := [(2, .box [.val I, .val (.slice yQ2), .val yQ5, .val (.slice I), .val (.slice .str), .val I])] })]
def Zbj_B13 (x : Q70) : Option (Q70 ⊕ ((Bool × Unit) ⊕ (Q55 ⊕ Empty))) :=
 let (a,b,c,d,e,f,g,h,i,k,l,m,n,o,p,_) := x; cond (ltI p o) ((getI n p).bind fun y1 => (Zbh (i,(g,h,()),(y1.1,y1.2.1,()),())).bind fun r2 => cond (!r2.1) (some (.inr (.inl (false,())))) (some (.inl (a,b,c,d,e,f,g,h,i,k,l,m,n,o,(addI .i64 p 1),())))) (some (.inr (.inr (.inl (a,b,c,d,e,f,i,k,l,m,())))))
def Zbj_L13 : Q70 → Option ((Bool × Unit) ⊕ (Q55 ⊕ Empty)) := loopFix Zbj_B13
def Zbj_A13 : Ann := { head := Zbj_H13, exits := Zbj_E13, fn := Zbj_L13 }
def Zbj_H10 : Shape := { env := [(1, .av (.val (.slice yQ2))), (2, .av (.ptr 2 0)), (56, .av (.val (.slice yQ2))), (57, .av (.val I)), (58, .av (.val I))], objs := [(2, .box [.val I, .val (.slice yQ2), .val yQ5, .val (.slice I), .val (.slice .str), .val I])] }
def Zbj_E10 : List (Ex × Shape) := [(.ret, { env := [(4, .av (.val .bool))], objs := [] }), (.exit 2, { env := [], objs := [] })]
def Zbj_B10 (x : Q55) : Option (Q55 ⊕ ((Bool × Unit) ⊕ (Unit ⊕ Empty))) :=
 let (a,b,c,d,e,f,g,h,i,k,_) := x; cond (ltI k i) ((getI h k).bind fun y1 => (sliceL b 0 k).bind fun y2 => (Zbj_L13 (a,b,c,d,e,f,y1.1,y1.2.1,g,h,i,k,y2,(y2.length : Nat),0,())).bind (Sum.elim (fun z4 => some (.inr (.inl (z4.1,())))) (Sum.elim (fun (a_5,b_5,c_5,d_5,e_5,f_5,g_5,h_5,i_5,k_5,_) => some (.inl (a_5,b_5,c_5,d_5,e_5,f_5,g_5,h_5,i_5,(addI .i64 k_5 1),()))) (fun _ => none)))) (some (.inr (.inr (.inl ()))))
def Zbj_L10 : Q55 → Option ((Bool × Unit) ⊕ (Unit ⊕ Empty)) := loopFix Zbj_B10
def Zbj_A10 : Ann := { head := Zbj_H10, exits := Zbj_E10, fn := Zbj_L10 }
def Zbj_H4 : Shape := { env := [(1, .av (.val (.slice yQ2))), (2, .av (.ptr 2 0)), (28, .av (.own 28)), (29, .av (.val I)), (30, .av (.val I))], objs := [(2, .box [.val I, .val (.slice yQ2), .val yQ5, .val (.slice I), .val (.slice .str), .val I]), (28, .arr I)] }
def Zbj_E4 : List (Ex × Shape) := [(.ret, { env := [(4, .av (.val .bool))], objs := [] }), (.exit 0, { env := [(1, .av (.val (.slice yQ2))), (2, .av (.ptr 2 0))], objs := [(2, .box [.val I, .val (.slice yQ2), .val yQ5, .val (.slice I), .val (.slice .str), .val I])] })]
def Zbj_B4 (x : Q54) : Option (Q54 ⊕ ((Bool × Unit) ⊕ (Q35 ⊕ Empty))) :=
 let (a,b,c,d,e,f,g,h,i,k,_) := x; cond (ltI k i) ((idxI g.length k).bind fun j1 => (g[j1]?).bind fun y2 => (Zbm ((a,b,c,()),k,())).bind fun r3 => (getI h r3.1).bind fun y4 => (Zbm ((a,b,c,()),(xorI .i64 k 1),())).bind fun r5 => (getI h r5.1).bind fun y6 => (Zbn (y4,y6,y2,())).bind fun r7 => cond (!r7.1) (some (.inr (.inl (false,())))) (some (.inl (a,b,c,d,e,f,g,h,i,(addI .i64 k 1),())))) (some (.inr (.inr (.inl (a,b,c,d,e,f,h,())))))
def Zbj_L4 : Q54 → Option ((Bool × Unit) ⊕ (Q35 ⊕ Empty)) := loopFix Zbj_B4
def Zbj_A4 : Ann := { head := Zbj_H4, exits := Zbj_E4, fn := Zbj_L4 }
def Zbj_As : Anns := [(4, Zbj_A4), (10, Zbj_A10), (13, Zbj_A13)]
def Zbj (x : (Q10 × (List Q2) × Unit)) : Option (Bool × Unit) :=
 let (((a,b,c,_),d,e,f,_),g,_) := x; (Zan (((a,b,c,()),d,e,f,()),())).bind fun r1 => cond (!r1.1) (some (false,())) (cond (neI (g.length : Nat) a) (some (false,())) ((Zab (g,())).bind fun r2 => cond (!r2.1) (some (false,())) ((Zau (((a,b,c,()),d,e,f,()),())).bind fun r3 => (Zbj_L4 (a,b,c,d,e,f,r3.1,g,(r3.1.length : Nat),0,())).bind (Sum.elim (fun z5 => some (z5.1,())) (Sum.elim (fun (a_6,b_6,c_6,d_6,e_6,f_6,g_6,_) => (Zbj_L10 (a_6,b_6,c_6,d_6,e_6,f_6,g_6,b_6,(b_6.length : Nat),0,())).bind (Sum.elim (fun z8 => some (z8.1,())) (Sum.elim (fun z9 => some (true,())) (fun _ => none)))) (fun _ => none))))))
def Zbj_c : Con := { ins := [(.rd, yQ11), (.rd, (.slice yQ2))], outs := [(true, .bool)], fn := Zbj }
def Zbj_C : Ctx := { tab := tab, con := fun | 22, _ => some Zan_c | 23, _ => some Zau_c | 29, _ => some Zab_c | 30, _ => some Zbn_c | 31, _ => some Zbm_c | 32, _ => some Zbh_c | _, _ => none, glob := glob, eqs := eqs, maps := maps }
theorem Zbj_R13 (x : Zbj_H13.ty.den) : round Zbj_C Zbj_As Zbj_A13 (loopBody 13 (bodyOf Tryd.f16)) x = Zbj_B13 x := by kernel_rfl
theorem Zbj_R10 (x : Zbj_H10.ty.den) : round Zbj_C Zbj_As Zbj_A10 (loopBody 10 (bodyOf Tryd.f16)) x = Zbj_B10 x := by kernel_rfl
theorem Zbj_R4 (x : Zbj_H4.ty.den) : round Zbj_C Zbj_As Zbj_A4 (loopBody 4 (bodyOf Tryd.f16)) x = Zbj_B4 x := by kernel_rfl
theorem Zbj_eq (x : (tupTy [yQ11, (.slice yQ2)]).den) : callFn Zbj_C Zbj_As (bodyOf Tryd.f16) [(.rd, yQ11), (.rd, (.slice yQ2))] [(.tmp 4, true, .bool)] x = Zbj x := by kernel_rfl
def Zt_As : Anns := []
def Zt (x : Unit) : Option (Bool × Unit) :=
 (Zq ()).bind fun r1 => (Zs (((r1.1.1.1,r1.1.1.2.1,r1.1.1.2.2.1,()),r1.1.2.1,r1.1.2.2.1,r1.1.2.2.2.1,()),())).bind fun r2 => (Zq ()).bind fun r3 => (Zbo (((r3.1.1.1,r3.1.1.2.1,r3.1.1.2.2.1,()),r3.1.2.1,r3.1.2.2.1,r3.1.2.2.2.1,()),())).bind fun r4 => cond (eqI r2.2.1 0) ((Zg (r2.1,[1,3,0,2,3,1,2,0],())).bind fun r5 => cond r5.1 (cond (eqI r4.2.1 0) ((Zc (r4.1,[(0,1,()),(1,1,()),(1,0,()),(0,0,())],())).bind fun r6 => cond r6.1 ((Zq ()).bind fun r7 => (Zbj (((r7.1.1.1,r7.1.1.2.1,r7.1.1.2.2.1,()),r7.1.2.1,r7.1.2.2.1,r7.1.2.2.2.1,()),r4.1,())).bind fun r8 => cond r8.1 ((Zq ()).bind fun r9 => (Zbj (((r9.1.1.1,r9.1.1.2.1,r9.1.1.2.2.1,()),r9.1.2.1,r9.1.2.2.1,r9.1.2.2.2.1,()),[(0,1,()),(1,1,()),(1,0,()),(1,0,())],())).bind fun r10 => some ((!r10.1),())) (some (false,()))) (some (false,()))) (some (false,()))) (some (false,()))) (some (false,()))
def Zt_c : Con := { ins := [], outs := [(true, .bool)], fn := Zt }
def Zt_C : Ctx := { tab := tab, con := fun | 10, _ => some Zs_c | 12, _ => some Zg_c | 13, _ => some Zbo_c | 15, _ => some Zc_c | 16, _ => some Zbj_c | 21, _ => some Zq_c | _, _ => none, glob := glob, eqs := eqs, maps := maps }
theorem Zt_eq (x : (tupTy []).den) : callFn Zt_C Zt_As (bodyOf Tryd.f9) [] [(.tmp 0, true, .bool)] x = Zt x := by kernel_rfl
def Zac_H3 : Shape := { env := [(1, .av (.ptr 1 0)), (3, .av (.own 3)), (4, .av (.val I))], objs := [(1, .box [.val I, .val (.slice yQ2), .val yQ5]), (3, .arr I)] }
def Zac_E3 : List (Ex × Shape) := [(.exit 0, { env := [(3, .av (.own 3))], objs := [(3, .arr I)] })]
def Zac_B3 (x : Q19) : Option (Q19 ⊕ (Q1 ⊕ Empty)) :=
 let (a,b,c,d,e,_) := x; cond (ltI e (b.length : Nat)) ((getI b e).bind fun y1 => (getI b e).bind fun y2 => (app d [y1.1,y2.2.1]).bind fun a3 => some (.inl (a,b,c,a3,(addI .i64 e 1),()))) (some (.inr (.inl (d,()))))
def Zac_L3 : Q19 → Option (Q1 ⊕ Empty) := loopFix Zac_B3
def Zac_A3 : Ann := { head := Zac_H3, exits := Zac_E3, fn := Zac_L3 }
def Zac_As : Anns := [(3, Zac_A3)]
def Zac (x : (Q9 × Unit)) : Option Q1 :=
 (Zac_L3 (x.1.1,x.1.2.1,x.1.2.2.1,[],0,())).bind (Sum.elim (fun z2 => some (z2.1,())) (fun _ => none))
def Zac_c : Con := { ins := [(.rd, yQ8)], outs := [(true, (.slice I))], fn := Zac }
def Zac_C : Ctx := { tab := tab, con := fun _ _ => none, glob := glob, eqs := eqs, maps := maps }
theorem Zac_R3 (x : Zac_H3.ty.den) : round Zac_C Zac_As Zac_A3 (loopBody 3 (bodyOf Tryd.f54)) x = Zac_B3 x := by kernel_rfl
theorem Zac_eq (x : (tupTy [yQ8]).den) : callFn Zac_C Zac_As (bodyOf Tryd.f54) [(.rd, yQ8)] [(.tmp 2, true, (.slice I))] x = Zac x := by kernel_rfl
def Zaa_H16 : Shape := { env := [(1, .av (.ptr 1 0)), (5, .av (.own 5)), (6, .av (.own 6)), (7, .av (.val I)), (8, .av (.val I)), (9, .av (.val I))], objs := [(1, .box [.val I, .val (.slice yQ2), .val yQ5]), (5, .arr I), (6, .arr .bool)] }
def Zaa_E16 : List (Ex × Shape) := [(.ret, { env := [(2, .av (.val .bool))], objs := [] }), (.exit 4, { env := [(1, .av (.ptr 1 0)), (5, .av (.own 5)), (6, .av (.own 6)), (7, .av (.val I)), (8, .av (.val I))], objs := [(1, .box [.val I, .val (.slice yQ2), .val yQ5]), (5, .arr I), (6, .arr .bool)] })]
def Zaa_B16 (x : Q32) : Option (Q32 ⊕ ((Bool × Unit) ⊕ (Q27 ⊕ Empty))) :=
 let (a,b,c,d,e,f,g,h,_) := x; (getI c g).bind fun y1 => cond (ltI h (y1.length : Nat)) ((getI c g).bind fun y2 => (getI y2 h).bind fun y3 => cond (ltI y3 0) (some (.inr (.inl (false,())))) (cond (geI y3 (d.length : Nat)) (some (.inr (.inl (false,())))) ((idxI e.length y3).bind fun j4 => (e[j4]?).bind fun y5 => cond y5 (some (.inr (.inl (false,())))) ((idxI d.length y3).bind fun j6 => (d[j6]?).bind fun y7 => cond (neI y7 g) (some (.inr (.inl (false,())))) ((idxI e.length y3).bind fun j8 => (e[j8]?).bind fun y9 => some (.inl (a,b,c,d,(e.set j8 true),(addI .i64 f 1),g,(addI .i64 h 1),()))))))) (some (.inr (.inr (.inl (a,b,c,d,e,f,g,())))))
def Zaa_L16 : Q32 → Option ((Bool × Unit) ⊕ (Q27 ⊕ Empty)) := loopFix Zaa_B16
def Zaa_A16 : Ann := { head := Zaa_H16, exits := Zaa_E16, fn := Zaa_L16 }
def Zaa_H13 : Shape := { env := [(1, .av (.ptr 1 0)), (5, .av (.own 5)), (6, .av (.own 6)), (7, .av (.val I)), (8, .av (.val I))], objs := [(1, .box [.val I, .val (.slice yQ2), .val yQ5]), (5, .arr I), (6, .arr .bool)] }
def Zaa_E13 : List (Ex × Shape) := [(.ret, { env := [(2, .av (.val .bool))], objs := [] }), (.exit 2, { env := [(5, .av (.own 5)), (7, .av (.val I))], objs := [(5, .arr I)] })]
def Zaa_B13 (x : Q27) : Option (Q27 ⊕ ((Bool × Unit) ⊕ (Q5 ⊕ Empty))) :=
 let (a,b,c,d,e,f,g,_) := x; cond (ltI g a) ((Zaa_L16 (a,b,c,d,e,f,g,0,())).bind (Sum.elim (fun z2 => some (.inr (.inl (z2.1,())))) (Sum.elim (fun (a_3,b_3,c_3,d_3,e_3,f_3,g_3,_) => some (.inl (a_3,b_3,c_3,d_3,e_3,f_3,(addI .i64 g_3 1),()))) (fun _ => none)))) (some (.inr (.inr (.inl (d,f,())))))
def Zaa_L13 : Q27 → Option ((Bool × Unit) ⊕ (Q5 ⊕ Empty)) := loopFix Zaa_B13
def Zaa_A13 : Ann := { head := Zaa_H13, exits := Zaa_E13, fn := Zaa_L13 }
def Zaa_H4 : Shape := { env := [(1, .av (.ptr 1 0)), (3, .av (.val I))], objs := [(1, .box [.val I, .val (.slice yQ2), .val yQ5])] }
def Zaa_E4 : List (Ex × Shape) := [(.ret, { env := [(2, .av (.val .bool))], objs := [] }), (.exit 0, { env := [(1, .av (.ptr 1 0))], objs := [(1, .box [.val I, .val (.slice yQ2), .val yQ5])] })]
def Zaa_B4 (x : Q12) : Option (Q12 ⊕ ((Bool × Unit) ⊕ (Q9 ⊕ Empty))) :=
 let (a,b,c,d,_) := x; cond (ltI d (b.length : Nat)) ((getI b d).bind fun y1 => cond (ltI y1.1 0) (some (.inr (.inl (false,())))) (cond (geI y1.1 a) (some (.inr (.inl (false,())))) (cond (ltI y1.2.1 0) (some (.inr (.inl (false,())))) (cond (geI y1.2.1 a) (some (.inr (.inl (false,())))) (cond (eqI y1.1 y1.2.1) (some (.inr (.inl (false,())))) (some (.inl (a,b,c,(addI .i64 d 1),())))))))) (some (.inr (.inr (.inl (a,b,c,())))))
def Zaa_L4 : Q12 → Option ((Bool × Unit) ⊕ (Q9 ⊕ Empty)) := loopFix Zaa_B4
def Zaa_A4 : Ann := { head := Zaa_H4, exits := Zaa_E4, fn := Zaa_L4 }
def Zaa_As : Anns := [(4, Zaa_A4), (13, Zaa_A13), (16, Zaa_A16)]
def Zaa (x : (Q9 × Unit)) : Option (Bool × Unit) :=
 let ((a,b,c,_),_) := x; cond (ltI a 0) (some (false,())) (cond (gtI a 16384) (some (false,())) (cond (gtI (b.length : Nat) 32768) (some (false,())) (cond (neI (c.length : Nat) a) (some (false,())) ((Zaa_L4 (a,b,c,0,())).bind (Sum.elim (fun z2 => some (z2.1,())) (Sum.elim (fun (a_3,b_3,c_3,_) => (Zac ((a_3,b_3,c_3,()),())).bind fun r4 => (makeL .bool (r4.1.length : Nat) (r4.1.length : Nat)).bind fun m5 => (Zaa_L13 (a_3,b_3,c_3,r4.1,m5,0,0,())).bind (Sum.elim (fun z7 => some (z7.1,())) (Sum.elim (fun z8 => some ((eqI z8.2.1 (z8.1.length : Nat)),())) (fun _ => none)))) (fun _ => none)))))))
def Zaa_c : Con := { ins := [(.rd, yQ8)], outs := [(true, .bool)], fn := Zaa }
def Zaa_C : Ctx := { tab := tab, con := fun | 54, _ => some Zac_c | _, _ => none, glob := glob, eqs := eqs, maps := maps }
theorem Zaa_R16 (x : Zaa_H16.ty.den) : round Zaa_C Zaa_As Zaa_A16 (loopBody 16 (bodyOf Tryd.f39)) x = Zaa_B16 x := by kernel_rfl
theorem Zaa_R13 (x : Zaa_H13.ty.den) : round Zaa_C Zaa_As Zaa_A13 (loopBody 13 (bodyOf Tryd.f39)) x = Zaa_B13 x := by kernel_rfl
theorem Zaa_R4 (x : Zaa_H4.ty.den) : round Zaa_C Zaa_As Zaa_A4 (loopBody 4 (bodyOf Tryd.f39)) x = Zaa_B4 x := by kernel_rfl
theorem Zaa_eq (x : (tupTy [yQ8]).den) : callFn Zaa_C Zaa_As (bodyOf Tryd.f39) [(.rd, yQ8)] [(.tmp 2, true, .bool)] x = Zaa x := by kernel_rfl
def Zr_H7 : Shape := { env := [(1, .av (.ptr 1 0)), (3, .av (.own 3)), (4, .av (.val I)), (5, .av (.val (.slice I))), (6, .av (.val I))], objs := [(1, .box [.val I, .val (.slice yQ2), .val yQ5]), (3, .arr I)] }
def Zr_E7 : List (Ex × Shape) := [(.exit 2, { env := [(1, .av (.ptr 1 0)), (3, .av (.own 3)), (4, .av (.val I))], objs := [(1, .box [.val I, .val (.slice yQ2), .val yQ5]), (3, .arr I)] })]
def Zr_B7 (x : Q26) : Option (Q26 ⊕ (Q19 ⊕ Empty)) :=
 let (a,b,c,d,e,f,g,_) := x; cond (ltI g (f.length : Nat)) ((getI f g).bind fun y1 => cond (eqI (f.length : Nat) 0) none ((getI f (remI (addI .i64 g 1) (f.length : Nat))).bind fun y2 => (idxI d.length y1).bind fun j3 => (d[j3]?).bind fun y4 => some (.inl (a,b,c,(d.set j3 y2),e,f,(addI .i64 g 1),())))) (some (.inr (.inl (a,b,c,d,e,()))))
def Zr_L7 : Q26 → Option (Q19 ⊕ Empty) := loopFix Zr_B7
def Zr_A7 : Ann := { head := Zr_H7, exits := Zr_E7, fn := Zr_L7 }
def Zr_H3 : Shape := { env := [(1, .av (.ptr 1 0)), (3, .av (.own 3)), (4, .av (.val I))], objs := [(1, .box [.val I, .val (.slice yQ2), .val yQ5]), (3, .arr I)] }
def Zr_E3 : List (Ex × Shape) := [(.exit 0, { env := [(3, .av (.own 3))], objs := [(3, .arr I)] })]
def Zr_B3 (x : Q19) : Option (Q19 ⊕ (Q1 ⊕ Empty)) :=
 let (a,b,c,d,e,_) := x; cond (ltI e a) ((getI c e).bind fun y1 => (Zr_L7 (a,b,c,d,e,y1,0,())).bind (Sum.elim (fun z3 => some (.inl (z3.1,z3.2.1,z3.2.2.1,z3.2.2.2.1,(addI .i64 z3.2.2.2.2.1 1),()))) (fun _ => none))) (some (.inr (.inl (d,()))))
def Zr_L3 : Q19 → Option (Q1 ⊕ Empty) := loopFix Zr_B3
def Zr_A3 : Ann := { head := Zr_H3, exits := Zr_E3, fn := Zr_L3 }
def Zr_As : Anns := [(3, Zr_A3), (7, Zr_A7)]
def Zr (x : (Q9 × Unit)) : Option Q1 :=
 let ((a,b,c,_),_) := x; (makeL I (mulI .i64 2 (b.length : Nat)) (mulI .i64 2 (b.length : Nat))).bind fun m1 => (Zr_L3 (a,b,c,m1,0,())).bind (Sum.elim (fun z3 => some (z3.1,())) (fun _ => none))
def Zr_c : Con := { ins := [(.rd, yQ8)], outs := [(true, (.slice I))], fn := Zr }
def Zr_C : Ctx := { tab := tab, con := fun _ _ => none, glob := glob, eqs := eqs, maps := maps }
theorem Zr_R7 (x : Zr_H7.ty.den) : round Zr_C Zr_As Zr_A7 (loopBody 7 (bodyOf Tryd.f57)) x = Zr_B7 x := by kernel_rfl
theorem Zr_R3 (x : Zr_H3.ty.den) : round Zr_C Zr_As Zr_A3 (loopBody 3 (bodyOf Tryd.f57)) x = Zr_B3 x := by kernel_rfl
theorem Zr_eq (x : (tupTy [yQ8]).den) : callFn Zr_C Zr_As (bodyOf Tryd.f57) [(.rd, yQ8)] [(.tmp 2, true, (.slice I))] x = Zr x := by kernel_rfl
def Zad_As : Anns := []
def Zad (x : (Int × Unit)) : Option (Int × Unit) :=
 cond (eqI (remI x.1 2) 0) (some ((addI .i64 x.1 1),())) (some ((subI .i64 x.1 1),()))
def Zad_c : Con := { ins := [(.rd, I)], outs := [(true, I)], fn := Zad }
def Zad_C : Ctx := { tab := tab, con := fun _ _ => none, glob := glob, eqs := eqs, maps := maps }
theorem Zad_eq (x : (tupTy [I]).den) : callFn Zad_C Zad_As (bodyOf Tryd.f58) [(.rd, I)] [(.tmp 2, true, I)] x = Zad x := by kernel_rfl
def Zaf_H12 : Shape := { env := [(3, .av (.own 3)), (4, .av (.own 4)), (5, .av (.own 5)), (6, .av (.val I)), (7, .av (.own 7)), (8, .av (.val I))], objs := [(3, .arr (.slice I)), (4, .arr I), (5, .arr .bool), (7, .arr I)] }
def Zaf_E12 : List (Ex × Shape) := [(.exit 2, { env := [(3, .av (.own 3)), (4, .av (.own 4)), (5, .av (.own 5)), (6, .av (.val I)), (7, .av (.own 7))], objs := [(3, .arr (.slice I)), (4, .arr I), (5, .arr .bool), (7, .arr I)] })]
def Zaf_B12 (x : Q22) : Option (Q22 ⊕ (((List (List Int)) × List Int × List Bool × List Int × Int × Unit) ⊕ Empty)) :=
 let (a,b,c,d,e,f,_) := x; (idxI c.length f).bind fun j1 => (c[j1]?).bind fun y2 => cond (!y2) ((idxI c.length f).bind fun j3 => (c[j3]?).bind fun y4 => (app d [f]).bind fun a5 => (Zad (f,())).bind fun r6 => (idxI b.length r6.1).bind fun j7 => (b[j7]?).bind fun y8 => some (.inl (a,b,(c.set j3 true),a5,e,y8,()))) (some (.inr (.inl (a,b,c,d,e,()))))
def Zaf_L12 : Q22 → Option (((List (List Int)) × List Int × List Bool × List Int × Int × Unit) ⊕ Empty) := loopFix Zaf_B12
def Zaf_A12 : Ann := { head := Zaf_H12, exits := Zaf_E12, fn := Zaf_L12 }
def Zaf_H7 : Shape := { env := [(3, .av (.own 3)), (4, .av (.own 4)), (5, .av (.own 5)), (6, .av (.val I))], objs := [(3, .arr (.slice I)), (4, .arr I), (5, .arr .bool)] }
def Zaf_E7 : List (Ex × Shape) := [(.exit 0, { env := [(3, .av (.own 3))], objs := [(3, .arr (.slice I))] })]
def Zaf_B7 (x : Q16) : Option (Q16 ⊕ (Q6 ⊕ Empty)) :=
 let (a,b,c,d,_) := x; cond (ltI d (b.length : Nat)) ((idxI c.length d).bind fun j1 => (c[j1]?).bind fun y2 => cond y2 (some (.inl (a,b,c,(addI .i64 d 1),()))) ((Zaf_L12 (a,b,c,[],d,d,())).bind (Sum.elim (fun z4 => (app z4.1 [z4.2.2.2.1]).bind fun a5 => some (.inl (a5,z4.2.1,z4.2.2.1,(addI .i64 z4.2.2.2.2.1 1),()))) (fun _ => none)))) (some (.inr (.inl (a,()))))
def Zaf_L7 : Q16 → Option (Q6 ⊕ Empty) := loopFix Zaf_B7
def Zaf_A7 : Ann := { head := Zaf_H7, exits := Zaf_E7, fn := Zaf_L7 }
def Zaf_As : Anns := [(7, Zaf_A7), (12, Zaf_A12)]
def Zaf (x : (Q9 × Unit)) : Option Q6 :=
 let ((a,b,c,_),_) := x; (Zaa ((a,b,c,()),())).bind fun r1 => cond (!r1.1) (some ([],())) ((Zr ((a,b,c,()),())).bind fun r2 => (makeL .bool (r2.1.length : Nat) (r2.1.length : Nat)).bind fun m3 => (Zaf_L7 ([],r2.1,m3,0,())).bind (Sum.elim (fun z5 => some (z5.1,())) (fun _ => none)))
def Zaf_c : Con := { ins := [(.rd, yQ8)], outs := [(true, yQ5)], fn := Zaf }
def Zaf_C : Ctx := { tab := tab, con := fun | 39, _ => some Zaa_c | 57, _ => some Zr_c | 58, _ => some Zad_c | _, _ => none, glob := glob, eqs := eqs, maps := maps }
theorem Zaf_R12 (x : Zaf_H12.ty.den) : round Zaf_C Zaf_As Zaf_A12 (loopBody 12 (bodyOf Tryd.f37)) x = Zaf_B12 x := by kernel_rfl
theorem Zaf_R7 (x : Zaf_H7.ty.den) : round Zaf_C Zaf_As Zaf_A7 (loopBody 7 (bodyOf Tryd.f37)) x = Zaf_B7 x := by kernel_rfl
theorem Zaf_eq (x : (tupTy [yQ8]).den) : callFn Zaf_C Zaf_As (bodyOf Tryd.f37) [(.rd, yQ8)] [(.tmp 2, true, yQ5)] x = Zaf x := by kernel_rfl
def Zar_H1 : Shape := { env := [(0, .av (.val (.slice I))), (1, .av (.val I))], objs := [] }
def Zar_E1 : List (Ex × Shape) := [(.exit 0, { env := [(1, .av (.val I))], objs := [] })]
def Zar_B1 (x : Q5) : Option (Q5 ⊕ ((Int × Unit) ⊕ Empty)) :=
 let (a,b,_) := x; (getI a b).bind fun y1 => cond (neI y1 b) ((getI a b).bind fun y2 => some (.inl (a,y2,()))) (some (.inr (.inl (b,()))))
def Zar_L1 : Q5 → Option ((Int × Unit) ⊕ Empty) := loopFix Zar_B1
def Zar_A1 : Ann := { head := Zar_H1, exits := Zar_E1, fn := Zar_L1 }
def Zar_As : Anns := [(1, Zar_A1)]
def Zar (x : Q5) : Option (Int × Unit) :=
 (Zar_L1 (x.1,x.2.1,())).bind (Sum.elim (fun z2 => some (z2.1,())) (fun _ => none))
def Zar_c : Con := { ins := [(.rd, (.slice I)), (.rd, I)], outs := [(true, I)], fn := Zar }
def Zar_C : Ctx := { tab := tab, con := fun _ _ => none, glob := glob, eqs := eqs, maps := maps }
theorem Zar_R1 (x : Zar_H1.ty.den) : round Zar_C Zar_As Zar_A1 (loopBody 1 (bodyOf Tryd.f72)) x = Zar_B1 x := by kernel_rfl
theorem Zar_eq (x : (tupTy [(.slice I), I]).den) : callFn Zar_C Zar_As (bodyOf Tryd.f72) [(.rd, (.slice I)), (.rd, I)] [(.tmp 4, true, I)] x = Zar x := by kernel_rfl
def Zd_H8 : Shape := { env := [(1, .av (.ptr 1 0)), (3, .av (.own 3)), (5, .av (.val I)), (6, .av (.val I))], objs := [(1, .box [.val I, .val (.slice yQ2), .val yQ5]), (3, .arr I)] }
def Zd_E8 : List (Ex × Shape) := [(.exit 2, { env := [(5, .av (.val I))], objs := [] })]
def Zd_B8 (x : Q20) : Option (Q20 ⊕ ((Int × Unit) ⊕ Empty)) :=
 let (a,b,c,d,e,f,_) := x; cond (ltI f (b.length : Nat)) ((getI b f).bind fun y1 => (Zar (d,y1.1,())).bind fun r2 => (getI b f).bind fun y3 => (Zar (d,y3.2.1,())).bind fun r4 => cond (neI r2.1 r4.1) ((idxI d.length (maxI r2.1 r4.1)).bind fun j5 => (d[j5]?).bind fun y6 => some (.inl (a,b,c,(d.set j5 (minI r2.1 r4.1)),(subI .i64 e 1),(addI .i64 f 1),()))) (some (.inl (a,b,c,d,e,(addI .i64 f 1),())))) (some (.inr (.inl (e,()))))
def Zd_L8 : Q20 → Option ((Int × Unit) ⊕ Empty) := loopFix Zd_B8
def Zd_A8 : Ann := { head := Zd_H8, exits := Zd_E8, fn := Zd_L8 }
def Zd_H3 : Shape := { env := [(1, .av (.ptr 1 0)), (3, .av (.own 3)), (4, .av (.val I))], objs := [(1, .box [.val I, .val (.slice yQ2), .val yQ5]), (3, .arr I)] }
def Zd_E3 : List (Ex × Shape) := [(.exit 0, { env := [(1, .av (.ptr 1 0)), (3, .av (.own 3))], objs := [(1, .box [.val I, .val (.slice yQ2), .val yQ5]), (3, .arr I)] })]
def Zd_B3 (x : Q19) : Option (Q19 ⊕ ((Int × (List Q2) × (List (List Int)) × List Int × Unit) ⊕ Empty)) :=
 let (a,b,c,d,e,_) := x; cond (ltI e a) ((app d [e]).bind fun a1 => some (.inl (a,b,c,a1,(addI .i64 e 1),()))) (some (.inr (.inl (a,b,c,d,()))))
def Zd_L3 : Q19 → Option ((Int × (List Q2) × (List (List Int)) × List Int × Unit) ⊕ Empty) := loopFix Zd_B3
def Zd_A3 : Ann := { head := Zd_H3, exits := Zd_E3, fn := Zd_L3 }
def Zd_As : Anns := [(3, Zd_A3), (8, Zd_A8)]
def Zd (x : (Q9 × Unit)) : Option (Int × Unit) :=
 (Zd_L3 (x.1.1,x.1.2.1,x.1.2.2.1,[],0,())).bind (Sum.elim (fun z2 => (Zd_L8 (z2.1,z2.2.1,z2.2.2.1,z2.2.2.2.1,z2.1,0,())).bind (Sum.elim (fun z4 => some (z4.1,())) (fun _ => none))) (fun _ => none))
def Zd_c : Con := { ins := [(.rd, yQ8)], outs := [(true, I)], fn := Zd }
def Zd_C : Ctx := { tab := tab, con := fun | 72, _ => some Zar_c | _, _ => none, glob := glob, eqs := eqs, maps := maps }
theorem Zd_R8 (x : Zd_H8.ty.den) : round Zd_C Zd_As Zd_A8 (loopBody 8 (bodyOf Tryd.f60)) x = Zd_B8 x := by kernel_rfl
theorem Zd_R3 (x : Zd_H3.ty.den) : round Zd_C Zd_As Zd_A3 (loopBody 3 (bodyOf Tryd.f60)) x = Zd_B3 x := by kernel_rfl
theorem Zd_eq (x : (tupTy [yQ8]).den) : callFn Zd_C Zd_As (bodyOf Tryd.f60) [(.rd, yQ8)] [(.tmp 2, true, I)] x = Zd x := by kernel_rfl
def Zah_H5 : Shape := { env := [(1, .av (.ptr 1 0)), (3, .av (.val I)), (4, .av (.val I))], objs := [(1, .box [.val I, .val (.slice yQ2), .val yQ5])] }
def Zah_E5 : List (Ex × Shape) := [(.exit 0, { env := [(1, .av (.ptr 1 0)), (3, .av (.val I))], objs := [(1, .box [.val I, .val (.slice yQ2), .val yQ5])] })]
def Zah_B5 (x : Q17) : Option (Q17 ⊕ (Q12 ⊕ Empty)) :=
 let (a,b,c,d,e,_) := x; cond (ltI e a) ((getI c e).bind fun y1 => cond (eqI (y1.length : Nat) 0) (some (.inl (a,b,c,(addI .i64 d 1),(addI .i64 e 1),()))) (some (.inl (a,b,c,d,(addI .i64 e 1),())))) (some (.inr (.inl (a,b,c,d,()))))
def Zah_L5 : Q17 → Option (Q12 ⊕ Empty) := loopFix Zah_B5
def Zah_A5 : Ann := { head := Zah_H5, exits := Zah_E5, fn := Zah_L5 }
def Zah_As : Anns := [(5, Zah_A5)]
def Zah (x : (Q9 × Unit)) : Option (Int × Unit) :=
 let ((a,b,c,_),_) := x; (Zaa ((a,b,c,()),())).bind fun r1 => cond (!r1.1) (some ((-1),())) ((Zaf ((a,b,c,()),())).bind fun r2 => (Zah_L5 (a,b,c,(r2.1.length : Nat),0,())).bind (Sum.elim (fun z4 => (Zd ((z4.1,z4.2.1,z4.2.2.1,()),())).bind fun r5 => some ((subI .i64 r5.1 (quoI .i64 (addI .i64 (subI .i64 z4.1 (z4.2.1.length : Nat)) z4.2.2.2.1) 2)),())) (fun _ => none)))
def Zah_c : Con := { ins := [(.rd, yQ8)], outs := [(true, I)], fn := Zah }
def Zah_C : Ctx := { tab := tab, con := fun | 37, _ => some Zaf_c | 39, _ => some Zaa_c | 60, _ => some Zd_c | _, _ => none, glob := glob, eqs := eqs, maps := maps }
theorem Zah_R5 (x : Zah_H5.ty.den) : round Zah_C Zah_As Zah_A5 (loopBody 5 (bodyOf Tryd.f59)) x = Zah_B5 x := by kernel_rfl
theorem Zah_eq (x : (tupTy [yQ8]).den) : callFn Zah_C Zah_As (bodyOf Tryd.f59) [(.rd, yQ8)] [(.tmp 2, true, I)] x = Zah x := by kernel_rfl
def Zn_As : Anns := []
def Zn (x : (Q9 × Unit)) : Option (Bool × Unit) :=
 let ((a,b,c,_),_) := x; (Zah ((a,b,c,()),())).bind fun r1 => cond (eqI r1.1 0) ((Zd ((a,b,c,()),())).bind fun r2 => some ((eqI r2.1 1),())) (some (false,()))
def Zn_c : Con := { ins := [(.rd, yQ8)], outs := [(true, .bool)], fn := Zn }
def Zn_C : Ctx := { tab := tab, con := fun | 59, _ => some Zah_c | 60, _ => some Zd_c | _, _ => none, glob := glob, eqs := eqs, maps := maps }
theorem Zn_eq (x : (tupTy [yQ8]).den) : callFn Zn_C Zn_As (bodyOf Tryd.f40) [(.rd, yQ8)] [(.tmp 2, true, .bool)] x = Zn x := by kernel_rfl
def Zam_H6 : Shape := { env := [(1, .av (.ptr 1 0)), (3, .av (.val I)), (4, .av (.val I)), (5, .av (.val I))], objs := [(1, .box [.val I, .val (.slice yQ2), .val yQ5, .val (.slice I), .val (.slice .str), .val I])] }
def Zam_E6 : List (Ex × Shape) := [(.ret, { env := [(2, .av (.val .bool))], objs := [] }), (.exit 2, { env := [(1, .av (.ptr 1 0)), (3, .av (.val I)), (4, .av (.val I))], objs := [(1, .box [.val I, .val (.slice yQ2), .val yQ5, .val (.slice I), .val (.slice .str), .val I])] })]
def Zam_B6 (x : Q39) : Option (Q39 ⊕ ((Bool × Unit) ⊕ (Q34 ⊕ Empty))) :=
 let (a,b,c,d,e,f,g,h,i,_) := x; (getI c g).bind fun y1 => cond (ltI i (y1.length : Nat)) ((getI c g).bind fun y2 => (getI y2 i).bind fun y3 => (getI d y3).bind fun y4 => cond (ltI y4 1) (some (.inr (.inl (false,())))) (cond (gtI y4 4) (some (.inr (.inl (false,())))) (some (.inl (a,b,c,d,e,f,g,(addI .i64 h y4),(addI .i64 i 1),()))))) (some (.inr (.inr (.inl (a,b,c,d,e,f,g,h,())))))
def Zam_L6 : Q39 → Option ((Bool × Unit) ⊕ (Q34 ⊕ Empty)) := loopFix Zam_B6
def Zam_A6 : Ann := { head := Zam_H6, exits := Zam_E6, fn := Zam_L6 }
def Zam_H2 : Shape := { env := [(1, .av (.ptr 1 0)), (3, .av (.val I))], objs := [(1, .box [.val I, .val (.slice yQ2), .val yQ5, .val (.slice I), .val (.slice .str), .val I])] }
def Zam_E2 : List (Ex × Shape) := [(.ret, { env := [(2, .av (.val .bool))], objs := [] }), (.exit 0, { env := [], objs := [] })]
def Zam_B2 (x : Q30) : Option (Q30 ⊕ ((Bool × Unit) ⊕ (Unit ⊕ Empty))) :=
 let (a,b,c,d,e,f,g,_) := x; cond (ltI g a) ((Zam_L6 (a,b,c,d,e,f,g,0,0,())).bind (Sum.elim (fun z2 => some (.inr (.inl (z2.1,())))) (Sum.elim (fun (a_3,b_3,c_3,d_3,e_3,f_3,g_3,h_3,_) => cond (neI h_3 4) ((getI c_3 g_3).bind fun y4 => cond (gtI (y4.length : Nat) 0) (some (.inr (.inl (false,())))) (some (.inl (a_3,b_3,c_3,d_3,e_3,f_3,(addI .i64 g_3 1),())))) (some (.inl (a_3,b_3,c_3,d_3,e_3,f_3,(addI .i64 g_3 1),())))) (fun _ => none)))) (some (.inr (.inr (.inl ()))))
def Zam_L2 : Q30 → Option ((Bool × Unit) ⊕ (Unit ⊕ Empty)) := loopFix Zam_B2
def Zam_A2 : Ann := { head := Zam_H2, exits := Zam_E2, fn := Zam_L2 }
def Zam_As : Anns := [(2, Zam_A2), (6, Zam_A6)]
def Zam (x : (Q10 × Unit)) : Option (Bool × Unit) :=
 let (((a,b,c,_),d,e,f,_),_) := x; (Zam_L2 (a,b,c,d,e,f,0,())).bind (Sum.elim (fun z2 => some (z2.1,())) (Sum.elim (fun z3 => some (true,())) (fun _ => none)))
def Zam_c : Con := { ins := [(.rd, yQ11)], outs := [(true, .bool)], fn := Zam }
def Zam_C : Ctx := { tab := tab, con := fun _ _ => none, glob := glob, eqs := eqs, maps := maps }
theorem Zam_R6 (x : Zam_H6.ty.den) : round Zam_C Zam_As Zam_A6 (loopBody 6 (bodyOf Tryd.f41)) x = Zam_B6 x := by kernel_rfl
theorem Zam_R2 (x : Zam_H2.ty.den) : round Zam_C Zam_As Zam_A2 (loopBody 2 (bodyOf Tryd.f41)) x = Zam_B2 x := by kernel_rfl
theorem Zam_eq (x : (tupTy [yQ11]).den) : callFn Zam_C Zam_As (bodyOf Tryd.f41) [(.rd, yQ11)] [(.tmp 2, true, .bool)] x = Zam x := by kernel_rfl
def Zf_As : Anns := []
def Zf (x : (Int × Unit)) : Option (Int × Unit) :=
 cond (eqI x.1 76) (some (82,())) (cond (eqI x.1 82) (some (76,())) (some (x.1,())))
def Zf_c : Con := { ins := [(.rd, (.int .u8))], outs := [(true, (.int .u8))], fn := Zf }
def Zf_C : Ctx := { tab := tab, con := fun _ _ => none, glob := glob, eqs := eqs, maps := maps }
theorem Zf_eq (x : (tupTy [(.int .u8)]).den) : callFn Zf_C Zf_As (bodyOf Tryd.f73) [(.rd, (.int .u8))] [(.tmp 2, true, (.int .u8))] x = Zf x := by kernel_rfl
def Zk_H3 : Shape := { env := [(0, .av (.val .str)), (3, .av (.own 3)), (4, .av (.val I))], objs := [(3, .arr (.int .u8))] }
def Zk_E3 : List (Ex × Shape) := [(.exit 0, { env := [(3, .av (.own 3))], objs := [(3, .arr (.int .u8))] })]
def Zk_B3 (x : (List Int × ByteArray × Int × Unit)) : Option ((List Int × ByteArray × Int × Unit) ⊕ (Q1 ⊕ Empty)) :=
 let (a,b,c,_) := x; cond (geI c 0) ((getI b.data.toList c).bind fun c1 => (Zf ((c1.toNat : Int),())).bind fun r2 => (app a [r2.1]).bind fun a3 => some (.inl (a3,b,(subI .i64 c 1),()))) (some (.inr (.inl (a,()))))
def Zk_L3 : (List Int × ByteArray × Int × Unit) → Option (Q1 ⊕ Empty) := loopFix Zk_B3
def Zk_A3 : Ann := { head := Zk_H3, exits := Zk_E3, fn := Zk_L3 }
def Zk_As : Anns := [(3, Zk_A3)]
def Zk (x : Q4) : Option Q4 :=
 (Zk_L3 ([],x.1,(subI .i64 (x.1.size : Nat) 1),())).bind (Sum.elim (fun z2 => some ((ofBytes z2.1),())) (fun _ => none))
def Zk_c : Con := { ins := [(.rd, .str)], outs := [(true, .str)], fn := Zk }
def Zk_C : Ctx := { tab := tab, con := fun | 73, _ => some Zf_c | _, _ => none, glob := glob, eqs := eqs, maps := maps }
theorem Zk_R3 (x : Zk_H3.ty.den) : round Zk_C Zk_As Zk_A3 (loopBody 3 (bodyOf Tryd.f61)) x = Zk_B3 x := by kernel_rfl
theorem Zk_eq (x : (tupTy [.str]).den) : callFn Zk_C Zk_As (bodyOf Tryd.f61) [(.rd, .str)] [(.tmp 2, true, .str)] x = Zk x := by kernel_rfl
def Zaj_H7 : Shape := { env := [(1, .av (.ptr 1 0)), (3, .av (.val I)), (4, .av (.val I))], objs := [(1, .box [.val I, .val (.slice yQ2), .val yQ5, .val (.slice I), .val (.slice .str), .val I])] }
def Zaj_E7 : List (Ex × Shape) := [(.ret, { env := [(2, .av (.val .bool))], objs := [] }), (.exit 2, { env := [(1, .av (.ptr 1 0)), (3, .av (.val I))], objs := [(1, .box [.val I, .val (.slice yQ2), .val yQ5, .val (.slice I), .val (.slice .str), .val I])] })]
def Zaj_B7 (x : Q34) : Option (Q34 ⊕ ((Bool × Unit) ⊕ (Q30 ⊕ Empty))) :=
 let (a,b,c,d,e,f,g,h,_) := x; (getI e g).bind fun y1 => cond (ltI h (y1.size : Nat)) ((getI e g).bind fun y2 => (getI y2.data.toList h).bind fun c3 => cond (neI (c3.toNat : Int) 76) ((getI e g).bind fun y4 => (getI y4.data.toList h).bind fun c5 => cond (neI (c5.toNat : Int) 82) (some (.inr (.inl (false,())))) (some (.inl (a,b,c,d,e,f,g,(addI .i64 h 1),())))) (some (.inl (a,b,c,d,e,f,g,(addI .i64 h 1),())))) (some (.inr (.inr (.inl (a,b,c,d,e,f,g,())))))
def Zaj_L7 : Q34 → Option ((Bool × Unit) ⊕ (Q30 ⊕ Empty)) := loopFix Zaj_B7
def Zaj_A7 : Ann := { head := Zaj_H7, exits := Zaj_E7, fn := Zaj_L7 }
def Zaj_H2 : Shape := { env := [(1, .av (.ptr 1 0)), (3, .av (.val I))], objs := [(1, .box [.val I, .val (.slice yQ2), .val yQ5, .val (.slice I), .val (.slice .str), .val I])] }
def Zaj_E2 : List (Ex × Shape) := [(.ret, { env := [(2, .av (.val .bool))], objs := [] }), (.exit 0, { env := [], objs := [] })]
def Zaj_B2 (x : Q30) : Option (Q30 ⊕ ((Bool × Unit) ⊕ (Unit ⊕ Empty))) :=
 let (a,b,c,d,e,f,g,_) := x; cond (ltI g (e.length : Nat)) ((getI e g).bind fun y1 => cond (gtI (y1.size : Nat) 64) (some (.inr (.inl (false,())))) ((getI e (xorI .i64 g 1)).bind fun y2 => (getI e g).bind fun y3 => (Zk (y3,())).bind fun r4 => cond (neS y2 r4.1) (some (.inr (.inl (false,())))) ((Zaj_L7 (a,b,c,d,e,f,g,0,())).bind (Sum.elim (fun z6 => some (.inr (.inl (z6.1,())))) (Sum.elim (fun (a_7,b_7,c_7,d_7,e_7,f_7,g_7,_) => some (.inl (a_7,b_7,c_7,d_7,e_7,f_7,(addI .i64 g_7 1),()))) (fun _ => none)))))) (some (.inr (.inr (.inl ()))))
def Zaj_L2 : Q30 → Option ((Bool × Unit) ⊕ (Unit ⊕ Empty)) := loopFix Zaj_B2
def Zaj_A2 : Ann := { head := Zaj_H2, exits := Zaj_E2, fn := Zaj_L2 }
def Zaj_As : Anns := [(2, Zaj_A2), (7, Zaj_A7)]
def Zaj (x : (Q10 × Unit)) : Option (Bool × Unit) :=
 let (((a,b,c,_),d,e,f,_),_) := x; (Zaj_L2 (a,b,c,d,e,f,0,())).bind (Sum.elim (fun z2 => some (z2.1,())) (Sum.elim (fun z3 => some (true,())) (fun _ => none)))
def Zaj_c : Con := { ins := [(.rd, yQ11)], outs := [(true, .bool)], fn := Zaj }
def Zaj_C : Ctx := { tab := tab, con := fun | 61, _ => some Zk_c | _, _ => none, glob := glob, eqs := eqs, maps := maps }
theorem Zaj_R7 (x : Zaj_H7.ty.den) : round Zaj_C Zaj_As Zaj_A7 (loopBody 7 (bodyOf Tryd.f42)) x = Zaj_B7 x := by kernel_rfl
theorem Zaj_R2 (x : Zaj_H2.ty.den) : round Zaj_C Zaj_As Zaj_A2 (loopBody 2 (bodyOf Tryd.f42)) x = Zaj_B2 x := by kernel_rfl
theorem Zaj_eq (x : (tupTy [yQ11]).den) : callFn Zaj_C Zaj_As (bodyOf Tryd.f42) [(.rd, yQ11)] [(.tmp 2, true, .bool)] x = Zaj x := by kernel_rfl
def Zav_H2 : Shape := { env := [(0, .av (.val (.slice I))), (1, .av (.val I)), (5, .av (.val I))], objs := [] }
def Zav_E2 : List (Ex × Shape) := [(.ret, { env := [(4, .av (.val .bool))], objs := [] }), (.exit 0, { env := [], objs := [] })]
def Zav_B2 (x : Q7) : Option (Q7 ⊕ ((Bool × Unit) ⊕ (Unit ⊕ Empty))) :=
 let (a,b,c,_) := x; cond (ltI c (a.length : Nat)) ((getI a c).bind fun y1 => cond (eqI y1 b) (some (.inr (.inl (true,())))) (some (.inl (a,b,(addI .i64 c 1),())))) (some (.inr (.inr (.inl ()))))
def Zav_L2 : Q7 → Option ((Bool × Unit) ⊕ (Unit ⊕ Empty)) := loopFix Zav_B2
def Zav_A2 : Ann := { head := Zav_H2, exits := Zav_E2, fn := Zav_L2 }
def Zav_As : Anns := [(2, Zav_A2)]
def Zav (x : Q5) : Option (Bool × Unit) :=
 (Zav_L2 (x.1,x.2.1,0,())).bind (Sum.elim (fun z2 => some (z2.1,())) (Sum.elim (fun z3 => some (false,())) (fun _ => none)))
def Zav_c : Con := { ins := [(.rd, (.slice I)), (.rd, I)], outs := [(true, .bool)], fn := Zav }
def Zav_C : Ctx := { tab := tab, con := fun _ _ => none, glob := glob, eqs := eqs, maps := maps }
theorem Zav_R2 (x : Zav_H2.ty.den) : round Zav_C Zav_As Zav_A2 (loopBody 2 (bodyOf Tryd.f43)) x = Zav_B2 x := by kernel_rfl
theorem Zav_eq (x : (tupTy [(.slice I), I]).den) : callFn Zav_C Zav_As (bodyOf Tryd.f43) [(.rd, (.slice I)), (.rd, I)] [(.tmp 4, true, .bool)] x = Zav x := by kernel_rfl
def Zaq_H3 : Shape := { env := [(0, .av (.val .str)), (3, .av (.val I)), (4, .av (.val I))], objs := [] }
def Zaq_E3 : List (Ex × Shape) := [(.exit 0, { env := [(3, .av (.val I))], objs := [] })]
def Zaq_B3 (x : (ByteArray × Int × Int × Unit)) : Option ((ByteArray × Int × Int × Unit) ⊕ ((Int × Unit) ⊕ Empty)) :=
 let (a,b,c,_) := x; cond (ltI c (a.size : Nat)) ((getI a.data.toList c).bind fun c1 => cond (eqI (c1.toNat : Int) 76) ((getI a.data.toList c).bind fun c2 => cond (eqI (c2.toNat : Int) 82) (some (.inl (a,(subI .i64 (addI .i64 b 1) 1),(addI .i64 c 1),()))) (some (.inl (a,(addI .i64 b 1),(addI .i64 c 1),())))) ((getI a.data.toList c).bind fun c3 => cond (eqI (c3.toNat : Int) 82) (some (.inl (a,(subI .i64 b 1),(addI .i64 c 1),()))) (some (.inl (a,b,(addI .i64 c 1),()))))) (some (.inr (.inl (b,()))))
def Zaq_L3 : (ByteArray × Int × Int × Unit) → Option ((Int × Unit) ⊕ Empty) := loopFix Zaq_B3
def Zaq_A3 : Ann := { head := Zaq_H3, exits := Zaq_E3, fn := Zaq_L3 }
def Zaq_As : Anns := [(3, Zaq_A3)]
def Zaq (x : Q4) : Option (Int × Unit) :=
 (Zaq_L3 (x.1,0,0,())).bind (Sum.elim (fun z2 => some (z2.1,())) (fun _ => none))
def Zaq_c : Con := { ins := [(.rd, .str)], outs := [(true, I)], fn := Zaq }
def Zaq_C : Ctx := { tab := tab, con := fun _ _ => none, glob := glob, eqs := eqs, maps := maps }
theorem Zaq_R3 (x : Zaq_H3.ty.den) : round Zaq_C Zaq_As Zaq_A3 (loopBody 3 (bodyOf Tryd.f62)) x = Zaq_B3 x := by kernel_rfl
theorem Zaq_eq (x : (tupTy [.str]).den) : callFn Zaq_C Zaq_As (bodyOf Tryd.f62) [(.rd, .str)] [(.tmp 2, true, I)] x = Zaq x := by kernel_rfl
def Zu_H3 : Shape := { env := [(1, .av (.val (.slice I))), (2, .av (.ptr 2 0)), (5, .av (.val I)), (6, .av (.val I))], objs := [(2, .box [.val I, .val (.slice yQ2), .val yQ5, .val (.slice I), .val (.slice .str), .val I])] }
def Zu_E3 : List (Ex × Shape) := [(.exit 0, { env := [(5, .av (.val I))], objs := [] })]
def Zu_B3 (x : Q43) : Option (Q43 ⊕ ((Int × Unit) ⊕ Empty)) :=
 let (a,b,c,d,e,f,g,h,i,_) := x; cond (ltI i (g.length : Nat)) ((getI g i).bind fun y1 => (getI e y1).bind fun y2 => (Zaq (y2,())).bind fun r3 => (getI g i).bind fun y4 => (getI d (xorI .i64 y4 1)).bind fun y5 => some (.inl (a,b,c,d,e,f,g,(subI .i64 (addI .i64 (addI .i64 h r3.1) 2) y5),(addI .i64 i 1),()))) (some (.inr (.inl (h,()))))
def Zu_L3 : Q43 → Option ((Int × Unit) ⊕ Empty) := loopFix Zu_B3
def Zu_A3 : Ann := { head := Zu_H3, exits := Zu_E3, fn := Zu_L3 }
def Zu_As : Anns := [(3, Zu_A3)]
def Zu (x : (Q10 × List Int × Unit)) : Option (Int × Unit) :=
 let (((a,b,c,_),d,e,f,_),g,_) := x; (Zu_L3 (a,b,c,d,e,f,g,0,0,())).bind (Sum.elim (fun z2 => some (z2.1,())) (fun _ => none))
def Zu_c : Con := { ins := [(.rd, yQ11), (.rd, (.slice I))], outs := [(true, I)], fn := Zu }
def Zu_C : Ctx := { tab := tab, con := fun | 62, _ => some Zaq_c | _, _ => none, glob := glob, eqs := eqs, maps := maps }
theorem Zu_R3 (x : Zu_H3.ty.den) : round Zu_C Zu_As Zu_A3 (loopBody 3 (bodyOf Tryd.f44)) x = Zu_B3 x := by kernel_rfl
theorem Zu_eq (x : (tupTy [yQ11, (.slice I)]).den) : callFn Zu_C Zu_As (bodyOf Tryd.f44) [(.rd, yQ11), (.rd, (.slice I))] [(.tmp 4, true, I)] x = Zu x := by kernel_rfl
def Zx_H8 : Shape := { env := [(1, .av (.ptr 1 0)), (4, .av (.own 4)), (5, .av (.val I))], objs := [(1, .box [.val I, .val (.slice yQ2), .val yQ5, .val (.slice I), .val (.slice .str), .val I]), (4, .arr (.slice I))] }
def Zx_E8 : List (Ex × Shape) := [(.ret, { env := [(2, .av (.val I))], objs := [] }), (.exit 0, { env := [], objs := [] })]
def Zx_B8 (x : Q47) : Option (Q47 ⊕ ((Int × Unit) ⊕ (Unit ⊕ Empty))) :=
 let (a,b,c,d,e,f,g,h,_) := x; cond (ltI h (g.length : Nat)) ((idxI g.length h).bind fun j1 => (g[j1]?).bind fun y2 => (Zav (y2,f,())).bind fun r3 => cond r3.1 ((idxI g.length h).bind fun j4 => (g[j4]?).bind fun y5 => (Zu (((a,b,c,()),d,e,f,()),y5,())).bind fun r6 => cond (neI r6.1 (-4)) (some (.inr (.inl (13,())))) (some (.inl (a,b,c,d,e,f,g,(addI .i64 h 1),())))) ((idxI g.length h).bind fun j7 => (g[j7]?).bind fun y8 => (Zu (((a,b,c,()),d,e,f,()),y8,())).bind fun r9 => cond (neI r9.1 4) (some (.inr (.inl (13,())))) (some (.inl (a,b,c,d,e,f,g,(addI .i64 h 1),()))))) (some (.inr (.inr (.inl ()))))
def Zx_L8 : Q47 → Option ((Int × Unit) ⊕ (Unit ⊕ Empty)) := loopFix Zx_B8
def Zx_A8 : Ann := { head := Zx_H8, exits := Zx_E8, fn := Zx_L8 }
def Zx_As : Anns := [(8, Zx_A8)]
def Zx (x : (Q10 × Unit)) : Option (Int × Unit) :=
 let (((a,b,c,_),d,e,f,_),_) := x; let t_0 := (Zaf ((a,b,c,()),())).bind fun r5 => (Zx_L8 (a,b,c,d,e,f,r5.1,0,())).bind (Sum.elim (fun z7 => some (z7.1,())) (Sum.elim (fun z8 => some (0,())) (fun _ => none))); (Zaa ((a,b,c,()),())).bind fun r1 => cond (!r1.1) (some (13,())) (cond (ltI a 1) (some (13,())) ((Zn ((a,b,c,()),())).bind fun r2 => cond (!r2.1) (some (13,())) (cond (neI (d.length : Nat) (mulI .i64 2 (b.length : Nat))) (some (13,())) (cond (neI (e.length : Nat) (mulI .i64 2 (b.length : Nat))) (some (13,())) ((Zam (((a,b,c,()),d,e,f,()),())).bind fun r3 => cond (!r3.1) (some (13,())) ((Zaj (((a,b,c,()),d,e,f,()),())).bind fun r4 => cond (!r4.1) (some (13,())) (cond (ltI f 0) (some (13,())) (cond (gtI f 0) (cond (geI f (mulI .i64 2 (b.length : Nat))) (some (13,())) t_0) t_0))))))))
def Zx_c : Con := { ins := [(.rd, yQ11)], outs := [(true, I)], fn := Zx }
def Zx_C : Ctx := { tab := tab, con := fun | 37, _ => some Zaf_c | 39, _ => some Zaa_c | 40, _ => some Zn_c | 41, _ => some Zam_c | 42, _ => some Zaj_c | 43, _ => some Zav_c | 44, _ => some Zu_c | _, _ => none, glob := glob, eqs := eqs, maps := maps }
theorem Zx_R8 (x : Zx_H8.ty.den) : round Zx_C Zx_As Zx_A8 (loopBody 8 (bodyOf Tryd.f19)) x = Zx_B8 x := by kernel_rfl
theorem Zx_eq (x : (tupTy [yQ11]).den) : callFn Zx_C Zx_As (bodyOf Tryd.f19) [(.rd, yQ11)] [(.tmp 2, true, I)] x = Zx x := by kernel_rfl
def Zy_H5 : Shape := { env := [(1, .av (.ptr 1 0)), (3, .av (.val I)), (4, .av (.val I))], objs := [(1, .box [.val I, .val (.slice yQ2), .val yQ5, .val (.slice I), .val (.slice .str), .val I])] }
def Zy_E5 : List (Ex × Shape) := [(.exit 0, { env := [(3, .av (.val I))], objs := [] })]
def Zy_B5 (x : Q34) : Option (Q34 ⊕ ((Int × Unit) ⊕ Empty)) :=
 let (a,b,c,d,e,f,g,h,_) := x; cond (ltI h (e.length : Nat)) ((getI e h).bind fun y1 => some (.inl (a,b,c,d,e,f,(addI .i64 g (y1.size : Nat)),(addI .i64 h 2),()))) (some (.inr (.inl (g,()))))
def Zy_L5 : Q34 → Option ((Int × Unit) ⊕ Empty) := loopFix Zy_B5
def Zy_A5 : Ann := { head := Zy_H5, exits := Zy_E5, fn := Zy_L5 }
def Zy_As : Anns := [(5, Zy_A5)]
def Zy (x : (Q10 × Unit)) : Option (Int × Unit) :=
 let (((a,b,c,_),d,e,f,_),_) := x; (Zx (((a,b,c,()),d,e,f,()),())).bind fun r1 => cond (neI r1.1 0) (some (0,())) ((Zy_L5 (a,b,c,d,e,f,0,0,())).bind (Sum.elim (fun z3 => some (z3.1,())) (fun _ => none)))
def Zy_c : Con := { ins := [(.rd, yQ11)], outs := [(true, I)], fn := Zy }
def Zy_C : Ctx := { tab := tab, con := fun | 19, _ => some Zx_c | _, _ => none, glob := glob, eqs := eqs, maps := maps }
theorem Zy_R5 (x : Zy_H5.ty.den) : round Zy_C Zy_As Zy_A5 (loopBody 5 (bodyOf Tryd.f20)) x = Zy_B5 x := by kernel_rfl
theorem Zy_eq (x : (tupTy [yQ11]).den) : callFn Zy_C Zy_As (bodyOf Tryd.f20) [(.rd, yQ11)] [(.tmp 2, true, I)] x = Zy x := by kernel_rfl
def Zh_As : Anns := []
def Zh (x : (Q10 × Unit)) : Option (Bool × Unit) :=
 let (((a,b,c,_),d,e,f,_),_) := x; (Zx (((a,b,c,()),d,e,f,()),())).bind fun r1 => cond (eqI r1.1 0) ((Zy (((a,b,c,()),d,e,f,()),())).bind fun r2 => some ((eqI r2.1 0),())) (some (false,()))
def Zh_c : Con := { ins := [(.rd, yQ11)], outs := [(true, .bool)], fn := Zh }
def Zh_C : Ctx := { tab := tab, con := fun | 19, _ => some Zx_c | 20, _ => some Zy_c | _, _ => none, glob := glob, eqs := eqs, maps := maps }
theorem Zh_eq (x : (tupTy [yQ11]).den) : callFn Zh_C Zh_As (bodyOf Tryd.f24) [(.rd, yQ11)] [(.tmp 2, true, .bool)] x = Zh x := by kernel_rfl
def Ze_H19 : Shape := { env := [(1, .av (.ptr 1 0)), (5, .av (.own 5)), (7, .av (.val .bool)), (8, .av (.val I)), (9, .av (.val (.slice I))), (10, .av (.val I))], objs := [(1, .box [.val I, .val (.slice yQ2), .val yQ5, .val (.slice I), .val (.slice .str), .val I]), (5, .arr I)] }
def Ze_E19 : List (Ex × Shape) := [(.exit 6, { env := [(1, .av (.ptr 1 0)), (5, .av (.own 5)), (7, .av (.val .bool)), (8, .av (.val I))], objs := [(1, .box [.val I, .val (.slice yQ2), .val yQ5, .val (.slice I), .val (.slice .str), .val I]), (5, .arr I)] })]
def Ze_B19 (x : Q59) : Option (Q59 ⊕ (Q45 ⊕ Empty)) :=
 let (a,b,c,d,e,f,g,h,i,k,l,_) := x; cond (ltI l (k.length : Nat)) ((getI k l).bind fun y1 => let t_0 := (idxI g.length y1).bind fun j20 => (g[j20]?).bind fun y21 => cond (geI y21 0) ((idxI g.length (xorI .i64 y1 1)).bind fun j22 => (g[j22]?).bind fun y23 => cond (ltI y23 0) ((idxI g.length y1).bind fun j24 => (g[j24]?).bind fun y25 => (idxI g.length (xorI .i64 y1 1)).bind fun j26 => (g[j26]?).bind fun y27 => some (.inl (a,b,c,d,e,f,(g.set j26 (remI (addI .i64 y25 2) 4)),true,i,k,(addI .i64 l 1),()))) (some (.inl (a,b,c,d,e,f,g,h,i,k,(addI .i64 l 1),())))) (some (.inl (a,b,c,d,e,f,g,h,i,k,(addI .i64 l 1),()))); cond (eqI (k.length : Nat) 0) none ((getI k (remI (addI .i64 l 1) (k.length : Nat))).bind fun y2 => (idxI g.length y1).bind fun j3 => (g[j3]?).bind fun y4 => cond (geI y4 0) ((idxI g.length y2).bind fun j5 => (g[j5]?).bind fun y6 => cond (ltI y6 0) ((idxI g.length y1).bind fun j7 => (g[j7]?).bind fun y8 => (getI d y1).bind fun y9 => (idxI g.length y2).bind fun j10 => (g[j10]?).bind fun y11 => (idxI (g.set j10 (remI (addI .i64 y8 y9) 4)).length y1).bind fun j12 => ((g.set j10 (remI (addI .i64 y8 y9) 4))[j12]?).bind fun y13 => cond (geI y13 0) ((idxI (g.set j10 (remI (addI .i64 y8 y9) 4)).length (xorI .i64 y1 1)).bind fun j14 => ((g.set j10 (remI (addI .i64 y8 y9) 4))[j14]?).bind fun y15 => cond (ltI y15 0) ((idxI (g.set j10 (remI (addI .i64 y8 y9) 4)).length y1).bind fun j16 => ((g.set j10 (remI (addI .i64 y8 y9) 4))[j16]?).bind fun y17 => (idxI (g.set j10 (remI (addI .i64 y8 y9) 4)).length (xorI .i64 y1 1)).bind fun j18 => ((g.set j10 (remI (addI .i64 y8 y9) 4))[j18]?).bind fun y19 => some (.inl (a,b,c,d,e,f,((g.set j10 (remI (addI .i64 y8 y9) 4)).set j18 (remI (addI .i64 y17 2) 4)),true,i,k,(addI .i64 l 1),()))) (some (.inl (a,b,c,d,e,f,(g.set j10 (remI (addI .i64 y8 y9) 4)),true,i,k,(addI .i64 l 1),())))) (some (.inl (a,b,c,d,e,f,(g.set j10 (remI (addI .i64 y8 y9) 4)),true,i,k,(addI .i64 l 1),())))) t_0) t_0)) (some (.inr (.inl (a,b,c,d,e,f,g,h,i,()))))
def Ze_L19 : Q59 → Option (Q45 ⊕ Empty) := loopFix Ze_B19
def Ze_A19 : Ann := { head := Ze_H19, exits := Ze_E19, fn := Ze_L19 }
def Ze_H15 : Shape := { env := [(1, .av (.ptr 1 0)), (5, .av (.own 5)), (7, .av (.val .bool)), (8, .av (.val I))], objs := [(1, .box [.val I, .val (.slice yQ2), .val yQ5, .val (.slice I), .val (.slice .str), .val I]), (5, .arr I)] }
def Ze_E15 : List (Ex × Shape) := [(.exit 4, { env := [(1, .av (.ptr 1 0)), (5, .av (.own 5)), (7, .av (.val .bool))], objs := [(1, .box [.val I, .val (.slice yQ2), .val yQ5, .val (.slice I), .val (.slice .str), .val I]), (5, .arr I)] })]
def Ze_B15 (x : Q45) : Option (Q45 ⊕ (Q40 ⊕ Empty)) :=
 let (a,b,c,d,e,f,g,h,i,_) := x; cond (ltI i a) ((getI c i).bind fun y1 => (Ze_L19 (a,b,c,d,e,f,g,h,i,y1,0,())).bind (Sum.elim (fun (a_3,b_3,c_3,d_3,e_3,f_3,g_3,h_3,i_3,_) => some (.inl (a_3,b_3,c_3,d_3,e_3,f_3,g_3,h_3,(addI .i64 i_3 1),()))) (fun _ => none))) (some (.inr (.inl (a,b,c,d,e,f,g,h,()))))
def Ze_L15 : Q45 → Option (Q40 ⊕ Empty) := loopFix Ze_B15
def Ze_A15 : Ann := { head := Ze_H15, exits := Ze_E15, fn := Ze_L15 }
def Ze_H12 : Shape := { env := [(1, .av (.ptr 1 0)), (5, .av (.own 5)), (7, .av (.val .bool))], objs := [(1, .box [.val I, .val (.slice yQ2), .val yQ5, .val (.slice I), .val (.slice .str), .val I]), (5, .arr I)] }
def Ze_E12 : List (Ex × Shape) := [(.exit 2, { env := [(5, .av (.own 5))], objs := [(5, .arr I)] })]
def Ze_B12 (x : Q40) : Option (Q40 ⊕ (Q1 ⊕ Empty)) :=
 let (a,b,c,d,e,f,g,h,_) := x; cond h ((Ze_L15 (a,b,c,d,e,f,g,false,0,())).bind (Sum.elim (fun (a_2,b_2,c_2,d_2,e_2,f_2,g_2,h_2,_) => some (.inl (a_2,b_2,c_2,d_2,e_2,f_2,g_2,h_2,()))) (fun _ => none))) (some (.inr (.inl (g,()))))
def Ze_L12 : Q40 → Option (Q1 ⊕ Empty) := loopFix Ze_B12
def Ze_A12 : Ann := { head := Ze_H12, exits := Ze_E12, fn := Ze_L12 }
def Ze_H6 : Shape := { env := [(1, .av (.ptr 1 0)), (4, .av (.val I)), (5, .av (.own 5)), (6, .av (.val I))], objs := [(1, .box [.val I, .val (.slice yQ2), .val yQ5, .val (.slice I), .val (.slice .str), .val I]), (5, .arr I)] }
def Ze_E6 : List (Ex × Shape) := [(.exit 0, { env := [(1, .av (.ptr 1 0)), (4, .av (.val I)), (5, .av (.own 5))], objs := [(1, .box [.val I, .val (.slice yQ2), .val yQ5, .val (.slice I), .val (.slice .str), .val I]), (5, .arr I)] })]
def Ze_B6 (x : Q43) : Option (Q43 ⊕ (Q37 ⊕ Empty)) :=
 let (a,b,c,d,e,f,g,h,i,_) := x; cond (ltI i h) ((idxI g.length i).bind fun j1 => (g[j1]?).bind fun y2 => some (.inl (a,b,c,d,e,f,(g.set j1 (-1)),h,(addI .i64 i 1),()))) (some (.inr (.inl (a,b,c,d,e,f,g,h,()))))
def Ze_L6 : Q43 → Option (Q37 ⊕ Empty) := loopFix Ze_B6
def Ze_A6 : Ann := { head := Ze_H6, exits := Ze_E6, fn := Ze_L6 }
def Ze_As : Anns := [(6, Ze_A6), (12, Ze_A12), (15, Ze_A15), (19, Ze_A19)]
def Ze (x : (Q10 × Unit)) : Option Q5 :=
 let (((a,b,c,_),d,e,f,_),_) := x; (Zh (((a,b,c,()),d,e,f,()),())).bind fun r1 => cond (!r1.1) (some ([],13,())) ((makeL I (mulI .i64 2 (b.length : Nat)) (mulI .i64 2 (b.length : Nat))).bind fun m2 => (Ze_L6 (a,b,c,d,e,f,m2,(mulI .i64 2 (b.length : Nat)),0,())).bind (Sum.elim (fun (a_4,b_4,c_4,d_4,e_4,f_4,g_4,h_4,_) => cond (gtI h_4 0) ((idxI g_4.length 0).bind fun j5 => (g_4[j5]?).bind fun y6 => (Ze_L12 (a_4,b_4,c_4,d_4,e_4,f_4,(g_4.set j5 1),true,())).bind (Sum.elim (fun z8 => some (z8.1,0,())) (fun _ => none))) ((Ze_L12 (a_4,b_4,c_4,d_4,e_4,f_4,g_4,true,())).bind (Sum.elim (fun z10 => some (z10.1,0,())) (fun _ => none)))) (fun _ => none)))
def Ze_c : Con := { ins := [(.rd, yQ11)], outs := [(true, (.slice I)), (true, I)], fn := Ze }
def Ze_C : Ctx := { tab := tab, con := fun | 24, _ => some Zh_c | _, _ => none, glob := glob, eqs := eqs, maps := maps }
theorem Ze_R19 (x : Ze_H19.ty.den) : round Ze_C Ze_As Ze_A19 (loopBody 19 (bodyOf Tryd.f11)) x = Ze_B19 x := by kernel_rfl
theorem Ze_R15 (x : Ze_H15.ty.den) : round Ze_C Ze_As Ze_A15 (loopBody 15 (bodyOf Tryd.f11)) x = Ze_B15 x := by kernel_rfl
theorem Ze_R12 (x : Ze_H12.ty.den) : round Ze_C Ze_As Ze_A12 (loopBody 12 (bodyOf Tryd.f11)) x = Ze_B12 x := by kernel_rfl
theorem Ze_R6 (x : Ze_H6.ty.den) : round Ze_C Ze_As Ze_A6 (loopBody 6 (bodyOf Tryd.f11)) x = Ze_B6 x := by kernel_rfl
theorem Ze_eq (x : (tupTy [yQ11]).den) : callFn Ze_C Ze_As (bodyOf Tryd.f11) [(.rd, yQ11)] [(.tmp 2, true, (.slice I)), (.tmp 3, true, I)] x = Ze x := by kernel_rfl
def Za_As : Anns := []
def Za (x : (Q10 × Unit)) : Option (Bool × Unit) :=
 let (((a,b,c,_),d,e,f,_),_) := x; (Zae (((a,b,c,()),d,e,f,()),())).bind fun r1 => cond (!r1.1) ((Zt ()).bind fun r2 => some (r2.1,())) ((Zs (((a,b,c,()),d,e,f,()),())).bind fun r3 => (Ze (((a,b,c,()),d,e,f,()),())).bind fun r4 => cond (eqI r3.2.1 r4.2.1) ((Zg (r3.1,r4.1,())).bind fun r5 => cond r5.1 ((Zt ()).bind fun r6 => some (r6.1,())) (some (false,()))) (some (false,())))
def Za_c : Con := { ins := [(.rd, yQ11)], outs := [(true, .bool)], fn := Za }
def Za_C : Ctx := { tab := tab, con := fun | 8, _ => some Zae_c | 9, _ => some Zt_c | 10, _ => some Zs_c | 11, _ => some Ze_c | 12, _ => some Zg_c | _, _ => none, glob := glob, eqs := eqs, maps := maps }
def Zag_As : Anns := []
def Zag (x : (Q2 × Unit)) : Option (Bool × Unit) :=
 let ((a,b,_),_) := x; cond (geI a (-268435456)) (cond (leI a 268435456) (cond (geI b (-268435456)) (some ((leI b 268435456),())) (some (false,()))) (some (false,()))) (some (false,()))
def Zag_c : Con := { ins := [(.rd, yQ2)], outs := [(true, .bool)], fn := Zag }
def Zag_C : Ctx := { tab := tab, con := fun _ _ => none, glob := glob, eqs := eqs, maps := maps }
theorem Zag_eq (x : (tupTy [yQ2]).den) : callFn Zag_C Zag_As (bodyOf Tryd.f33) [(.rd, yQ2)] [(.tmp 2, true, .bool)] x = Zag x := by kernel_rfl
def Zat_As : Anns := []
def Zat (x : (Q9 × Int × Unit)) : Option (Int × Unit) :=
 let ((a,b,c,_),d,_) := x; (Zaa ((a,b,c,()),())).bind fun r1 => cond (!r1.1) (some ((-1),())) (cond (ltI d 0) (some ((-1),())) (cond (geI d (mulI .i64 2 (b.length : Nat))) (some ((-1),())) ((Zac ((a,b,c,()),())).bind fun r2 => (idxI r2.1.length d).bind fun j3 => (r2.1[j3]?).bind fun y4 => some (y4,()))))
def Zat_c : Con := { ins := [(.rd, yQ8), (.rd, I)], outs := [(true, I)], fn := Zat }
def Zat_C : Ctx := { tab := tab, con := fun | 39, _ => some Zaa_c | 54, _ => some Zac_c | _, _ => none, glob := glob, eqs := eqs, maps := maps }
theorem Zat_eq (x : (tupTy [yQ8, I]).den) : callFn Zat_C Zat_As (bodyOf Tryd.f35) [(.rd, yQ8), (.rd, I)] [(.tmp 4, true, I)] x = Zat x := by kernel_rfl
def Zp_As : Anns := []
def Zp (x : (Q2 × Q2 × Int × Unit)) : Option (Bool × Unit) :=
 let ((a,b,_),(c,d,_),e,_) := x; cond (eqI e 0) (cond (eqI a c) (some ((ltI d b),())) (some (false,()))) (cond (eqI e 1) (cond (eqI b d) (some ((gtI c a),())) (some (false,()))) (cond (eqI e 2) (cond (eqI a c) (some ((gtI d b),())) (some (false,()))) (cond (eqI b d) (some ((ltI c a),())) (some (false,())))))
def Zp_c : Con := { ins := [(.rd, yQ2), (.rd, yQ2), (.rd, I)], outs := [(true, .bool)], fn := Zp }
def Zp_C : Ctx := { tab := tab, con := fun _ _ => none, glob := glob, eqs := eqs, maps := maps }
theorem Zp_eq (x : (tupTy [yQ2, yQ2, I]).den) : callFn Zp_C Zp_As (bodyOf Tryd.f34) [(.rd, yQ2), (.rd, yQ2), (.rd, I)] [(.tmp 6, true, .bool)] x = Zp x := by kernel_rfl
def Zw_As : Anns := []
def Zw (x : (Q3 × Unit)) : Option (Bool × Unit) :=
 let (((a,b,_),(c,d,_),_),_) := x; (Zag ((a,b,()),())).bind fun r1 => cond r1.1 ((Zag ((c,d,()),())).bind fun r2 => some (r2.1,())) (some (false,()))
def Zw_c : Con := { ins := [(.rd, yQ4)], outs := [(true, .bool)], fn := Zw }
def Zw_C : Ctx := { tab := tab, con := fun | 33, _ => some Zag_c | _, _ => none, glob := glob, eqs := eqs, maps := maps }
theorem Zw_eq (x : (tupTy [yQ4]).den) : callFn Zw_C Zw_As (bodyOf Tryd.f70) [(.rd, yQ4)] [(.tmp 2, true, .bool)] x = Zw x := by kernel_rfl
def Zao_As : Anns := []
def Zao (x : (Int × Unit)) : Option (Int × Unit) :=
 cond (ltI x.1 0) (some ((-1),())) (cond (gtI x.1 0) (some (1,())) (some (0,())))
def Zao_c : Con := { ins := [(.rd, I)], outs := [(true, I)], fn := Zao }
def Zao_C : Ctx := { tab := tab, con := fun _ _ => none, glob := glob, eqs := eqs, maps := maps }
theorem Zao_eq (x : (tupTy [I]).den) : callFn Zao_C Zao_As (bodyOf Tryd.f83) [(.rd, I)] [(.tmp 2, true, I)] x = Zao x := by kernel_rfl
def Zo_As : Anns := []
def Zo (x : (Q2 × Q2 × Q2 × Unit)) : Option (Int × Unit) :=
 let ((a,b,_),(c,d,_),(e,f,_),_) := x; (Zag ((a,b,()),())).bind fun r1 => cond (!r1.1) (some (0,())) ((Zag ((c,d,()),())).bind fun r2 => cond (!r2.1) (some (0,())) ((Zag ((e,f,()),())).bind fun r3 => cond (!r3.1) (some (0,())) ((Zao ((subI .i64 (mulI .i64 (subI .i64 c a) (subI .i64 f b)) (mulI .i64 (subI .i64 d b) (subI .i64 e a))),())).bind fun r4 => some (r4.1,()))))
def Zo_c : Con := { ins := [(.rd, yQ2), (.rd, yQ2), (.rd, yQ2)], outs := [(true, I)], fn := Zo }
def Zo_C : Ctx := { tab := tab, con := fun | 33, _ => some Zag_c | 83, _ => some Zao_c | _, _ => none, glob := glob, eqs := eqs, maps := maps }
theorem Zo_eq (x : (tupTy [yQ2, yQ2, yQ2]).den) : callFn Zo_C Zo_As (bodyOf Tryd.f71) [(.rd, yQ2), (.rd, yQ2), (.rd, yQ2)] [(.tmp 6, true, I)] x = Zo x := by kernel_rfl
def Zai_As : Anns := []
def Zai (x : (Q3 × Q3 × Unit)) : Option (Bool × Unit) :=
 let (((a,b,_),(c,d,_),_),((e,f,_),(g,h,_),_),_) := x; (Zw (((a,b,()),(c,d,()),()),())).bind fun r1 => cond (!r1.1) (some (false,())) ((Zw (((e,f,()),(g,h,()),()),())).bind fun r2 => cond (!r2.1) (some (false,())) ((Zo ((a,b,()),(c,d,()),(e,f,()),())).bind fun r3 => (Zo ((a,b,()),(c,d,()),(g,h,()),())).bind fun r4 => cond (ltI (mulI .i64 r3.1 r4.1) 0) ((Zo ((e,f,()),(g,h,()),(a,b,()),())).bind fun r5 => (Zo ((e,f,()),(g,h,()),(c,d,()),())).bind fun r6 => some ((ltI (mulI .i64 r5.1 r6.1) 0),())) (some (false,()))))
def Zai_c : Con := { ins := [(.rd, yQ4), (.rd, yQ4)], outs := [(true, .bool)], fn := Zai }
def Zai_C : Ctx := { tab := tab, con := fun | 70, _ => some Zw_c | 71, _ => some Zo_c | _, _ => none, glob := glob, eqs := eqs, maps := maps }
theorem Zai_eq (x : (tupTy [yQ4, yQ4]).den) : callFn Zai_C Zai_As (bodyOf Tryd.f69) [(.rd, yQ4), (.rd, yQ4)] [(.tmp 4, true, .bool)] x = Zai x := by kernel_rfl
def Zbb_As : Anns := []
def Zbb (x : (Q2 × Q3 × Unit)) : Option (Bool × Unit) :=
 let ((a,b,_),((c,d,_),(e,f,_),_),_) := x; (Zag ((a,b,()),())).bind fun r1 => cond (!r1.1) (some (false,())) ((Zw (((c,d,()),(e,f,()),()),())).bind fun r2 => cond (!r2.1) (some (false,())) ((Zo ((c,d,()),(e,f,()),(a,b,()),())).bind fun r3 => cond (neI r3.1 0) (some (false,())) (cond (geI a (minI c e)) (cond (leI a (maxI c e)) (cond (geI b (minI d f)) (some ((leI b (maxI d f)),())) (some (false,()))) (some (false,()))) (some (false,())))))
def Zbb_c : Con := { ins := [(.rd, yQ2), (.rd, yQ4)], outs := [(true, .bool)], fn := Zbb }
def Zbb_C : Ctx := { tab := tab, con := fun | 33, _ => some Zag_c | 70, _ => some Zw_c | 71, _ => some Zo_c | _, _ => none, glob := glob, eqs := eqs, maps := maps }
theorem Zbb_eq (x : (tupTy [yQ2, yQ4]).den) : callFn Zbb_C Zbb_As (bodyOf Tryd.f56) [(.rd, yQ2), (.rd, yQ4)] [(.tmp 4, true, .bool)] x = Zbb x := by kernel_rfl
def Zas_As : Anns := []
def Zas (x : (Q3 × Q3 × Unit)) : Option (Bool × Unit) :=
 let (((a,b,_),(c,d,_),_),((e,f,_),(g,h,_),_),_) := x; let t_2 := (Zbb ((g,h,()),((a,b,()),(c,d,()),()),())).bind fun r8 => cond r8.1 ((Zw (((e,f,()),(g,h,()),()),())).bind fun r9 => some (r9.1,())) (some (false,())); let t_1 := (Zbb ((e,f,()),((a,b,()),(c,d,()),()),())).bind fun r6 => cond r6.1 ((Zw (((e,f,()),(g,h,()),()),())).bind fun r7 => cond r7.1 (some (true,())) t_2) t_2; let t_0 := (Zbb ((c,d,()),((e,f,()),(g,h,()),()),())).bind fun r4 => cond r4.1 ((Zw (((a,b,()),(c,d,()),()),())).bind fun r5 => cond r5.1 (some (true,())) t_1) t_1; (Zai (((a,b,()),(c,d,()),()),((e,f,()),(g,h,()),()),())).bind fun r1 => cond r1.1 (some (true,())) ((Zbb ((a,b,()),((e,f,()),(g,h,()),()),())).bind fun r2 => cond r2.1 ((Zw (((a,b,()),(c,d,()),()),())).bind fun r3 => cond r3.1 (some (true,())) t_0) t_0)
def Zas_c : Con := { ins := [(.rd, yQ4), (.rd, yQ4)], outs := [(true, .bool)], fn := Zas }
def Zas_C : Ctx := { tab := tab, con := fun | 56, _ => some Zbb_c | 69, _ => some Zai_c | 70, _ => some Zw_c | _, _ => none, glob := glob, eqs := eqs, maps := maps }
theorem Zas_eq (x : (tupTy [yQ4, yQ4]).den) : callFn Zas_C Zas_As (bodyOf Tryd.f55) [(.rd, yQ4), (.rd, yQ4)] [(.tmp 4, true, .bool)] x = Zas x := by kernel_rfl
def Zz_As : Anns := []
def Zz (x : (Q9 × (List Q2) × Int × Int × Unit)) : Option (Bool × Unit) :=
 let ((_,a,_),b,c,d,_) := x; (getI a c).bind fun y1 => (getI a d).bind fun y2 => let t_4 := cond (eqI y1.1 y2.1) (cond (eqI y1.2.1 y2.1) (some (true,())) (some ((eqI y1.2.1 y2.2.1),()))) (cond (eqI y1.1 y2.2.1) (cond (eqI y1.2.1 y2.1) (some (true,())) (some ((eqI y1.2.1 y2.2.1),()))) (some (false,()))); (getI b y1.1).bind fun y3 => (getI b y1.2.1).bind fun y4 => (getI b y2.1).bind fun y5 => (getI b y2.2.1).bind fun y6 => let t_3 := cond (neI y2.2.1 y1.1) (cond (neI y2.2.1 y1.2.1) ((Zbb ((y6.1,y6.2.1,()),((y3.1,y3.2.1,()),(y4.1,y4.2.1,()),()),())).bind fun r11 => cond r11.1 (some (true,())) t_4) t_4) t_4; let t_2 := cond (neI y2.1 y1.1) (cond (neI y2.1 y1.2.1) ((Zbb ((y5.1,y5.2.1,()),((y3.1,y3.2.1,()),(y4.1,y4.2.1,()),()),())).bind fun r10 => cond r10.1 (some (true,())) t_3) t_3) t_3; let t_1 := cond (neI y1.2.1 y2.1) (cond (neI y1.2.1 y2.2.1) ((Zbb ((y4.1,y4.2.1,()),((y5.1,y5.2.1,()),(y6.1,y6.2.1,()),()),())).bind fun r9 => cond r9.1 (some (true,())) t_2) t_2) t_2; let t_0 := cond (neI y1.1 y2.1) (cond (neI y1.1 y2.2.1) ((Zbb ((y3.1,y3.2.1,()),((y5.1,y5.2.1,()),(y6.1,y6.2.1,()),()),())).bind fun r8 => cond r8.1 (some (true,())) t_1) t_1) t_1; cond (neI y1.1 y2.1) (cond (neI y1.1 y2.2.1) (cond (neI y1.2.1 y2.1) (cond (neI y1.2.1 y2.2.1) ((Zas (((y3.1,y3.2.1,()),(y4.1,y4.2.1,()),()),((y5.1,y5.2.1,()),(y6.1,y6.2.1,()),()),())).bind fun r7 => some (r7.1,())) t_0) t_0) t_0) t_0
def Zz_c : Con := { ins := [(.rd, yQ8), (.rd, (.slice yQ2)), (.rd, I), (.rd, I)], outs := [(true, .bool)], fn := Zz }
def Zz_C : Ctx := { tab := tab, con := fun | 55, _ => some Zas_c | 56, _ => some Zbb_c | _, _ => none, glob := glob, eqs := eqs, maps := maps }
theorem Zz_eq (x : (tupTy [yQ8, (.slice yQ2), I, I]).den) : callFn Zz_C Zz_As (bodyOf Tryd.f36) [(.rd, yQ8), (.rd, (.slice yQ2)), (.rd, I), (.rd, I)] [(.tmp 8, true, .bool)] x = Zz x := by kernel_rfl
def Zv_H23 : Shape := { env := [(1, .av (.val (.slice yQ2))), (2, .av (.ptr 2 0)), (10, .av (.val I)), (11, .av (.val I))], objs := [(2, .box [.val I, .val (.slice yQ2), .val yQ5, .val (.slice I), .val (.slice .str), .val I])] }
def Zv_E23 : List (Ex × Shape) := [(.ret, { env := [(4, .av (.val .bool))], objs := [] }), (.exit 8, { env := [(1, .av (.val (.slice yQ2))), (2, .av (.ptr 2 0)), (10, .av (.val I))], objs := [(2, .box [.val I, .val (.slice yQ2), .val yQ5, .val (.slice I), .val (.slice .str), .val I])] })]
def Zv_B23 (x : Q46) : Option (Q46 ⊕ ((Bool × Unit) ⊕ (Q41 ⊕ Empty))) :=
 let (a,b,c,d,e,f,g,h,i,_) := x; cond (ltI i h) ((Zz ((a,b,c,()),g,h,i,())).bind fun r1 => cond r1.1 (some (.inr (.inl (false,())))) (some (.inl (a,b,c,d,e,f,g,h,(addI .i64 i 1),())))) (some (.inr (.inr (.inl (a,b,c,d,e,f,g,h,())))))
def Zv_L23 : Q46 → Option ((Bool × Unit) ⊕ (Q41 ⊕ Empty)) := loopFix Zv_B23
def Zv_A23 : Ann := { head := Zv_H23, exits := Zv_E23, fn := Zv_L23 }
def Zv_H20 : Shape := { env := [(1, .av (.val (.slice yQ2))), (2, .av (.ptr 2 0)), (10, .av (.val I))], objs := [(2, .box [.val I, .val (.slice yQ2), .val yQ5, .val (.slice I), .val (.slice .str), .val I])] }
def Zv_E20 : List (Ex × Shape) := [(.ret, { env := [(4, .av (.val .bool))], objs := [] }), (.exit 6, { env := [], objs := [] })]
def Zv_B20 (x : Q41) : Option (Q41 ⊕ ((Bool × Unit) ⊕ (Unit ⊕ Empty))) :=
 let (a,b,c,d,e,f,g,h,_) := x; cond (ltI h (b.length : Nat)) ((Zv_L23 (a,b,c,d,e,f,g,h,0,())).bind (Sum.elim (fun z2 => some (.inr (.inl (z2.1,())))) (Sum.elim (fun (a_3,b_3,c_3,d_3,e_3,f_3,g_3,h_3,_) => some (.inl (a_3,b_3,c_3,d_3,e_3,f_3,g_3,(addI .i64 h_3 1),()))) (fun _ => none)))) (some (.inr (.inr (.inl ()))))
def Zv_L20 : Q41 → Option ((Bool × Unit) ⊕ (Unit ⊕ Empty)) := loopFix Zv_B20
def Zv_A20 : Ann := { head := Zv_H20, exits := Zv_E20, fn := Zv_L20 }
def Zv_H15 : Shape := { env := [(1, .av (.val (.slice yQ2))), (2, .av (.ptr 2 0)), (5, .av (.own 5)), (9, .av (.val I))], objs := [(2, .box [.val I, .val (.slice yQ2), .val yQ5, .val (.slice I), .val (.slice .str), .val I]), (5, .arr I)] }
def Zv_E15 : List (Ex × Shape) := [(.ret, { env := [(4, .av (.val .bool))], objs := [] }), (.exit 4, { env := [(1, .av (.val (.slice yQ2))), (2, .av (.ptr 2 0))], objs := [(2, .box [.val I, .val (.slice yQ2), .val yQ5, .val (.slice I), .val (.slice .str), .val I])] })]
def Zv_B15 (x : Q50) : Option (Q50 ⊕ ((Bool × Unit) ⊕ (Q35 ⊕ Empty))) :=
 let (a,b,c,d,e,f,g,h,i,_) := x; cond (ltI i (g.length : Nat)) ((Zat ((a,b,c,()),i,())).bind fun r1 => (getI h r1.1).bind fun y2 => (Zat ((a,b,c,()),(xorI .i64 i 1),())).bind fun r3 => (getI h r3.1).bind fun y4 => (idxI g.length i).bind fun j5 => (g[j5]?).bind fun y6 => (Zp (y2,y4,y6,())).bind fun r7 => cond (!r7.1) (some (.inr (.inl (false,())))) (some (.inl (a,b,c,d,e,f,g,h,(addI .i64 i 1),())))) (some (.inr (.inr (.inl (a,b,c,d,e,f,h,())))))
def Zv_L15 : Q50 → Option ((Bool × Unit) ⊕ (Q35 ⊕ Empty)) := loopFix Zv_B15
def Zv_A15 : Ann := { head := Zv_H15, exits := Zv_E15, fn := Zv_L15 }
def Zv_H10 : Shape := { env := [(1, .av (.val (.slice yQ2))), (2, .av (.ptr 2 0)), (5, .av (.own 5)), (7, .av (.val I)), (8, .av (.val I))], objs := [(2, .box [.val I, .val (.slice yQ2), .val yQ5, .val (.slice I), .val (.slice .str), .val I]), (5, .arr I)] }
def Zv_E10 : List (Ex × Shape) := [(.ret, { env := [(4, .av (.val .bool))], objs := [] }), (.exit 2, { env := [(1, .av (.val (.slice yQ2))), (2, .av (.ptr 2 0)), (5, .av (.own 5)), (7, .av (.val I))], objs := [(2, .box [.val I, .val (.slice yQ2), .val yQ5, .val (.slice I), .val (.slice .str), .val I]), (5, .arr I)] })]
def Zv_B10 (x : Q54) : Option (Q54 ⊕ ((Bool × Unit) ⊕ (Q50 ⊕ Empty))) :=
 let (a,b,c,d,e,f,g,h,i,k,_) := x; cond (ltI k i) ((getI h k).bind fun y1 => (getI h i).bind fun y2 => cond ((eqI y1.1 y2.1) && ((eqI y1.2.1 y2.2.1) && true)) (some (.inr (.inl (false,())))) (some (.inl (a,b,c,d,e,f,g,h,i,(addI .i64 k 1),())))) (some (.inr (.inr (.inl (a,b,c,d,e,f,g,h,i,())))))
def Zv_L10 : Q54 → Option ((Bool × Unit) ⊕ (Q50 ⊕ Empty)) := loopFix Zv_B10
def Zv_A10 : Ann := { head := Zv_H10, exits := Zv_E10, fn := Zv_L10 }
def Zv_H5 : Shape := { env := [(1, .av (.val (.slice yQ2))), (2, .av (.ptr 2 0)), (5, .av (.own 5)), (7, .av (.val I))], objs := [(2, .box [.val I, .val (.slice yQ2), .val yQ5, .val (.slice I), .val (.slice .str), .val I]), (5, .arr I)] }
def Zv_E5 : List (Ex × Shape) := [(.ret, { env := [(4, .av (.val .bool))], objs := [] }), (.exit 0, { env := [(1, .av (.val (.slice yQ2))), (2, .av (.ptr 2 0)), (5, .av (.own 5))], objs := [(2, .box [.val I, .val (.slice yQ2), .val yQ5, .val (.slice I), .val (.slice .str), .val I]), (5, .arr I)] })]
def Zv_B5 (x : Q50) : Option (Q50 ⊕ ((Bool × Unit) ⊕ (Q44 ⊕ Empty))) :=
 let (a,b,c,d,e,f,g,h,i,_) := x; cond (ltI i (h.length : Nat)) ((getI h i).bind fun y1 => (Zag (y1,())).bind fun r2 => cond (!r2.1) (some (.inr (.inl (false,())))) ((Zv_L10 (a,b,c,d,e,f,g,h,i,0,())).bind (Sum.elim (fun z4 => some (.inr (.inl (z4.1,())))) (Sum.elim (fun (a_5,b_5,c_5,d_5,e_5,f_5,g_5,h_5,i_5,_) => some (.inl (a_5,b_5,c_5,d_5,e_5,f_5,g_5,h_5,(addI .i64 i_5 1),()))) (fun _ => none))))) (some (.inr (.inr (.inl (a,b,c,d,e,f,g,h,())))))
def Zv_L5 : Q50 → Option ((Bool × Unit) ⊕ (Q44 ⊕ Empty)) := loopFix Zv_B5
def Zv_A5 : Ann := { head := Zv_H5, exits := Zv_E5, fn := Zv_L5 }
def Zv_As : Anns := [(5, Zv_A5), (10, Zv_A10), (15, Zv_A15), (20, Zv_A20), (23, Zv_A23)]
def Zv (x : (Q10 × (List Q2) × Unit)) : Option (Bool × Unit) :=
 let (((a,b,c,_),d,e,f,_),g,_) := x; (Ze (((a,b,c,()),d,e,f,()),())).bind fun r1 => cond (neI r1.2.1 0) (some (false,())) (cond (neI (g.length : Nat) a) (some (false,())) ((Zv_L5 (a,b,c,d,e,f,r1.1,g,0,())).bind (Sum.elim (fun z3 => some (z3.1,())) (Sum.elim (fun (a_4,b_4,c_4,d_4,e_4,f_4,g_4,h_4,_) => (Zv_L15 (a_4,b_4,c_4,d_4,e_4,f_4,g_4,h_4,0,())).bind (Sum.elim (fun z6 => some (z6.1,())) (Sum.elim (fun (a_7,b_7,c_7,d_7,e_7,f_7,g_7,_) => (Zv_L20 (a_7,b_7,c_7,d_7,e_7,f_7,g_7,0,())).bind (Sum.elim (fun z9 => some (z9.1,())) (Sum.elim (fun z10 => some (true,())) (fun _ => none)))) (fun _ => none)))) (fun _ => none)))))
def Zv_c : Con := { ins := [(.rd, yQ11), (.rd, (.slice yQ2))], outs := [(true, .bool)], fn := Zv }
def Zv_C : Ctx := { tab := tab, con := fun | 11, _ => some Ze_c | 33, _ => some Zag_c | 34, _ => some Zp_c | 35, _ => some Zat_c | 36, _ => some Zz_c | _, _ => none, glob := glob, eqs := eqs, maps := maps }
theorem Zv_R23 (x : Zv_H23.ty.den) : round Zv_C Zv_As Zv_A23 (loopBody 23 (bodyOf Tryd.f17)) x = Zv_B23 x := by kernel_rfl
theorem Zv_R20 (x : Zv_H20.ty.den) : round Zv_C Zv_As Zv_A20 (loopBody 20 (bodyOf Tryd.f17)) x = Zv_B20 x := by kernel_rfl
theorem Zv_R15 (x : Zv_H15.ty.den) : round Zv_C Zv_As Zv_A15 (loopBody 15 (bodyOf Tryd.f17)) x = Zv_B15 x := by kernel_rfl
theorem Zv_R10 (x : Zv_H10.ty.den) : round Zv_C Zv_As Zv_A10 (loopBody 10 (bodyOf Tryd.f17)) x = Zv_B10 x := by kernel_rfl
theorem Zv_R5 (x : Zv_H5.ty.den) : round Zv_C Zv_As Zv_A5 (loopBody 5 (bodyOf Tryd.f17)) x = Zv_B5 x := by kernel_rfl
theorem Zv_eq (x : (tupTy [yQ11, (.slice yQ2)]).den) : callFn Zv_C Zv_As (bodyOf Tryd.f17) [(.rd, yQ11), (.rd, (.slice yQ2))] [(.tmp 4, true, .bool)] x = Zv x := by kernel_rfl
def Zb_As : Anns := []
def Zb (x : (Q10 × (List Q2) × Unit)) : Option (Bool × Unit) :=
 let (((a,b,c,_),d,e,f,_),g,_) := x; (Zae (((a,b,c,()),d,e,f,()),())).bind fun r1 => cond (!r1.1) ((Zt ()).bind fun r2 => some (r2.1,())) (cond (gtI (g.length : Nat) 50) ((Zt ()).bind fun r3 => some (r3.1,())) ((Zbj (((a,b,c,()),d,e,f,()),g,())).bind fun r4 => (Zv (((a,b,c,()),d,e,f,()),g,())).bind fun r5 => cond (eqB r4.1 r5.1) ((Zt ()).bind fun r6 => some (r6.1,())) (some (false,()))))
def Zb_c : Con := { ins := [(.rd, yQ11), (.rd, (.slice yQ2))], outs := [(true, .bool)], fn := Zb }
def Zb_C : Ctx := { tab := tab, con := fun | 8, _ => some Zae_c | 9, _ => some Zt_c | 16, _ => some Zbj_c | 17, _ => some Zv_c | _, _ => none, glob := glob, eqs := eqs, maps := maps }
theorem Zb_eq (x : (tupTy [yQ11, (.slice yQ2)]).den) : callFn Zb_C Zb_As (bodyOf Tryd.f5) [(.rd, yQ11), (.rd, (.slice yQ2))] [(.tmp 4, true, .bool)] x = Zb x := by kernel_rfl
end
end Go.Vm

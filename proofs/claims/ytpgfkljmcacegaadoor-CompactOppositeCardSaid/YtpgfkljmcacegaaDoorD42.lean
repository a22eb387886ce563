/-
  The functions that the law reaches, as functions on values, and the proofs that the machine computes them.
-/
import Derived.Test.YtpgfkljmcacegaaDoorVmA
import Derived.Test.YtpgfkljmcacegaaDoorProg
import Derived.KernelRfl
set_option linter.unusedVariables false
set_option linter.unusedSimpArgs false
namespace Go.Vm
open Go.Proofs
abbrev I : Ty := .int .i64
abbrev yQ1 : Ty := .prod I .unit
abbrev yQ2 : Ty := .prod I yQ1
abbrev yQ3 : Ty := .prod yQ2 .unit
abbrev yQ4 : Ty := .prod yQ2 yQ3
abbrev yQ5 : Ty := .slice (.slice I)
abbrev yQ6 : Ty := .prod yQ5 .unit
abbrev yQ7 : Ty := .prod (.slice yQ2) yQ6
abbrev yQ8 : Ty := .prod I yQ7
abbrev yQ9 : Ty := .prod (.slice .str) yQ1
abbrev yQ10 : Ty := .prod (.slice I) yQ9
abbrev yQ11 : Ty := .prod yQ8 yQ10
abbrev Q1 := List Int × Unit
abbrev Q2 := Int × Int × Unit
abbrev Q3 := Q2 × Q2 × Unit
abbrev Q4 := ByteArray × Unit
abbrev Q5 := List Int × Int × Unit
abbrev Q6 := (List (List Int)) × Unit
abbrev Q7 := List Int × Int × Int × Unit
abbrev Q8 := List Int × Int × Int × Int × Unit
abbrev Q9 := Int × (List Q2) × (List (List Int)) × Unit
abbrev Q10 := Q9 × List Int × List ByteArray × Int × Unit
abbrev Q11 := List Int × (List (List Int)) × Int × Int × Unit
abbrev Q12 := Int × (List Q2) × (List (List Int)) × Int × Unit
abbrev Q13 := List Int × List Int × List Int × Int × Int × Unit
abbrev Q14 := (List (Q2 × Bool)) × (List Q2) × Int × Int × Unit
abbrev Q15 := List Int × List Int × (List Q2) × Int × Int × Unit
abbrev Q16 := (List (List Int)) × List Int × List Bool × Int × Unit
abbrev Q17 := Int × (List Q2) × (List (List Int)) × Int × Int × Unit
abbrev Q18 := List Int × List Bool × (List (List Int)) × Int × Int × Unit
abbrev Q19 := Int × (List Q2) × (List (List Int)) × List Int × Int × Unit
abbrev Q20 := Int × (List Q2) × (List (List Int)) × List Int × Int × Int × Unit
abbrev Q21 := Int × (List Q2) × (List (List Int)) × (List Q2) × Int × Int × Unit
abbrev Q22 := (List (List Int)) × List Int × List Bool × List Int × Int × Int × Unit
abbrev Q23 := Int × (List Q2) × (List (List Int)) × List Bool × List Int × Int × Unit
abbrev Q24 := Int × (List Q2) × (List (List Int)) × List Bool × Int × Int × Int × Unit
abbrev Q25 := List Int × List Bool × (List (List Int)) × List Int × Int × Int × Int × Unit
abbrev Q26 := Int × (List Q2) × (List (List Int)) × List Int × Int × List Int × Int × Unit
abbrev Q27 := Int × (List Q2) × (List (List Int)) × List Int × List Bool × Int × Int × Unit
abbrev Q28 := Int × (List Q2) × (List (List Int)) × Int × (List (List Int)) × Int × Int × Unit
abbrev Q29 := List Int × List Int × (List (List Int)) × Int × Int × List Int × Int × Int × Unit
abbrev Q30 := Int × (List Q2) × (List (List Int)) × List Int × List ByteArray × Int × Int × Unit
abbrev Q31 := Int × (List Q2) × (List (List Int)) × List Bool × List Int × Int × Int × Int × Unit
abbrev Q32 := Int × (List Q2) × (List (List Int)) × List Int × List Bool × Int × Int × Int × Unit
abbrev Q33 := Int × (List Q2) × (List (List Int)) × List Int × List ByteArray × Int × List Int × Unit
abbrev Q34 := Int × (List Q2) × (List (List Int)) × List Int × List ByteArray × Int × Int × Int × Unit
abbrev Q35 := Int × (List Q2) × (List (List Int)) × List Int × List ByteArray × Int × (List Q2) × Unit
abbrev Q36 := Int × (List Q2) × (List (List Int)) × List Bool × Int × (List (List Int)) × Int × Int × Unit
abbrev Q37 := Int × (List Q2) × (List (List Int)) × List Int × List ByteArray × Int × List Int × Int × Unit
abbrev Q38 := Int × (List Q2) × (List (List Int)) × List Bool × List Int × Int × List Int × Int × Int × Unit
abbrev Q39 := Int × (List Q2) × (List (List Int)) × List Int × List ByteArray × Int × Int × Int × Int × Unit
abbrev Q40 := Int × (List Q2) × (List (List Int)) × List Int × List ByteArray × Int × List Int × Bool × Unit
abbrev Q41 := Int × (List Q2) × (List (List Int)) × List Int × List ByteArray × Int × List Int × List Int × Unit
abbrev Q42 := Int × (List Q2) × (List (List Int)) × List Int × List ByteArray × Int × List Int × Int × Int × Unit
abbrev Q43 := Int × (List Q2) × (List (List Int)) × List Int × List ByteArray × Int × List Int × Bool × Int × Unit
abbrev Q44 := Int × (List Q2) × (List (List Int)) × List Int × List ByteArray × Int × (List (List Int)) × Int × Unit
abbrev Q45 := Int × (List Q2) × (List (List Int)) × List Int × List ByteArray × Int × List Int × List Int × Int × Unit
abbrev Q46 := Int × (List Q2) × (List (List Int)) × List Int × List ByteArray × Int × Int × List Int × Int × Int × Unit
abbrev Q47 := Int × (List Q2) × (List (List Int)) × List Bool × List Int × Int × Int × Int × List Int × Int × Int × Unit
abbrev Q48 := Int × (List Q2) × (List (List Int)) × List Int × List ByteArray × Int × (List (List Int)) × Int × Int × Unit
abbrev Q49 := Int × (List Q2) × (List (List Int)) × List Int × List ByteArray × Int × List Int × Int × List Int × Int × Unit
abbrev Q50 := Int × (List Q2) × (List (List Int)) × List Int × List ByteArray × Int × List Int × List Int × Int × Bool × Unit
abbrev Q51 := Int × (List Q2) × (List (List Int)) × List Int × List ByteArray × Int × List Int × (List Q2) × Int × Int × Unit
abbrev Q52 := Int × (List Q2) × (List (List Int)) × List Int × List ByteArray × Int × (List Q2) × (List Q2) × Int × Int × Unit
abbrev Q53 := Int × (List Q2) × (List (List Int)) × List Int × List ByteArray × Int × Int × (List Q2) × (List (List Int)) × Unit
abbrev Q54 := Int × (List Q2) × (List (List Int)) × List Int × List ByteArray × Int × (List (List Int)) × Int × Int × Int × Unit
abbrev Q55 := Int × (List Q2) × (List (List Int)) × List Int × List ByteArray × Int × List Int × List Int × Int × Int × Int × Unit
abbrev Q56 := Int × (List Q2) × (List (List Int)) × List Int × List ByteArray × Int × List Int × Bool × Int × List Int × Int × Unit
abbrev Q57 := Int × (List Q2) × (List (List Int)) × List Bool × Int × Int × (List (List Int)) × Int × Int × List Int × Int × Int × Unit
abbrev Q58 := Int × (List Q2) × (List (List Int)) × List Int × List ByteArray × Int × List Int × Int × (List (List Int)) × Int × Int × Unit
abbrev Q59 := Int × (List Q2) × (List (List Int)) × List Int × List ByteArray × Int × (List (List Int)) × List Int × Int × Int × Int × Unit
abbrev Q60 := Int × (List Q2) × (List (List Int)) × List Int × List ByteArray × Int × Int × (List Q2) × (List (List Int)) × Int × Int × Unit
abbrev Q61 := Int × (List Q2) × (List (List Int)) × List Int × List ByteArray × Int × List Int × List Int × List Int × Int × Int × Int × Unit
abbrev Q62 := Int × (List Q2) × (List (List Int)) × List Int × List ByteArray × Int × List Int × List Int × Int × Int × Int × Int × Int × Unit
abbrev Q63 := Int × (List Q2) × (List (List Int)) × List Int × List ByteArray × Int × List Int × List Int × Int × Bool × List Int × Int × Int × Unit
abbrev Q64 := Int × (List Q2) × (List (List Int)) × List Int × List ByteArray × Int × (List (List Int)) × Int × Int × Int × Int × List Int × Int × Int × Unit
abbrev Q65 := Int × (List Q2) × (List (List Int)) × List Int × List ByteArray × Int × List Int × Int × (List (List Int)) × Int × Int × List Int × Int × Int × Unit
abbrev Q66 := Int × (List Q2) × (List (List Int)) × List Int × List ByteArray × Int × (List (List Int)) × List Int × Int × Int × Int × List Int × Int × Int × Unit
abbrev Q67 := Int × (List Q2) × (List (List Int)) × List Int × List ByteArray × Int × Int × Int × (List Q2) × (List Q2) × Int × Int × (List Q2) × Int × Int × Unit
abbrev Q68 := Int × (List Q2) × (List (List Int)) × List Int × List ByteArray × Int × List Int × List Int × List Int × Int × Int × Int × List Int × Int × Int × Unit
noncomputable section
def tab : Tab := [(2, I), (3, I), (4, .bool), (5, (.int .u8)), (6, (.int .u8)), (7, (.prod I (.prod I (.prod .bool (.prod (.int .u8) .unit))))), (8, (.prod I (.prod I (.prod .bool (.prod (.int .u8) .unit))))), (9, .str), (10, .str), (11, .str), (12, (.int .u64)), (13, (.prod .str (.prod (.int .u64) .unit))), (14, (.prod .str (.prod (.int .u64) .unit))), (21, (.int .i32)), (22, (.slice yQ2)), (23, yQ5), (24, yQ8), (25, yQ8), (26, (.slice I)), (27, (.slice .str)), (28, yQ11), (29, yQ11), (32, I), (36, (.slice yQ2)), (41, yQ2), (42, yQ2), (53, yQ2), (54, yQ2), (62, (.arr 2 I)), (63, (.arr 2 (.arr 2 I))), (66, yQ4), (67, yQ4), (71, (.slice .bool)), (77, yQ4), (78, yQ4), (84, (.slice (.int .u8))), (99, (.int .u32)), (100, (.int .u8)), (101, (.int .u8)), (104, (.int .i32)), (105, (.int .i32))]
def eqs : List Nat := [42]
def maps : List (Nat × Ty × Ty) := [(64, yQ2, .bool)]
def glob : List (Nat × (Σ t : Ty, t.den)) := [(0, ⟨(.arr 2 I), [16384, 32768]⟩)]
set_option maxRecDepth 100000
def layoutlaw42_small_H4 : Shape := { env := [(1, .av (.ptr 1 0)), (3, .av (.val I))], objs := [(1, .box [.val I, .val (.slice yQ2), .val yQ5, .val (.slice I), .val (.slice .str), .val I])] }
def layoutlaw42_small_E4 : List (Ex × Shape) := [(.ret, { env := [(2, .av (.val .bool))], objs := [] }), (.exit 0, { env := [], objs := [] })]
def layoutlaw42_small_B4 (x : Q30) : Option (Q30 ⊕ ((Bool × Unit) ⊕ (Unit ⊕ Empty))) :=
  let (a,b,c,d,e,f,g,_) := x; cond (ltI g (e.length : Nat)) ((getI e g).bind fun y1 => cond (gtI (y1.size : Nat) 70) (some (.inr (.inl (false,())))) (some (.inl (a,b,c,d,e,f,(addI .i64 g 1),())))) (some (.inr (.inr (.inl ()))))
def layoutlaw42_small_L4 : Q30 → Option ((Bool × Unit) ⊕ (Unit ⊕ Empty)) := loopFix layoutlaw42_small_B4
def layoutlaw42_small_A4 : Ann := { head := layoutlaw42_small_H4, exits := layoutlaw42_small_E4, fn := layoutlaw42_small_L4 }
def layoutlaw42_small_As : Anns := [(4, layoutlaw42_small_A4)]
def layoutlaw42_small (x : (Q10 × Unit)) : Option (Bool × Unit) :=
  let (((a,b,c,_),d,e,f,_),_) := x; cond (gtI a 30) (some (false,())) (cond (gtI (b.length : Nat) 40) (some (false,())) (cond (gtI (c.length : Nat) 40) (some (false,())) (cond (gtI (d.length : Nat) 100) (some (false,())) (cond (gtI (e.length : Nat) 100) (some (false,())) ((layoutlaw42_small_L4 (a,b,c,d,e,f,0,())).bind (Sum.elim (fun z2 => some (z2.1,())) (Sum.elim (fun z3 => some (true,())) (fun _ => none))))))))
def layoutlaw42_small_c : Con := { ins := [(.rd, yQ11)], outs := [(true, .bool)], fn := layoutlaw42_small }
def layoutlaw42_small_C : Ctx := { tab := tab, con := fun _ _ => none, glob := glob, eqs := eqs, maps := maps }
theorem layoutlaw42_small_R4 (x : layoutlaw42_small_H4.ty.den) : round layoutlaw42_small_C layoutlaw42_small_As layoutlaw42_small_A4 (loopBody 4 (bodyOf Tryd.f8)) x = layoutlaw42_small_B4 x := by kernel_rfl
theorem layoutlaw42_small_eq (x : (tupTy [yQ11]).den) : callFn layoutlaw42_small_C layoutlaw42_small_As (bodyOf Tryd.f8) [(.rd, yQ11)] [(.tmp 2, true, .bool)] x = layoutlaw42_small x := by kernel_rfl
def layoutlaw42_square_As : Anns := []
def layoutlaw42_square (x : Unit) : Option (Q10 × Unit) :=
  (makeL .str 8 8).bind fun m1 => some (((4,[(0,1,()),(1,2,()),(2,3,()),(3,0,())],[[0,7],[2,1],[4,3],[6,5]],()),[3,1,3,1,3,1,3,1],m1,1,()),())
def layoutlaw42_square_c : Con := { ins := [], outs := [(true, yQ11)], fn := layoutlaw42_square }
def layoutlaw42_square_C : Ctx := { tab := tab, con := fun _ _ => none, glob := glob, eqs := eqs, maps := maps }
theorem layoutlaw42_square_eq (x : (tupTy []).den) : callFn layoutlaw42_square_C layoutlaw42_square_As (bodyOf Tryd.f21) [] [(.cell 0 29, true, yQ11)] x = layoutlaw42_square x := by kernel_rfl
def rotation_tail_As : Anns := []
def rotation_tail (x : (Q2 × Int × Unit)) : Option (Int × Unit) :=
  cond (eqI x.2.1 0) (some (x.1.1,())) (some (x.1.2.1,()))
def rotation_tail_c : Con := { ins := [(.rd, yQ2), (.rd, I)], outs := [(true, I)], fn := rotation_tail }
def rotation_tail_C : Ctx := { tab := tab, con := fun _ _ => none, glob := glob, eqs := eqs, maps := maps }
theorem rotation_tail_eq (x : (tupTy [yQ2, I]).den) : callFn rotation_tail_C rotation_tail_As (bodyOf Tryd.f51) [(.rd, yQ2), (.rd, I)] [(.tmp 4, true, I)] x = rotation_tail x := by kernel_rfl
def rotation_Valid_H15 : Shape := { env := [(1, .av (.ptr 1 0)), (5, .av (.own 5)), (6, .av (.val I)), (7, .av (.val I)), (80, .av (.val yQ5)), (81, .av (.val I)), (82, .av (.val I)), (87, .av (.val (.slice I))), (88, .av (.val I)), (89, .av (.val I))], objs := [(1, .box [.val I, .val (.slice yQ2), .val yQ5]), (5, .arr .bool)] }
def rotation_Valid_E15 : List (Ex × Shape) := [(.ret, { env := [(2, .av (.val .bool))], objs := [] }), (.exit 4, { env := [(1, .av (.ptr 1 0)), (5, .av (.own 5)), (6, .av (.val I)), (80, .av (.val yQ5)), (81, .av (.val I)), (82, .av (.val I))], objs := [(1, .box [.val I, .val (.slice yQ2), .val yQ5]), (5, .arr .bool)] })]
def rotation_Valid_B15 (x : Q57) : Option (Q57 ⊕ ((Bool × Unit) ⊕ (Q36 ⊕ Empty))) :=
  let (a,b,c,d,e,f,g,h,i,k,l,m,_) := x; cond (ltI m l) ((getI k m).bind fun y1 => cond (ltI y1 0) (some (.inr (.inl (false,())))) (cond (geI y1 (d.length : Nat)) (some (.inr (.inl (false,())))) ((idxI d.length y1).bind fun j2 => (d[j2]?).bind fun y3 => cond y3 (some (.inr (.inl (false,())))) ((getI b (quoI .i64 y1 2)).bind fun y4 => (rotation_tail (y4,(remI y1 2),())).bind fun r5 => cond (neI r5.1 f) (some (.inr (.inl (false,())))) ((idxI d.length y1).bind fun j6 => (d[j6]?).bind fun y7 => some (.inl (a,b,c,(d.set j6 true),(addI .i64 e 1),f,g,h,i,k,l,(addI .i64 m 1),()))))))) (some (.inr (.inr (.inl (a,b,c,d,e,g,h,i,())))))
def rotation_Valid_L15 : Q57 → Option ((Bool × Unit) ⊕ (Q36 ⊕ Empty)) := loopFix rotation_Valid_B15
def rotation_Valid_A15 : Ann := { head := rotation_Valid_H15, exits := rotation_Valid_E15, fn := rotation_Valid_L15 }
def rotation_Valid_H12 : Shape := { env := [(1, .av (.ptr 1 0)), (5, .av (.own 5)), (6, .av (.val I)), (80, .av (.val yQ5)), (81, .av (.val I)), (82, .av (.val I))], objs := [(1, .box [.val I, .val (.slice yQ2), .val yQ5]), (5, .arr .bool)] }
def rotation_Valid_E12 : List (Ex × Shape) := [(.ret, { env := [(2, .av (.val .bool))], objs := [] }), (.exit 2, { env := [(5, .av (.own 5)), (6, .av (.val I))], objs := [(5, .arr .bool)] })]
def rotation_Valid_B12 (x : Q36) : Option (Q36 ⊕ ((Bool × Unit) ⊕ ((List Bool × Int × Unit) ⊕ Empty))) :=
  let (a,b,c,d,e,f,g,h,_) := x; cond (ltI h g) ((getI f h).bind fun y1 => (rotation_Valid_L15 (a,b,c,d,e,h,f,g,h,y1,(y1.length : Nat),0,())).bind (Sum.elim (fun z3 => some (.inr (.inl (z3.1,())))) (Sum.elim (fun (a_4,b_4,c_4,d_4,e_4,f_4,g_4,h_4,_) => some (.inl (a_4,b_4,c_4,d_4,e_4,f_4,g_4,(addI .i64 h_4 1),()))) (fun _ => none)))) (some (.inr (.inr (.inl (d,e,())))))
def rotation_Valid_L12 : Q36 → Option ((Bool × Unit) ⊕ ((List Bool × Int × Unit) ⊕ Empty)) := loopFix rotation_Valid_B12
def rotation_Valid_A12 : Ann := { head := rotation_Valid_H12, exits := rotation_Valid_E12, fn := rotation_Valid_L12 }
def rotation_Valid_H4 : Shape := { env := [(1, .av (.ptr 1 0)), (38, .av (.val (.slice yQ2))), (39, .av (.val I)), (40, .av (.val I))], objs := [(1, .box [.val I, .val (.slice yQ2), .val yQ5])] }
def rotation_Valid_E4 : List (Ex × Shape) := [(.ret, { env := [(2, .av (.val .bool))], objs := [] }), (.exit 0, { env := [(1, .av (.ptr 1 0))], objs := [(1, .box [.val I, .val (.slice yQ2), .val yQ5])] })]
def rotation_Valid_B4 (x : Q21) : Option (Q21 ⊕ ((Bool × Unit) ⊕ (Q9 ⊕ Empty))) :=
  let (a,b,c,d,e,f,_) := x; cond (ltI f e) ((getI d f).bind fun y1 => cond (ltI y1.1 0) (some (.inr (.inl (false,())))) (cond (geI y1.1 a) (some (.inr (.inl (false,())))) (cond (ltI y1.2.1 0) (some (.inr (.inl (false,())))) (cond (geI y1.2.1 a) (some (.inr (.inl (false,())))) (cond (eqI y1.1 y1.2.1) (some (.inr (.inl (false,())))) (some (.inl (a,b,c,d,e,(addI .i64 f 1),())))))))) (some (.inr (.inr (.inl (a,b,c,())))))
def rotation_Valid_L4 : Q21 → Option ((Bool × Unit) ⊕ (Q9 ⊕ Empty)) := loopFix rotation_Valid_B4
def rotation_Valid_A4 : Ann := { head := rotation_Valid_H4, exits := rotation_Valid_E4, fn := rotation_Valid_L4 }
def rotation_Valid_As : Anns := [(4, rotation_Valid_A4), (12, rotation_Valid_A12), (15, rotation_Valid_A15)]
def rotation_Valid (x : (Q9 × Unit)) : Option (Bool × Unit) :=
  let ((a,b,c,_),_) := x; cond (ltI a 0) (some (false,())) ((getI [16384,32768] 0).bind fun y1 => cond (gtI a y1) (some (false,())) ((getI [16384,32768] 1).bind fun y2 => cond (gtI (b.length : Nat) y2) (some (false,())) (cond (neI (c.length : Nat) a) (some (false,())) ((rotation_Valid_L4 (a,b,c,b,(b.length : Nat),0,())).bind (Sum.elim (fun z4 => some (z4.1,())) (Sum.elim (fun (a_5,b_5,c_5,_) => (makeL .bool (mulI .i64 2 (b_5.length : Nat)) (mulI .i64 2 (b_5.length : Nat))).bind fun m6 => (rotation_Valid_L12 (a_5,b_5,c_5,m6,0,c_5,(c_5.length : Nat),0,())).bind (Sum.elim (fun z8 => some (z8.1,())) (Sum.elim (fun z9 => some ((eqI z9.2.1 (z9.1.length : Nat)),())) (fun _ => none)))) (fun _ => none)))))))
def rotation_Valid_c : Con := { ins := [(.rd, yQ8)], outs := [(true, .bool)], fn := rotation_Valid }
def rotation_Valid_C : Ctx := { tab := tab, con := fun | 51, _ => some rotation_tail_c | _, _ => none, glob := glob, eqs := eqs, maps := maps }
theorem rotation_Valid_R15 (x : rotation_Valid_H15.ty.den) : round rotation_Valid_C rotation_Valid_As rotation_Valid_A15 (loopBody 15 (bodyOf Tryd.f50)) x = rotation_Valid_B15 x := by kernel_rfl
theorem rotation_Valid_R12 (x : rotation_Valid_H12.ty.den) : round rotation_Valid_C rotation_Valid_As rotation_Valid_A12 (loopBody 12 (bodyOf Tryd.f50)) x = rotation_Valid_B12 x := by kernel_rfl
theorem rotation_Valid_R4 (x : rotation_Valid_H4.ty.den) : round rotation_Valid_C rotation_Valid_As rotation_Valid_A4 (loopBody 4 (bodyOf Tryd.f50)) x = rotation_Valid_B4 x := by kernel_rfl
theorem rotation_Valid_eq (x : (tupTy [yQ8]).den) : callFn rotation_Valid_C rotation_Valid_As (bodyOf Tryd.f50) [(.rd, yQ8)] [(.tmp 2, true, .bool)] x = rotation_Valid x := by kernel_rfl
def rotation_Tail_As : Anns := []
def rotation_Tail (x : (Q9 × Int × Unit)) : Option (Int × Unit) :=
  let ((a,b,c,_),d,_) := x; (rotation_Valid ((a,b,c,()),())).bind fun r1 => cond (!r1.1) (some ((-1),())) (cond (ltI d 0) (some ((-1),())) (cond (geI d (mulI .i64 2 (b.length : Nat))) (some ((-1),())) ((getI b (quoI .i64 d 2)).bind fun y2 => (rotation_tail (y2,(remI d 2),())).bind fun r3 => some (r3.1,()))))
def rotation_Tail_c : Con := { ins := [(.rd, yQ8), (.rd, I)], outs := [(true, I)], fn := rotation_Tail }
def rotation_Tail_C : Ctx := { tab := tab, con := fun | 50, _ => some rotation_Valid_c | 51, _ => some rotation_tail_c | _, _ => none, glob := glob, eqs := eqs, maps := maps }
theorem rotation_Tail_eq (x : (tupTy [yQ8, I]).den) : callFn rotation_Tail_C rotation_Tail_As (bodyOf Tryd.f31) [(.rd, yQ8), (.rd, I)] [(.tmp 4, true, I)] x = rotation_Tail x := by kernel_rfl
def shape_connected_H11 : Shape := { env := [(1, .av (.ptr 1 0)), (3, .av (.own 3)), (4, .av (.own 4)), (5, .av (.val I)), (39, .av (.val (.slice I))), (40, .av (.val I)), (41, .av (.val I))], objs := [(1, .box [.val I, .val (.slice yQ2), .val yQ5]), (3, .arr .bool), (4, .arr I)] }
def shape_connected_E11 : List (Ex × Shape) := [(.exit 2, { env := [(1, .av (.ptr 1 0)), (3, .av (.own 3)), (4, .av (.own 4)), (5, .av (.val I))], objs := [(1, .box [.val I, .val (.slice yQ2), .val yQ5]), (3, .arr .bool), (4, .arr I)] })]
def shape_connected_B11 (x : Q38) : Option (Q38 ⊕ (Q23 ⊕ Empty)) :=
  let (a,b,c,d,e,f,g,h,i,_) := x; cond (ltI i h) ((getI g i).bind fun y1 => (rotation_Tail ((a,b,c,()),(xorI .i64 y1 1),())).bind fun r2 => (idxI d.length r2.1).bind fun j3 => (d[j3]?).bind fun y4 => cond (!y4) ((idxI d.length r2.1).bind fun j5 => (d[j5]?).bind fun y6 => (app e [r2.1]).bind fun a7 => some (.inl (a,b,c,(d.set j5 true),a7,f,g,h,(addI .i64 i 1),()))) (some (.inl (a,b,c,d,e,f,g,h,(addI .i64 i 1),())))) (some (.inr (.inl (a,b,c,d,e,f,()))))
def shape_connected_L11 : Q38 → Option (Q23 ⊕ Empty) := loopFix shape_connected_B11
def shape_connected_A11 : Ann := { head := shape_connected_H11, exits := shape_connected_E11, fn := shape_connected_L11 }
def shape_connected_H6 : Shape := { env := [(1, .av (.ptr 1 0)), (3, .av (.own 3)), (4, .av (.own 4)), (5, .av (.val I))], objs := [(1, .box [.val I, .val (.slice yQ2), .val yQ5]), (3, .arr .bool), (4, .arr I)] }
def shape_connected_E6 : List (Ex × Shape) := [(.exit 0, { env := [(1, .av (.ptr 1 0)), (5, .av (.val I))], objs := [(1, .box [.val I, .val (.slice yQ2), .val yQ5])] })]
def shape_connected_B6 (x : Q23) : Option (Q23 ⊕ (Q12 ⊕ Empty)) :=
  let (a,b,c,d,e,f,_) := x; cond (gtI (e.length : Nat) 0) ((idxI e.length (subI .i64 (e.length : Nat) 1)).bind fun j1 => (e[j1]?).bind fun y2 => (viewB e.length 0 (subI .i64 (e.length : Nat) 1)).bind fun v3 => (getI c y2).bind fun y4 => (shape_connected_L11 (a,b,c,d,((e.drop v3.1).take v3.2),(addI .i64 f 1),y4,(y4.length : Nat),0,())).bind (Sum.elim (fun (a_6,b_6,c_6,d_6,e_6,f_6,_) => some (.inl (a_6,b_6,c_6,d_6,e_6,f_6,()))) (fun _ => none))) (some (.inr (.inl (a,b,c,f,()))))
def shape_connected_L6 : Q23 → Option (Q12 ⊕ Empty) := loopFix shape_connected_B6
def shape_connected_A6 : Ann := { head := shape_connected_H6, exits := shape_connected_E6, fn := shape_connected_L6 }
def shape_connected_As : Anns := [(6, shape_connected_A6), (11, shape_connected_A11)]
def shape_connected (x : (Q9 × Unit)) : Option (Bool × Unit) :=
  let ((a,b,c,_),_) := x; cond (eqI a 0) (some (false,())) ((makeL .bool a a).bind fun m1 => (idxI m1.length 0).bind fun j2 => (m1[j2]?).bind fun y3 => (shape_connected_L6 (a,b,c,(m1.set j2 true),[0],0,())).bind (Sum.elim (fun z5 => some ((eqI z5.2.2.2.1 z5.1),())) (fun _ => none)))
def shape_connected_c : Con := { ins := [(.rd, yQ8)], outs := [(true, .bool)], fn := shape_connected }
def shape_connected_C : Ctx := { tab := tab, con := fun | 31, _ => some rotation_Tail_c | _, _ => none, glob := glob, eqs := eqs, maps := maps }
theorem shape_connected_R11 (x : shape_connected_H11.ty.den) : round shape_connected_C shape_connected_As shape_connected_A11 (loopBody 11 (bodyOf Tryd.f74)) x = shape_connected_B11 x := by kernel_rfl
theorem shape_connected_R6 (x : shape_connected_H6.ty.den) : round shape_connected_C shape_connected_As shape_connected_A6 (loopBody 6 (bodyOf Tryd.f74)) x = shape_connected_B6 x := by kernel_rfl
theorem shape_connected_eq (x : (tupTy [yQ8]).den) : callFn shape_connected_C shape_connected_As (bodyOf Tryd.f74) [(.rd, yQ8)] [(.tmp 2, true, .bool)] x = shape_connected x := by kernel_rfl
def rotation_follow_H6 : Shape := { env := [(3, .av (.own 3)), (5, .av (.val (.slice I))), (14, .av (.val yQ5)), (15, .av (.val I)), (16, .av (.val I)), (20, .av (.val (.slice I))), (21, .av (.val I)), (22, .av (.val I))], objs := [(3, .arr I)] }
def rotation_follow_E6 : List (Ex × Shape) := [(.exit 2, { env := [(3, .av (.own 3)), (14, .av (.val yQ5)), (15, .av (.val I)), (16, .av (.val I))], objs := [(3, .arr I)] })]
def rotation_follow_B6 (x : Q29) : Option (Q29 ⊕ (Q11 ⊕ Empty)) :=
  let (a,b,c,d,e,f,g,h,_) := x; cond (ltI h g) ((getI f h).bind fun y1 => cond (eqI (b.length : Nat) 0) none ((getI b (remI (addI .i64 h 1) (b.length : Nat))).bind fun y2 => (idxI a.length (xorI .i64 y1 1)).bind fun j3 => (a[j3]?).bind fun y4 => some (.inl ((a.set j3 y2),b,c,d,e,f,g,(addI .i64 h 1),())))) (some (.inr (.inl (a,c,d,e,()))))
def rotation_follow_L6 : Q29 → Option (Q11 ⊕ Empty) := loopFix rotation_follow_B6
def rotation_follow_A6 : Ann := { head := rotation_follow_H6, exits := rotation_follow_E6, fn := rotation_follow_L6 }
def rotation_follow_H3 : Shape := { env := [(3, .av (.own 3)), (14, .av (.val yQ5)), (15, .av (.val I)), (16, .av (.val I))], objs := [(3, .arr I)] }
def rotation_follow_E3 : List (Ex × Shape) := [(.exit 0, { env := [(3, .av (.own 3))], objs := [(3, .arr I)] })]
def rotation_follow_B3 (x : Q11) : Option (Q11 ⊕ (Q1 ⊕ Empty)) :=
  let (a,b,c,d,_) := x; cond (ltI d c) ((getI b d).bind fun y1 => (rotation_follow_L6 (a,y1,b,c,d,y1,(y1.length : Nat),0,())).bind (Sum.elim (fun z3 => some (.inl (z3.1,z3.2.1,z3.2.2.1,(addI .i64 z3.2.2.2.1 1),()))) (fun _ => none))) (some (.inr (.inl (a,()))))
def rotation_follow_L3 : Q11 → Option (Q1 ⊕ Empty) := loopFix rotation_follow_B3
def rotation_follow_A3 : Ann := { head := rotation_follow_H3, exits := rotation_follow_E3, fn := rotation_follow_L3 }
def rotation_follow_As : Anns := [(3, rotation_follow_A3), (6, rotation_follow_A6)]
def rotation_follow (x : (Q9 × Unit)) : Option Q1 :=
  let ((_,a,b,_),_) := x; (makeL I (mulI .i64 2 (a.length : Nat)) (mulI .i64 2 (a.length : Nat))).bind fun m1 => (rotation_follow_L3 (m1,b,(b.length : Nat),0,())).bind (Sum.elim (fun z3 => some (z3.1,())) (fun _ => none))
def rotation_follow_c : Con := { ins := [(.rd, yQ8)], outs := [(true, (.slice I))], fn := rotation_follow }
def rotation_follow_C : Ctx := { tab := tab, con := fun _ _ => none, glob := glob, eqs := eqs, maps := maps }
theorem rotation_follow_R6 (x : rotation_follow_H6.ty.den) : round rotation_follow_C rotation_follow_As rotation_follow_A6 (loopBody 6 (bodyOf Tryd.f65)) x = rotation_follow_B6 x := by kernel_rfl
theorem rotation_follow_R3 (x : rotation_follow_H3.ty.den) : round rotation_follow_C rotation_follow_As rotation_follow_A3 (loopBody 3 (bodyOf Tryd.f65)) x = rotation_follow_B3 x := by kernel_rfl
theorem rotation_follow_eq (x : (tupTy [yQ8]).den) : callFn rotation_follow_C rotation_follow_As (bodyOf Tryd.f65) [(.rd, yQ8)] [(.tmp 2, true, (.slice I))] x = rotation_follow x := by kernel_rfl
def rotation_Faces_H11 : Shape := { env := [(3, .av (.own 3)), (4, .av (.own 4)), (5, .av (.own 5)), (7, .av (.own 7)), (8, .av (.val I)), (18, .av (.val I)), (19, .av (.val I))], objs := [(3, .arr I), (4, .arr .bool), (5, .arr (.slice I)), (7, .arr I)] }
def rotation_Faces_E11 : List (Ex × Shape) := [(.exit 2, { env := [(3, .av (.own 3)), (4, .av (.own 4)), (5, .av (.own 5)), (7, .av (.own 7)), (18, .av (.val I)), (19, .av (.val I))], objs := [(3, .arr I), (4, .arr .bool), (5, .arr (.slice I)), (7, .arr I)] })]
def rotation_Faces_B11 (x : Q25) : Option (Q25 ⊕ ((List Int × List Bool × (List (List Int)) × List Int × Int × Int × Unit) ⊕ Empty)) :=
  let (a,b,c,d,e,f,g,_) := x; (idxI b.length e).bind fun j1 => (b[j1]?).bind fun y2 => cond (!y2) ((idxI b.length e).bind fun j3 => (b[j3]?).bind fun y4 => (app d [e]).bind fun a5 => (idxI a.length e).bind fun j6 => (a[j6]?).bind fun y7 => some (.inl (a,(b.set j3 true),c,a5,y7,f,g,()))) (some (.inr (.inl (a,b,c,d,f,g,()))))
def rotation_Faces_L11 : Q25 → Option ((List Int × List Bool × (List (List Int)) × List Int × Int × Int × Unit) ⊕ Empty) := loopFix rotation_Faces_B11
def rotation_Faces_A11 : Ann := { head := rotation_Faces_H11, exits := rotation_Faces_E11, fn := rotation_Faces_L11 }
def rotation_Faces_H7 : Shape := { env := [(3, .av (.own 3)), (4, .av (.own 4)), (5, .av (.own 5)), (18, .av (.val I)), (19, .av (.val I))], objs := [(3, .arr I), (4, .arr .bool), (5, .arr (.slice I))] }
def rotation_Faces_E7 : List (Ex × Shape) := [(.exit 0, { env := [(5, .av (.own 5))], objs := [(5, .arr (.slice I))] })]
def rotation_Faces_B7 (x : Q18) : Option (Q18 ⊕ (Q6 ⊕ Empty)) :=
  let (a,b,c,d,e,_) := x; cond (ltI e d) ((rotation_Faces_L11 (a,b,c,[],e,d,e,())).bind (Sum.elim (fun (a_2,b_2,c_2,d_2,e_2,f_2,_) => cond (gtI (d_2.length : Nat) 0) ((app c_2 [d_2]).bind fun a3 => some (.inl (a_2,b_2,a3,e_2,(addI .i64 f_2 1),()))) (some (.inl (a_2,b_2,c_2,e_2,(addI .i64 f_2 1),())))) (fun _ => none))) (some (.inr (.inl (c,()))))
def rotation_Faces_L7 : Q18 → Option (Q6 ⊕ Empty) := loopFix rotation_Faces_B7
def rotation_Faces_A7 : Ann := { head := rotation_Faces_H7, exits := rotation_Faces_E7, fn := rotation_Faces_L7 }
def rotation_Faces_As : Anns := [(7, rotation_Faces_A7), (11, rotation_Faces_A11)]
def rotation_Faces (x : (Q9 × Unit)) : Option Q6 :=
  let ((a,b,c,_),_) := x; (rotation_Valid ((a,b,c,()),())).bind fun r1 => cond (!r1.1) (some ([],())) ((rotation_follow ((a,b,c,()),())).bind fun r2 => (makeL .bool (r2.1.length : Nat) (r2.1.length : Nat)).bind fun m3 => (rotation_Faces_L7 (r2.1,m3,[],(r2.1.length : Nat),0,())).bind (Sum.elim (fun z5 => some (z5.1,())) (fun _ => none)))
def rotation_Faces_c : Con := { ins := [(.rd, yQ8)], outs := [(true, yQ5)], fn := rotation_Faces }
def rotation_Faces_C : Ctx := { tab := tab, con := fun | 50, _ => some rotation_Valid_c | 65, _ => some rotation_follow_c | _, _ => none, glob := glob, eqs := eqs, maps := maps }
theorem rotation_Faces_R11 (x : rotation_Faces_H11.ty.den) : round rotation_Faces_C rotation_Faces_As rotation_Faces_A11 (loopBody 11 (bodyOf Tryd.f48)) x = rotation_Faces_B11 x := by kernel_rfl
theorem rotation_Faces_R7 (x : rotation_Faces_H7.ty.den) : round rotation_Faces_C rotation_Faces_As rotation_Faces_A7 (loopBody 7 (bodyOf Tryd.f48)) x = rotation_Faces_B7 x := by kernel_rfl
theorem rotation_Faces_eq (x : (tupTy [yQ8]).den) : callFn rotation_Faces_C rotation_Faces_As (bodyOf Tryd.f48) [(.rd, yQ8)] [(.tmp 2, true, yQ5)] x = rotation_Faces x := by kernel_rfl
def rotation_components_H13 : Shape := { env := [(1, .av (.ptr 1 0)), (3, .av (.own 3)), (4, .av (.val I)), (6, .av (.own 6)), (14, .av (.val I)), (15, .av (.val I)), (40, .av (.val (.slice I))), (41, .av (.val I)), (42, .av (.val I))], objs := [(1, .box [.val I, .val (.slice yQ2), .val yQ5]), (3, .arr .bool), (6, .arr I)] }
def rotation_components_E13 : List (Ex × Shape) := [(.exit 4, { env := [(1, .av (.ptr 1 0)), (3, .av (.own 3)), (4, .av (.val I)), (6, .av (.own 6)), (14, .av (.val I)), (15, .av (.val I))], objs := [(1, .box [.val I, .val (.slice yQ2), .val yQ5]), (3, .arr .bool), (6, .arr I)] })]
def rotation_components_B13 (x : Q47) : Option (Q47 ⊕ (Q31 ⊕ Empty)) :=
  let (a,b,c,d,e,f,g,h,i,k,l,_) := x; cond (ltI l k) ((getI i l).bind fun y1 => (getI b (quoI .i64 y1 2)).bind fun y2 => (rotation_tail (y2,(xorI .i64 (remI y1 2) 1),())).bind fun r3 => (idxI d.length r3.1).bind fun j4 => (d[j4]?).bind fun y5 => cond (!y5) ((idxI d.length r3.1).bind fun j6 => (d[j6]?).bind fun y7 => (app e [r3.1]).bind fun a8 => some (.inl (a,b,c,(d.set j6 true),a8,f,g,h,i,k,(addI .i64 l 1),()))) (some (.inl (a,b,c,d,e,f,g,h,i,k,(addI .i64 l 1),())))) (some (.inr (.inl (a,b,c,d,e,f,g,h,()))))
def rotation_components_L13 : Q47 → Option (Q31 ⊕ Empty) := loopFix rotation_components_B13
def rotation_components_A13 : Ann := { head := rotation_components_H13, exits := rotation_components_E13, fn := rotation_components_L13 }
def rotation_components_H10 : Shape := { env := [(1, .av (.ptr 1 0)), (3, .av (.own 3)), (4, .av (.val I)), (6, .av (.own 6)), (14, .av (.val I)), (15, .av (.val I))], objs := [(1, .box [.val I, .val (.slice yQ2), .val yQ5]), (3, .arr .bool), (6, .arr I)] }
def rotation_components_E10 : List (Ex × Shape) := [(.exit 2, { env := [(1, .av (.ptr 1 0)), (3, .av (.own 3)), (4, .av (.val I)), (14, .av (.val I)), (15, .av (.val I))], objs := [(1, .box [.val I, .val (.slice yQ2), .val yQ5]), (3, .arr .bool)] })]
def rotation_components_B10 (x : Q31) : Option (Q31 ⊕ (Q24 ⊕ Empty)) :=
  let (a,b,c,d,e,f,g,h,_) := x; cond (gtI (e.length : Nat) 0) ((idxI e.length 0).bind fun j1 => (e[j1]?).bind fun y2 => (getI c y2).bind fun y3 => (rotation_components_L13 (a,b,c,d,e,f,g,h,y3,(y3.length : Nat),0,())).bind (Sum.elim (fun (a_5,b_5,c_5,d_5,e_5,f_5,g_5,h_5,_) => (viewB e_5.length 1 (e_5.length : Nat)).bind fun v6 => some (.inl (a_5,b_5,c_5,d_5,((e_5.drop v6.1).take v6.2),f_5,g_5,h_5,()))) (fun _ => none))) (some (.inr (.inl (a,b,c,d,f,g,h,()))))
def rotation_components_L10 : Q31 → Option (Q24 ⊕ Empty) := loopFix rotation_components_B10
def rotation_components_A10 : Ann := { head := rotation_components_H10, exits := rotation_components_E10, fn := rotation_components_L10 }
def rotation_components_H4 : Shape := { env := [(1, .av (.ptr 1 0)), (3, .av (.own 3)), (4, .av (.val I)), (14, .av (.val I)), (15, .av (.val I))], objs := [(1, .box [.val I, .val (.slice yQ2), .val yQ5]), (3, .arr .bool)] }
def rotation_components_E4 : List (Ex × Shape) := [(.exit 0, { env := [(4, .av (.val I))], objs := [] })]
def rotation_components_B4 (x : Q24) : Option (Q24 ⊕ ((Int × Unit) ⊕ Empty)) :=
  let (a,b,c,d,e,f,g,_) := x; cond (ltI g f) ((idxI d.length g).bind fun j1 => (d[j1]?).bind fun y2 => cond y2 (some (.inl (a,b,c,d,e,f,(addI .i64 g 1),()))) ((idxI d.length g).bind fun j3 => (d[j3]?).bind fun y4 => (rotation_components_L10 (a,b,c,(d.set j3 true),[g],(addI .i64 e 1),f,g,())).bind (Sum.elim (fun (a_6,b_6,c_6,d_6,e_6,f_6,g_6,_) => some (.inl (a_6,b_6,c_6,d_6,e_6,f_6,(addI .i64 g_6 1),()))) (fun _ => none)))) (some (.inr (.inl (e,()))))
def rotation_components_L4 : Q24 → Option ((Int × Unit) ⊕ Empty) := loopFix rotation_components_B4
def rotation_components_A4 : Ann := { head := rotation_components_H4, exits := rotation_components_E4, fn := rotation_components_L4 }
def rotation_components_As : Anns := [(4, rotation_components_A4), (10, rotation_components_A10), (13, rotation_components_A13)]
def rotation_components (x : (Q9 × Unit)) : Option (Int × Unit) :=
  let ((a,b,c,_),_) := x; (makeL .bool a a).bind fun m1 => (rotation_components_L4 (a,b,c,m1,0,a,0,())).bind (Sum.elim (fun z3 => some (z3.1,())) (fun _ => none))
def rotation_components_c : Con := { ins := [(.rd, yQ8)], outs := [(true, I)], fn := rotation_components }
def rotation_components_C : Ctx := { tab := tab, con := fun | 51, _ => some rotation_tail_c | _, _ => none, glob := glob, eqs := eqs, maps := maps }
theorem rotation_components_R13 (x : rotation_components_H13.ty.den) : round rotation_components_C rotation_components_As rotation_components_A13 (loopBody 13 (bodyOf Tryd.f84)) x = rotation_components_B13 x := by kernel_rfl
theorem rotation_components_R10 (x : rotation_components_H10.ty.den) : round rotation_components_C rotation_components_As rotation_components_A10 (loopBody 10 (bodyOf Tryd.f84)) x = rotation_components_B10 x := by kernel_rfl
theorem rotation_components_R4 (x : rotation_components_H4.ty.den) : round rotation_components_C rotation_components_As rotation_components_A4 (loopBody 4 (bodyOf Tryd.f84)) x = rotation_components_B4 x := by kernel_rfl
theorem rotation_components_eq (x : (tupTy [yQ8]).den) : callFn rotation_components_C rotation_components_As (bodyOf Tryd.f84) [(.rd, yQ8)] [(.tmp 2, true, I)] x = rotation_components x := by kernel_rfl
def rotation_Genus_H5 : Shape := { env := [(1, .av (.ptr 1 0)), (3, .av (.val I)), (13, .av (.val yQ5)), (14, .av (.val I)), (15, .av (.val I))], objs := [(1, .box [.val I, .val (.slice yQ2), .val yQ5])] }
def rotation_Genus_E5 : List (Ex × Shape) := [(.exit 0, { env := [(1, .av (.ptr 1 0)), (3, .av (.val I))], objs := [(1, .box [.val I, .val (.slice yQ2), .val yQ5])] })]
def rotation_Genus_B5 (x : Q28) : Option (Q28 ⊕ (Q12 ⊕ Empty)) :=
  let (a,b,c,d,e,f,g,_) := x; cond (ltI g f) ((getI e g).bind fun y1 => cond (eqI (y1.length : Nat) 0) (some (.inl (a,b,c,(addI .i64 d 1),e,f,(addI .i64 g 1),()))) (some (.inl (a,b,c,d,e,f,(addI .i64 g 1),())))) (some (.inr (.inl (a,b,c,d,()))))
def rotation_Genus_L5 : Q28 → Option (Q12 ⊕ Empty) := loopFix rotation_Genus_B5
def rotation_Genus_A5 : Ann := { head := rotation_Genus_H5, exits := rotation_Genus_E5, fn := rotation_Genus_L5 }
def rotation_Genus_As : Anns := [(5, rotation_Genus_A5)]
def rotation_Genus (x : (Q9 × Unit)) : Option (Int × Unit) :=
  let ((a,b,c,_),_) := x; (rotation_Valid ((a,b,c,()),())).bind fun r1 => cond (!r1.1) (some ((-1),())) ((rotation_Faces ((a,b,c,()),())).bind fun r2 => (rotation_Genus_L5 (a,b,c,(r2.1.length : Nat),c,(c.length : Nat),0,())).bind (Sum.elim (fun z4 => (rotation_components ((z4.1,z4.2.1,z4.2.2.1,()),())).bind fun r5 => some ((subI .i64 r5.1 (quoI .i64 (addI .i64 (subI .i64 z4.1 (z4.2.1.length : Nat)) z4.2.2.2.1) 2)),())) (fun _ => none)))
def rotation_Genus_c : Con := { ins := [(.rd, yQ8)], outs := [(true, I)], fn := rotation_Genus }
def rotation_Genus_C : Ctx := { tab := tab, con := fun | 48, _ => some rotation_Faces_c | 50, _ => some rotation_Valid_c | 84, _ => some rotation_components_c | _, _ => none, glob := glob, eqs := eqs, maps := maps }
theorem rotation_Genus_R5 (x : rotation_Genus_H5.ty.den) : round rotation_Genus_C rotation_Genus_As rotation_Genus_A5 (loopBody 5 (bodyOf Tryd.f75)) x = rotation_Genus_B5 x := by kernel_rfl
theorem rotation_Genus_eq (x : (tupTy [yQ8]).den) : callFn rotation_Genus_C rotation_Genus_As (bodyOf Tryd.f75) [(.rd, yQ8)] [(.tmp 2, true, I)] x = rotation_Genus x := by kernel_rfl
def shape_angled_H6 : Shape := { env := [(1, .av (.ptr 1 0)), (4, .av (.val (.slice I))), (5, .av (.val I)), (10, .av (.val yQ5)), (11, .av (.val I)), (12, .av (.val I)), (16, .av (.val (.slice I))), (17, .av (.val I)), (18, .av (.val I))], objs := [(1, .box [.val I, .val (.slice yQ2), .val yQ5, .val (.slice I), .val (.slice .str), .val I])] }
def shape_angled_E6 : List (Ex × Shape) := [(.ret, { env := [(2, .av (.val .bool))], objs := [] }), (.exit 2, { env := [(1, .av (.ptr 1 0)), (4, .av (.val (.slice I))), (5, .av (.val I)), (10, .av (.val yQ5)), (11, .av (.val I)), (12, .av (.val I))], objs := [(1, .box [.val I, .val (.slice yQ2), .val yQ5, .val (.slice I), .val (.slice .str), .val I])] })]
def shape_angled_B6 (x : Q65) : Option (Q65 ⊕ ((Bool × Unit) ⊕ (Q58 ⊕ Empty))) :=
  let (a,b,c,d,e,f,g,h,i,k,l,m,n,o,_) := x; cond (ltI o n) ((getI m o).bind fun y1 => (getI d y1).bind fun y2 => cond (ltI y2 1) (some (.inr (.inl (false,())))) ((getI d y1).bind fun y3 => cond (gtI y3 4) (some (.inr (.inl (false,())))) ((getI d y1).bind fun y4 => some (.inl (a,b,c,d,e,f,g,(addI .i64 h y4),i,k,l,m,n,(addI .i64 o 1),()))))) (some (.inr (.inr (.inl (a,b,c,d,e,f,g,h,i,k,l,())))))
def shape_angled_L6 : Q65 → Option ((Bool × Unit) ⊕ (Q58 ⊕ Empty)) := loopFix shape_angled_B6
def shape_angled_A6 : Ann := { head := shape_angled_H6, exits := shape_angled_E6, fn := shape_angled_L6 }
def shape_angled_H2 : Shape := { env := [(1, .av (.ptr 1 0)), (10, .av (.val yQ5)), (11, .av (.val I)), (12, .av (.val I))], objs := [(1, .box [.val I, .val (.slice yQ2), .val yQ5, .val (.slice I), .val (.slice .str), .val I])] }
def shape_angled_E2 : List (Ex × Shape) := [(.ret, { env := [(2, .av (.val .bool))], objs := [] }), (.exit 0, { env := [], objs := [] })]
def shape_angled_B2 (x : Q48) : Option (Q48 ⊕ ((Bool × Unit) ⊕ (Unit ⊕ Empty))) :=
  let (a,b,c,d,e,f,g,h,i,_) := x; cond (ltI i h) ((getI g i).bind fun y1 => (shape_angled_L6 (a,b,c,d,e,f,y1,0,g,h,i,y1,(y1.length : Nat),0,())).bind (Sum.elim (fun z3 => some (.inr (.inl (z3.1,())))) (Sum.elim (fun (a_4,b_4,c_4,d_4,e_4,f_4,g_4,h_4,i_4,k_4,l_4,_) => cond (gtI (g_4.length : Nat) 0) (cond (neI h_4 4) (some (.inr (.inl (false,())))) (some (.inl (a_4,b_4,c_4,d_4,e_4,f_4,i_4,k_4,(addI .i64 l_4 1),())))) (some (.inl (a_4,b_4,c_4,d_4,e_4,f_4,i_4,k_4,(addI .i64 l_4 1),())))) (fun _ => none)))) (some (.inr (.inr (.inl ()))))
def shape_angled_L2 : Q48 → Option ((Bool × Unit) ⊕ (Unit ⊕ Empty)) := loopFix shape_angled_B2
def shape_angled_A2 : Ann := { head := shape_angled_H2, exits := shape_angled_E2, fn := shape_angled_L2 }
def shape_angled_As : Anns := [(2, shape_angled_A2), (6, shape_angled_A6)]
def shape_angled (x : (Q10 × Unit)) : Option (Bool × Unit) :=
  let (((a,b,c,_),d,e,f,_),_) := x; (shape_angled_L2 (a,b,c,d,e,f,c,(c.length : Nat),0,())).bind (Sum.elim (fun z2 => some (z2.1,())) (Sum.elim (fun z3 => some (true,())) (fun _ => none)))
def shape_angled_c : Con := { ins := [(.rd, yQ11)], outs := [(true, .bool)], fn := shape_angled }
def shape_angled_C : Ctx := { tab := tab, con := fun _ _ => none, glob := glob, eqs := eqs, maps := maps }
theorem shape_angled_R6 (x : shape_angled_H6.ty.den) : round shape_angled_C shape_angled_As shape_angled_A6 (loopBody 6 (bodyOf Tryd.f76)) x = shape_angled_B6 x := by kernel_rfl
theorem shape_angled_R2 (x : shape_angled_H2.ty.den) : round shape_angled_C shape_angled_As shape_angled_A2 (loopBody 2 (bodyOf Tryd.f76)) x = shape_angled_B2 x := by kernel_rfl
theorem shape_angled_eq (x : (tupTy [yQ11]).den) : callFn shape_angled_C shape_angled_As (bodyOf Tryd.f76) [(.rd, yQ11)] [(.tmp 2, true, .bool)] x = shape_angled x := by kernel_rfl
def shape_swapped_As : Anns := []
def shape_swapped (x : (Int × Unit)) : Option (Int × Bool × Unit) :=
  cond (eqI x.1 76) (some (82,true,())) (cond (eqI x.1 82) (some (76,true,())) (some (x.1,false,())))
def shape_swapped_c : Con := { ins := [(.rd, (.int .u8))], outs := [(true, (.int .u8)), (true, .bool)], fn := shape_swapped }
def shape_swapped_C : Ctx := { tab := tab, con := fun _ _ => none, glob := glob, eqs := eqs, maps := maps }
theorem shape_swapped_eq (x : (tupTy [(.int .u8)]).den) : callFn shape_swapped_C shape_swapped_As (bodyOf Tryd.f85) [(.rd, (.int .u8))] [(.tmp 2, true, (.int .u8)), (.tmp 3, true, .bool)] x = shape_swapped x := by kernel_rfl
def shape_bent_H4 : Shape := { env := [(11, .av (.own 11)), (12, .av (.val I)), (13, .av (.val I))], objs := [(11, .arr (.int .u8))] }
def shape_bent_E4 : List (Ex × Shape) := [(.ret, { env := [(2, .av (.val .bool))], objs := [] }), (.exit 0, { env := [], objs := [] })]
def shape_bent_B4 (x : Q7) : Option (Q7 ⊕ ((Bool × Unit) ⊕ (Unit ⊕ Empty))) :=
  let (a,b,c,_) := x; cond (ltI c b) ((idxI a.length c).bind fun j1 => (a[j1]?).bind fun y2 => (shape_swapped (y2,())).bind fun r3 => cond (!r3.2.1) (some (.inr (.inl (false,())))) (some (.inl (a,b,(addI .i64 c 1),())))) (some (.inr (.inr (.inl ()))))
def shape_bent_L4 : Q7 → Option ((Bool × Unit) ⊕ (Unit ⊕ Empty)) := loopFix shape_bent_B4
def shape_bent_A4 : Ann := { head := shape_bent_H4, exits := shape_bent_E4, fn := shape_bent_L4 }
def shape_bent_As : Anns := [(4, shape_bent_A4)]
def shape_bent (x : Q4) : Option (Bool × Unit) :=
  cond (gtI (x.1.size : Nat) 64) (some (false,())) ((shape_bent_L4 ((bytesOf x.1),((bytesOf x.1).length : Nat),0,())).bind (Sum.elim (fun z2 => some (z2.1,())) (Sum.elim (fun z3 => some (true,())) (fun _ => none))))
def shape_bent_c : Con := { ins := [(.rd, .str)], outs := [(true, .bool)], fn := shape_bent }
def shape_bent_C : Ctx := { tab := tab, con := fun | 85, _ => some shape_swapped_c | _, _ => none, glob := glob, eqs := eqs, maps := maps }
theorem shape_bent_R4 (x : shape_bent_H4.ty.den) : round shape_bent_C shape_bent_As shape_bent_A4 (loopBody 4 (bodyOf Tryd.f77)) x = shape_bent_B4 x := by kernel_rfl
theorem shape_bent_eq (x : (tupTy [.str]).den) : callFn shape_bent_C shape_bent_As (bodyOf Tryd.f77) [(.rd, .str)] [(.tmp 2, true, .bool)] x = shape_bent x := by kernel_rfl
def slices_Reverse_byte_H1 : Shape := { env := [(0, .av (.own 0)), (2, .av (.val I)), (3, .av (.val I))], objs := [(0, .arr (.int .u8))], pins := [0] }
def slices_Reverse_byte_E1 : List (Ex × Shape) := [(.exit 0, { env := [(0, .av (.own 0))], objs := [(0, .arr (.int .u8))], pins := [0] })]
def slices_Reverse_byte_B1 (x : Q7) : Option (Q7 ⊕ (Q1 ⊕ Empty)) :=
  let (a,b,c,_) := x; cond (ltI b c) ((idxI a.length c).bind fun j1 => (a[j1]?).bind fun y2 => (idxI a.length b).bind fun j3 => (a[j3]?).bind fun y4 => (idxI a.length b).bind fun j5 => (a[j5]?).bind fun y6 => (idxI (a.set j5 y2).length c).bind fun j7 => ((a.set j5 y2)[j7]?).bind fun y8 => some (.inl (((a.set j5 y2).set j7 y4),(addI .i64 b 1),(subI .i64 c 1),()))) (some (.inr (.inl (a,()))))
def slices_Reverse_byte_L1 : Q7 → Option (Q1 ⊕ Empty) := loopFix slices_Reverse_byte_B1
def slices_Reverse_byte_A1 : Ann := { head := slices_Reverse_byte_H1, exits := slices_Reverse_byte_E1, fn := slices_Reverse_byte_L1 }
def slices_Reverse_byte_As : Anns := [(1, slices_Reverse_byte_A1)]
def slices_Reverse_byte (x : Q1) : Option Q1 :=
  (slices_Reverse_byte_L1 (x.1,0,(subI .i64 (x.1.length : Nat) 1),())).bind (Sum.elim (fun z2 => some (z2.1,())) (fun _ => none))
def slices_Reverse_byte_c : Con := { ins := [(.upd, (.slice (.int .u8)))], outs := [], fn := slices_Reverse_byte }
def slices_Reverse_byte_C : Ctx := { tab := tab, con := fun _ _ => none, glob := glob, eqs := eqs, maps := maps }
theorem slices_Reverse_byte_R1 (x : slices_Reverse_byte_H1.ty.den) : round slices_Reverse_byte_C slices_Reverse_byte_As slices_Reverse_byte_A1 (loopBody 1 (bodyOf Tryd.f86)) x = slices_Reverse_byte_B1 x := by kernel_rfl
theorem slices_Reverse_byte_eq (x : (tupTy [(.slice (.int .u8))]).den) : callFn slices_Reverse_byte_C slices_Reverse_byte_As (bodyOf Tryd.f86) [(.upd, (.slice (.int .u8)))] [] x = slices_Reverse_byte x := by kernel_rfl
def shape_Reverse_H4 : Shape := { env := [(3, .av (.own 3)), (10, .av (.own 3)), (11, .av (.val I)), (12, .av (.val I))], objs := [(3, .arr (.int .u8))] }
def shape_Reverse_E4 : List (Ex × Shape) := [(.exit 0, { env := [(3, .av (.own 3))], objs := [(3, .arr (.int .u8))] })]
def shape_Reverse_B4 (x : Q7) : Option (Q7 ⊕ (Q1 ⊕ Empty)) :=
  let (a,b,c,_) := x; cond (ltI c b) ((idxI a.length c).bind fun j1 => (a[j1]?).bind fun y2 => (shape_swapped (y2,())).bind fun r3 => (idxI a.length c).bind fun j4 => (a[j4]?).bind fun y5 => some (.inl ((a.set j4 r3.1),b,(addI .i64 c 1),()))) (some (.inr (.inl (a,()))))
def shape_Reverse_L4 : Q7 → Option (Q1 ⊕ Empty) := loopFix shape_Reverse_B4
def shape_Reverse_A4 : Ann := { head := shape_Reverse_H4, exits := shape_Reverse_E4, fn := shape_Reverse_L4 }
def shape_Reverse_As : Anns := [(4, shape_Reverse_A4)]
def shape_Reverse (x : Q4) : Option Q4 :=
  (slices_Reverse_byte ((bytesOf x.1),())).bind fun r1 => (shape_Reverse_L4 (r1.1,(r1.1.length : Nat),0,())).bind (Sum.elim (fun z3 => some ((ofBytes z3.1),())) (fun _ => none))
def shape_Reverse_c : Con := { ins := [(.rd, .str)], outs := [(true, .str)], fn := shape_Reverse }
def shape_Reverse_C : Ctx := { tab := tab, con := fun | 85, _ => some shape_swapped_c | 86, _ => some slices_Reverse_byte_c | _, _ => none, glob := glob, eqs := eqs, maps := maps }
theorem shape_Reverse_R4 (x : shape_Reverse_H4.ty.den) : round shape_Reverse_C shape_Reverse_As shape_Reverse_A4 (loopBody 4 (bodyOf Tryd.f78)) x = shape_Reverse_B4 x := by kernel_rfl
theorem shape_Reverse_eq (x : (tupTy [.str]).den) : callFn shape_Reverse_C shape_Reverse_As (bodyOf Tryd.f78) [(.rd, .str)] [(.tmp 2, true, .str)] x = shape_Reverse x := by kernel_rfl
def slices_Index_int_H2 : Shape := { env := [(0, .av (.val (.slice I))), (1, .av (.val I)), (7, .av (.val I)), (8, .av (.val I))], objs := [] }
def slices_Index_int_E2 : List (Ex × Shape) := [(.ret, { env := [(4, .av (.val I))], objs := [] }), (.exit 0, { env := [], objs := [] })]
def slices_Index_int_B2 (x : Q8) : Option (Q8 ⊕ ((Int × Unit) ⊕ (Unit ⊕ Empty))) :=
  let (a,b,c,d,_) := x; cond (ltI d c) ((getI a d).bind fun y1 => cond (eqI b y1) (some (.inr (.inl (d,())))) (some (.inl (a,b,c,(addI .i64 d 1),())))) (some (.inr (.inr (.inl ()))))
def slices_Index_int_L2 : Q8 → Option ((Int × Unit) ⊕ (Unit ⊕ Empty)) := loopFix slices_Index_int_B2
def slices_Index_int_A2 : Ann := { head := slices_Index_int_H2, exits := slices_Index_int_E2, fn := slices_Index_int_L2 }
def slices_Index_int_As : Anns := [(2, slices_Index_int_A2)]
def slices_Index_int (x : Q5) : Option (Int × Unit) :=
  (slices_Index_int_L2 (x.1,x.2.1,(x.1.length : Nat),0,())).bind (Sum.elim (fun z2 => some (z2.1,())) (Sum.elim (fun z3 => some ((-1),())) (fun _ => none)))
def slices_Index_int_c : Con := { ins := [(.rd, (.slice I)), (.rd, I)], outs := [(true, I)], fn := slices_Index_int }
def slices_Index_int_C : Ctx := { tab := tab, con := fun _ _ => none, glob := glob, eqs := eqs, maps := maps }
theorem slices_Index_int_R2 (x : slices_Index_int_H2.ty.den) : round slices_Index_int_C slices_Index_int_As slices_Index_int_A2 (loopBody 2 (bodyOf Tryd.f64)) x = slices_Index_int_B2 x := by kernel_rfl
theorem slices_Index_int_eq (x : (tupTy [(.slice I), I]).den) : callFn slices_Index_int_C slices_Index_int_As (bodyOf Tryd.f64) [(.rd, (.slice I)), (.rd, I)] [(.tmp 4, true, I)] x = slices_Index_int x := by kernel_rfl
def slices_Contains_int_As : Anns := []
def slices_Contains_int (x : Q5) : Option (Bool × Unit) :=
  (slices_Index_int (x.1,x.2.1,())).bind fun r1 => some ((geI r1.1 0),())
def slices_Contains_int_c : Con := { ins := [(.rd, (.slice I)), (.rd, I)], outs := [(true, .bool)], fn := slices_Contains_int }
def slices_Contains_int_C : Ctx := { tab := tab, con := fun | 64, _ => some slices_Index_int_c | _, _ => none, glob := glob, eqs := eqs, maps := maps }
theorem slices_Contains_int_eq (x : (tupTy [(.slice I), I]).den) : callFn slices_Contains_int_C slices_Contains_int_As (bodyOf Tryd.f79) [(.rd, (.slice I)), (.rd, I)] [(.tmp 4, true, .bool)] x = slices_Contains_int x := by kernel_rfl
def shape_turn_H3 : Shape := { env := [(5, .av (.val I)), (20, .av (.own 20)), (21, .av (.val I)), (22, .av (.val I))], objs := [(20, .arr (.int .u8))] }
def shape_turn_E3 : List (Ex × Shape) := [(.exit 0, { env := [(5, .av (.val I))], objs := [] })]
def shape_turn_B3 (x : Q8) : Option (Q8 ⊕ ((Int × Unit) ⊕ Empty)) :=
  let (a,b,c,d,_) := x; cond (ltI d c) ((idxI a.length d).bind fun j1 => (a[j1]?).bind fun y2 => cond (eqI y2 76) (some (.inl (a,(addI .i64 b 1),c,(addI .i64 d 1),()))) (some (.inl (a,(subI .i64 b 1),c,(addI .i64 d 1),())))) (some (.inr (.inl (b,()))))
def shape_turn_L3 : Q8 → Option ((Int × Unit) ⊕ Empty) := loopFix shape_turn_B3
def shape_turn_A3 : Ann := { head := shape_turn_H3, exits := shape_turn_E3, fn := shape_turn_L3 }
def shape_turn_As : Anns := [(3, shape_turn_A3)]
def shape_turn (x : (Q10 × Int × Unit)) : Option (Int × Unit) :=
  (getI x.1.2.1 (xorI .i64 x.2.1 1)).bind fun y1 => (getI x.1.2.2.1 x.2.1).bind fun y2 => (shape_turn_L3 ((bytesOf y2),(subI .i64 2 y1),((bytesOf y2).length : Nat),0,())).bind (Sum.elim (fun z4 => some (z4.1,())) (fun _ => none))
def shape_turn_c : Con := { ins := [(.rd, yQ11), (.rd, I)], outs := [(true, I)], fn := shape_turn }
def shape_turn_C : Ctx := { tab := tab, con := fun _ _ => none, glob := glob, eqs := eqs, maps := maps }
theorem shape_turn_R3 (x : shape_turn_H3.ty.den) : round shape_turn_C shape_turn_As shape_turn_A3 (loopBody 3 (bodyOf Tryd.f87)) x = shape_turn_B3 x := by kernel_rfl
theorem shape_turn_eq (x : (tupTy [yQ11, I]).den) : callFn shape_turn_C shape_turn_As (bodyOf Tryd.f87) [(.rd, yQ11), (.rd, I)] [(.tmp 4, true, I)] x = shape_turn x := by kernel_rfl
def shape_turns_H3 : Shape := { env := [(2, .av (.ptr 2 0)), (5, .av (.val I)), (8, .av (.val (.slice I))), (9, .av (.val I)), (10, .av (.val I))], objs := [(2, .box [.val I, .val (.slice yQ2), .val yQ5, .val (.slice I), .val (.slice .str), .val I])] }
def shape_turns_E3 : List (Ex × Shape) := [(.exit 0, { env := [(5, .av (.val I))], objs := [] })]
def shape_turns_B3 (x : Q46) : Option (Q46 ⊕ ((Int × Unit) ⊕ Empty)) :=
  let (a,b,c,d,e,f,g,h,i,k,_) := x; cond (ltI k i) ((getI h k).bind fun y1 => (shape_turn (((a,b,c,()),d,e,f,()),y1,())).bind fun r2 => some (.inl (a,b,c,d,e,f,(addI .i64 g r2.1),h,i,(addI .i64 k 1),()))) (some (.inr (.inl (g,()))))
def shape_turns_L3 : Q46 → Option ((Int × Unit) ⊕ Empty) := loopFix shape_turns_B3
def shape_turns_A3 : Ann := { head := shape_turns_H3, exits := shape_turns_E3, fn := shape_turns_L3 }
def shape_turns_As : Anns := [(3, shape_turns_A3)]
def shape_turns (x : (Q10 × List Int × Unit)) : Option (Int × Unit) :=
  let (((a,b,c,_),d,e,f,_),g,_) := x; (shape_turns_L3 (a,b,c,d,e,f,0,g,(g.length : Nat),0,())).bind (Sum.elim (fun z2 => some (z2.1,())) (fun _ => none))
def shape_turns_c : Con := { ins := [(.rd, yQ11), (.rd, (.slice I))], outs := [(true, I)], fn := shape_turns }
def shape_turns_C : Ctx := { tab := tab, con := fun | 87, _ => some shape_turn_c | _, _ => none, glob := glob, eqs := eqs, maps := maps }
theorem shape_turns_R3 (x : shape_turns_H3.ty.den) : round shape_turns_C shape_turns_As shape_turns_A3 (loopBody 3 (bodyOf Tryd.f80)) x = shape_turns_B3 x := by kernel_rfl
theorem shape_turns_eq (x : (tupTy [yQ11, (.slice I)]).den) : callFn shape_turns_C shape_turns_As (bodyOf Tryd.f80) [(.rd, yQ11), (.rd, (.slice I))] [(.tmp 4, true, I)] x = shape_turns x := by kernel_rfl
def shape_valid_H13 : Shape := { env := [(1, .av (.ptr 1 0)), (85, .av (.own 85)), (86, .av (.val I)), (87, .av (.val I))], objs := [(1, .box [.val I, .val (.slice yQ2), .val yQ5, .val (.slice I), .val (.slice .str), .val I]), (85, .arr (.slice I))] }
def shape_valid_E13 : List (Ex × Shape) := [(.ret, { env := [(2, .av (.val .bool))], objs := [] }), (.exit 2, { env := [], objs := [] })]
def shape_valid_B13 (x : Q48) : Option (Q48 ⊕ ((Bool × Unit) ⊕ (Unit ⊕ Empty))) :=
  let (a,b,c,d,e,f,g,h,i,_) := x; cond (ltI i h) ((idxI g.length i).bind fun j1 => (g[j1]?).bind fun y2 => (slices_Contains_int (y2,f,())).bind fun r3 => cond r3.1 ((shape_turns (((a,b,c,()),d,e,f,()),y2,())).bind fun r4 => cond (neI r4.1 (-4)) (some (.inr (.inl (false,())))) (some (.inl (a,b,c,d,e,f,g,h,(addI .i64 i 1),())))) ((shape_turns (((a,b,c,()),d,e,f,()),y2,())).bind fun r5 => cond (neI r5.1 4) (some (.inr (.inl (false,())))) (some (.inl (a,b,c,d,e,f,g,h,(addI .i64 i 1),()))))) (some (.inr (.inr (.inl ()))))
def shape_valid_L13 : Q48 → Option ((Bool × Unit) ⊕ (Unit ⊕ Empty)) := loopFix shape_valid_B13
def shape_valid_A13 : Ann := { head := shape_valid_H13, exits := shape_valid_E13, fn := shape_valid_L13 }
def shape_valid_H8 : Shape := { env := [(1, .av (.ptr 1 0)), (3, .av (.ptr 3 0)), (4, .av (.val I)), (5, .av (.val I))], objs := [(1, .box [.val I, .val (.slice yQ2), .val yQ5, .val (.slice I), .val (.slice .str), .val I]), (3, .box [.val I, .val (.slice yQ2), .val yQ5])] }
def shape_valid_E8 : List (Ex × Shape) := [(.ret, { env := [(2, .av (.val .bool))], objs := [] }), (.exit 0, { env := [(1, .av (.ptr 1 0)), (3, .av (.ptr 3 0))], objs := [(1, .box [.val I, .val (.slice yQ2), .val yQ5, .val (.slice I), .val (.slice .str), .val I]), (3, .box [.val I, .val (.slice yQ2), .val yQ5])] })]
def shape_valid_B8 (x : Q60) : Option (Q60 ⊕ ((Bool × Unit) ⊕ (Q53 ⊕ Empty))) :=
  let (a,b,c,d,e,f,g,h,i,k,l,_) := x; cond (ltI l k) ((getI e l).bind fun y1 => (shape_bent (y1,())).bind fun r2 => cond (!r2.1) (some (.inr (.inl (false,())))) ((getI e (addI .i64 l 1)).bind fun y3 => (getI e l).bind fun y4 => (shape_Reverse (y4,())).bind fun r5 => cond (neS y3 r5.1) (some (.inr (.inl (false,())))) (some (.inl (a,b,c,d,e,f,g,h,i,k,(addI .i64 l 2),()))))) (some (.inr (.inr (.inl (a,b,c,d,e,f,g,h,i,())))))
def shape_valid_L8 : Q60 → Option ((Bool × Unit) ⊕ (Q53 ⊕ Empty)) := loopFix shape_valid_B8
def shape_valid_A8 : Ann := { head := shape_valid_H8, exits := shape_valid_E8, fn := shape_valid_L8 }
def shape_valid_As : Anns := [(8, shape_valid_A8), (13, shape_valid_A13)]
def shape_valid (x : (Q10 × Unit)) : Option (Bool × Unit) :=
  let (((a,b,c,_),d,e,f,_),_) := x; (rotation_Valid ((a,b,c,()),())).bind fun r1 => cond (!r1.1) (some (false,())) ((shape_connected ((a,b,c,()),())).bind fun r2 => cond (!r2.1) (some (false,())) ((rotation_Genus ((a,b,c,()),())).bind fun r3 => cond (neI r3.1 0) (some (false,())) (cond (neI (d.length : Nat) (mulI .i64 2 (b.length : Nat))) (some (false,())) (cond (neI (e.length : Nat) (mulI .i64 2 (b.length : Nat))) (some (false,())) (cond (ltI f 0) (some (false,())) (cond (geI f (maxI (mulI .i64 2 (b.length : Nat)) 1)) (some (false,())) ((shape_angled (((a,b,c,()),d,e,f,()),())).bind fun r4 => cond (!r4.1) (some (false,())) ((shape_valid_L8 (a,b,c,d,e,f,a,b,c,(mulI .i64 2 (b.length : Nat)),0,())).bind (Sum.elim (fun z6 => some (z6.1,())) (Sum.elim (fun (a_7,b_7,c_7,d_7,e_7,f_7,g_7,h_7,i_7,_) => (rotation_Faces ((g_7,h_7,i_7,()),())).bind fun r8 => (shape_valid_L13 (a_7,b_7,c_7,d_7,e_7,f_7,r8.1,(r8.1.length : Nat),0,())).bind (Sum.elim (fun z10 => some (z10.1,())) (Sum.elim (fun z11 => some (true,())) (fun _ => none)))) (fun _ => none)))))))))))
def shape_valid_c : Con := { ins := [(.rd, yQ11)], outs := [(true, .bool)], fn := shape_valid }
def shape_valid_C : Ctx := { tab := tab, con := fun | 48, _ => some rotation_Faces_c | 50, _ => some rotation_Valid_c | 74, _ => some shape_connected_c | 75, _ => some rotation_Genus_c | 76, _ => some shape_angled_c | 77, _ => some shape_bent_c | 78, _ => some shape_Reverse_c | 79, _ => some slices_Contains_int_c | 80, _ => some shape_turns_c | _, _ => none, glob := glob, eqs := eqs, maps := maps }
theorem shape_valid_R13 (x : shape_valid_H13.ty.den) : round shape_valid_C shape_valid_As shape_valid_A13 (loopBody 13 (bodyOf Tryd.f63)) x = shape_valid_B13 x := by kernel_rfl
theorem shape_valid_R8 (x : shape_valid_H8.ty.den) : round shape_valid_C shape_valid_As shape_valid_A8 (loopBody 8 (bodyOf Tryd.f63)) x = shape_valid_B8 x := by kernel_rfl
theorem shape_valid_eq (x : (tupTy [yQ11]).den) : callFn shape_valid_C shape_valid_As (bodyOf Tryd.f63) [(.rd, yQ11)] [(.tmp 2, true, .bool)] x = shape_valid x := by kernel_rfl
def shape_Valid_As : Anns := []
def shape_Valid (x : (Q10 × Unit)) : Option (Int × Unit) :=
  let (((a,b,c,_),d,e,f,_),_) := x; (shape_valid (((a,b,c,()),d,e,f,()),())).bind fun r1 => cond (!r1.1) (some (13,())) (some (0,()))
def shape_Valid_c : Con := { ins := [(.rd, yQ11)], outs := [(true, I)], fn := shape_Valid }
def shape_Valid_C : Ctx := { tab := tab, con := fun | 63, _ => some shape_valid_c | _, _ => none, glob := glob, eqs := eqs, maps := maps }
theorem shape_Valid_eq (x : (tupTy [yQ11]).den) : callFn shape_Valid_C shape_Valid_As (bodyOf Tryd.f45) [(.rd, yQ11)] [(.tmp 2, true, I)] x = shape_Valid x := by kernel_rfl
def shape_Bends_H5 : Shape := { env := [(1, .av (.ptr 1 0)), (3, .av (.val I)), (4, .av (.val I))], objs := [(1, .box [.val I, .val (.slice yQ2), .val yQ5, .val (.slice I), .val (.slice .str), .val I])] }
def shape_Bends_E5 : List (Ex × Shape) := [(.exit 0, { env := [(3, .av (.val I))], objs := [] })]
def shape_Bends_B5 (x : Q34) : Option (Q34 ⊕ ((Int × Unit) ⊕ Empty)) :=
  let (a,b,c,d,e,f,g,h,_) := x; cond (ltI h (e.length : Nat)) ((getI e h).bind fun y1 => some (.inl (a,b,c,d,e,f,(addI .i64 g (y1.size : Nat)),(addI .i64 h 2),()))) (some (.inr (.inl (g,()))))
def shape_Bends_L5 : Q34 → Option ((Int × Unit) ⊕ Empty) := loopFix shape_Bends_B5
def shape_Bends_A5 : Ann := { head := shape_Bends_H5, exits := shape_Bends_E5, fn := shape_Bends_L5 }
def shape_Bends_As : Anns := [(5, shape_Bends_A5)]
def shape_Bends (x : (Q10 × Unit)) : Option (Int × Unit) :=
  let (((a,b,c,_),d,e,f,_),_) := x; (shape_valid (((a,b,c,()),d,e,f,()),())).bind fun r1 => cond (!r1.1) (some (0,())) ((shape_Bends_L5 (a,b,c,d,e,f,0,0,())).bind (Sum.elim (fun z3 => some (z3.1,())) (fun _ => none)))
def shape_Bends_c : Con := { ins := [(.rd, yQ11)], outs := [(true, I)], fn := shape_Bends }
def shape_Bends_C : Ctx := { tab := tab, con := fun | 63, _ => some shape_valid_c | _, _ => none, glob := glob, eqs := eqs, maps := maps }
theorem shape_Bends_R5 (x : shape_Bends_H5.ty.den) : round shape_Bends_C shape_Bends_As shape_Bends_A5 (loopBody 5 (bodyOf Tryd.f46)) x = shape_Bends_B5 x := by kernel_rfl
theorem shape_Bends_eq (x : (tupTy [yQ11]).den) : callFn shape_Bends_C shape_Bends_As (bodyOf Tryd.f46) [(.rd, yQ11)] [(.tmp 2, true, I)] x = shape_Bends x := by kernel_rfl
def compact_straight_As : Anns := []
def compact_straight (x : (Q10 × Unit)) : Option (Bool × Unit) :=
  let (((a,b,c,_),d,e,f,_),_) := x; (shape_Valid (((a,b,c,()),d,e,f,()),())).bind fun r1 => cond (eqI r1.1 0) ((shape_Bends (((a,b,c,()),d,e,f,()),())).bind fun r2 => some ((eqI r2.1 0),())) (some (false,()))
def compact_straight_c : Con := { ins := [(.rd, yQ11)], outs := [(true, .bool)], fn := compact_straight }
def compact_straight_C : Ctx := { tab := tab, con := fun | 45, _ => some shape_Valid_c | 46, _ => some shape_Bends_c | _, _ => none, glob := glob, eqs := eqs, maps := maps }
theorem compact_straight_eq (x : (tupTy [yQ11]).den) : callFn compact_straight_C compact_straight_As (bodyOf Tryd.f22) [(.rd, yQ11)] [(.tmp 2, true, .bool)] x = compact_straight x := by kernel_rfl
def rotation_Next_As : Anns := []
def rotation_Next (x : (Q9 × Int × Unit)) : Option (Int × Unit) :=
  let ((a,b,c,_),d,_) := x; (rotation_Valid ((a,b,c,()),())).bind fun r1 => cond (!r1.1) (some ((-1),())) (cond (ltI d 0) (some ((-1),())) (cond (geI d (mulI .i64 2 (b.length : Nat))) (some ((-1),())) ((getI b (quoI .i64 d 2)).bind fun y2 => (rotation_tail (y2,(xorI .i64 (remI d 2) 1),())).bind fun r3 => (getI c r3.1).bind fun y4 => (slices_Index_int (y4,(xorI .i64 d 1),())).bind fun r5 => cond (eqI (y4.length : Nat) 0) none ((getI y4 (remI (addI .i64 r5.1 1) (y4.length : Nat))).bind fun y6 => some (y6,())))))
def rotation_Next_c : Con := { ins := [(.rd, yQ8), (.rd, I)], outs := [(true, I)], fn := rotation_Next }
def rotation_Next_C : Ctx := { tab := tab, con := fun | 50, _ => some rotation_Valid_c | 51, _ => some rotation_tail_c | 64, _ => some slices_Index_int_c | _, _ => none, glob := glob, eqs := eqs, maps := maps }
theorem rotation_Next_eq (x : (tupTy [yQ8, I]).den) : callFn rotation_Next_C rotation_Next_As (bodyOf Tryd.f47) [(.rd, yQ8), (.rd, I)] [(.tmp 4, true, I)] x = rotation_Next x := by kernel_rfl
def compact_directed_H16 : Shape := { env := [(1, .av (.ptr 1 0)), (3, .av (.own 3)), (5, .av (.own 5)), (68, .agg [.val I, .val I, .val I, .val I]), (69, .av (.val I))], objs := [(1, .box [.val I, .val (.slice yQ2), .val yQ5, .val (.slice I), .val (.slice .str), .val I]), (3, .arr I), (5, .arr I)] }
def compact_directed_E16 : List (Ex × Shape) := [(.exit 4, { env := [(1, .av (.ptr 1 0)), (3, .av (.own 3)), (5, .av (.own 5))], objs := [(1, .box [.val I, .val (.slice yQ2), .val yQ5, .val (.slice I), .val (.slice .str), .val I]), (3, .arr I), (5, .arr I)] })]
def compact_directed_B16 (x : Q62) : Option (Q62 ⊕ (Q41 ⊕ Empty)) :=
  let (a,b,c,d,e,f,g,h,i,k,l,m,n,_) := x; cond (ltI n 2) (cond (eqI n 0) ((idxI g.length i).bind fun j1 => (g[j1]?).bind fun y2 => cond (ltI y2 0) ((idxI g.length i).bind fun j3 => (g[j3]?).bind fun y4 => (app h [i]).bind fun a5 => some (.inl (a,b,c,d,e,f,(g.set j3 (remI k 4)),a5,i,k,l,m,(addI .i64 n 1),()))) (some (.inl (a,b,c,d,e,f,g,h,i,k,l,m,(addI .i64 n 1),())))) (cond (eqI n 1) ((idxI g.length l).bind fun j6 => (g[j6]?).bind fun y7 => cond (ltI y7 0) ((idxI g.length l).bind fun j8 => (g[j8]?).bind fun y9 => (app h [l]).bind fun a10 => some (.inl (a,b,c,d,e,f,(g.set j8 (remI m 4)),a10,i,k,l,m,(addI .i64 n 1),()))) (some (.inl (a,b,c,d,e,f,g,h,i,k,l,m,(addI .i64 n 1),())))) (none))) (some (.inr (.inl (a,b,c,d,e,f,g,h,()))))
def compact_directed_L16 : Q62 → Option (Q41 ⊕ Empty) := loopFix compact_directed_B16
def compact_directed_A16 : Ann := { head := compact_directed_H16, exits := compact_directed_E16, fn := compact_directed_L16 }
def compact_directed_H11 : Shape := { env := [(1, .av (.ptr 1 0)), (3, .av (.own 3)), (5, .av (.own 5))], objs := [(1, .box [.val I, .val (.slice yQ2), .val yQ5, .val (.slice I), .val (.slice .str), .val I]), (3, .arr I), (5, .arr I)] }
def compact_directed_E11 : List (Ex × Shape) := [(.exit 2, { env := [(3, .av (.own 3))], objs := [(3, .arr I)] })]
def compact_directed_B11 (x : Q41) : Option (Q41 ⊕ (Q1 ⊕ Empty)) :=
  let (a,b,c,d,e,f,g,h,_) := x; cond (gtI (h.length : Nat) 0) ((idxI h.length (subI .i64 (h.length : Nat) 1)).bind fun j1 => (h[j1]?).bind fun y2 => (viewB h.length 0 (subI .i64 (h.length : Nat) 1)).bind fun v3 => (rotation_Next ((a,b,c,()),(xorI .i64 y2 1),())).bind fun r4 => (idxI g.length y2).bind fun j5 => (g[j5]?).bind fun y6 => (getI d y2).bind fun y7 => (idxI g.length y2).bind fun j8 => (g[j8]?).bind fun y9 => (compact_directed_L16 (a,b,c,d,e,f,g,((h.drop v3.1).take v3.2),r4.1,(addI .i64 y6 y7),(xorI .i64 y2 1),(addI .i64 y9 2),0,())).bind (Sum.elim (fun (a_11,b_11,c_11,d_11,e_11,f_11,g_11,h_11,_) => some (.inl (a_11,b_11,c_11,d_11,e_11,f_11,g_11,h_11,()))) (fun _ => none))) (some (.inr (.inl (g,()))))
def compact_directed_L11 : Q41 → Option (Q1 ⊕ Empty) := loopFix compact_directed_B11
def compact_directed_A11 : Ann := { head := compact_directed_H11, exits := compact_directed_E11, fn := compact_directed_L11 }
def compact_directed_H3 : Shape := { env := [(1, .av (.ptr 1 0)), (3, .av (.own 3)), (15, .av (.val I)), (16, .av (.val I))], objs := [(1, .box [.val I, .val (.slice yQ2), .val yQ5, .val (.slice I), .val (.slice .str), .val I]), (3, .arr I)] }
def compact_directed_E3 : List (Ex × Shape) := [(.exit 0, { env := [(1, .av (.ptr 1 0)), (3, .av (.own 3))], objs := [(1, .box [.val I, .val (.slice yQ2), .val yQ5, .val (.slice I), .val (.slice .str), .val I]), (3, .arr I)] })]
def compact_directed_B3 (x : Q42) : Option (Q42 ⊕ (Q33 ⊕ Empty)) :=
  let (a,b,c,d,e,f,g,h,i,_) := x; cond (ltI i h) ((idxI g.length i).bind fun j1 => (g[j1]?).bind fun y2 => some (.inl (a,b,c,d,e,f,(g.set j1 (-1)),h,(addI .i64 i 1),()))) (some (.inr (.inl (a,b,c,d,e,f,g,()))))
def compact_directed_L3 : Q42 → Option (Q33 ⊕ Empty) := loopFix compact_directed_B3
def compact_directed_A3 : Ann := { head := compact_directed_H3, exits := compact_directed_E3, fn := compact_directed_L3 }
def compact_directed_As : Anns := [(3, compact_directed_A3), (11, compact_directed_A11), (16, compact_directed_A16)]
def compact_directed (x : (Q10 × Unit)) : Option Q1 :=
  let (((a,b,c,_),d,e,f,_),_) := x; (makeL I (d.length : Nat) (d.length : Nat)).bind fun m1 => (compact_directed_L3 (a,b,c,d,e,f,m1,(m1.length : Nat),0,())).bind (Sum.elim (fun (a_3,b_3,c_3,d_3,e_3,f_3,g_3,_) => cond (eqI (g_3.length : Nat) 0) (some ([],())) ((idxI g_3.length 0).bind fun j4 => (g_3[j4]?).bind fun y5 => (compact_directed_L11 (a_3,b_3,c_3,d_3,e_3,f_3,(g_3.set j4 1),[0],())).bind (Sum.elim (fun z7 => some (z7.1,())) (fun _ => none)))) (fun _ => none))
def compact_directed_c : Con := { ins := [(.rd, yQ11)], outs := [(true, (.slice I))], fn := compact_directed }
def compact_directed_C : Ctx := { tab := tab, con := fun | 47, _ => some rotation_Next_c | _, _ => none, glob := glob, eqs := eqs, maps := maps }
theorem compact_directed_R16 (x : compact_directed_H16.ty.den) : round compact_directed_C compact_directed_As compact_directed_A16 (loopBody 16 (bodyOf Tryd.f23)) x = compact_directed_B16 x := by kernel_rfl
theorem compact_directed_R11 (x : compact_directed_H11.ty.den) : round compact_directed_C compact_directed_As compact_directed_A11 (loopBody 11 (bodyOf Tryd.f23)) x = compact_directed_B11 x := by kernel_rfl
theorem compact_directed_R3 (x : compact_directed_H3.ty.den) : round compact_directed_C compact_directed_As compact_directed_A3 (loopBody 3 (bodyOf Tryd.f23)) x = compact_directed_B3 x := by kernel_rfl
theorem compact_directed_eq (x : (tupTy [yQ11]).den) : callFn compact_directed_C compact_directed_As (bodyOf Tryd.f23) [(.rd, yQ11)] [(.tmp 2, true, (.slice I))] x = compact_directed x := by kernel_rfl
def compact_Directions_As : Anns := []
def compact_Directions (x : (Q10 × Unit)) : Option Q5 :=
  let (((a,b,c,_),d,e,f,_),_) := x; (compact_straight (((a,b,c,()),d,e,f,()),())).bind fun r1 => cond (!r1.1) (some ([],13,())) ((compact_directed (((a,b,c,()),d,e,f,()),())).bind fun r2 => some (r2.1,0,()))
def compact_Directions_c : Con := { ins := [(.rd, yQ11)], outs := [(true, (.slice I)), (true, I)], fn := compact_Directions }
def compact_Directions_C : Ctx := { tab := tab, con := fun | 22, _ => some compact_straight_c | 23, _ => some compact_directed_c | _, _ => none, glob := glob, eqs := eqs, maps := maps }
theorem compact_Directions_eq (x : (tupTy [yQ11]).den) : callFn compact_Directions_C compact_Directions_As (bodyOf Tryd.f10) [(.rd, yQ11)] [(.tmp 2, true, (.slice I)), (.tmp 3, true, I)] x = compact_Directions x := by kernel_rfl
def compact_rectangular_H15 : Shape := { env := [(1, .av (.ptr 1 0)), (5, .av (.val I)), (8, .av (.val I)), (17, .av (.own 17)), (18, .av (.val I)), (19, .av (.val I)), (34, .av (.val (.slice I))), (35, .av (.val I)), (36, .av (.val I))], objs := [(1, .box [.val I, .val (.slice yQ2), .val yQ5, .val (.slice I), .val (.slice .str), .val I]), (17, .arr (.slice I))] }
def compact_rectangular_E15 : List (Ex × Shape) := [(.ret, { env := [(2, .av (.val .bool))], objs := [] }), (.exit 4, { env := [(1, .av (.ptr 1 0)), (8, .av (.val I)), (17, .av (.own 17)), (18, .av (.val I)), (19, .av (.val I))], objs := [(1, .box [.val I, .val (.slice yQ2), .val yQ5, .val (.slice I), .val (.slice .str), .val I]), (17, .arr (.slice I))] })]
def compact_rectangular_B15 (x : Q64) : Option (Q64 ⊕ ((Bool × Unit) ⊕ (Q54 ⊕ Empty))) :=
  let (a,b,c,d,e,f,g,h,i,k,l,m,n,o,_) := x; cond (ltI o n) ((getI m o).bind fun y1 => (getI d (xorI .i64 y1 1)).bind fun y2 => cond (eqI (subI .i64 2 y2) 0) (some (.inl (a,b,c,d,e,f,g,h,i,k,l,m,n,(addI .i64 o 1),()))) (cond (eqI (subI .i64 2 y2) h) (some (.inl (a,b,c,d,e,f,g,h,(addI .i64 i 1),k,l,m,n,(addI .i64 o 1),()))) (some (.inr (.inl (false,())))))) (some (.inr (.inr (.inl (a,b,c,d,e,f,g,i,k,l,())))))
def compact_rectangular_L15 : Q64 → Option ((Bool × Unit) ⊕ (Q54 ⊕ Empty)) := loopFix compact_rectangular_B15
def compact_rectangular_A15 : Ann := { head := compact_rectangular_H15, exits := compact_rectangular_E15, fn := compact_rectangular_L15 }
def compact_rectangular_H8 : Shape := { env := [(1, .av (.ptr 1 0)), (4, .av (.val (.slice I))), (5, .av (.val I)), (17, .av (.own 17)), (18, .av (.val I)), (19, .av (.val I)), (23, .av (.val (.slice I))), (24, .av (.val I)), (25, .av (.val I))], objs := [(1, .box [.val I, .val (.slice yQ2), .val yQ5, .val (.slice I), .val (.slice .str), .val I]), (17, .arr (.slice I))] }
def compact_rectangular_E8 : List (Ex × Shape) := [(.exit 2, { env := [(1, .av (.ptr 1 0)), (4, .av (.val (.slice I))), (5, .av (.val I)), (17, .av (.own 17)), (18, .av (.val I)), (19, .av (.val I))], objs := [(1, .box [.val I, .val (.slice yQ2), .val yQ5, .val (.slice I), .val (.slice .str), .val I]), (17, .arr (.slice I))] })]
def compact_rectangular_B8 (x : Q66) : Option (Q66 ⊕ (Q59 ⊕ Empty)) :=
  let (a,b,c,d,e,f,g,h,i,k,l,m,n,o,_) := x; cond (ltI o n) ((getI m o).bind fun y1 => cond (eqI y1 f) (some (.inl (a,b,c,d,e,f,g,h,(-1),k,l,m,n,(addI .i64 o 1),()))) (some (.inl (a,b,c,d,e,f,g,h,i,k,l,m,n,(addI .i64 o 1),())))) (some (.inr (.inl (a,b,c,d,e,f,g,h,i,k,l,()))))
def compact_rectangular_L8 : Q66 → Option (Q59 ⊕ Empty) := loopFix compact_rectangular_B8
def compact_rectangular_A8 : Ann := { head := compact_rectangular_H8, exits := compact_rectangular_E8, fn := compact_rectangular_L8 }
def compact_rectangular_H4 : Shape := { env := [(1, .av (.ptr 1 0)), (17, .av (.own 17)), (18, .av (.val I)), (19, .av (.val I))], objs := [(1, .box [.val I, .val (.slice yQ2), .val yQ5, .val (.slice I), .val (.slice .str), .val I]), (17, .arr (.slice I))] }
def compact_rectangular_E4 : List (Ex × Shape) := [(.ret, { env := [(2, .av (.val .bool))], objs := [] }), (.exit 0, { env := [], objs := [] })]
def compact_rectangular_B4 (x : Q48) : Option (Q48 ⊕ ((Bool × Unit) ⊕ (Unit ⊕ Empty))) :=
  let (a,b,c,d,e,f,g,h,i,_) := x; cond (ltI i h) ((idxI g.length i).bind fun j1 => (g[j1]?).bind fun y2 => (compact_rectangular_L8 (a,b,c,d,e,f,g,y2,1,h,i,y2,(y2.length : Nat),0,())).bind (Sum.elim (fun (a_4,b_4,c_4,d_4,e_4,f_4,g_4,h_4,i_4,k_4,l_4,_) => (compact_rectangular_L15 (a_4,b_4,c_4,d_4,e_4,f_4,g_4,i_4,0,k_4,l_4,h_4,(h_4.length : Nat),0,())).bind (Sum.elim (fun z6 => some (.inr (.inl (z6.1,())))) (Sum.elim (fun (a_7,b_7,c_7,d_7,e_7,f_7,g_7,h_7,i_7,k_7,_) => cond (neI h_7 4) (some (.inr (.inl (false,())))) (some (.inl (a_7,b_7,c_7,d_7,e_7,f_7,g_7,i_7,(addI .i64 k_7 1),())))) (fun _ => none)))) (fun _ => none))) (some (.inr (.inr (.inl ()))))
def compact_rectangular_L4 : Q48 → Option ((Bool × Unit) ⊕ (Unit ⊕ Empty)) := loopFix compact_rectangular_B4
def compact_rectangular_A4 : Ann := { head := compact_rectangular_H4, exits := compact_rectangular_E4, fn := compact_rectangular_L4 }
def compact_rectangular_As : Anns := [(4, compact_rectangular_A4), (8, compact_rectangular_A8), (15, compact_rectangular_A15)]
def compact_rectangular (x : (Q10 × Unit)) : Option (Bool × Unit) :=
  let (((a,b,c,_),d,e,f,_),_) := x; cond (eqI (d.length : Nat) 0) (some (false,())) ((rotation_Faces ((a,b,c,()),())).bind fun r1 => (compact_rectangular_L4 (a,b,c,d,e,f,r1.1,(r1.1.length : Nat),0,())).bind (Sum.elim (fun z3 => some (z3.1,())) (Sum.elim (fun z4 => some (true,())) (fun _ => none))))
def compact_rectangular_c : Con := { ins := [(.rd, yQ11)], outs := [(true, .bool)], fn := compact_rectangular }
def compact_rectangular_C : Ctx := { tab := tab, con := fun | 48, _ => some rotation_Faces_c | _, _ => none, glob := glob, eqs := eqs, maps := maps }
theorem compact_rectangular_R15 (x : compact_rectangular_H15.ty.den) : round compact_rectangular_C compact_rectangular_As compact_rectangular_A15 (loopBody 15 (bodyOf Tryd.f25)) x = compact_rectangular_B15 x := by kernel_rfl
theorem compact_rectangular_R8 (x : compact_rectangular_H8.ty.den) : round compact_rectangular_C compact_rectangular_As compact_rectangular_A8 (loopBody 8 (bodyOf Tryd.f25)) x = compact_rectangular_B8 x := by kernel_rfl
theorem compact_rectangular_R4 (x : compact_rectangular_H4.ty.den) : round compact_rectangular_C compact_rectangular_As compact_rectangular_A4 (loopBody 4 (bodyOf Tryd.f25)) x = compact_rectangular_B4 x := by kernel_rfl
theorem compact_rectangular_eq (x : (tupTy [yQ11]).den) : callFn compact_rectangular_C compact_rectangular_As (bodyOf Tryd.f25) [(.rd, yQ11)] [(.tmp 2, true, .bool)] x = compact_rectangular x := by kernel_rfl
def compact_classes_H11 : Shape := { env := [(1, .av (.val (.slice I))), (2, .av (.val I)), (3, .av (.ptr 3 0)), (7, .av (.own 7)), (9, .av (.val .bool)), (29, .av (.val (.slice I))), (30, .av (.val I)), (31, .av (.val I))], objs := [(3, .box [.val I, .val (.slice yQ2), .val yQ5, .val (.slice I), .val (.slice .str), .val I]), (7, .arr I)] }
def compact_classes_E11 : List (Ex × Shape) := [(.exit 4, { env := [(1, .av (.val (.slice I))), (2, .av (.val I)), (3, .av (.ptr 3 0)), (7, .av (.own 7)), (9, .av (.val .bool))], objs := [(3, .box [.val I, .val (.slice yQ2), .val yQ5, .val (.slice I), .val (.slice .str), .val I]), (7, .arr I)] })]
def compact_classes_B11 (x : Q63) : Option (Q63 ⊕ (Q50 ⊕ Empty)) :=
  let (a,b,c,d,e,f,g,h,i,k,l,m,n,_) := x; cond (ltI n m) ((getI l n).bind fun y1 => (rotation_Tail ((a,b,c,()),n,())).bind fun r2 => (rotation_Tail ((a,b,c,()),(xorI .i64 n 1),())).bind fun r3 => cond (eqI y1 i) ((idxI g.length r2.1).bind fun j4 => (g[j4]?).bind fun y5 => (idxI g.length r3.1).bind fun j6 => (g[j6]?).bind fun y7 => cond (neI y5 y7) ((idxI g.length r2.1).bind fun j8 => (g[j8]?).bind fun y9 => (idxI g.length r3.1).bind fun j10 => (g[j10]?).bind fun y11 => (idxI g.length r2.1).bind fun j12 => (g[j12]?).bind fun y13 => (idxI (g.set j12 (minI y9 y11)).length r2.1).bind fun j14 => ((g.set j12 (minI y9 y11))[j14]?).bind fun y15 => (idxI (g.set j12 (minI y9 y11)).length r3.1).bind fun j16 => ((g.set j12 (minI y9 y11))[j16]?).bind fun y17 => some (.inl (a,b,c,d,e,f,((g.set j12 (minI y9 y11)).set j16 y15),h,i,true,l,m,(addI .i64 n 1),()))) (some (.inl (a,b,c,d,e,f,g,h,i,k,l,m,(addI .i64 n 1),())))) (some (.inl (a,b,c,d,e,f,g,h,i,k,l,m,(addI .i64 n 1),())))) (some (.inr (.inl (a,b,c,d,e,f,g,h,i,k,()))))
def compact_classes_L11 : Q63 → Option (Q50 ⊕ Empty) := loopFix compact_classes_B11
def compact_classes_A11 : Ann := { head := compact_classes_H11, exits := compact_classes_E11, fn := compact_classes_L11 }
def compact_classes_H8 : Shape := { env := [(1, .av (.val (.slice I))), (2, .av (.val I)), (3, .av (.ptr 3 0)), (7, .av (.own 7)), (9, .av (.val .bool))], objs := [(3, .box [.val I, .val (.slice yQ2), .val yQ5, .val (.slice I), .val (.slice .str), .val I]), (7, .arr I)] }
def compact_classes_E8 : List (Ex × Shape) := [(.exit 2, { env := [(7, .av (.own 7))], objs := [(7, .arr I)] })]
def compact_classes_B8 (x : Q50) : Option (Q50 ⊕ (Q1 ⊕ Empty)) :=
  let (a,b,c,d,e,f,g,h,i,k,_) := x; cond k ((compact_classes_L11 (a,b,c,d,e,f,g,h,i,false,h,(h.length : Nat),0,())).bind (Sum.elim (fun (a_2,b_2,c_2,d_2,e_2,f_2,g_2,h_2,i_2,k_2,_) => some (.inl (a_2,b_2,c_2,d_2,e_2,f_2,g_2,h_2,i_2,k_2,()))) (fun _ => none))) (some (.inr (.inl (g,()))))
def compact_classes_L8 : Q50 → Option (Q1 ⊕ Empty) := loopFix compact_classes_B8
def compact_classes_A8 : Ann := { head := compact_classes_H8, exits := compact_classes_E8, fn := compact_classes_L8 }
def compact_classes_H3 : Shape := { env := [(1, .av (.val (.slice I))), (2, .av (.val I)), (3, .av (.ptr 3 0)), (7, .av (.own 7)), (19, .av (.val I)), (20, .av (.val I))], objs := [(3, .box [.val I, .val (.slice yQ2), .val yQ5, .val (.slice I), .val (.slice .str), .val I]), (7, .arr I)] }
def compact_classes_E3 : List (Ex × Shape) := [(.exit 0, { env := [(1, .av (.val (.slice I))), (2, .av (.val I)), (3, .av (.ptr 3 0)), (7, .av (.own 7))], objs := [(3, .box [.val I, .val (.slice yQ2), .val yQ5, .val (.slice I), .val (.slice .str), .val I]), (7, .arr I)] })]
def compact_classes_B3 (x : Q55) : Option (Q55 ⊕ (Q45 ⊕ Empty)) :=
  let (a,b,c,d,e,f,g,h,i,k,l,_) := x; cond (ltI l k) ((idxI g.length l).bind fun j1 => (g[j1]?).bind fun y2 => some (.inl (a,b,c,d,e,f,(g.set j1 l),h,i,k,(addI .i64 l 1),()))) (some (.inr (.inl (a,b,c,d,e,f,g,h,i,()))))
def compact_classes_L3 : Q55 → Option (Q45 ⊕ Empty) := loopFix compact_classes_B3
def compact_classes_A3 : Ann := { head := compact_classes_H3, exits := compact_classes_E3, fn := compact_classes_L3 }
def compact_classes_As : Anns := [(3, compact_classes_A3), (8, compact_classes_A8), (11, compact_classes_A11)]
def compact_classes (x : (Q10 × List Int × Int × Unit)) : Option Q1 :=
  let (((a,b,c,_),d,e,f,_),g,h,_) := x; (makeL I a a).bind fun m1 => (compact_classes_L3 (a,b,c,d,e,f,m1,g,h,(m1.length : Nat),0,())).bind (Sum.elim (fun (a_3,b_3,c_3,d_3,e_3,f_3,g_3,h_3,i_3,_) => (compact_classes_L8 (a_3,b_3,c_3,d_3,e_3,f_3,g_3,h_3,i_3,true,())).bind (Sum.elim (fun z5 => some (z5.1,())) (fun _ => none))) (fun _ => none))
def compact_classes_c : Con := { ins := [(.rd, yQ11), (.rd, (.slice I)), (.rd, I)], outs := [(true, (.slice I))], fn := compact_classes }
def compact_classes_C : Ctx := { tab := tab, con := fun | 31, _ => some rotation_Tail_c | _, _ => none, glob := glob, eqs := eqs, maps := maps }
theorem compact_classes_R11 (x : compact_classes_H11.ty.den) : round compact_classes_C compact_classes_As compact_classes_A11 (loopBody 11 (bodyOf Tryd.f27)) x = compact_classes_B11 x := by kernel_rfl
theorem compact_classes_R8 (x : compact_classes_H8.ty.den) : round compact_classes_C compact_classes_As compact_classes_A8 (loopBody 8 (bodyOf Tryd.f27)) x = compact_classes_B8 x := by kernel_rfl
theorem compact_classes_R3 (x : compact_classes_H3.ty.den) : round compact_classes_C compact_classes_As compact_classes_A3 (loopBody 3 (bodyOf Tryd.f27)) x = compact_classes_B3 x := by kernel_rfl
theorem compact_classes_eq (x : (tupTy [yQ11, (.slice I), I]).den) : callFn compact_classes_C compact_classes_As (bodyOf Tryd.f27) [(.rd, yQ11), (.rd, (.slice I)), (.rd, I)] [(.tmp 6, true, (.slice I))] x = compact_classes x := by kernel_rfl
def compact_ranks_H14 : Shape := { env := [(2, .av (.val (.slice I))), (9, .av (.own 9)), (14, .av (.own 14)), (70, .av (.val I)), (71, .av (.val I))], objs := [(9, .arr I), (14, .arr I)] }
def compact_ranks_E14 : List (Ex × Shape) := [(.exit 4, { env := [(14, .av (.own 14))], objs := [(14, .arr I)] })]
def compact_ranks_B14 (x : Q13) : Option (Q13 ⊕ (Q1 ⊕ Empty)) :=
  let (a,b,c,d,e,_) := x; cond (ltI e d) ((getI c e).bind fun y1 => (idxI a.length y1).bind fun j2 => (a[j2]?).bind fun y3 => (idxI b.length e).bind fun j4 => (b[j4]?).bind fun y5 => some (.inl (a,(b.set j4 y3),c,d,(addI .i64 e 1),()))) (some (.inr (.inl (b,()))))
def compact_ranks_L14 : Q13 → Option (Q1 ⊕ Empty) := loopFix compact_ranks_B14
def compact_ranks_A14 : Ann := { head := compact_ranks_H14, exits := compact_ranks_E14, fn := compact_ranks_L14 }
def compact_ranks_H5 : Shape := { env := [(1, .av (.val (.slice I))), (2, .av (.val (.slice I))), (3, .av (.val I)), (4, .av (.ptr 4 0)), (9, .av (.own 9)), (22, .av (.val I)), (23, .av (.val I)), (25, .av (.val (.slice I))), (26, .av (.val I)), (27, .av (.val I))], objs := [(4, .box [.val I, .val (.slice yQ2), .val yQ5, .val (.slice I), .val (.slice .str), .val I]), (9, .arr I)] }
def compact_ranks_E5 : List (Ex × Shape) := [(.exit 2, { env := [(1, .av (.val (.slice I))), (2, .av (.val (.slice I))), (3, .av (.val I)), (4, .av (.ptr 4 0)), (9, .av (.own 9)), (22, .av (.val I)), (23, .av (.val I))], objs := [(4, .box [.val I, .val (.slice yQ2), .val yQ5, .val (.slice I), .val (.slice .str), .val I]), (9, .arr I)] })]
def compact_ranks_B5 (x : Q68) : Option (Q68 ⊕ (Q61 ⊕ Empty)) :=
  let (a,b,c,d,e,f,g,h,i,k,l,m,n,o,p,_) := x; cond (ltI p o) ((getI n p).bind fun y1 => (rotation_Tail ((a,b,c,()),p,())).bind fun r2 => (getI i r2.1).bind fun y3 => (rotation_Tail ((a,b,c,()),(xorI .i64 p 1),())).bind fun r4 => (getI i r4.1).bind fun y5 => cond (eqI y1 k) ((idxI g.length y5).bind fun j6 => (g[j6]?).bind fun y7 => (idxI g.length y3).bind fun j8 => (g[j8]?).bind fun y9 => (idxI g.length y5).bind fun j10 => (g[j10]?).bind fun y11 => some (.inl (a,b,c,d,e,f,(g.set j10 (maxI y7 (addI .i64 y9 1))),h,i,k,l,m,n,o,(addI .i64 p 1),()))) (some (.inl (a,b,c,d,e,f,g,h,i,k,l,m,n,o,(addI .i64 p 1),())))) (some (.inr (.inl (a,b,c,d,e,f,g,h,i,k,l,m,()))))
def compact_ranks_L5 : Q68 → Option (Q61 ⊕ Empty) := loopFix compact_ranks_B5
def compact_ranks_A5 : Ann := { head := compact_ranks_H5, exits := compact_ranks_E5, fn := compact_ranks_L5 }
def compact_ranks_H3 : Shape := { env := [(1, .av (.val (.slice I))), (2, .av (.val (.slice I))), (3, .av (.val I)), (4, .av (.ptr 4 0)), (9, .av (.own 9)), (22, .av (.val I)), (23, .av (.val I))], objs := [(4, .box [.val I, .val (.slice yQ2), .val yQ5, .val (.slice I), .val (.slice .str), .val I]), (9, .arr I)] }
def compact_ranks_E3 : List (Ex × Shape) := [(.exit 0, { env := [(2, .av (.val (.slice I))), (4, .av (.ptr 4 0)), (9, .av (.own 9))], objs := [(4, .box [.val I, .val (.slice yQ2), .val yQ5, .val (.slice I), .val (.slice .str), .val I]), (9, .arr I)] })]
def compact_ranks_B3 (x : Q61) : Option (Q61 ⊕ (Q41 ⊕ Empty)) :=
  let (a,b,c,d,e,f,g,h,i,k,l,m,_) := x; cond (ltI m l) ((compact_ranks_L5 (a,b,c,d,e,f,g,h,i,k,l,m,h,(h.length : Nat),0,())).bind (Sum.elim (fun (a_2,b_2,c_2,d_2,e_2,f_2,g_2,h_2,i_2,k_2,l_2,m_2,_) => some (.inl (a_2,b_2,c_2,d_2,e_2,f_2,g_2,h_2,i_2,k_2,l_2,(addI .i64 m_2 1),()))) (fun _ => none))) (some (.inr (.inl (a,b,c,d,e,f,g,i,()))))
def compact_ranks_L3 : Q61 → Option (Q41 ⊕ Empty) := loopFix compact_ranks_B3
def compact_ranks_A3 : Ann := { head := compact_ranks_H3, exits := compact_ranks_E3, fn := compact_ranks_L3 }
def compact_ranks_As : Anns := [(3, compact_ranks_A3), (5, compact_ranks_A5), (14, compact_ranks_A14)]
def compact_ranks (x : (Q10 × List Int × List Int × Int × Unit)) : Option Q1 :=
  let (((a,b,c,_),d,e,f,_),g,h,i,_) := x; (makeL I a a).bind fun m1 => (compact_ranks_L3 (a,b,c,d,e,f,m1,g,h,i,a,0,())).bind (Sum.elim (fun (a_3,_,_,_,_,_,b_3,c_3,_) => (makeL I a_3 a_3).bind fun m4 => (compact_ranks_L14 (b_3,m4,c_3,(m4.length : Nat),0,())).bind (Sum.elim (fun z6 => some (z6.1,())) (fun _ => none))) (fun _ => none))
def compact_ranks_c : Con := { ins := [(.rd, yQ11), (.rd, (.slice I)), (.rd, (.slice I)), (.rd, I)], outs := [(true, (.slice I))], fn := compact_ranks }
def compact_ranks_C : Ctx := { tab := tab, con := fun | 31, _ => some rotation_Tail_c | _, _ => none, glob := glob, eqs := eqs, maps := maps }
theorem compact_ranks_R14 (x : compact_ranks_H14.ty.den) : round compact_ranks_C compact_ranks_As compact_ranks_A14 (loopBody 14 (bodyOf Tryd.f26)) x = compact_ranks_B14 x := by kernel_rfl
theorem compact_ranks_R5 (x : compact_ranks_H5.ty.den) : round compact_ranks_C compact_ranks_As compact_ranks_A5 (loopBody 5 (bodyOf Tryd.f26)) x = compact_ranks_B5 x := by kernel_rfl
theorem compact_ranks_R3 (x : compact_ranks_H3.ty.den) : round compact_ranks_C compact_ranks_As compact_ranks_A3 (loopBody 3 (bodyOf Tryd.f26)) x = compact_ranks_B3 x := by kernel_rfl
theorem compact_ranks_eq (x : (tupTy [yQ11, (.slice I), (.slice I), I]).den) : callFn compact_ranks_C compact_ranks_As (bodyOf Tryd.f26) [(.rd, yQ11), (.rd, (.slice I)), (.rd, (.slice I)), (.rd, I)] [(.tmp 8, true, (.slice I))] x = compact_ranks x := by kernel_rfl
def compact_Place_H8 : Shape := { env := [(5, .av (.own 5)), (6, .av (.own 6)), (7, .av (.own 7)), (36, .av (.val I)), (37, .av (.val I))], objs := [(5, .arr I), (6, .arr I), (7, .arr yQ2)] }
def compact_Place_E8 : List (Ex × Shape) := [(.exit 0, { env := [(7, .av (.own 7))], objs := [(7, .arr yQ2)] })]
def compact_Place_B8 (x : Q15) : Option (Q15 ⊕ (((List Q2) × Unit) ⊕ Empty)) :=
  let (a,b,c,d,e,_) := x; cond (ltI e d) ((idxI a.length e).bind fun j1 => (a[j1]?).bind fun y2 => (idxI b.length e).bind fun j3 => (b[j3]?).bind fun y4 => (idxI c.length e).bind fun j5 => (c[j5]?).bind fun y6 => some (.inl (a,b,(c.set j5 (y2,y4,())),d,(addI .i64 e 1),()))) (some (.inr (.inl (c,()))))
def compact_Place_L8 : Q15 → Option (((List Q2) × Unit) ⊕ Empty) := loopFix compact_Place_B8
def compact_Place_A8 : Ann := { head := compact_Place_H8, exits := compact_Place_E8, fn := compact_Place_L8 }
def compact_Place_As : Anns := [(8, compact_Place_A8)]
def compact_Place (x : (Q10 × Unit)) : Option ((List Q2) × Int × Unit) :=
  let (((a,b,c,_),d,e,f,_),_) := x; (compact_straight (((a,b,c,()),d,e,f,()),())).bind fun r1 => cond (!r1.1) (some ([],13,())) ((compact_rectangular (((a,b,c,()),d,e,f,()),())).bind fun r2 => cond (!r2.1) (some ([],13,())) ((compact_directed (((a,b,c,()),d,e,f,()),())).bind fun r3 => (compact_classes (((a,b,c,()),d,e,f,()),r3.1,0,())).bind fun r4 => (compact_ranks (((a,b,c,()),d,e,f,()),r3.1,r4.1,1,())).bind fun r5 => (compact_classes (((a,b,c,()),d,e,f,()),r3.1,1,())).bind fun r6 => (compact_ranks (((a,b,c,()),d,e,f,()),r3.1,r6.1,2,())).bind fun r7 => (makeL yQ2 a a).bind fun m8 => (compact_Place_L8 (r5.1,r7.1,m8,(m8.length : Nat),0,())).bind (Sum.elim (fun z10 => some (z10.1,0,())) (fun _ => none))))
def compact_Place_c : Con := { ins := [(.rd, yQ11)], outs := [(true, (.slice yQ2)), (true, I)], fn := compact_Place }
def compact_Place_C : Ctx := { tab := tab, con := fun | 22, _ => some compact_straight_c | 23, _ => some compact_directed_c | 25, _ => some compact_rectangular_c | 26, _ => some compact_ranks_c | 27, _ => some compact_classes_c | _, _ => none, glob := glob, eqs := eqs, maps := maps }
theorem compact_Place_R8 (x : compact_Place_H8.ty.den) : round compact_Place_C compact_Place_As compact_Place_A8 (loopBody 8 (bodyOf Tryd.f13)) x = compact_Place_B8 x := by kernel_rfl
theorem compact_Place_eq (x : (tupTy [yQ11]).den) : callFn compact_Place_C compact_Place_As (bodyOf Tryd.f13) [(.rd, yQ11)] [(.tmp 2, true, (.slice yQ2)), (.tmp 3, true, I)] x = compact_Place x := by kernel_rfl
def layoutref14_SameInts_H4 : Shape := { env := [(0, .av (.val (.slice I))), (1, .av (.val (.slice I))), (5, .av (.val I))], objs := [] }
def layoutref14_SameInts_E4 : List (Ex × Shape) := [(.ret, { env := [(4, .av (.val .bool))], objs := [] }), (.exit 0, { env := [], objs := [] })]
def layoutref14_SameInts_B4 (x : (List Int × List Int × Int × Unit)) : Option ((List Int × List Int × Int × Unit) ⊕ ((Bool × Unit) ⊕ (Unit ⊕ Empty))) :=
  let (a,b,c,_) := x; cond (ltI c (a.length : Nat)) ((getI a c).bind fun y1 => (getI b c).bind fun y2 => cond (neI y1 y2) (some (.inr (.inl (false,())))) (some (.inl (a,b,(addI .i64 c 1),())))) (some (.inr (.inr (.inl ()))))
def layoutref14_SameInts_L4 : (List Int × List Int × Int × Unit) → Option ((Bool × Unit) ⊕ (Unit ⊕ Empty)) := loopFix layoutref14_SameInts_B4
def layoutref14_SameInts_A4 : Ann := { head := layoutref14_SameInts_H4, exits := layoutref14_SameInts_E4, fn := layoutref14_SameInts_L4 }
def layoutref14_SameInts_As : Anns := [(4, layoutref14_SameInts_A4)]
def layoutref14_SameInts (x : (List Int × List Int × Unit)) : Option (Bool × Unit) :=
  cond (neI (x.1.length : Nat) (x.2.1.length : Nat)) (some (false,())) ((layoutref14_SameInts_L4 (x.1,x.2.1,0,())).bind (Sum.elim (fun z2 => some (z2.1,())) (Sum.elim (fun z3 => some (true,())) (fun _ => none))))
def layoutref14_SameInts_c : Con := { ins := [(.rd, (.slice I)), (.rd, (.slice I))], outs := [(true, .bool)], fn := layoutref14_SameInts }
def layoutref14_SameInts_C : Ctx := { tab := tab, con := fun _ _ => none, glob := glob, eqs := eqs, maps := maps }
theorem layoutref14_SameInts_R4 (x : layoutref14_SameInts_H4.ty.den) : round layoutref14_SameInts_C layoutref14_SameInts_As layoutref14_SameInts_A4 (loopBody 4 (bodyOf Tryd.f12)) x = layoutref14_SameInts_B4 x := by kernel_rfl
theorem layoutref14_SameInts_eq (x : (tupTy [(.slice I), (.slice I)]).den) : callFn layoutref14_SameInts_C layoutref14_SameInts_As (bodyOf Tryd.f12) [(.rd, (.slice I)), (.rd, (.slice I))] [(.tmp 4, true, .bool)] x = layoutref14_SameInts x := by kernel_rfl
def layoutlaw42_samePoints_H4 : Shape := { env := [(0, .av (.val (.slice yQ2))), (1, .av (.val (.slice yQ2))), (5, .av (.val I))], objs := [] }
def layoutlaw42_samePoints_E4 : List (Ex × Shape) := [(.ret, { env := [(4, .av (.val .bool))], objs := [] }), (.exit 0, { env := [], objs := [] })]
def layoutlaw42_samePoints_B4 (x : ((List Q2) × (List Q2) × Int × Unit)) : Option (((List Q2) × (List Q2) × Int × Unit) ⊕ ((Bool × Unit) ⊕ (Unit ⊕ Empty))) :=
  let (a,b,c,_) := x; cond (ltI c (a.length : Nat)) ((getI a c).bind fun y1 => (getI b c).bind fun y2 => cond (!((eqI y1.1 y2.1) && ((eqI y1.2.1 y2.2.1) && true))) (some (.inr (.inl (false,())))) (some (.inl (a,b,(addI .i64 c 1),())))) (some (.inr (.inr (.inl ()))))
def layoutlaw42_samePoints_L4 : ((List Q2) × (List Q2) × Int × Unit) → Option ((Bool × Unit) ⊕ (Unit ⊕ Empty)) := loopFix layoutlaw42_samePoints_B4
def layoutlaw42_samePoints_A4 : Ann := { head := layoutlaw42_samePoints_H4, exits := layoutlaw42_samePoints_E4, fn := layoutlaw42_samePoints_L4 }
def layoutlaw42_samePoints_As : Anns := [(4, layoutlaw42_samePoints_A4)]
def layoutlaw42_samePoints (x : ((List Q2) × (List Q2) × Unit)) : Option (Bool × Unit) :=
  cond (neI (x.1.length : Nat) (x.2.1.length : Nat)) (some (false,())) ((layoutlaw42_samePoints_L4 (x.1,x.2.1,0,())).bind (Sum.elim (fun z2 => some (z2.1,())) (Sum.elim (fun z3 => some (true,())) (fun _ => none))))
def layoutlaw42_samePoints_c : Con := { ins := [(.rd, (.slice yQ2)), (.rd, (.slice yQ2))], outs := [(true, .bool)], fn := layoutlaw42_samePoints }
def layoutlaw42_samePoints_C : Ctx := { tab := tab, con := fun _ _ => none, glob := glob, eqs := eqs, maps := maps }
theorem layoutlaw42_samePoints_R4 (x : layoutlaw42_samePoints_H4.ty.den) : round layoutlaw42_samePoints_C layoutlaw42_samePoints_As layoutlaw42_samePoints_A4 (loopBody 4 (bodyOf Tryd.f15)) x = layoutlaw42_samePoints_B4 x := by kernel_rfl
theorem layoutlaw42_samePoints_eq (x : (tupTy [(.slice yQ2), (.slice yQ2)]).den) : callFn layoutlaw42_samePoints_C layoutlaw42_samePoints_As (bodyOf Tryd.f15) [(.rd, (.slice yQ2)), (.rd, (.slice yQ2))] [(.tmp 4, true, .bool)] x = layoutlaw42_samePoints x := by kernel_rfl
def geom_Valid_As : Anns := []
def geom_Valid (x : (Q2 × Unit)) : Option (Bool × Unit) :=
  let ((a,b,_),_) := x; cond (geI a (-268435456)) (cond (leI a 268435456) (cond (geI b (-268435456)) (some ((leI b 268435456),())) (some (false,()))) (some (false,()))) (some (false,()))
def geom_Valid_c : Con := { ins := [(.rd, yQ2)], outs := [(true, .bool)], fn := geom_Valid }
def geom_Valid_C : Ctx := { tab := tab, con := fun _ _ => none, glob := glob, eqs := eqs, maps := maps }
theorem geom_Valid_eq (x : (tupTy [yQ2]).den) : callFn geom_Valid_C geom_Valid_As (bodyOf Tryd.f49) [(.rd, yQ2)] [(.tmp 2, true, .bool)] x = geom_Valid x := by kernel_rfl
def compact_different_H3 : Shape := { env := [(3, .av (.ownm 3)), (7, .av (.val (.slice yQ2))), (8, .av (.val I)), (9, .av (.val I))], objs := [(3, .map yQ2 .bool)] }
def compact_different_E3 : List (Ex × Shape) := [(.ret, { env := [(2, .av (.val .bool))], objs := [] }), (.exit 0, { env := [], objs := [] })]
def compact_different_B3 (x : Q14) : Option (Q14 ⊕ ((Bool × Unit) ⊕ (Unit ⊕ Empty))) :=
  let (a,b,c,d,_) := x; cond (ltI d c) ((getI b d).bind fun y1 => (geom_Valid ((y1.1,y1.2.1,()),())).bind fun r2 => cond (!r2.1) (some (.inr (.inl (false,())))) (cond ((mapGet yQ2 .bool (y1.1,y1.2.1,()) a).getD (zeroVal .bool)) (some (.inr (.inl (false,())))) (some (.inl ((mapSet yQ2 .bool (y1.1,y1.2.1,()) true a),b,c,(addI .i64 d 1),()))))) (some (.inr (.inr (.inl ()))))
def compact_different_L3 : Q14 → Option ((Bool × Unit) ⊕ (Unit ⊕ Empty)) := loopFix compact_different_B3
def compact_different_A3 : Ann := { head := compact_different_H3, exits := compact_different_E3, fn := compact_different_L3 }
def compact_different_As : Anns := [(3, compact_different_A3)]
def compact_different (x : ((List Q2) × Unit)) : Option (Bool × Unit) :=
  (compact_different_L3 ([],x.1,(x.1.length : Nat),0,())).bind (Sum.elim (fun z2 => some (z2.1,())) (Sum.elim (fun z3 => some (true,())) (fun _ => none)))
def compact_different_c : Con := { ins := [(.rd, (.slice yQ2))], outs := [(true, .bool)], fn := compact_different }
def compact_different_C : Ctx := { tab := tab, con := fun | 49, _ => some geom_Valid_c | _, _ => none, glob := glob, eqs := eqs, maps := maps }
theorem compact_different_R3 (x : compact_different_H3.ty.den) : round compact_different_C compact_different_As compact_different_A3 (loopBody 3 (bodyOf Tryd.f29)) x = compact_different_B3 x := by kernel_rfl
theorem compact_different_eq (x : (tupTy [(.slice yQ2)]).den) : callFn compact_different_C compact_different_As (bodyOf Tryd.f29) [(.rd, (.slice yQ2))] [(.tmp 2, true, .bool)] x = compact_different x := by kernel_rfl
def compact_leads_As : Anns := []
def compact_leads (x : (Q2 × Q2 × Int × Unit)) : Option (Bool × Unit) :=
  let ((a,b,_),(c,d,_),e,_) := x; cond (eqI e 0) (cond (eqI a c) (some ((ltI d b),())) (some (false,()))) (cond (eqI e 1) (cond (eqI b d) (some ((gtI c a),())) (some (false,()))) (cond (eqI e 2) (cond (eqI a c) (some ((gtI d b),())) (some (false,()))) (cond (eqI b d) (some ((ltI c a),())) (some (false,())))))
def compact_leads_c : Con := { ins := [(.rd, yQ2), (.rd, yQ2), (.rd, I)], outs := [(true, .bool)], fn := compact_leads }
def compact_leads_C : Ctx := { tab := tab, con := fun _ _ => none, glob := glob, eqs := eqs, maps := maps }
theorem compact_leads_eq (x : (tupTy [yQ2, yQ2, I]).den) : callFn compact_leads_C compact_leads_As (bodyOf Tryd.f30) [(.rd, yQ2), (.rd, yQ2), (.rd, I)] [(.tmp 6, true, .bool)] x = compact_leads x := by kernel_rfl
def geom_of_As : Anns := []
def geom_of (x : (Q3 × Unit)) : Option (Q3 × Bool × Unit) :=
  let (((a,b,_),(c,d,_),_),_) := x; (geom_Valid ((a,b,()),())).bind fun r1 => cond r1.1 ((geom_Valid ((c,d,()),())).bind fun r2 => some (((a,b,()),(c,d,()),()),r2.1,())) (some (((a,b,()),(c,d,()),()),false,()))
def geom_of_c : Con := { ins := [(.rd, yQ4)], outs := [(true, yQ4), (true, .bool)], fn := geom_of }
def geom_of_C : Ctx := { tab := tab, con := fun | 49, _ => some geom_Valid_c | _, _ => none, glob := glob, eqs := eqs, maps := maps }
theorem geom_of_eq (x : (tupTy [yQ4]).den) : callFn geom_of_C geom_of_As (bodyOf Tryd.f66) [(.rd, yQ4)] [(.cell 2 78, true, yQ4), (.tmp 3, true, .bool)] x = geom_of x := by kernel_rfl
def geom_line__spans_As : Anns := []
def geom_line__spans (x : (Q3 × Q2 × Unit)) : Option (Bool × Unit) :=
  let (((a,b,_),(c,d,_),_),(e,f,_),_) := x; cond (geI e (minI a c)) (cond (leI e (maxI a c)) (cond (geI f (minI b d)) (some ((leI f (maxI b d)),())) (some (false,()))) (some (false,()))) (some (false,()))
def geom_line__spans_c : Con := { ins := [(.rd, yQ4), (.rd, yQ2)], outs := [(true, .bool)], fn := geom_line__spans }
def geom_line__spans_C : Ctx := { tab := tab, con := fun _ _ => none, glob := glob, eqs := eqs, maps := maps }
theorem geom_line__spans_eq (x : (tupTy [yQ4, yQ2]).den) : callFn geom_line__spans_C geom_line__spans_As (bodyOf Tryd.f81) [(.rd, yQ4), (.rd, yQ2)] [(.tmp 4, true, .bool)] x = geom_line__spans x := by kernel_rfl
def geom_line__side_As : Anns := []
def geom_line__side (x : (Q3 × Q2 × Unit)) : Option (Int × Unit) :=
  let (((a,b,_),(c,d,_),_),(e,f,_),_) := x; cond (gtI (subI .i64 (mulI .i64 (subI .i64 c a) (subI .i64 f b)) (mulI .i64 (subI .i64 d b) (subI .i64 e a))) 0) (some (1,())) (cond (ltI (subI .i64 (mulI .i64 (subI .i64 c a) (subI .i64 f b)) (mulI .i64 (subI .i64 d b) (subI .i64 e a))) 0) (some ((-1),())) (some (0,())))
def geom_line__side_c : Con := { ins := [(.rd, yQ4), (.rd, yQ2)], outs := [(true, I)], fn := geom_line__side }
def geom_line__side_C : Ctx := { tab := tab, con := fun _ _ => none, glob := glob, eqs := eqs, maps := maps }
theorem geom_line__side_eq (x : (tupTy [yQ4, yQ2]).den) : callFn geom_line__side_C geom_line__side_As (bodyOf Tryd.f82) [(.rd, yQ4), (.rd, yQ2)] [(.tmp 4, true, I)] x = geom_line__side x := by kernel_rfl
def geom_line__on_As : Anns := []
def geom_line__on (x : (Q3 × Q2 × Unit)) : Option (Bool × Unit) :=
  let (((a,b,_),(c,d,_),_),(e,f,_),_) := x; (geom_line__spans (((a,b,()),(c,d,()),()),(e,f,()),())).bind fun r1 => cond r1.1 ((geom_line__side (((a,b,()),(c,d,()),()),(e,f,()),())).bind fun r2 => some ((eqI r2.1 0),())) (some (false,()))
def geom_line__on_c : Con := { ins := [(.rd, yQ4), (.rd, yQ2)], outs := [(true, .bool)], fn := geom_line__on }
def geom_line__on_C : Ctx := { tab := tab, con := fun | 81, _ => some geom_line__spans_c | 82, _ => some geom_line__side_c | _, _ => none, glob := glob, eqs := eqs, maps := maps }
theorem geom_line__on_eq (x : (tupTy [yQ4, yQ2]).den) : callFn geom_line__on_C geom_line__on_As (bodyOf Tryd.f67) [(.rd, yQ4), (.rd, yQ2)] [(.tmp 4, true, .bool)] x = geom_line__on x := by kernel_rfl
def geom_On_As : Anns := []
def geom_On (x : (Q2 × Q3 × Unit)) : Option (Bool × Unit) :=
  let ((a,b,_),((c,d,_),(e,f,_),_),_) := x; (geom_of (((c,d,()),(e,f,()),()),())).bind fun r1 => cond r1.2.1 ((geom_Valid ((a,b,()),())).bind fun r2 => cond r2.1 ((geom_line__on (((r1.1.1.1,r1.1.1.2.1,()),(r1.1.2.1.1,r1.1.2.1.2.1,()),()),(a,b,()),())).bind fun r3 => some (r3.1,())) (some (false,()))) (some (false,()))
def geom_On_c : Con := { ins := [(.rd, yQ2), (.rd, yQ4)], outs := [(true, .bool)], fn := geom_On }
def geom_On_C : Ctx := { tab := tab, con := fun | 49, _ => some geom_Valid_c | 66, _ => some geom_of_c | 67, _ => some geom_line__on_c | _, _ => none, glob := glob, eqs := eqs, maps := maps }
theorem geom_On_eq (x : (tupTy [yQ2, yQ4]).den) : callFn geom_On_C geom_On_As (bodyOf Tryd.f52) [(.rd, yQ2), (.rd, yQ4)] [(.tmp 4, true, .bool)] x = geom_On x := by kernel_rfl
def geom_line__parts_As : Anns := []
def geom_line__parts (x : (Q3 × Q3 × Unit)) : Option (Bool × Unit) :=
  let (((a,b,_),(c,d,_),_),((e,f,_),(g,h,_),_),_) := x; (geom_line__side (((a,b,()),(c,d,()),()),(e,f,()),())).bind fun r1 => (geom_line__side (((a,b,()),(c,d,()),()),(g,h,()),())).bind fun r2 => some ((ltI (mulI .i64 r1.1 r2.1) 0),())
def geom_line__parts_c : Con := { ins := [(.rd, yQ4), (.rd, yQ4)], outs := [(true, .bool)], fn := geom_line__parts }
def geom_line__parts_C : Ctx := { tab := tab, con := fun | 82, _ => some geom_line__side_c | _, _ => none, glob := glob, eqs := eqs, maps := maps }
theorem geom_line__parts_eq (x : (tupTy [yQ4, yQ4]).den) : callFn geom_line__parts_C geom_line__parts_As (bodyOf Tryd.f68) [(.rd, yQ4), (.rd, yQ4)] [(.tmp 4, true, .bool)] x = geom_line__parts x := by kernel_rfl
def geom_Meet_As : Anns := []
def geom_Meet (x : (Q3 × Q3 × Unit)) : Option (Bool × Unit) :=
  let (((a,b,_),(c,d,_),_),((e,f,_),(g,h,_),_),_) := x; (geom_of (((a,b,()),(c,d,()),()),())).bind fun r1 => (geom_of (((e,f,()),(g,h,()),()),())).bind fun r2 => let t_0 := (geom_line__on (((r1.1.1.1,r1.1.1.2.1,()),(r1.1.2.1.1,r1.1.2.1.2.1,()),()),(r2.1.1.1,r2.1.1.2.1,()),())).bind fun r5 => cond r5.1 (some (true,())) ((geom_line__on (((r1.1.1.1,r1.1.1.2.1,()),(r1.1.2.1.1,r1.1.2.1.2.1,()),()),(r2.1.2.1.1,r2.1.2.1.2.1,()),())).bind fun r6 => cond r6.1 (some (true,())) ((geom_line__on (((r2.1.1.1,r2.1.1.2.1,()),(r2.1.2.1.1,r2.1.2.1.2.1,()),()),(r1.1.1.1,r1.1.1.2.1,()),())).bind fun r7 => cond r7.1 (some (true,())) ((geom_line__on (((r2.1.1.1,r2.1.1.2.1,()),(r2.1.2.1.1,r2.1.2.1.2.1,()),()),(r1.1.2.1.1,r1.1.2.1.2.1,()),())).bind fun r8 => some (r8.1,())))); cond (!r1.2.1) (some (false,())) (cond (!r2.2.1) (some (false,())) ((geom_line__parts (((r1.1.1.1,r1.1.1.2.1,()),(r1.1.2.1.1,r1.1.2.1.2.1,()),()),((r2.1.1.1,r2.1.1.2.1,()),(r2.1.2.1.1,r2.1.2.1.2.1,()),()),())).bind fun r3 => cond r3.1 ((geom_line__parts (((r2.1.1.1,r2.1.1.2.1,()),(r2.1.2.1.1,r2.1.2.1.2.1,()),()),((r1.1.1.1,r1.1.1.2.1,()),(r1.1.2.1.1,r1.1.2.1.2.1,()),()),())).bind fun r4 => cond r4.1 (some (true,())) t_0) t_0))
def geom_Meet_c : Con := { ins := [(.rd, yQ4), (.rd, yQ4)], outs := [(true, .bool)], fn := geom_Meet }
def geom_Meet_C : Ctx := { tab := tab, con := fun | 66, _ => some geom_of_c | 67, _ => some geom_line__on_c | 68, _ => some geom_line__parts_c | _, _ => none, glob := glob, eqs := eqs, maps := maps }
theorem geom_Meet_eq (x : (tupTy [yQ4, yQ4]).den) : callFn geom_Meet_C geom_Meet_As (bodyOf Tryd.f53) [(.rd, yQ4), (.rd, yQ4)] [(.tmp 4, true, .bool)] x = geom_Meet x := by kernel_rfl
def compact_apart_As : Anns := []
def compact_apart (x : ((List Q2) × Q2 × Q2 × Unit)) : Option (Bool × Unit) :=
  let (a,(b,c,_),(d,e,_),_) := x; (getI a b).bind fun y1 => (getI a c).bind fun y2 => (getI a d).bind fun y3 => (getI a e).bind fun y4 => let t_1 := cond (eqI b d) ((geom_On ((y2.1,y2.2.1,()),((y3.1,y3.2.1,()),(y4.1,y4.2.1,()),()),())).bind fun r5 => cond (!r5.1) ((geom_On ((y4.1,y4.2.1,()),((y1.1,y1.2.1,()),(y2.1,y2.2.1,()),()),())).bind fun r6 => some ((!r6.1),())) (some (false,()))) (cond (eqI b e) ((geom_On ((y2.1,y2.2.1,()),((y3.1,y3.2.1,()),(y4.1,y4.2.1,()),()),())).bind fun r7 => cond (!r7.1) ((geom_On ((y3.1,y3.2.1,()),((y1.1,y1.2.1,()),(y2.1,y2.2.1,()),()),())).bind fun r8 => some ((!r8.1),())) (some (false,()))) (cond (eqI c d) ((geom_On ((y1.1,y1.2.1,()),((y3.1,y3.2.1,()),(y4.1,y4.2.1,()),()),())).bind fun r9 => cond (!r9.1) ((geom_On ((y4.1,y4.2.1,()),((y1.1,y1.2.1,()),(y2.1,y2.2.1,()),()),())).bind fun r10 => some ((!r10.1),())) (some (false,()))) (cond (eqI c e) ((geom_On ((y1.1,y1.2.1,()),((y3.1,y3.2.1,()),(y4.1,y4.2.1,()),()),())).bind fun r11 => cond (!r11.1) ((geom_On ((y3.1,y3.2.1,()),((y1.1,y1.2.1,()),(y2.1,y2.2.1,()),()),())).bind fun r12 => some ((!r12.1),())) (some (false,()))) ((geom_Meet (((y1.1,y1.2.1,()),(y2.1,y2.2.1,()),()),((y3.1,y3.2.1,()),(y4.1,y4.2.1,()),()),())).bind fun r13 => some ((!r13.1),()))))); let t_0 := cond (eqI b e) (cond (eqI c d) (some (false,())) t_1) t_1; cond (eqI b d) (cond (eqI c e) (some (false,())) t_0) t_0
def compact_apart_c : Con := { ins := [(.rd, (.slice yQ2)), (.rd, yQ2), (.rd, yQ2)], outs := [(true, .bool)], fn := compact_apart }
def compact_apart_C : Ctx := { tab := tab, con := fun | 52, _ => some geom_On_c | 53, _ => some geom_Meet_c | _, _ => none, glob := glob, eqs := eqs, maps := maps }
theorem compact_apart_eq (x : (tupTy [(.slice yQ2), yQ2, yQ2]).den) : callFn compact_apart_C compact_apart_As (bodyOf Tryd.f32) [(.rd, (.slice yQ2)), (.rd, yQ2), (.rd, yQ2)] [(.tmp 6, true, .bool)] x = compact_apart x := by kernel_rfl
def compact_Check_H13 : Shape := { env := [(1, .av (.val (.slice yQ2))), (2, .av (.ptr 2 0)), (8, .av (.ptr 8 0)), (56, .av (.val (.slice yQ2))), (57, .av (.val I)), (58, .av (.val I)), (67, .av (.val (.slice yQ2))), (68, .av (.val I)), (69, .av (.val I))], objs := [(2, .box [.val I, .val (.slice yQ2), .val yQ5, .val (.slice I), .val (.slice .str), .val I]), (8, .box [.val I, .val I])] }
def compact_Check_E13 : List (Ex × Shape) := [(.ret, { env := [(4, .av (.val .bool))], objs := [] }), (.exit 4, { env := [(1, .av (.val (.slice yQ2))), (2, .av (.ptr 2 0)), (56, .av (.val (.slice yQ2))), (57, .av (.val I)), (58, .av (.val I))], objs := [(2, .box [.val I, .val (.slice yQ2), .val yQ5, .val (.slice I), .val (.slice .str), .val I])] })]
def compact_Check_B13 (x : Q67) : Option (Q67 ⊕ ((Bool × Unit) ⊕ (Q52 ⊕ Empty))) :=
  let (a,b,c,d,e,f,g,h,i,k,l,m,n,o,p,_) := x; cond (ltI p o) ((getI n p).bind fun y1 => (compact_apart (i,(g,h,()),(y1.1,y1.2.1,()),())).bind fun r2 => cond (!r2.1) (some (.inr (.inl (false,())))) (some (.inl (a,b,c,d,e,f,g,h,i,k,l,m,n,o,(addI .i64 p 1),())))) (some (.inr (.inr (.inl (a,b,c,d,e,f,i,k,l,m,())))))
def compact_Check_L13 : Q67 → Option ((Bool × Unit) ⊕ (Q52 ⊕ Empty)) := loopFix compact_Check_B13
def compact_Check_A13 : Ann := { head := compact_Check_H13, exits := compact_Check_E13, fn := compact_Check_L13 }
def compact_Check_H10 : Shape := { env := [(1, .av (.val (.slice yQ2))), (2, .av (.ptr 2 0)), (56, .av (.val (.slice yQ2))), (57, .av (.val I)), (58, .av (.val I))], objs := [(2, .box [.val I, .val (.slice yQ2), .val yQ5, .val (.slice I), .val (.slice .str), .val I])] }
def compact_Check_E10 : List (Ex × Shape) := [(.ret, { env := [(4, .av (.val .bool))], objs := [] }), (.exit 2, { env := [], objs := [] })]
def compact_Check_B10 (x : Q52) : Option (Q52 ⊕ ((Bool × Unit) ⊕ (Unit ⊕ Empty))) :=
  let (a,b,c,d,e,f,g,h,i,k,_) := x; cond (ltI k i) ((getI h k).bind fun y1 => (sliceL b 0 k).bind fun y2 => (compact_Check_L13 (a,b,c,d,e,f,y1.1,y1.2.1,g,h,i,k,y2,(y2.length : Nat),0,())).bind (Sum.elim (fun z4 => some (.inr (.inl (z4.1,())))) (Sum.elim (fun (a_5,b_5,c_5,d_5,e_5,f_5,g_5,h_5,i_5,k_5,_) => some (.inl (a_5,b_5,c_5,d_5,e_5,f_5,g_5,h_5,i_5,(addI .i64 k_5 1),()))) (fun _ => none)))) (some (.inr (.inr (.inl ()))))
def compact_Check_L10 : Q52 → Option ((Bool × Unit) ⊕ (Unit ⊕ Empty)) := loopFix compact_Check_B10
def compact_Check_A10 : Ann := { head := compact_Check_H10, exits := compact_Check_E10, fn := compact_Check_L10 }
def compact_Check_H4 : Shape := { env := [(1, .av (.val (.slice yQ2))), (2, .av (.ptr 2 0)), (28, .av (.own 28)), (29, .av (.val I)), (30, .av (.val I))], objs := [(2, .box [.val I, .val (.slice yQ2), .val yQ5, .val (.slice I), .val (.slice .str), .val I]), (28, .arr I)] }
def compact_Check_E4 : List (Ex × Shape) := [(.ret, { env := [(4, .av (.val .bool))], objs := [] }), (.exit 0, { env := [(1, .av (.val (.slice yQ2))), (2, .av (.ptr 2 0))], objs := [(2, .box [.val I, .val (.slice yQ2), .val yQ5, .val (.slice I), .val (.slice .str), .val I])] })]
def compact_Check_B4 (x : Q51) : Option (Q51 ⊕ ((Bool × Unit) ⊕ (Q35 ⊕ Empty))) :=
  let (a,b,c,d,e,f,g,h,i,k,_) := x; cond (ltI k i) ((idxI g.length k).bind fun j1 => (g[j1]?).bind fun y2 => (rotation_Tail ((a,b,c,()),k,())).bind fun r3 => (getI h r3.1).bind fun y4 => (rotation_Tail ((a,b,c,()),(xorI .i64 k 1),())).bind fun r5 => (getI h r5.1).bind fun y6 => (compact_leads (y4,y6,y2,())).bind fun r7 => cond (!r7.1) (some (.inr (.inl (false,())))) (some (.inl (a,b,c,d,e,f,g,h,i,(addI .i64 k 1),())))) (some (.inr (.inr (.inl (a,b,c,d,e,f,h,())))))
def compact_Check_L4 : Q51 → Option ((Bool × Unit) ⊕ (Q35 ⊕ Empty)) := loopFix compact_Check_B4
def compact_Check_A4 : Ann := { head := compact_Check_H4, exits := compact_Check_E4, fn := compact_Check_L4 }
def compact_Check_As : Anns := [(4, compact_Check_A4), (10, compact_Check_A10), (13, compact_Check_A13)]
def compact_Check (x : (Q10 × (List Q2) × Unit)) : Option (Bool × Unit) :=
  let (((a,b,c,_),d,e,f,_),g,_) := x; (compact_straight (((a,b,c,()),d,e,f,()),())).bind fun r1 => cond (!r1.1) (some (false,())) (cond (neI (g.length : Nat) a) (some (false,())) ((compact_different (g,())).bind fun r2 => cond (!r2.1) (some (false,())) ((compact_directed (((a,b,c,()),d,e,f,()),())).bind fun r3 => (compact_Check_L4 (a,b,c,d,e,f,r3.1,g,(r3.1.length : Nat),0,())).bind (Sum.elim (fun z5 => some (z5.1,())) (Sum.elim (fun (a_6,b_6,c_6,d_6,e_6,f_6,g_6,_) => (compact_Check_L10 (a_6,b_6,c_6,d_6,e_6,f_6,g_6,b_6,(b_6.length : Nat),0,())).bind (Sum.elim (fun z8 => some (z8.1,())) (Sum.elim (fun z9 => some (true,())) (fun _ => none)))) (fun _ => none))))))
def compact_Check_c : Con := { ins := [(.rd, yQ11), (.rd, (.slice yQ2))], outs := [(true, .bool)], fn := compact_Check }
def compact_Check_C : Ctx := { tab := tab, con := fun | 22, _ => some compact_straight_c | 23, _ => some compact_directed_c | 29, _ => some compact_different_c | 30, _ => some compact_leads_c | 31, _ => some rotation_Tail_c | 32, _ => some compact_apart_c | _, _ => none, glob := glob, eqs := eqs, maps := maps }
theorem compact_Check_R13 (x : compact_Check_H13.ty.den) : round compact_Check_C compact_Check_As compact_Check_A13 (loopBody 13 (bodyOf Tryd.f16)) x = compact_Check_B13 x := by kernel_rfl
theorem compact_Check_R10 (x : compact_Check_H10.ty.den) : round compact_Check_C compact_Check_As compact_Check_A10 (loopBody 10 (bodyOf Tryd.f16)) x = compact_Check_B10 x := by kernel_rfl
theorem compact_Check_R4 (x : compact_Check_H4.ty.den) : round compact_Check_C compact_Check_As compact_Check_A4 (loopBody 4 (bodyOf Tryd.f16)) x = compact_Check_B4 x := by kernel_rfl
theorem compact_Check_eq (x : (tupTy [yQ11, (.slice yQ2)]).den) : callFn compact_Check_C compact_Check_As (bodyOf Tryd.f16) [(.rd, yQ11), (.rd, (.slice yQ2))] [(.tmp 4, true, .bool)] x = compact_Check x := by kernel_rfl
def layoutlaw42_awake_As : Anns := []
def layoutlaw42_awake (x : Unit) : Option (Bool × Unit) :=
  (layoutlaw42_square ()).bind fun r1 => (compact_Directions (((r1.1.1.1,r1.1.1.2.1,r1.1.1.2.2.1,()),r1.1.2.1,r1.1.2.2.1,r1.1.2.2.2.1,()),())).bind fun r2 => (layoutlaw42_square ()).bind fun r3 => (compact_Place (((r3.1.1.1,r3.1.1.2.1,r3.1.1.2.2.1,()),r3.1.2.1,r3.1.2.2.1,r3.1.2.2.2.1,()),())).bind fun r4 => cond (eqI r2.2.1 0) ((layoutref14_SameInts (r2.1,[1,3,0,2,3,1,2,0],())).bind fun r5 => cond r5.1 (cond (eqI r4.2.1 0) ((layoutlaw42_samePoints (r4.1,[(0,1,()),(1,1,()),(1,0,()),(0,0,())],())).bind fun r6 => cond r6.1 ((layoutlaw42_square ()).bind fun r7 => (compact_Check (((r7.1.1.1,r7.1.1.2.1,r7.1.1.2.2.1,()),r7.1.2.1,r7.1.2.2.1,r7.1.2.2.2.1,()),r4.1,())).bind fun r8 => cond r8.1 ((layoutlaw42_square ()).bind fun r9 => (compact_Check (((r9.1.1.1,r9.1.1.2.1,r9.1.1.2.2.1,()),r9.1.2.1,r9.1.2.2.1,r9.1.2.2.2.1,()),[(0,1,()),(1,1,()),(1,0,()),(1,0,())],())).bind fun r10 => some ((!r10.1),())) (some (false,()))) (some (false,()))) (some (false,()))) (some (false,()))) (some (false,()))
def layoutlaw42_awake_c : Con := { ins := [], outs := [(true, .bool)], fn := layoutlaw42_awake }
def layoutlaw42_awake_C : Ctx := { tab := tab, con := fun | 10, _ => some compact_Directions_c | 12, _ => some layoutref14_SameInts_c | 13, _ => some compact_Place_c | 15, _ => some layoutlaw42_samePoints_c | 16, _ => some compact_Check_c | 21, _ => some layoutlaw42_square_c | _, _ => none, glob := glob, eqs := eqs, maps := maps }
theorem layoutlaw42_awake_eq (x : (tupTy []).den) : callFn layoutlaw42_awake_C layoutlaw42_awake_As (bodyOf Tryd.f9) [] [(.tmp 0, true, .bool)] x = layoutlaw42_awake x := by kernel_rfl
def layoutref29_Tails_H3 : Shape := { env := [(1, .av (.ptr 1 0)), (3, .av (.own 3)), (4, .av (.val I))], objs := [(1, .box [.val I, .val (.slice yQ2), .val yQ5]), (3, .arr I)] }
def layoutref29_Tails_E3 : List (Ex × Shape) := [(.exit 0, { env := [(3, .av (.own 3))], objs := [(3, .arr I)] })]
def layoutref29_Tails_B3 (x : Q19) : Option (Q19 ⊕ (Q1 ⊕ Empty)) :=
  let (a,b,c,d,e,_) := x; cond (ltI e (b.length : Nat)) ((getI b e).bind fun y1 => (getI b e).bind fun y2 => (app d [y1.1,y2.2.1]).bind fun a3 => some (.inl (a,b,c,a3,(addI .i64 e 1),()))) (some (.inr (.inl (d,()))))
def layoutref29_Tails_L3 : Q19 → Option (Q1 ⊕ Empty) := loopFix layoutref29_Tails_B3
def layoutref29_Tails_A3 : Ann := { head := layoutref29_Tails_H3, exits := layoutref29_Tails_E3, fn := layoutref29_Tails_L3 }
def layoutref29_Tails_As : Anns := [(3, layoutref29_Tails_A3)]
def layoutref29_Tails (x : (Q9 × Unit)) : Option Q1 :=
  (layoutref29_Tails_L3 (x.1.1,x.1.2.1,x.1.2.2.1,[],0,())).bind (Sum.elim (fun z2 => some (z2.1,())) (fun _ => none))
def layoutref29_Tails_c : Con := { ins := [(.rd, yQ8)], outs := [(true, (.slice I))], fn := layoutref29_Tails }
def layoutref29_Tails_C : Ctx := { tab := tab, con := fun _ _ => none, glob := glob, eqs := eqs, maps := maps }
theorem layoutref29_Tails_R3 (x : layoutref29_Tails_H3.ty.den) : round layoutref29_Tails_C layoutref29_Tails_As layoutref29_Tails_A3 (loopBody 3 (bodyOf Tryd.f54)) x = layoutref29_Tails_B3 x := by kernel_rfl
theorem layoutref29_Tails_eq (x : (tupTy [yQ8]).den) : callFn layoutref29_Tails_C layoutref29_Tails_As (bodyOf Tryd.f54) [(.rd, yQ8)] [(.tmp 2, true, (.slice I))] x = layoutref29_Tails x := by kernel_rfl
def layoutref29_Valid_H16 : Shape := { env := [(1, .av (.ptr 1 0)), (5, .av (.own 5)), (6, .av (.own 6)), (7, .av (.val I)), (8, .av (.val I)), (9, .av (.val I))], objs := [(1, .box [.val I, .val (.slice yQ2), .val yQ5]), (5, .arr I), (6, .arr .bool)] }
def layoutref29_Valid_E16 : List (Ex × Shape) := [(.ret, { env := [(2, .av (.val .bool))], objs := [] }), (.exit 4, { env := [(1, .av (.ptr 1 0)), (5, .av (.own 5)), (6, .av (.own 6)), (7, .av (.val I)), (8, .av (.val I))], objs := [(1, .box [.val I, .val (.slice yQ2), .val yQ5]), (5, .arr I), (6, .arr .bool)] })]
def layoutref29_Valid_B16 (x : Q32) : Option (Q32 ⊕ ((Bool × Unit) ⊕ (Q27 ⊕ Empty))) :=
  let (a,b,c,d,e,f,g,h,_) := x; (getI c g).bind fun y1 => cond (ltI h (y1.length : Nat)) ((getI c g).bind fun y2 => (getI y2 h).bind fun y3 => cond (ltI y3 0) (some (.inr (.inl (false,())))) (cond (geI y3 (d.length : Nat)) (some (.inr (.inl (false,())))) ((idxI e.length y3).bind fun j4 => (e[j4]?).bind fun y5 => cond y5 (some (.inr (.inl (false,())))) ((idxI d.length y3).bind fun j6 => (d[j6]?).bind fun y7 => cond (neI y7 g) (some (.inr (.inl (false,())))) ((idxI e.length y3).bind fun j8 => (e[j8]?).bind fun y9 => some (.inl (a,b,c,d,(e.set j8 true),(addI .i64 f 1),g,(addI .i64 h 1),()))))))) (some (.inr (.inr (.inl (a,b,c,d,e,f,g,())))))
def layoutref29_Valid_L16 : Q32 → Option ((Bool × Unit) ⊕ (Q27 ⊕ Empty)) := loopFix layoutref29_Valid_B16
def layoutref29_Valid_A16 : Ann := { head := layoutref29_Valid_H16, exits := layoutref29_Valid_E16, fn := layoutref29_Valid_L16 }
def layoutref29_Valid_H13 : Shape := { env := [(1, .av (.ptr 1 0)), (5, .av (.own 5)), (6, .av (.own 6)), (7, .av (.val I)), (8, .av (.val I))], objs := [(1, .box [.val I, .val (.slice yQ2), .val yQ5]), (5, .arr I), (6, .arr .bool)] }
def layoutref29_Valid_E13 : List (Ex × Shape) := [(.ret, { env := [(2, .av (.val .bool))], objs := [] }), (.exit 2, { env := [(5, .av (.own 5)), (7, .av (.val I))], objs := [(5, .arr I)] })]
def layoutref29_Valid_B13 (x : Q27) : Option (Q27 ⊕ ((Bool × Unit) ⊕ (Q5 ⊕ Empty))) :=
  let (a,b,c,d,e,f,g,_) := x; cond (ltI g a) ((layoutref29_Valid_L16 (a,b,c,d,e,f,g,0,())).bind (Sum.elim (fun z2 => some (.inr (.inl (z2.1,())))) (Sum.elim (fun (a_3,b_3,c_3,d_3,e_3,f_3,g_3,_) => some (.inl (a_3,b_3,c_3,d_3,e_3,f_3,(addI .i64 g_3 1),()))) (fun _ => none)))) (some (.inr (.inr (.inl (d,f,())))))
def layoutref29_Valid_L13 : Q27 → Option ((Bool × Unit) ⊕ (Q5 ⊕ Empty)) := loopFix layoutref29_Valid_B13
def layoutref29_Valid_A13 : Ann := { head := layoutref29_Valid_H13, exits := layoutref29_Valid_E13, fn := layoutref29_Valid_L13 }
def layoutref29_Valid_H4 : Shape := { env := [(1, .av (.ptr 1 0)), (3, .av (.val I))], objs := [(1, .box [.val I, .val (.slice yQ2), .val yQ5])] }
def layoutref29_Valid_E4 : List (Ex × Shape) := [(.ret, { env := [(2, .av (.val .bool))], objs := [] }), (.exit 0, { env := [(1, .av (.ptr 1 0))], objs := [(1, .box [.val I, .val (.slice yQ2), .val yQ5])] })]
def layoutref29_Valid_B4 (x : Q12) : Option (Q12 ⊕ ((Bool × Unit) ⊕ (Q9 ⊕ Empty))) :=
  let (a,b,c,d,_) := x; cond (ltI d (b.length : Nat)) ((getI b d).bind fun y1 => cond (ltI y1.1 0) (some (.inr (.inl (false,())))) (cond (geI y1.1 a) (some (.inr (.inl (false,())))) (cond (ltI y1.2.1 0) (some (.inr (.inl (false,())))) (cond (geI y1.2.1 a) (some (.inr (.inl (false,())))) (cond (eqI y1.1 y1.2.1) (some (.inr (.inl (false,())))) (some (.inl (a,b,c,(addI .i64 d 1),())))))))) (some (.inr (.inr (.inl (a,b,c,())))))
def layoutref29_Valid_L4 : Q12 → Option ((Bool × Unit) ⊕ (Q9 ⊕ Empty)) := loopFix layoutref29_Valid_B4
def layoutref29_Valid_A4 : Ann := { head := layoutref29_Valid_H4, exits := layoutref29_Valid_E4, fn := layoutref29_Valid_L4 }
def layoutref29_Valid_As : Anns := [(4, layoutref29_Valid_A4), (13, layoutref29_Valid_A13), (16, layoutref29_Valid_A16)]
def layoutref29_Valid (x : (Q9 × Unit)) : Option (Bool × Unit) :=
  let ((a,b,c,_),_) := x; cond (ltI a 0) (some (false,())) (cond (gtI a 16384) (some (false,())) (cond (gtI (b.length : Nat) 32768) (some (false,())) (cond (neI (c.length : Nat) a) (some (false,())) ((layoutref29_Valid_L4 (a,b,c,0,())).bind (Sum.elim (fun z2 => some (z2.1,())) (Sum.elim (fun (a_3,b_3,c_3,_) => (layoutref29_Tails ((a_3,b_3,c_3,()),())).bind fun r4 => (makeL .bool (r4.1.length : Nat) (r4.1.length : Nat)).bind fun m5 => (layoutref29_Valid_L13 (a_3,b_3,c_3,r4.1,m5,0,0,())).bind (Sum.elim (fun z7 => some (z7.1,())) (Sum.elim (fun z8 => some ((eqI z8.2.1 (z8.1.length : Nat)),())) (fun _ => none)))) (fun _ => none)))))))
def layoutref29_Valid_c : Con := { ins := [(.rd, yQ8)], outs := [(true, .bool)], fn := layoutref29_Valid }
def layoutref29_Valid_C : Ctx := { tab := tab, con := fun | 54, _ => some layoutref29_Tails_c | _, _ => none, glob := glob, eqs := eqs, maps := maps }
theorem layoutref29_Valid_R16 (x : layoutref29_Valid_H16.ty.den) : round layoutref29_Valid_C layoutref29_Valid_As layoutref29_Valid_A16 (loopBody 16 (bodyOf Tryd.f39)) x = layoutref29_Valid_B16 x := by kernel_rfl
theorem layoutref29_Valid_R13 (x : layoutref29_Valid_H13.ty.den) : round layoutref29_Valid_C layoutref29_Valid_As layoutref29_Valid_A13 (loopBody 13 (bodyOf Tryd.f39)) x = layoutref29_Valid_B13 x := by kernel_rfl
theorem layoutref29_Valid_R4 (x : layoutref29_Valid_H4.ty.den) : round layoutref29_Valid_C layoutref29_Valid_As layoutref29_Valid_A4 (loopBody 4 (bodyOf Tryd.f39)) x = layoutref29_Valid_B4 x := by kernel_rfl
theorem layoutref29_Valid_eq (x : (tupTy [yQ8]).den) : callFn layoutref29_Valid_C layoutref29_Valid_As (bodyOf Tryd.f39) [(.rd, yQ8)] [(.tmp 2, true, .bool)] x = layoutref29_Valid x := by kernel_rfl
def layoutref29_Follow_H7 : Shape := { env := [(1, .av (.ptr 1 0)), (3, .av (.own 3)), (4, .av (.val I)), (5, .av (.val (.slice I))), (6, .av (.val I))], objs := [(1, .box [.val I, .val (.slice yQ2), .val yQ5]), (3, .arr I)] }
def layoutref29_Follow_E7 : List (Ex × Shape) := [(.exit 2, { env := [(1, .av (.ptr 1 0)), (3, .av (.own 3)), (4, .av (.val I))], objs := [(1, .box [.val I, .val (.slice yQ2), .val yQ5]), (3, .arr I)] })]
def layoutref29_Follow_B7 (x : Q26) : Option (Q26 ⊕ (Q19 ⊕ Empty)) :=
  let (a,b,c,d,e,f,g,_) := x; cond (ltI g (f.length : Nat)) ((getI f g).bind fun y1 => cond (eqI (f.length : Nat) 0) none ((getI f (remI (addI .i64 g 1) (f.length : Nat))).bind fun y2 => (idxI d.length y1).bind fun j3 => (d[j3]?).bind fun y4 => some (.inl (a,b,c,(d.set j3 y2),e,f,(addI .i64 g 1),())))) (some (.inr (.inl (a,b,c,d,e,()))))
def layoutref29_Follow_L7 : Q26 → Option (Q19 ⊕ Empty) := loopFix layoutref29_Follow_B7
def layoutref29_Follow_A7 : Ann := { head := layoutref29_Follow_H7, exits := layoutref29_Follow_E7, fn := layoutref29_Follow_L7 }
def layoutref29_Follow_H3 : Shape := { env := [(1, .av (.ptr 1 0)), (3, .av (.own 3)), (4, .av (.val I))], objs := [(1, .box [.val I, .val (.slice yQ2), .val yQ5]), (3, .arr I)] }
def layoutref29_Follow_E3 : List (Ex × Shape) := [(.exit 0, { env := [(3, .av (.own 3))], objs := [(3, .arr I)] })]
def layoutref29_Follow_B3 (x : Q19) : Option (Q19 ⊕ (Q1 ⊕ Empty)) :=
  let (a,b,c,d,e,_) := x; cond (ltI e a) ((getI c e).bind fun y1 => (layoutref29_Follow_L7 (a,b,c,d,e,y1,0,())).bind (Sum.elim (fun z3 => some (.inl (z3.1,z3.2.1,z3.2.2.1,z3.2.2.2.1,(addI .i64 z3.2.2.2.2.1 1),()))) (fun _ => none))) (some (.inr (.inl (d,()))))
def layoutref29_Follow_L3 : Q19 → Option (Q1 ⊕ Empty) := loopFix layoutref29_Follow_B3
def layoutref29_Follow_A3 : Ann := { head := layoutref29_Follow_H3, exits := layoutref29_Follow_E3, fn := layoutref29_Follow_L3 }
def layoutref29_Follow_As : Anns := [(3, layoutref29_Follow_A3), (7, layoutref29_Follow_A7)]
def layoutref29_Follow (x : (Q9 × Unit)) : Option Q1 :=
  let ((a,b,c,_),_) := x; (makeL I (mulI .i64 2 (b.length : Nat)) (mulI .i64 2 (b.length : Nat))).bind fun m1 => (layoutref29_Follow_L3 (a,b,c,m1,0,())).bind (Sum.elim (fun z3 => some (z3.1,())) (fun _ => none))
def layoutref29_Follow_c : Con := { ins := [(.rd, yQ8)], outs := [(true, (.slice I))], fn := layoutref29_Follow }
def layoutref29_Follow_C : Ctx := { tab := tab, con := fun _ _ => none, glob := glob, eqs := eqs, maps := maps }
theorem layoutref29_Follow_R7 (x : layoutref29_Follow_H7.ty.den) : round layoutref29_Follow_C layoutref29_Follow_As layoutref29_Follow_A7 (loopBody 7 (bodyOf Tryd.f57)) x = layoutref29_Follow_B7 x := by kernel_rfl
theorem layoutref29_Follow_R3 (x : layoutref29_Follow_H3.ty.den) : round layoutref29_Follow_C layoutref29_Follow_As layoutref29_Follow_A3 (loopBody 3 (bodyOf Tryd.f57)) x = layoutref29_Follow_B3 x := by kernel_rfl
theorem layoutref29_Follow_eq (x : (tupTy [yQ8]).den) : callFn layoutref29_Follow_C layoutref29_Follow_As (bodyOf Tryd.f57) [(.rd, yQ8)] [(.tmp 2, true, (.slice I))] x = layoutref29_Follow x := by kernel_rfl
def layoutref29_Other_As : Anns := []
def layoutref29_Other (x : (Int × Unit)) : Option (Int × Unit) :=
  cond (eqI (remI x.1 2) 0) (some ((addI .i64 x.1 1),())) (some ((subI .i64 x.1 1),()))
def layoutref29_Other_c : Con := { ins := [(.rd, I)], outs := [(true, I)], fn := layoutref29_Other }
def layoutref29_Other_C : Ctx := { tab := tab, con := fun _ _ => none, glob := glob, eqs := eqs, maps := maps }
theorem layoutref29_Other_eq (x : (tupTy [I]).den) : callFn layoutref29_Other_C layoutref29_Other_As (bodyOf Tryd.f58) [(.rd, I)] [(.tmp 2, true, I)] x = layoutref29_Other x := by kernel_rfl
def layoutref29_Faces_H12 : Shape := { env := [(3, .av (.own 3)), (4, .av (.own 4)), (5, .av (.own 5)), (6, .av (.val I)), (7, .av (.own 7)), (8, .av (.val I))], objs := [(3, .arr (.slice I)), (4, .arr I), (5, .arr .bool), (7, .arr I)] }
def layoutref29_Faces_E12 : List (Ex × Shape) := [(.exit 2, { env := [(3, .av (.own 3)), (4, .av (.own 4)), (5, .av (.own 5)), (6, .av (.val I)), (7, .av (.own 7))], objs := [(3, .arr (.slice I)), (4, .arr I), (5, .arr .bool), (7, .arr I)] })]
def layoutref29_Faces_B12 (x : Q22) : Option (Q22 ⊕ (((List (List Int)) × List Int × List Bool × List Int × Int × Unit) ⊕ Empty)) :=
  let (a,b,c,d,e,f,_) := x; (idxI c.length f).bind fun j1 => (c[j1]?).bind fun y2 => cond (!y2) ((idxI c.length f).bind fun j3 => (c[j3]?).bind fun y4 => (app d [f]).bind fun a5 => (layoutref29_Other (f,())).bind fun r6 => (idxI b.length r6.1).bind fun j7 => (b[j7]?).bind fun y8 => some (.inl (a,b,(c.set j3 true),a5,e,y8,()))) (some (.inr (.inl (a,b,c,d,e,()))))
def layoutref29_Faces_L12 : Q22 → Option (((List (List Int)) × List Int × List Bool × List Int × Int × Unit) ⊕ Empty) := loopFix layoutref29_Faces_B12
def layoutref29_Faces_A12 : Ann := { head := layoutref29_Faces_H12, exits := layoutref29_Faces_E12, fn := layoutref29_Faces_L12 }
def layoutref29_Faces_H7 : Shape := { env := [(3, .av (.own 3)), (4, .av (.own 4)), (5, .av (.own 5)), (6, .av (.val I))], objs := [(3, .arr (.slice I)), (4, .arr I), (5, .arr .bool)] }
def layoutref29_Faces_E7 : List (Ex × Shape) := [(.exit 0, { env := [(3, .av (.own 3))], objs := [(3, .arr (.slice I))] })]
def layoutref29_Faces_B7 (x : Q16) : Option (Q16 ⊕ (Q6 ⊕ Empty)) :=
  let (a,b,c,d,_) := x; cond (ltI d (b.length : Nat)) ((idxI c.length d).bind fun j1 => (c[j1]?).bind fun y2 => cond y2 (some (.inl (a,b,c,(addI .i64 d 1),()))) ((layoutref29_Faces_L12 (a,b,c,[],d,d,())).bind (Sum.elim (fun z4 => (app z4.1 [z4.2.2.2.1]).bind fun a5 => some (.inl (a5,z4.2.1,z4.2.2.1,(addI .i64 z4.2.2.2.2.1 1),()))) (fun _ => none)))) (some (.inr (.inl (a,()))))
def layoutref29_Faces_L7 : Q16 → Option (Q6 ⊕ Empty) := loopFix layoutref29_Faces_B7
def layoutref29_Faces_A7 : Ann := { head := layoutref29_Faces_H7, exits := layoutref29_Faces_E7, fn := layoutref29_Faces_L7 }
def layoutref29_Faces_As : Anns := [(7, layoutref29_Faces_A7), (12, layoutref29_Faces_A12)]
def layoutref29_Faces (x : (Q9 × Unit)) : Option Q6 :=
  let ((a,b,c,_),_) := x; (layoutref29_Valid ((a,b,c,()),())).bind fun r1 => cond (!r1.1) (some ([],())) ((layoutref29_Follow ((a,b,c,()),())).bind fun r2 => (makeL .bool (r2.1.length : Nat) (r2.1.length : Nat)).bind fun m3 => (layoutref29_Faces_L7 ([],r2.1,m3,0,())).bind (Sum.elim (fun z5 => some (z5.1,())) (fun _ => none)))
def layoutref29_Faces_c : Con := { ins := [(.rd, yQ8)], outs := [(true, yQ5)], fn := layoutref29_Faces }
def layoutref29_Faces_C : Ctx := { tab := tab, con := fun | 39, _ => some layoutref29_Valid_c | 57, _ => some layoutref29_Follow_c | 58, _ => some layoutref29_Other_c | _, _ => none, glob := glob, eqs := eqs, maps := maps }
theorem layoutref29_Faces_R12 (x : layoutref29_Faces_H12.ty.den) : round layoutref29_Faces_C layoutref29_Faces_As layoutref29_Faces_A12 (loopBody 12 (bodyOf Tryd.f37)) x = layoutref29_Faces_B12 x := by kernel_rfl
theorem layoutref29_Faces_R7 (x : layoutref29_Faces_H7.ty.den) : round layoutref29_Faces_C layoutref29_Faces_As layoutref29_Faces_A7 (loopBody 7 (bodyOf Tryd.f37)) x = layoutref29_Faces_B7 x := by kernel_rfl
theorem layoutref29_Faces_eq (x : (tupTy [yQ8]).den) : callFn layoutref29_Faces_C layoutref29_Faces_As (bodyOf Tryd.f37) [(.rd, yQ8)] [(.tmp 2, true, yQ5)] x = layoutref29_Faces x := by kernel_rfl
def layoutref29_root_H1 : Shape := { env := [(0, .av (.val (.slice I))), (1, .av (.val I))], objs := [] }
def layoutref29_root_E1 : List (Ex × Shape) := [(.exit 0, { env := [(1, .av (.val I))], objs := [] })]
def layoutref29_root_B1 (x : Q5) : Option (Q5 ⊕ ((Int × Unit) ⊕ Empty)) :=
  let (a,b,_) := x; (getI a b).bind fun y1 => cond (neI y1 b) ((getI a b).bind fun y2 => some (.inl (a,y2,()))) (some (.inr (.inl (b,()))))
def layoutref29_root_L1 : Q5 → Option ((Int × Unit) ⊕ Empty) := loopFix layoutref29_root_B1
def layoutref29_root_A1 : Ann := { head := layoutref29_root_H1, exits := layoutref29_root_E1, fn := layoutref29_root_L1 }
def layoutref29_root_As : Anns := [(1, layoutref29_root_A1)]
def layoutref29_root (x : Q5) : Option (Int × Unit) :=
  (layoutref29_root_L1 (x.1,x.2.1,())).bind (Sum.elim (fun z2 => some (z2.1,())) (fun _ => none))
def layoutref29_root_c : Con := { ins := [(.rd, (.slice I)), (.rd, I)], outs := [(true, I)], fn := layoutref29_root }
def layoutref29_root_C : Ctx := { tab := tab, con := fun _ _ => none, glob := glob, eqs := eqs, maps := maps }
theorem layoutref29_root_R1 (x : layoutref29_root_H1.ty.den) : round layoutref29_root_C layoutref29_root_As layoutref29_root_A1 (loopBody 1 (bodyOf Tryd.f72)) x = layoutref29_root_B1 x := by kernel_rfl
theorem layoutref29_root_eq (x : (tupTy [(.slice I), I]).den) : callFn layoutref29_root_C layoutref29_root_As (bodyOf Tryd.f72) [(.rd, (.slice I)), (.rd, I)] [(.tmp 4, true, I)] x = layoutref29_root x := by kernel_rfl
def layoutref29_Components_H8 : Shape := { env := [(1, .av (.ptr 1 0)), (3, .av (.own 3)), (5, .av (.val I)), (6, .av (.val I))], objs := [(1, .box [.val I, .val (.slice yQ2), .val yQ5]), (3, .arr I)] }
def layoutref29_Components_E8 : List (Ex × Shape) := [(.exit 2, { env := [(5, .av (.val I))], objs := [] })]
def layoutref29_Components_B8 (x : Q20) : Option (Q20 ⊕ ((Int × Unit) ⊕ Empty)) :=
  let (a,b,c,d,e,f,_) := x; cond (ltI f (b.length : Nat)) ((getI b f).bind fun y1 => (layoutref29_root (d,y1.1,())).bind fun r2 => (getI b f).bind fun y3 => (layoutref29_root (d,y3.2.1,())).bind fun r4 => cond (neI r2.1 r4.1) ((idxI d.length (maxI r2.1 r4.1)).bind fun j5 => (d[j5]?).bind fun y6 => some (.inl (a,b,c,(d.set j5 (minI r2.1 r4.1)),(subI .i64 e 1),(addI .i64 f 1),()))) (some (.inl (a,b,c,d,e,(addI .i64 f 1),())))) (some (.inr (.inl (e,()))))
def layoutref29_Components_L8 : Q20 → Option ((Int × Unit) ⊕ Empty) := loopFix layoutref29_Components_B8
def layoutref29_Components_A8 : Ann := { head := layoutref29_Components_H8, exits := layoutref29_Components_E8, fn := layoutref29_Components_L8 }
def layoutref29_Components_H3 : Shape := { env := [(1, .av (.ptr 1 0)), (3, .av (.own 3)), (4, .av (.val I))], objs := [(1, .box [.val I, .val (.slice yQ2), .val yQ5]), (3, .arr I)] }
def layoutref29_Components_E3 : List (Ex × Shape) := [(.exit 0, { env := [(1, .av (.ptr 1 0)), (3, .av (.own 3))], objs := [(1, .box [.val I, .val (.slice yQ2), .val yQ5]), (3, .arr I)] })]
def layoutref29_Components_B3 (x : Q19) : Option (Q19 ⊕ ((Int × (List Q2) × (List (List Int)) × List Int × Unit) ⊕ Empty)) :=
  let (a,b,c,d,e,_) := x; cond (ltI e a) ((app d [e]).bind fun a1 => some (.inl (a,b,c,a1,(addI .i64 e 1),()))) (some (.inr (.inl (a,b,c,d,()))))
def layoutref29_Components_L3 : Q19 → Option ((Int × (List Q2) × (List (List Int)) × List Int × Unit) ⊕ Empty) := loopFix layoutref29_Components_B3
def layoutref29_Components_A3 : Ann := { head := layoutref29_Components_H3, exits := layoutref29_Components_E3, fn := layoutref29_Components_L3 }
def layoutref29_Components_As : Anns := [(3, layoutref29_Components_A3), (8, layoutref29_Components_A8)]
def layoutref29_Components (x : (Q9 × Unit)) : Option (Int × Unit) :=
  (layoutref29_Components_L3 (x.1.1,x.1.2.1,x.1.2.2.1,[],0,())).bind (Sum.elim (fun z2 => (layoutref29_Components_L8 (z2.1,z2.2.1,z2.2.2.1,z2.2.2.2.1,z2.1,0,())).bind (Sum.elim (fun z4 => some (z4.1,())) (fun _ => none))) (fun _ => none))
def layoutref29_Components_c : Con := { ins := [(.rd, yQ8)], outs := [(true, I)], fn := layoutref29_Components }
def layoutref29_Components_C : Ctx := { tab := tab, con := fun | 72, _ => some layoutref29_root_c | _, _ => none, glob := glob, eqs := eqs, maps := maps }
theorem layoutref29_Components_R8 (x : layoutref29_Components_H8.ty.den) : round layoutref29_Components_C layoutref29_Components_As layoutref29_Components_A8 (loopBody 8 (bodyOf Tryd.f60)) x = layoutref29_Components_B8 x := by kernel_rfl
theorem layoutref29_Components_R3 (x : layoutref29_Components_H3.ty.den) : round layoutref29_Components_C layoutref29_Components_As layoutref29_Components_A3 (loopBody 3 (bodyOf Tryd.f60)) x = layoutref29_Components_B3 x := by kernel_rfl
theorem layoutref29_Components_eq (x : (tupTy [yQ8]).den) : callFn layoutref29_Components_C layoutref29_Components_As (bodyOf Tryd.f60) [(.rd, yQ8)] [(.tmp 2, true, I)] x = layoutref29_Components x := by kernel_rfl
def layoutref29_Genus_H5 : Shape := { env := [(1, .av (.ptr 1 0)), (3, .av (.val I)), (4, .av (.val I))], objs := [(1, .box [.val I, .val (.slice yQ2), .val yQ5])] }
def layoutref29_Genus_E5 : List (Ex × Shape) := [(.exit 0, { env := [(1, .av (.ptr 1 0)), (3, .av (.val I))], objs := [(1, .box [.val I, .val (.slice yQ2), .val yQ5])] })]
def layoutref29_Genus_B5 (x : Q17) : Option (Q17 ⊕ (Q12 ⊕ Empty)) :=
  let (a,b,c,d,e,_) := x; cond (ltI e a) ((getI c e).bind fun y1 => cond (eqI (y1.length : Nat) 0) (some (.inl (a,b,c,(addI .i64 d 1),(addI .i64 e 1),()))) (some (.inl (a,b,c,d,(addI .i64 e 1),())))) (some (.inr (.inl (a,b,c,d,()))))
def layoutref29_Genus_L5 : Q17 → Option (Q12 ⊕ Empty) := loopFix layoutref29_Genus_B5
def layoutref29_Genus_A5 : Ann := { head := layoutref29_Genus_H5, exits := layoutref29_Genus_E5, fn := layoutref29_Genus_L5 }
def layoutref29_Genus_As : Anns := [(5, layoutref29_Genus_A5)]
def layoutref29_Genus (x : (Q9 × Unit)) : Option (Int × Unit) :=
  let ((a,b,c,_),_) := x; (layoutref29_Valid ((a,b,c,()),())).bind fun r1 => cond (!r1.1) (some ((-1),())) ((layoutref29_Faces ((a,b,c,()),())).bind fun r2 => (layoutref29_Genus_L5 (a,b,c,(r2.1.length : Nat),0,())).bind (Sum.elim (fun z4 => (layoutref29_Components ((z4.1,z4.2.1,z4.2.2.1,()),())).bind fun r5 => some ((subI .i64 r5.1 (quoI .i64 (addI .i64 (subI .i64 z4.1 (z4.2.1.length : Nat)) z4.2.2.2.1) 2)),())) (fun _ => none)))
def layoutref29_Genus_c : Con := { ins := [(.rd, yQ8)], outs := [(true, I)], fn := layoutref29_Genus }
def layoutref29_Genus_C : Ctx := { tab := tab, con := fun | 37, _ => some layoutref29_Faces_c | 39, _ => some layoutref29_Valid_c | 60, _ => some layoutref29_Components_c | _, _ => none, glob := glob, eqs := eqs, maps := maps }
theorem layoutref29_Genus_R5 (x : layoutref29_Genus_H5.ty.den) : round layoutref29_Genus_C layoutref29_Genus_As layoutref29_Genus_A5 (loopBody 5 (bodyOf Tryd.f59)) x = layoutref29_Genus_B5 x := by kernel_rfl
theorem layoutref29_Genus_eq (x : (tupTy [yQ8]).den) : callFn layoutref29_Genus_C layoutref29_Genus_As (bodyOf Tryd.f59) [(.rd, yQ8)] [(.tmp 2, true, I)] x = layoutref29_Genus x := by kernel_rfl
def layoutref29_Planar_As : Anns := []
def layoutref29_Planar (x : (Q9 × Unit)) : Option (Bool × Unit) :=
  let ((a,b,c,_),_) := x; (layoutref29_Genus ((a,b,c,()),())).bind fun r1 => cond (eqI r1.1 0) ((layoutref29_Components ((a,b,c,()),())).bind fun r2 => some ((eqI r2.1 1),())) (some (false,()))
def layoutref29_Planar_c : Con := { ins := [(.rd, yQ8)], outs := [(true, .bool)], fn := layoutref29_Planar }
def layoutref29_Planar_C : Ctx := { tab := tab, con := fun | 59, _ => some layoutref29_Genus_c | 60, _ => some layoutref29_Components_c | _, _ => none, glob := glob, eqs := eqs, maps := maps }
theorem layoutref29_Planar_eq (x : (tupTy [yQ8]).den) : callFn layoutref29_Planar_C layoutref29_Planar_As (bodyOf Tryd.f40) [(.rd, yQ8)] [(.tmp 2, true, .bool)] x = layoutref29_Planar x := by kernel_rfl
def layoutref39_sums_H6 : Shape := { env := [(1, .av (.ptr 1 0)), (3, .av (.val I)), (4, .av (.val I)), (5, .av (.val I))], objs := [(1, .box [.val I, .val (.slice yQ2), .val yQ5, .val (.slice I), .val (.slice .str), .val I])] }
def layoutref39_sums_E6 : List (Ex × Shape) := [(.ret, { env := [(2, .av (.val .bool))], objs := [] }), (.exit 2, { env := [(1, .av (.ptr 1 0)), (3, .av (.val I)), (4, .av (.val I))], objs := [(1, .box [.val I, .val (.slice yQ2), .val yQ5, .val (.slice I), .val (.slice .str), .val I])] })]
def layoutref39_sums_B6 (x : Q39) : Option (Q39 ⊕ ((Bool × Unit) ⊕ (Q34 ⊕ Empty))) :=
  let (a,b,c,d,e,f,g,h,i,_) := x; (getI c g).bind fun y1 => cond (ltI i (y1.length : Nat)) ((getI c g).bind fun y2 => (getI y2 i).bind fun y3 => (getI d y3).bind fun y4 => cond (ltI y4 1) (some (.inr (.inl (false,())))) (cond (gtI y4 4) (some (.inr (.inl (false,())))) (some (.inl (a,b,c,d,e,f,g,(addI .i64 h y4),(addI .i64 i 1),()))))) (some (.inr (.inr (.inl (a,b,c,d,e,f,g,h,())))))
def layoutref39_sums_L6 : Q39 → Option ((Bool × Unit) ⊕ (Q34 ⊕ Empty)) := loopFix layoutref39_sums_B6
def layoutref39_sums_A6 : Ann := { head := layoutref39_sums_H6, exits := layoutref39_sums_E6, fn := layoutref39_sums_L6 }
def layoutref39_sums_H2 : Shape := { env := [(1, .av (.ptr 1 0)), (3, .av (.val I))], objs := [(1, .box [.val I, .val (.slice yQ2), .val yQ5, .val (.slice I), .val (.slice .str), .val I])] }
def layoutref39_sums_E2 : List (Ex × Shape) := [(.ret, { env := [(2, .av (.val .bool))], objs := [] }), (.exit 0, { env := [], objs := [] })]
def layoutref39_sums_B2 (x : Q30) : Option (Q30 ⊕ ((Bool × Unit) ⊕ (Unit ⊕ Empty))) :=
  let (a,b,c,d,e,f,g,_) := x; cond (ltI g a) ((layoutref39_sums_L6 (a,b,c,d,e,f,g,0,0,())).bind (Sum.elim (fun z2 => some (.inr (.inl (z2.1,())))) (Sum.elim (fun (a_3,b_3,c_3,d_3,e_3,f_3,g_3,h_3,_) => cond (neI h_3 4) ((getI c_3 g_3).bind fun y4 => cond (gtI (y4.length : Nat) 0) (some (.inr (.inl (false,())))) (some (.inl (a_3,b_3,c_3,d_3,e_3,f_3,(addI .i64 g_3 1),())))) (some (.inl (a_3,b_3,c_3,d_3,e_3,f_3,(addI .i64 g_3 1),())))) (fun _ => none)))) (some (.inr (.inr (.inl ()))))
def layoutref39_sums_L2 : Q30 → Option ((Bool × Unit) ⊕ (Unit ⊕ Empty)) := loopFix layoutref39_sums_B2
def layoutref39_sums_A2 : Ann := { head := layoutref39_sums_H2, exits := layoutref39_sums_E2, fn := layoutref39_sums_L2 }
def layoutref39_sums_As : Anns := [(2, layoutref39_sums_A2), (6, layoutref39_sums_A6)]
def layoutref39_sums (x : (Q10 × Unit)) : Option (Bool × Unit) :=
  let (((a,b,c,_),d,e,f,_),_) := x; (layoutref39_sums_L2 (a,b,c,d,e,f,0,())).bind (Sum.elim (fun z2 => some (z2.1,())) (Sum.elim (fun z3 => some (true,())) (fun _ => none)))
def layoutref39_sums_c : Con := { ins := [(.rd, yQ11)], outs := [(true, .bool)], fn := layoutref39_sums }
def layoutref39_sums_C : Ctx := { tab := tab, con := fun _ _ => none, glob := glob, eqs := eqs, maps := maps }
theorem layoutref39_sums_R6 (x : layoutref39_sums_H6.ty.den) : round layoutref39_sums_C layoutref39_sums_As layoutref39_sums_A6 (loopBody 6 (bodyOf Tryd.f41)) x = layoutref39_sums_B6 x := by kernel_rfl
theorem layoutref39_sums_R2 (x : layoutref39_sums_H2.ty.den) : round layoutref39_sums_C layoutref39_sums_As layoutref39_sums_A2 (loopBody 2 (bodyOf Tryd.f41)) x = layoutref39_sums_B2 x := by kernel_rfl
theorem layoutref39_sums_eq (x : (tupTy [yQ11]).den) : callFn layoutref39_sums_C layoutref39_sums_As (bodyOf Tryd.f41) [(.rd, yQ11)] [(.tmp 2, true, .bool)] x = layoutref39_sums x := by kernel_rfl
def layoutref39_exchange_As : Anns := []
def layoutref39_exchange (x : (Int × Unit)) : Option (Int × Unit) :=
  cond (eqI x.1 76) (some (82,())) (cond (eqI x.1 82) (some (76,())) (some (x.1,())))
def layoutref39_exchange_c : Con := { ins := [(.rd, (.int .u8))], outs := [(true, (.int .u8))], fn := layoutref39_exchange }
def layoutref39_exchange_C : Ctx := { tab := tab, con := fun _ _ => none, glob := glob, eqs := eqs, maps := maps }
theorem layoutref39_exchange_eq (x : (tupTy [(.int .u8)]).den) : callFn layoutref39_exchange_C layoutref39_exchange_As (bodyOf Tryd.f73) [(.rd, (.int .u8))] [(.tmp 2, true, (.int .u8))] x = layoutref39_exchange x := by kernel_rfl
def layoutref39_Reverse_H3 : Shape := { env := [(0, .av (.val .str)), (3, .av (.own 3)), (4, .av (.val I))], objs := [(3, .arr (.int .u8))] }
def layoutref39_Reverse_E3 : List (Ex × Shape) := [(.exit 0, { env := [(3, .av (.own 3))], objs := [(3, .arr (.int .u8))] })]
def layoutref39_Reverse_B3 (x : (List Int × ByteArray × Int × Unit)) : Option ((List Int × ByteArray × Int × Unit) ⊕ (Q1 ⊕ Empty)) :=
  let (a,b,c,_) := x; cond (geI c 0) ((getI b.data.toList c).bind fun c1 => (layoutref39_exchange ((c1.toNat : Int),())).bind fun r2 => (app a [r2.1]).bind fun a3 => some (.inl (a3,b,(subI .i64 c 1),()))) (some (.inr (.inl (a,()))))
def layoutref39_Reverse_L3 : (List Int × ByteArray × Int × Unit) → Option (Q1 ⊕ Empty) := loopFix layoutref39_Reverse_B3
def layoutref39_Reverse_A3 : Ann := { head := layoutref39_Reverse_H3, exits := layoutref39_Reverse_E3, fn := layoutref39_Reverse_L3 }
def layoutref39_Reverse_As : Anns := [(3, layoutref39_Reverse_A3)]
def layoutref39_Reverse (x : Q4) : Option Q4 :=
  (layoutref39_Reverse_L3 ([],x.1,(subI .i64 (x.1.size : Nat) 1),())).bind (Sum.elim (fun z2 => some ((ofBytes z2.1),())) (fun _ => none))
def layoutref39_Reverse_c : Con := { ins := [(.rd, .str)], outs := [(true, .str)], fn := layoutref39_Reverse }
def layoutref39_Reverse_C : Ctx := { tab := tab, con := fun | 73, _ => some layoutref39_exchange_c | _, _ => none, glob := glob, eqs := eqs, maps := maps }
theorem layoutref39_Reverse_R3 (x : layoutref39_Reverse_H3.ty.den) : round layoutref39_Reverse_C layoutref39_Reverse_As layoutref39_Reverse_A3 (loopBody 3 (bodyOf Tryd.f61)) x = layoutref39_Reverse_B3 x := by kernel_rfl
theorem layoutref39_Reverse_eq (x : (tupTy [.str]).den) : callFn layoutref39_Reverse_C layoutref39_Reverse_As (bodyOf Tryd.f61) [(.rd, .str)] [(.tmp 2, true, .str)] x = layoutref39_Reverse x := by kernel_rfl
def layoutref39_bends_H7 : Shape := { env := [(1, .av (.ptr 1 0)), (3, .av (.val I)), (4, .av (.val I))], objs := [(1, .box [.val I, .val (.slice yQ2), .val yQ5, .val (.slice I), .val (.slice .str), .val I])] }
def layoutref39_bends_E7 : List (Ex × Shape) := [(.ret, { env := [(2, .av (.val .bool))], objs := [] }), (.exit 2, { env := [(1, .av (.ptr 1 0)), (3, .av (.val I))], objs := [(1, .box [.val I, .val (.slice yQ2), .val yQ5, .val (.slice I), .val (.slice .str), .val I])] })]
def layoutref39_bends_B7 (x : Q34) : Option (Q34 ⊕ ((Bool × Unit) ⊕ (Q30 ⊕ Empty))) :=
  let (a,b,c,d,e,f,g,h,_) := x; (getI e g).bind fun y1 => cond (ltI h (y1.size : Nat)) ((getI e g).bind fun y2 => (getI y2.data.toList h).bind fun c3 => cond (neI (c3.toNat : Int) 76) ((getI e g).bind fun y4 => (getI y4.data.toList h).bind fun c5 => cond (neI (c5.toNat : Int) 82) (some (.inr (.inl (false,())))) (some (.inl (a,b,c,d,e,f,g,(addI .i64 h 1),())))) (some (.inl (a,b,c,d,e,f,g,(addI .i64 h 1),())))) (some (.inr (.inr (.inl (a,b,c,d,e,f,g,())))))
def layoutref39_bends_L7 : Q34 → Option ((Bool × Unit) ⊕ (Q30 ⊕ Empty)) := loopFix layoutref39_bends_B7
def layoutref39_bends_A7 : Ann := { head := layoutref39_bends_H7, exits := layoutref39_bends_E7, fn := layoutref39_bends_L7 }
def layoutref39_bends_H2 : Shape := { env := [(1, .av (.ptr 1 0)), (3, .av (.val I))], objs := [(1, .box [.val I, .val (.slice yQ2), .val yQ5, .val (.slice I), .val (.slice .str), .val I])] }
def layoutref39_bends_E2 : List (Ex × Shape) := [(.ret, { env := [(2, .av (.val .bool))], objs := [] }), (.exit 0, { env := [], objs := [] })]
def layoutref39_bends_B2 (x : Q30) : Option (Q30 ⊕ ((Bool × Unit) ⊕ (Unit ⊕ Empty))) :=
  let (a,b,c,d,e,f,g,_) := x; cond (ltI g (e.length : Nat)) ((getI e g).bind fun y1 => cond (gtI (y1.size : Nat) 64) (some (.inr (.inl (false,())))) ((getI e (xorI .i64 g 1)).bind fun y2 => (getI e g).bind fun y3 => (layoutref39_Reverse (y3,())).bind fun r4 => cond (neS y2 r4.1) (some (.inr (.inl (false,())))) ((layoutref39_bends_L7 (a,b,c,d,e,f,g,0,())).bind (Sum.elim (fun z6 => some (.inr (.inl (z6.1,())))) (Sum.elim (fun (a_7,b_7,c_7,d_7,e_7,f_7,g_7,_) => some (.inl (a_7,b_7,c_7,d_7,e_7,f_7,(addI .i64 g_7 1),()))) (fun _ => none)))))) (some (.inr (.inr (.inl ()))))
def layoutref39_bends_L2 : Q30 → Option ((Bool × Unit) ⊕ (Unit ⊕ Empty)) := loopFix layoutref39_bends_B2
def layoutref39_bends_A2 : Ann := { head := layoutref39_bends_H2, exits := layoutref39_bends_E2, fn := layoutref39_bends_L2 }
def layoutref39_bends_As : Anns := [(2, layoutref39_bends_A2), (7, layoutref39_bends_A7)]
def layoutref39_bends (x : (Q10 × Unit)) : Option (Bool × Unit) :=
  let (((a,b,c,_),d,e,f,_),_) := x; (layoutref39_bends_L2 (a,b,c,d,e,f,0,())).bind (Sum.elim (fun z2 => some (z2.1,())) (Sum.elim (fun z3 => some (true,())) (fun _ => none)))
def layoutref39_bends_c : Con := { ins := [(.rd, yQ11)], outs := [(true, .bool)], fn := layoutref39_bends }
def layoutref39_bends_C : Ctx := { tab := tab, con := fun | 61, _ => some layoutref39_Reverse_c | _, _ => none, glob := glob, eqs := eqs, maps := maps }
theorem layoutref39_bends_R7 (x : layoutref39_bends_H7.ty.den) : round layoutref39_bends_C layoutref39_bends_As layoutref39_bends_A7 (loopBody 7 (bodyOf Tryd.f42)) x = layoutref39_bends_B7 x := by kernel_rfl
theorem layoutref39_bends_R2 (x : layoutref39_bends_H2.ty.den) : round layoutref39_bends_C layoutref39_bends_As layoutref39_bends_A2 (loopBody 2 (bodyOf Tryd.f42)) x = layoutref39_bends_B2 x := by kernel_rfl
theorem layoutref39_bends_eq (x : (tupTy [yQ11]).den) : callFn layoutref39_bends_C layoutref39_bends_As (bodyOf Tryd.f42) [(.rd, yQ11)] [(.tmp 2, true, .bool)] x = layoutref39_bends x := by kernel_rfl
def layoutref39_has_H2 : Shape := { env := [(0, .av (.val (.slice I))), (1, .av (.val I)), (5, .av (.val I))], objs := [] }
def layoutref39_has_E2 : List (Ex × Shape) := [(.ret, { env := [(4, .av (.val .bool))], objs := [] }), (.exit 0, { env := [], objs := [] })]
def layoutref39_has_B2 (x : Q7) : Option (Q7 ⊕ ((Bool × Unit) ⊕ (Unit ⊕ Empty))) :=
  let (a,b,c,_) := x; cond (ltI c (a.length : Nat)) ((getI a c).bind fun y1 => cond (eqI y1 b) (some (.inr (.inl (true,())))) (some (.inl (a,b,(addI .i64 c 1),())))) (some (.inr (.inr (.inl ()))))
def layoutref39_has_L2 : Q7 → Option ((Bool × Unit) ⊕ (Unit ⊕ Empty)) := loopFix layoutref39_has_B2
def layoutref39_has_A2 : Ann := { head := layoutref39_has_H2, exits := layoutref39_has_E2, fn := layoutref39_has_L2 }
def layoutref39_has_As : Anns := [(2, layoutref39_has_A2)]
def layoutref39_has (x : Q5) : Option (Bool × Unit) :=
  (layoutref39_has_L2 (x.1,x.2.1,0,())).bind (Sum.elim (fun z2 => some (z2.1,())) (Sum.elim (fun z3 => some (false,())) (fun _ => none)))
def layoutref39_has_c : Con := { ins := [(.rd, (.slice I)), (.rd, I)], outs := [(true, .bool)], fn := layoutref39_has }
def layoutref39_has_C : Ctx := { tab := tab, con := fun _ _ => none, glob := glob, eqs := eqs, maps := maps }
theorem layoutref39_has_R2 (x : layoutref39_has_H2.ty.den) : round layoutref39_has_C layoutref39_has_As layoutref39_has_A2 (loopBody 2 (bodyOf Tryd.f43)) x = layoutref39_has_B2 x := by kernel_rfl
theorem layoutref39_has_eq (x : (tupTy [(.slice I), I]).den) : callFn layoutref39_has_C layoutref39_has_As (bodyOf Tryd.f43) [(.rd, (.slice I)), (.rd, I)] [(.tmp 4, true, .bool)] x = layoutref39_has x := by kernel_rfl
def layoutref39_bent_H3 : Shape := { env := [(0, .av (.val .str)), (3, .av (.val I)), (4, .av (.val I))], objs := [] }
def layoutref39_bent_E3 : List (Ex × Shape) := [(.exit 0, { env := [(3, .av (.val I))], objs := [] })]
def layoutref39_bent_B3 (x : (ByteArray × Int × Int × Unit)) : Option ((ByteArray × Int × Int × Unit) ⊕ ((Int × Unit) ⊕ Empty)) :=
  let (a,b,c,_) := x; cond (ltI c (a.size : Nat)) ((getI a.data.toList c).bind fun c1 => cond (eqI (c1.toNat : Int) 76) ((getI a.data.toList c).bind fun c2 => cond (eqI (c2.toNat : Int) 82) (some (.inl (a,(subI .i64 (addI .i64 b 1) 1),(addI .i64 c 1),()))) (some (.inl (a,(addI .i64 b 1),(addI .i64 c 1),())))) ((getI a.data.toList c).bind fun c3 => cond (eqI (c3.toNat : Int) 82) (some (.inl (a,(subI .i64 b 1),(addI .i64 c 1),()))) (some (.inl (a,b,(addI .i64 c 1),()))))) (some (.inr (.inl (b,()))))
def layoutref39_bent_L3 : (ByteArray × Int × Int × Unit) → Option ((Int × Unit) ⊕ Empty) := loopFix layoutref39_bent_B3
def layoutref39_bent_A3 : Ann := { head := layoutref39_bent_H3, exits := layoutref39_bent_E3, fn := layoutref39_bent_L3 }
def layoutref39_bent_As : Anns := [(3, layoutref39_bent_A3)]
def layoutref39_bent (x : Q4) : Option (Int × Unit) :=
  (layoutref39_bent_L3 (x.1,0,0,())).bind (Sum.elim (fun z2 => some (z2.1,())) (fun _ => none))
def layoutref39_bent_c : Con := { ins := [(.rd, .str)], outs := [(true, I)], fn := layoutref39_bent }
def layoutref39_bent_C : Ctx := { tab := tab, con := fun _ _ => none, glob := glob, eqs := eqs, maps := maps }
theorem layoutref39_bent_R3 (x : layoutref39_bent_H3.ty.den) : round layoutref39_bent_C layoutref39_bent_As layoutref39_bent_A3 (loopBody 3 (bodyOf Tryd.f62)) x = layoutref39_bent_B3 x := by kernel_rfl
theorem layoutref39_bent_eq (x : (tupTy [.str]).den) : callFn layoutref39_bent_C layoutref39_bent_As (bodyOf Tryd.f62) [(.rd, .str)] [(.tmp 2, true, I)] x = layoutref39_bent x := by kernel_rfl
def layoutref39_turns_H3 : Shape := { env := [(1, .av (.val (.slice I))), (2, .av (.ptr 2 0)), (5, .av (.val I)), (6, .av (.val I))], objs := [(2, .box [.val I, .val (.slice yQ2), .val yQ5, .val (.slice I), .val (.slice .str), .val I])] }
def layoutref39_turns_E3 : List (Ex × Shape) := [(.exit 0, { env := [(5, .av (.val I))], objs := [] })]
def layoutref39_turns_B3 (x : Q42) : Option (Q42 ⊕ ((Int × Unit) ⊕ Empty)) :=
  let (a,b,c,d,e,f,g,h,i,_) := x; cond (ltI i (g.length : Nat)) ((getI g i).bind fun y1 => (getI e y1).bind fun y2 => (layoutref39_bent (y2,())).bind fun r3 => (getI g i).bind fun y4 => (getI d (xorI .i64 y4 1)).bind fun y5 => some (.inl (a,b,c,d,e,f,g,(subI .i64 (addI .i64 (addI .i64 h r3.1) 2) y5),(addI .i64 i 1),()))) (some (.inr (.inl (h,()))))
def layoutref39_turns_L3 : Q42 → Option ((Int × Unit) ⊕ Empty) := loopFix layoutref39_turns_B3
def layoutref39_turns_A3 : Ann := { head := layoutref39_turns_H3, exits := layoutref39_turns_E3, fn := layoutref39_turns_L3 }
def layoutref39_turns_As : Anns := [(3, layoutref39_turns_A3)]
def layoutref39_turns (x : (Q10 × List Int × Unit)) : Option (Int × Unit) :=
  let (((a,b,c,_),d,e,f,_),g,_) := x; (layoutref39_turns_L3 (a,b,c,d,e,f,g,0,0,())).bind (Sum.elim (fun z2 => some (z2.1,())) (fun _ => none))
def layoutref39_turns_c : Con := { ins := [(.rd, yQ11), (.rd, (.slice I))], outs := [(true, I)], fn := layoutref39_turns }
def layoutref39_turns_C : Ctx := { tab := tab, con := fun | 62, _ => some layoutref39_bent_c | _, _ => none, glob := glob, eqs := eqs, maps := maps }
theorem layoutref39_turns_R3 (x : layoutref39_turns_H3.ty.den) : round layoutref39_turns_C layoutref39_turns_As layoutref39_turns_A3 (loopBody 3 (bodyOf Tryd.f44)) x = layoutref39_turns_B3 x := by kernel_rfl
theorem layoutref39_turns_eq (x : (tupTy [yQ11, (.slice I)]).den) : callFn layoutref39_turns_C layoutref39_turns_As (bodyOf Tryd.f44) [(.rd, yQ11), (.rd, (.slice I))] [(.tmp 4, true, I)] x = layoutref39_turns x := by kernel_rfl
def layoutref39_Valid_H8 : Shape := { env := [(1, .av (.ptr 1 0)), (4, .av (.own 4)), (5, .av (.val I))], objs := [(1, .box [.val I, .val (.slice yQ2), .val yQ5, .val (.slice I), .val (.slice .str), .val I]), (4, .arr (.slice I))] }
def layoutref39_Valid_E8 : List (Ex × Shape) := [(.ret, { env := [(2, .av (.val I))], objs := [] }), (.exit 0, { env := [], objs := [] })]
def layoutref39_Valid_B8 (x : Q44) : Option (Q44 ⊕ ((Int × Unit) ⊕ (Unit ⊕ Empty))) :=
  let (a,b,c,d,e,f,g,h,_) := x; cond (ltI h (g.length : Nat)) ((idxI g.length h).bind fun j1 => (g[j1]?).bind fun y2 => (layoutref39_has (y2,f,())).bind fun r3 => cond r3.1 ((idxI g.length h).bind fun j4 => (g[j4]?).bind fun y5 => (layoutref39_turns (((a,b,c,()),d,e,f,()),y5,())).bind fun r6 => cond (neI r6.1 (-4)) (some (.inr (.inl (13,())))) (some (.inl (a,b,c,d,e,f,g,(addI .i64 h 1),())))) ((idxI g.length h).bind fun j7 => (g[j7]?).bind fun y8 => (layoutref39_turns (((a,b,c,()),d,e,f,()),y8,())).bind fun r9 => cond (neI r9.1 4) (some (.inr (.inl (13,())))) (some (.inl (a,b,c,d,e,f,g,(addI .i64 h 1),()))))) (some (.inr (.inr (.inl ()))))
def layoutref39_Valid_L8 : Q44 → Option ((Int × Unit) ⊕ (Unit ⊕ Empty)) := loopFix layoutref39_Valid_B8
def layoutref39_Valid_A8 : Ann := { head := layoutref39_Valid_H8, exits := layoutref39_Valid_E8, fn := layoutref39_Valid_L8 }
def layoutref39_Valid_As : Anns := [(8, layoutref39_Valid_A8)]
def layoutref39_Valid (x : (Q10 × Unit)) : Option (Int × Unit) :=
  let (((a,b,c,_),d,e,f,_),_) := x; let t_0 := (layoutref29_Faces ((a,b,c,()),())).bind fun r5 => (layoutref39_Valid_L8 (a,b,c,d,e,f,r5.1,0,())).bind (Sum.elim (fun z7 => some (z7.1,())) (Sum.elim (fun z8 => some (0,())) (fun _ => none))); (layoutref29_Valid ((a,b,c,()),())).bind fun r1 => cond (!r1.1) (some (13,())) (cond (ltI a 1) (some (13,())) ((layoutref29_Planar ((a,b,c,()),())).bind fun r2 => cond (!r2.1) (some (13,())) (cond (neI (d.length : Nat) (mulI .i64 2 (b.length : Nat))) (some (13,())) (cond (neI (e.length : Nat) (mulI .i64 2 (b.length : Nat))) (some (13,())) ((layoutref39_sums (((a,b,c,()),d,e,f,()),())).bind fun r3 => cond (!r3.1) (some (13,())) ((layoutref39_bends (((a,b,c,()),d,e,f,()),())).bind fun r4 => cond (!r4.1) (some (13,())) (cond (ltI f 0) (some (13,())) (cond (gtI f 0) (cond (geI f (mulI .i64 2 (b.length : Nat))) (some (13,())) t_0) t_0))))))))
def layoutref39_Valid_c : Con := { ins := [(.rd, yQ11)], outs := [(true, I)], fn := layoutref39_Valid }
def layoutref39_Valid_C : Ctx := { tab := tab, con := fun | 37, _ => some layoutref29_Faces_c | 39, _ => some layoutref29_Valid_c | 40, _ => some layoutref29_Planar_c | 41, _ => some layoutref39_sums_c | 42, _ => some layoutref39_bends_c | 43, _ => some layoutref39_has_c | 44, _ => some layoutref39_turns_c | _, _ => none, glob := glob, eqs := eqs, maps := maps }
theorem layoutref39_Valid_R8 (x : layoutref39_Valid_H8.ty.den) : round layoutref39_Valid_C layoutref39_Valid_As layoutref39_Valid_A8 (loopBody 8 (bodyOf Tryd.f19)) x = layoutref39_Valid_B8 x := by kernel_rfl
theorem layoutref39_Valid_eq (x : (tupTy [yQ11]).den) : callFn layoutref39_Valid_C layoutref39_Valid_As (bodyOf Tryd.f19) [(.rd, yQ11)] [(.tmp 2, true, I)] x = layoutref39_Valid x := by kernel_rfl
def layoutref39_Bends_H5 : Shape := { env := [(1, .av (.ptr 1 0)), (3, .av (.val I)), (4, .av (.val I))], objs := [(1, .box [.val I, .val (.slice yQ2), .val yQ5, .val (.slice I), .val (.slice .str), .val I])] }
def layoutref39_Bends_E5 : List (Ex × Shape) := [(.exit 0, { env := [(3, .av (.val I))], objs := [] })]
def layoutref39_Bends_B5 (x : Q34) : Option (Q34 ⊕ ((Int × Unit) ⊕ Empty)) :=
  let (a,b,c,d,e,f,g,h,_) := x; cond (ltI h (e.length : Nat)) ((getI e h).bind fun y1 => some (.inl (a,b,c,d,e,f,(addI .i64 g (y1.size : Nat)),(addI .i64 h 2),()))) (some (.inr (.inl (g,()))))
def layoutref39_Bends_L5 : Q34 → Option ((Int × Unit) ⊕ Empty) := loopFix layoutref39_Bends_B5
def layoutref39_Bends_A5 : Ann := { head := layoutref39_Bends_H5, exits := layoutref39_Bends_E5, fn := layoutref39_Bends_L5 }
def layoutref39_Bends_As : Anns := [(5, layoutref39_Bends_A5)]
def layoutref39_Bends (x : (Q10 × Unit)) : Option (Int × Unit) :=
  let (((a,b,c,_),d,e,f,_),_) := x; (layoutref39_Valid (((a,b,c,()),d,e,f,()),())).bind fun r1 => cond (neI r1.1 0) (some (0,())) ((layoutref39_Bends_L5 (a,b,c,d,e,f,0,0,())).bind (Sum.elim (fun z3 => some (z3.1,())) (fun _ => none)))
def layoutref39_Bends_c : Con := { ins := [(.rd, yQ11)], outs := [(true, I)], fn := layoutref39_Bends }
def layoutref39_Bends_C : Ctx := { tab := tab, con := fun | 19, _ => some layoutref39_Valid_c | _, _ => none, glob := glob, eqs := eqs, maps := maps }
theorem layoutref39_Bends_R5 (x : layoutref39_Bends_H5.ty.den) : round layoutref39_Bends_C layoutref39_Bends_As layoutref39_Bends_A5 (loopBody 5 (bodyOf Tryd.f20)) x = layoutref39_Bends_B5 x := by kernel_rfl
theorem layoutref39_Bends_eq (x : (tupTy [yQ11]).den) : callFn layoutref39_Bends_C layoutref39_Bends_As (bodyOf Tryd.f20) [(.rd, yQ11)] [(.tmp 2, true, I)] x = layoutref39_Bends x := by kernel_rfl
def layoutref42_Straight_As : Anns := []
def layoutref42_Straight (x : (Q10 × Unit)) : Option (Bool × Unit) :=
  let (((a,b,c,_),d,e,f,_),_) := x; (layoutref39_Valid (((a,b,c,()),d,e,f,()),())).bind fun r1 => cond (eqI r1.1 0) ((layoutref39_Bends (((a,b,c,()),d,e,f,()),())).bind fun r2 => some ((eqI r2.1 0),())) (some (false,()))
def layoutref42_Straight_c : Con := { ins := [(.rd, yQ11)], outs := [(true, .bool)], fn := layoutref42_Straight }
def layoutref42_Straight_C : Ctx := { tab := tab, con := fun | 19, _ => some layoutref39_Valid_c | 20, _ => some layoutref39_Bends_c | _, _ => none, glob := glob, eqs := eqs, maps := maps }
def layoutref42_Directions_H19 : Shape := { env := [(1, .av (.ptr 1 0)), (5, .av (.own 5)), (7, .av (.val .bool)), (8, .av (.val I)), (9, .av (.val (.slice I))), (10, .av (.val I))], objs := [(1, .box [.val I, .val (.slice yQ2), .val yQ5, .val (.slice I), .val (.slice .str), .val I]), (5, .arr I)] }
def layoutref42_Directions_E19 : List (Ex × Shape) := [(.exit 6, { env := [(1, .av (.ptr 1 0)), (5, .av (.own 5)), (7, .av (.val .bool)), (8, .av (.val I))], objs := [(1, .box [.val I, .val (.slice yQ2), .val yQ5, .val (.slice I), .val (.slice .str), .val I]), (5, .arr I)] })]
def layoutref42_Directions_B19 (x : Q56) : Option (Q56 ⊕ (Q43 ⊕ Empty)) :=
  let (a,b,c,d,e,f,g,h,i,k,l,_) := x; cond (ltI l (k.length : Nat)) ((getI k l).bind fun y1 => let t_0 := (idxI g.length y1).bind fun j20 => (g[j20]?).bind fun y21 => cond (geI y21 0) ((idxI g.length (xorI .i64 y1 1)).bind fun j22 => (g[j22]?).bind fun y23 => cond (ltI y23 0) ((idxI g.length y1).bind fun j24 => (g[j24]?).bind fun y25 => (idxI g.length (xorI .i64 y1 1)).bind fun j26 => (g[j26]?).bind fun y27 => some (.inl (a,b,c,d,e,f,(g.set j26 (remI (addI .i64 y25 2) 4)),true,i,k,(addI .i64 l 1),()))) (some (.inl (a,b,c,d,e,f,g,h,i,k,(addI .i64 l 1),())))) (some (.inl (a,b,c,d,e,f,g,h,i,k,(addI .i64 l 1),()))); cond (eqI (k.length : Nat) 0) none ((getI k (remI (addI .i64 l 1) (k.length : Nat))).bind fun y2 => (idxI g.length y1).bind fun j3 => (g[j3]?).bind fun y4 => cond (geI y4 0) ((idxI g.length y2).bind fun j5 => (g[j5]?).bind fun y6 => cond (ltI y6 0) ((idxI g.length y1).bind fun j7 => (g[j7]?).bind fun y8 => (getI d y1).bind fun y9 => (idxI g.length y2).bind fun j10 => (g[j10]?).bind fun y11 => (idxI (g.set j10 (remI (addI .i64 y8 y9) 4)).length y1).bind fun j12 => ((g.set j10 (remI (addI .i64 y8 y9) 4))[j12]?).bind fun y13 => cond (geI y13 0) ((idxI (g.set j10 (remI (addI .i64 y8 y9) 4)).length (xorI .i64 y1 1)).bind fun j14 => ((g.set j10 (remI (addI .i64 y8 y9) 4))[j14]?).bind fun y15 => cond (ltI y15 0) ((idxI (g.set j10 (remI (addI .i64 y8 y9) 4)).length y1).bind fun j16 => ((g.set j10 (remI (addI .i64 y8 y9) 4))[j16]?).bind fun y17 => (idxI (g.set j10 (remI (addI .i64 y8 y9) 4)).length (xorI .i64 y1 1)).bind fun j18 => ((g.set j10 (remI (addI .i64 y8 y9) 4))[j18]?).bind fun y19 => some (.inl (a,b,c,d,e,f,((g.set j10 (remI (addI .i64 y8 y9) 4)).set j18 (remI (addI .i64 y17 2) 4)),true,i,k,(addI .i64 l 1),()))) (some (.inl (a,b,c,d,e,f,(g.set j10 (remI (addI .i64 y8 y9) 4)),true,i,k,(addI .i64 l 1),())))) (some (.inl (a,b,c,d,e,f,(g.set j10 (remI (addI .i64 y8 y9) 4)),true,i,k,(addI .i64 l 1),())))) t_0) t_0)) (some (.inr (.inl (a,b,c,d,e,f,g,h,i,()))))
def layoutref42_Directions_L19 : Q56 → Option (Q43 ⊕ Empty) := loopFix layoutref42_Directions_B19
def layoutref42_Directions_A19 : Ann := { head := layoutref42_Directions_H19, exits := layoutref42_Directions_E19, fn := layoutref42_Directions_L19 }
def layoutref42_Directions_H15 : Shape := { env := [(1, .av (.ptr 1 0)), (5, .av (.own 5)), (7, .av (.val .bool)), (8, .av (.val I))], objs := [(1, .box [.val I, .val (.slice yQ2), .val yQ5, .val (.slice I), .val (.slice .str), .val I]), (5, .arr I)] }
def layoutref42_Directions_E15 : List (Ex × Shape) := [(.exit 4, { env := [(1, .av (.ptr 1 0)), (5, .av (.own 5)), (7, .av (.val .bool))], objs := [(1, .box [.val I, .val (.slice yQ2), .val yQ5, .val (.slice I), .val (.slice .str), .val I]), (5, .arr I)] })]
def layoutref42_Directions_B15 (x : Q43) : Option (Q43 ⊕ (Q40 ⊕ Empty)) :=
  let (a,b,c,d,e,f,g,h,i,_) := x; cond (ltI i a) ((getI c i).bind fun y1 => (layoutref42_Directions_L19 (a,b,c,d,e,f,g,h,i,y1,0,())).bind (Sum.elim (fun (a_3,b_3,c_3,d_3,e_3,f_3,g_3,h_3,i_3,_) => some (.inl (a_3,b_3,c_3,d_3,e_3,f_3,g_3,h_3,(addI .i64 i_3 1),()))) (fun _ => none))) (some (.inr (.inl (a,b,c,d,e,f,g,h,()))))
def layoutref42_Directions_L15 : Q43 → Option (Q40 ⊕ Empty) := loopFix layoutref42_Directions_B15
def layoutref42_Directions_A15 : Ann := { head := layoutref42_Directions_H15, exits := layoutref42_Directions_E15, fn := layoutref42_Directions_L15 }
def layoutref42_Directions_H12 : Shape := { env := [(1, .av (.ptr 1 0)), (5, .av (.own 5)), (7, .av (.val .bool))], objs := [(1, .box [.val I, .val (.slice yQ2), .val yQ5, .val (.slice I), .val (.slice .str), .val I]), (5, .arr I)] }
def layoutref42_Directions_E12 : List (Ex × Shape) := [(.exit 2, { env := [(5, .av (.own 5))], objs := [(5, .arr I)] })]
def layoutref42_Directions_B12 (x : Q40) : Option (Q40 ⊕ (Q1 ⊕ Empty)) :=
  let (a,b,c,d,e,f,g,h,_) := x; cond h ((layoutref42_Directions_L15 (a,b,c,d,e,f,g,false,0,())).bind (Sum.elim (fun (a_2,b_2,c_2,d_2,e_2,f_2,g_2,h_2,_) => some (.inl (a_2,b_2,c_2,d_2,e_2,f_2,g_2,h_2,()))) (fun _ => none))) (some (.inr (.inl (g,()))))
def layoutref42_Directions_L12 : Q40 → Option (Q1 ⊕ Empty) := loopFix layoutref42_Directions_B12
def layoutref42_Directions_A12 : Ann := { head := layoutref42_Directions_H12, exits := layoutref42_Directions_E12, fn := layoutref42_Directions_L12 }
def layoutref42_Directions_H6 : Shape := { env := [(1, .av (.ptr 1 0)), (4, .av (.val I)), (5, .av (.own 5)), (6, .av (.val I))], objs := [(1, .box [.val I, .val (.slice yQ2), .val yQ5, .val (.slice I), .val (.slice .str), .val I]), (5, .arr I)] }
def layoutref42_Directions_E6 : List (Ex × Shape) := [(.exit 0, { env := [(1, .av (.ptr 1 0)), (4, .av (.val I)), (5, .av (.own 5))], objs := [(1, .box [.val I, .val (.slice yQ2), .val yQ5, .val (.slice I), .val (.slice .str), .val I]), (5, .arr I)] })]
def layoutref42_Directions_B6 (x : Q42) : Option (Q42 ⊕ (Q37 ⊕ Empty)) :=
  let (a,b,c,d,e,f,g,h,i,_) := x; cond (ltI i h) ((idxI g.length i).bind fun j1 => (g[j1]?).bind fun y2 => some (.inl (a,b,c,d,e,f,(g.set j1 (-1)),h,(addI .i64 i 1),()))) (some (.inr (.inl (a,b,c,d,e,f,g,h,()))))
def layoutref42_Directions_L6 : Q42 → Option (Q37 ⊕ Empty) := loopFix layoutref42_Directions_B6
def layoutref42_Directions_A6 : Ann := { head := layoutref42_Directions_H6, exits := layoutref42_Directions_E6, fn := layoutref42_Directions_L6 }
def layoutref42_Directions_As : Anns := [(6, layoutref42_Directions_A6), (12, layoutref42_Directions_A12), (15, layoutref42_Directions_A15), (19, layoutref42_Directions_A19)]
def layoutref42_Directions (x : (Q10 × Unit)) : Option Q5 :=
  let (((a,b,c,_),d,e,f,_),_) := x; (layoutref42_Straight (((a,b,c,()),d,e,f,()),())).bind fun r1 => cond (!r1.1) (some ([],13,())) ((makeL I (mulI .i64 2 (b.length : Nat)) (mulI .i64 2 (b.length : Nat))).bind fun m2 => (layoutref42_Directions_L6 (a,b,c,d,e,f,m2,(mulI .i64 2 (b.length : Nat)),0,())).bind (Sum.elim (fun (a_4,b_4,c_4,d_4,e_4,f_4,g_4,h_4,_) => cond (gtI h_4 0) ((idxI g_4.length 0).bind fun j5 => (g_4[j5]?).bind fun y6 => (layoutref42_Directions_L12 (a_4,b_4,c_4,d_4,e_4,f_4,(g_4.set j5 1),true,())).bind (Sum.elim (fun z8 => some (z8.1,0,())) (fun _ => none))) ((layoutref42_Directions_L12 (a_4,b_4,c_4,d_4,e_4,f_4,g_4,true,())).bind (Sum.elim (fun z10 => some (z10.1,0,())) (fun _ => none)))) (fun _ => none)))
def layoutref42_Directions_c : Con := { ins := [(.rd, yQ11)], outs := [(true, (.slice I)), (true, I)], fn := layoutref42_Directions }
def layoutref42_Directions_C : Ctx := { tab := tab, con := fun | 24, _ => some layoutref42_Straight_c | _, _ => none, glob := glob, eqs := eqs, maps := maps }
theorem layoutref42_Directions_R19 (x : layoutref42_Directions_H19.ty.den) : round layoutref42_Directions_C layoutref42_Directions_As layoutref42_Directions_A19 (loopBody 19 (bodyOf Tryd.f11)) x = layoutref42_Directions_B19 x := by kernel_rfl
theorem layoutref42_Directions_R15 (x : layoutref42_Directions_H15.ty.den) : round layoutref42_Directions_C layoutref42_Directions_As layoutref42_Directions_A15 (loopBody 15 (bodyOf Tryd.f11)) x = layoutref42_Directions_B15 x := by kernel_rfl
theorem layoutref42_Directions_R12 (x : layoutref42_Directions_H12.ty.den) : round layoutref42_Directions_C layoutref42_Directions_As layoutref42_Directions_A12 (loopBody 12 (bodyOf Tryd.f11)) x = layoutref42_Directions_B12 x := by kernel_rfl
theorem layoutref42_Directions_R6 (x : layoutref42_Directions_H6.ty.den) : round layoutref42_Directions_C layoutref42_Directions_As layoutref42_Directions_A6 (loopBody 6 (bodyOf Tryd.f11)) x = layoutref42_Directions_B6 x := by kernel_rfl
def layoutlaw42_CompactDirections_As : Anns := []
def layoutlaw42_CompactDirections (x : (Q10 × Unit)) : Option (Bool × Unit) :=
  let (((a,b,c,_),d,e,f,_),_) := x; (layoutlaw42_small (((a,b,c,()),d,e,f,()),())).bind fun r1 => cond (!r1.1) ((layoutlaw42_awake ()).bind fun r2 => some (r2.1,())) ((compact_Directions (((a,b,c,()),d,e,f,()),())).bind fun r3 => (layoutref42_Directions (((a,b,c,()),d,e,f,()),())).bind fun r4 => cond (eqI r3.2.1 r4.2.1) ((layoutref14_SameInts (r3.1,r4.1,())).bind fun r5 => cond r5.1 ((layoutlaw42_awake ()).bind fun r6 => some (r6.1,())) (some (false,()))) (some (false,())))
def layoutlaw42_CompactDirections_c : Con := { ins := [(.rd, yQ11)], outs := [(true, .bool)], fn := layoutlaw42_CompactDirections }
def layoutlaw42_CompactDirections_C : Ctx := { tab := tab, con := fun | 8, _ => some layoutlaw42_small_c | 9, _ => some layoutlaw42_awake_c | 10, _ => some compact_Directions_c | 11, _ => some layoutref42_Directions_c | 12, _ => some layoutref14_SameInts_c | _, _ => none, glob := glob, eqs := eqs, maps := maps }
def layoutlaw42_CompactOpposite_H11 : Shape := { env := [(1, .av (.ptr 1 0)), (3, .av (.own 3)), (5, .av (.val I)), (6, .av (.val (.slice I))), (7, .av (.val I))], objs := [(1, .box [.val I, .val (.slice yQ2), .val yQ5, .val (.slice I), .val (.slice .str), .val I]), (3, .arr I)] }
def layoutlaw42_CompactOpposite_E11 : List (Ex × Shape) := [(.ret, { env := [(2, .av (.val .bool))], objs := [] }), (.exit 2, { env := [(1, .av (.ptr 1 0)), (3, .av (.own 3)), (5, .av (.val I))], objs := [(1, .box [.val I, .val (.slice yQ2), .val yQ5, .val (.slice I), .val (.slice .str), .val I]), (3, .arr I)] })]
def layoutlaw42_CompactOpposite_B11 (x : Q49) : Option (Q49 ⊕ ((Bool × Unit) ⊕ (Q37 ⊕ Empty))) :=
  let (a,b,c,d,e,f,g,h,i,k,_) := x; cond (ltI k (i.length : Nat)) ((getI i k).bind fun y1 => cond (eqI (i.length : Nat) 0) none ((getI i (remI (addI .i64 k 1) (i.length : Nat))).bind fun y2 => (idxI g.length y1).bind fun j3 => (g[j3]?).bind fun y4 => cond (ltI y4 0) (some (.inr (.inl (false,())))) ((idxI g.length y1).bind fun j5 => (g[j5]?).bind fun y6 => cond (gtI y6 3) (some (.inr (.inl (false,())))) ((idxI g.length y2).bind fun j7 => (g[j7]?).bind fun y8 => (idxI g.length y1).bind fun j9 => (g[j9]?).bind fun y10 => (getI d y1).bind fun y11 => cond (neI y8 (remI (addI .i64 y10 y11) 4)) (some (.inr (.inl (false,())))) ((idxI g.length (xorI .i64 y1 1)).bind fun j12 => (g[j12]?).bind fun y13 => (idxI g.length y1).bind fun j14 => (g[j14]?).bind fun y15 => cond (neI y13 (remI (addI .i64 y15 2) 4)) (some (.inr (.inl (false,())))) (some (.inl (a,b,c,d,e,f,g,h,i,(addI .i64 k 1),())))))))) (some (.inr (.inr (.inl (a,b,c,d,e,f,g,h,())))))
def layoutlaw42_CompactOpposite_L11 : Q49 → Option ((Bool × Unit) ⊕ (Q37 ⊕ Empty)) := loopFix layoutlaw42_CompactOpposite_B11
def layoutlaw42_CompactOpposite_A11 : Ann := { head := layoutlaw42_CompactOpposite_H11, exits := layoutlaw42_CompactOpposite_E11, fn := layoutlaw42_CompactOpposite_L11 }
def layoutlaw42_CompactOpposite_H7 : Shape := { env := [(1, .av (.ptr 1 0)), (3, .av (.own 3)), (5, .av (.val I))], objs := [(1, .box [.val I, .val (.slice yQ2), .val yQ5, .val (.slice I), .val (.slice .str), .val I]), (3, .arr I)] }
def layoutlaw42_CompactOpposite_E7 : List (Ex × Shape) := [(.ret, { env := [(2, .av (.val .bool))], objs := [] }), (.exit 0, { env := [], objs := [] })]
def layoutlaw42_CompactOpposite_B7 (x : Q37) : Option (Q37 ⊕ ((Bool × Unit) ⊕ (Unit ⊕ Empty))) :=
  let (a,b,c,d,e,f,g,h,_) := x; cond (ltI h a) ((getI c h).bind fun y1 => (layoutlaw42_CompactOpposite_L11 (a,b,c,d,e,f,g,h,y1,0,())).bind (Sum.elim (fun z3 => some (.inr (.inl (z3.1,())))) (Sum.elim (fun (a_4,b_4,c_4,d_4,e_4,f_4,g_4,h_4,_) => some (.inl (a_4,b_4,c_4,d_4,e_4,f_4,g_4,(addI .i64 h_4 1),()))) (fun _ => none)))) (some (.inr (.inr (.inl ()))))
def layoutlaw42_CompactOpposite_L7 : Q37 → Option ((Bool × Unit) ⊕ (Unit ⊕ Empty)) := loopFix layoutlaw42_CompactOpposite_B7
def layoutlaw42_CompactOpposite_A7 : Ann := { head := layoutlaw42_CompactOpposite_H7, exits := layoutlaw42_CompactOpposite_E7, fn := layoutlaw42_CompactOpposite_L7 }
def layoutlaw42_CompactOpposite_As : Anns := [(7, layoutlaw42_CompactOpposite_A7), (11, layoutlaw42_CompactOpposite_A11)]
def layoutlaw42_CompactOpposite (x : (Q10 × Unit)) : Option (Bool × Unit) :=
  let (((a,b,c,_),d,e,f,_),_) := x; (layoutlaw42_small (((a,b,c,()),d,e,f,()),())).bind fun r1 => cond (!r1.1) ((layoutlaw42_awake ()).bind fun r2 => some (r2.1,())) ((layoutref39_Valid (((a,b,c,()),d,e,f,()),())).bind fun r3 => cond (neI r3.1 0) ((layoutlaw42_awake ()).bind fun r4 => some (r4.1,())) ((layoutref39_Bends (((a,b,c,()),d,e,f,()),())).bind fun r5 => cond (neI r5.1 0) ((layoutlaw42_awake ()).bind fun r6 => some (r6.1,())) ((compact_Directions (((a,b,c,()),d,e,f,()),())).bind fun r7 => cond (neI r7.2.1 0) (some (false,())) (cond (neI (r7.1.length : Nat) (mulI .i64 2 (b.length : Nat))) (some (false,())) ((layoutlaw42_CompactOpposite_L7 (a,b,c,d,e,f,r7.1,0,())).bind (Sum.elim (fun z9 => some (z9.1,())) (Sum.elim (fun z10 => (layoutlaw42_awake ()).bind fun r11 => some (r11.1,())) (fun _ => none))))))))
def layoutlaw42_CompactOpposite_c : Con := { ins := [(.rd, yQ11)], outs := [(true, .bool)], fn := layoutlaw42_CompactOpposite }
def layoutlaw42_CompactOpposite_C : Ctx := { tab := tab, con := fun | 8, _ => some layoutlaw42_small_c | 9, _ => some layoutlaw42_awake_c | 10, _ => some compact_Directions_c | 19, _ => some layoutref39_Valid_c | 20, _ => some layoutref39_Bends_c | _, _ => none, glob := glob, eqs := eqs, maps := maps }
theorem layoutlaw42_CompactOpposite_R11 (x : layoutlaw42_CompactOpposite_H11.ty.den) : round layoutlaw42_CompactOpposite_C layoutlaw42_CompactOpposite_As layoutlaw42_CompactOpposite_A11 (loopBody 11 (bodyOf Tryd.f7)) x = layoutlaw42_CompactOpposite_B11 x := by kernel_rfl
theorem layoutlaw42_CompactOpposite_R7 (x : layoutlaw42_CompactOpposite_H7.ty.den) : round layoutlaw42_CompactOpposite_C layoutlaw42_CompactOpposite_As layoutlaw42_CompactOpposite_A7 (loopBody 7 (bodyOf Tryd.f7)) x = layoutlaw42_CompactOpposite_B7 x := by kernel_rfl
theorem layoutlaw42_CompactOpposite_eq (x : (tupTy [yQ11]).den) : callFn layoutlaw42_CompactOpposite_C layoutlaw42_CompactOpposite_As (bodyOf Tryd.f7) [(.rd, yQ11)] [(.tmp 2, true, .bool)] x = layoutlaw42_CompactOpposite x := by kernel_rfl
end
end Go.Vm

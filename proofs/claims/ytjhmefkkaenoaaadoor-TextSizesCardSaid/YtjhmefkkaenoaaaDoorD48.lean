/-
  The functions that the laws reach, as functions on values, and the proofs that the machine computes them.
-/
import Derived.Test.YtjhmefkkaenoaaaDoorVmA
import Derived.Test.YtjhmefkkaenoaaaDoorVmSplit
import Derived.Test.YtjhmefkkaenoaaaDoorProg
import Derived.KernelRfl
set_option linter.unusedVariables false
set_option linter.unusedSimpArgs false
namespace Go.Vm
open Go.Proofs
abbrev I : Ty := .int .i64
noncomputable section
def tab : Tab := [(2, I), (3, I), (4, .bool), (5, (.int .u8)), (6, (.int .u8)), (7, (.prod I (.prod I (.prod .bool (.prod (.int .u8) .unit))))), (8, (.prod I (.prod I (.prod .bool (.prod (.int .u8) .unit))))), (9, .str), (10, .str), (11, .str), (12, (.int .u64)), (13, (.prod .str (.prod (.int .u64) .unit))), (14, (.prod .str (.prod (.int .u64) .unit))), (21, (.int .i32)), (25, (.slice .str)), (26, I), (33, (.arr 2 I)), (35, (.prod I (.prod I .unit))), (36, (.prod I (.prod I .unit))), (40, (.slice (.int .u8))), (54, (.int .u64)), (55, (.arr 256 (.int .u8))), (56, (.prod (.int .u8) (.prod (.int .u8) .unit))), (57, (.prod (.int .u8) (.prod (.int .u8) .unit))), (58, (.arr 16 (.prod (.int .u8) (.prod (.int .u8) .unit)))), (59, (.int .u32)), (69, (.int .u8)), (70, (.int .u8)), (73, (.int .i32)), (74, (.int .i32))]
def eqs : List Nat := [36]
def glob : List (Nat × (Σ t : Ty, t.den)) := []
set_option maxRecDepth 100000
/-! layout/text.Plain$1 -/
def text_Plain_1_As : Anns := []
def text_Plain_1 (x : (Int × Unit)) : Option (Bool × Unit) :=
  cond (ltI x.1 32) (some (true, ())) (some ((gtI x.1 126), ()))
def text_Plain_1_c : Con := { ins := [(.rd, (.int .u8))], outs := [(true, .bool)], fn := text_Plain_1 }
def text_Plain_1_C : Ctx := { tab := tab, con := fun _ _ => none, glob := glob, eqs := eqs }
theorem text_Plain_1_eq (x : (tupTy [(.int .u8)]).den) : callFn text_Plain_1_C text_Plain_1_As (bodyOf Tryd.f21) [(.rd, (.int .u8))] [(.tmp 2, true, .bool)] x = text_Plain_1 x := by kernel_rfl

/-! slices.IndexFunc[[]byte,byte] -/
def slices_IndexFunc_byte_of_text_Plain_1_H2 : Shape := { env := [(0, .av (.val (.slice (.int .u8)))), (1, .av (.val (.clo 21 .unit))), (7, .av (.val I)), (8, .av (.val I))], objs := [] }
def slices_IndexFunc_byte_of_text_Plain_1_E2 : List (Ex × Shape) := [(.ret, { env := [(4, .av (.val I))], objs := [] }), (.exit 0, { env := [], objs := [] })]
def slices_IndexFunc_byte_of_text_Plain_1_B2 (x : ((List Int) × (Unit × (Int × (Int × Unit))))) : Option (((List Int) × (Unit × (Int × (Int × Unit)))) ⊕ ((Int × Unit) ⊕ (Unit ⊕ Empty))) :=
  cond (ltI x.2.2.2.1 x.2.2.1) ((getI x.1 x.2.2.2.1).bind fun y1 => (text_Plain_1 (y1, ())).bind fun r2 => cond r2.1 (some (.inr (.inl (x.2.2.2.1, ())))) (some (.inl (x.1, (x.2.1, (x.2.2.1, ((addI .i64 x.2.2.2.1 1), ()))))))) (some (.inr (.inr (.inl ()))))
def slices_IndexFunc_byte_of_text_Plain_1_L2 : ((List Int) × (Unit × (Int × (Int × Unit)))) → Option ((Int × Unit) ⊕ (Unit ⊕ Empty)) := loopFix slices_IndexFunc_byte_of_text_Plain_1_B2
def slices_IndexFunc_byte_of_text_Plain_1_A2 : Ann := { head := slices_IndexFunc_byte_of_text_Plain_1_H2, exits := slices_IndexFunc_byte_of_text_Plain_1_E2, fn := slices_IndexFunc_byte_of_text_Plain_1_L2 }
def slices_IndexFunc_byte_of_text_Plain_1_As : Anns := [(2, slices_IndexFunc_byte_of_text_Plain_1_A2)]
def slices_IndexFunc_byte_of_text_Plain_1 (x : ((List Int) × (Unit × Unit))) : Option (Int × Unit) :=
  (slices_IndexFunc_byte_of_text_Plain_1_L2 (x.1, (x.2.1, ((x.1.length : Nat), (0, ()))))).bind (Sum.elim (fun z2 => some (z2.1, ())) (Sum.elim (fun z3 => some ((-1), ())) (fun _ => none)))
def slices_IndexFunc_byte_of_text_Plain_1_c : Con := { ins := [(.rd, (.slice (.int .u8))), (.rd, (.clo 21 .unit))], outs := [(true, I)], fn := slices_IndexFunc_byte_of_text_Plain_1 }
def slices_IndexFunc_byte_of_text_Plain_1_C : Ctx := { tab := tab, con := fun | 21, _ => some text_Plain_1_c | _, _ => none, glob := glob, eqs := eqs }
theorem slices_IndexFunc_byte_of_text_Plain_1_R2 (x : slices_IndexFunc_byte_of_text_Plain_1_H2.ty.den) : round slices_IndexFunc_byte_of_text_Plain_1_C slices_IndexFunc_byte_of_text_Plain_1_As slices_IndexFunc_byte_of_text_Plain_1_A2 (loopBody 2 (bodyOf Tryd.f24)) x = slices_IndexFunc_byte_of_text_Plain_1_B2 x := by kernel_rfl
theorem slices_IndexFunc_byte_of_text_Plain_1_eq (x : (tupTy [(.slice (.int .u8)), (.clo 21 .unit)]).den) : callFn slices_IndexFunc_byte_of_text_Plain_1_C slices_IndexFunc_byte_of_text_Plain_1_As (bodyOf Tryd.f24) [(.rd, (.slice (.int .u8))), (.rd, (.clo 21 .unit))] [(.tmp 4, true, I)] x = slices_IndexFunc_byte_of_text_Plain_1 x := by kernel_rfl

/-! slices.ContainsFunc[[]byte,byte] -/
def slices_ContainsFunc_byte_of_text_Plain_1_As : Anns := []
def slices_ContainsFunc_byte_of_text_Plain_1 (x : ((List Int) × (Unit × Unit))) : Option (Bool × Unit) :=
  (slices_IndexFunc_byte_of_text_Plain_1 (x.1, (x.2.1, ()))).bind fun r1 => some ((geI r1.1 0), ())
def slices_ContainsFunc_byte_of_text_Plain_1_c : Con := { ins := [(.rd, (.slice (.int .u8))), (.rd, (.clo 21 .unit))], outs := [(true, .bool)], fn := slices_ContainsFunc_byte_of_text_Plain_1 }
def slices_ContainsFunc_byte_of_text_Plain_1_C : Ctx := { tab := tab, con := fun | 24, _ => some slices_IndexFunc_byte_of_text_Plain_1_c | _, _ => none, glob := glob, eqs := eqs }
theorem slices_ContainsFunc_byte_of_text_Plain_1_eq (x : (tupTy [(.slice (.int .u8)), (.clo 21 .unit)]).den) : callFn slices_ContainsFunc_byte_of_text_Plain_1_C slices_ContainsFunc_byte_of_text_Plain_1_As (bodyOf Tryd.f20) [(.rd, (.slice (.int .u8))), (.rd, (.clo 21 .unit))] [(.tmp 4, true, .bool)] x = slices_ContainsFunc_byte_of_text_Plain_1 x := by kernel_rfl

/-! layout/text.Plain -/
def text_Plain_As : Anns := []
def text_Plain (x : (ByteArray × Unit)) : Option (Bool × Unit) :=
  (slices_ContainsFunc_byte_of_text_Plain_1 ((bytesOf x.1), ((), ()))).bind fun r1 => some ((!r1.1), ())
def text_Plain_c : Con := { ins := [(.rd, .str)], outs := [(true, .bool)], fn := text_Plain }
def text_Plain_C : Ctx := { tab := tab, con := fun | 20, _ => some slices_ContainsFunc_byte_of_text_Plain_1_c | _, _ => none, glob := glob, eqs := eqs }
theorem text_Plain_eq (x : (tupTy [.str]).den) : callFn text_Plain_C text_Plain_As (bodyOf Tryd.f9) [(.rd, .str)] [(.tmp 2, true, .bool)] x = text_Plain x := by kernel_rfl

/-! layout/text.Width -/
def text_Width_As : Anns := []
def text_Width (x : (ByteArray × Unit)) : Option (Int × Unit) :=
  (text_Plain (x.1, ())).bind fun r1 => cond (!r1.1) (some (0, ())) (some ((mulI .i64 600 (x.1.size : Nat)), ()))
def text_Width_c : Con := { ins := [(.rd, .str)], outs := [(true, I)], fn := text_Width }
def text_Width_C : Ctx := { tab := tab, con := fun | 9, _ => some text_Plain_c | _, _ => none, glob := glob, eqs := eqs }
theorem text_Width_eq (x : (tupTy [.str]).den) : callFn text_Width_C text_Width_As (bodyOf Tryd.f11) [(.rd, .str)] [(.tmp 2, true, I)] x = text_Width x := by kernel_rfl

/-! strings.Split -/
def strings_Split (x : (ByteArray × (ByteArray × Unit))) : Option ((List ByteArray) × Unit) := splitC.fn x
def strings_Split_c : Con := splitC

/-! slices.Index[[]string,string] -/
def slices_Index_string_H2 : Shape := { env := [(0, .av (.val (.slice .str))), (1, .av (.val .str)), (7, .av (.val I)), (8, .av (.val I))], objs := [] }
def slices_Index_string_E2 : List (Ex × Shape) := [(.ret, { env := [(4, .av (.val I))], objs := [] }), (.exit 0, { env := [], objs := [] })]
def slices_Index_string_B2 (x : ((List ByteArray) × (ByteArray × (Int × (Int × Unit))))) : Option (((List ByteArray) × (ByteArray × (Int × (Int × Unit)))) ⊕ ((Int × Unit) ⊕ (Unit ⊕ Empty))) :=
  cond (ltI x.2.2.2.1 x.2.2.1) ((getI x.1 x.2.2.2.1).bind fun y1 => cond (eqS x.2.1 y1) (some (.inr (.inl (x.2.2.2.1, ())))) (some (.inl (x.1, (x.2.1, (x.2.2.1, ((addI .i64 x.2.2.2.1 1), ()))))))) (some (.inr (.inr (.inl ()))))
def slices_Index_string_L2 : ((List ByteArray) × (ByteArray × (Int × (Int × Unit)))) → Option ((Int × Unit) ⊕ (Unit ⊕ Empty)) := loopFix slices_Index_string_B2
def slices_Index_string_A2 : Ann := { head := slices_Index_string_H2, exits := slices_Index_string_E2, fn := slices_Index_string_L2 }
def slices_Index_string_As : Anns := [(2, slices_Index_string_A2)]
def slices_Index_string (x : ((List ByteArray) × (ByteArray × Unit))) : Option (Int × Unit) :=
  (slices_Index_string_L2 (x.1, (x.2.1, ((x.1.length : Nat), (0, ()))))).bind (Sum.elim (fun z2 => some (z2.1, ())) (Sum.elim (fun z3 => some ((-1), ())) (fun _ => none)))
def slices_Index_string_c : Con := { ins := [(.rd, (.slice .str)), (.rd, .str)], outs := [(true, I)], fn := slices_Index_string }
def slices_Index_string_C : Ctx := { tab := tab, con := fun _ _ => none, glob := glob, eqs := eqs }
theorem slices_Index_string_R2 (x : slices_Index_string_H2.ty.den) : round slices_Index_string_C slices_Index_string_As slices_Index_string_A2 (loopBody 2 (bodyOf Tryd.f26)) x = slices_Index_string_B2 x := by kernel_rfl
theorem slices_Index_string_eq (x : (tupTy [(.slice .str), .str]).den) : callFn slices_Index_string_C slices_Index_string_As (bodyOf Tryd.f26) [(.rd, (.slice .str)), (.rd, .str)] [(.tmp 4, true, I)] x = slices_Index_string x := by kernel_rfl

/-! slices.Contains[[]string,string] -/
def slices_Contains_string_As : Anns := []
def slices_Contains_string (x : ((List ByteArray) × (ByteArray × Unit))) : Option (Bool × Unit) :=
  (slices_Index_string (x.1, (x.2.1, ()))).bind fun r1 => some ((geI r1.1 0), ())
def slices_Contains_string_c : Con := { ins := [(.rd, (.slice .str)), (.rd, .str)], outs := [(true, .bool)], fn := slices_Contains_string }
def slices_Contains_string_C : Ctx := { tab := tab, con := fun | 26, _ => some slices_Index_string_c | _, _ => none, glob := glob, eqs := eqs }
theorem slices_Contains_string_eq (x : (tupTy [(.slice .str), .str]).den) : callFn slices_Contains_string_C slices_Contains_string_As (bodyOf Tryd.f23) [(.rd, (.slice .str)), (.rd, .str)] [(.tmp 4, true, .bool)] x = slices_Contains_string x := by kernel_rfl

/-! layout/text.Wrap -/
/-- text.Wrap: what its loop comes to, over the words that are left and the lines so far. -/
def wrapF (width : Int) : List ByteArray → List ByteArray → Option (List ByteArray)
  | [], out => some out
  | w :: r, out => (out.getLast?).bind fun last => (catS last (ByteArray.mk #[32])).bind fun t => (catS t w).bind fun j => (text_Width (j, ())).bind fun b =>
    cond (leI b.1 width) (wrapF width r (out.dropLast ++ [j])) ((app out [w]).bind fun o => wrapF width r o)
def wrapM (x : (ByteArray × (Int × Unit))) : Option ((List ByteArray) × (Int × Unit)) :=
  (text_Plain (x.1, ())).bind fun r1 => cond (!r1.1) (some ([], (1, ()))) (cond (ltI x.2.1 600) (some ([], (1, ()))) (cond (eqS x.1 (ByteArray.mk #[])) (some ([], (0, ()))) ((strings_Split (x.1, (ByteArray.mk #[32], ()))).bind fun r2 =>
    (slices_Contains_string (r2.1, (ByteArray.mk #[], ()))).bind fun r3 => cond r3.1 (some ([], (4, ()))) ((viewB r2.1.length 0 1).bind fun v1 => (viewB r2.1.length 1 (r2.1.length : Nat)).bind fun v2 =>
      cond (Nat.beq v1.1 0 && Nat.beq v1.2 1 && Nat.beq v2.1 1 && Nat.beq (v2.2 + 1) r2.1.length && eqI (v2.2 : Nat) (v2.2 : Nat) && Nat.ble r2.1.length lim) ((wrapF x.2.1 (r2.1.drop 1) (r2.1.take 1)).bind fun out => some (out, (0, ()))) none))))
def wrapC : Con := { ins := [(.rd, .str), (.rd, I)], outs := [(false, (.slice .str)), (true, I)], fn := wrapM }
def text_Wrap (x : (ByteArray × (Int × Unit))) : Option ((List ByteArray) × (Int × Unit)) := wrapC.fn x
def text_Wrap_c : Con := wrapC

/-! layout/layoutref48.Same -/
def layoutref48_Same_H4 : Shape := { env := [(0, .av (.val (.slice .str))), (1, .av (.val (.slice .str))), (5, .av (.val I))], objs := [] }
def layoutref48_Same_E4 : List (Ex × Shape) := [(.ret, { env := [(4, .av (.val .bool))], objs := [] }), (.exit 0, { env := [], objs := [] })]
def layoutref48_Same_B4 (x : ((List ByteArray) × ((List ByteArray) × (Int × Unit)))) : Option (((List ByteArray) × ((List ByteArray) × (Int × Unit))) ⊕ ((Bool × Unit) ⊕ (Unit ⊕ Empty))) :=
  cond (ltI x.2.2.1 (x.1.length : Nat)) ((getI x.1 x.2.2.1).bind fun y1 => (getI x.2.1 x.2.2.1).bind fun y2 => cond (neS y1 y2) (some (.inr (.inl (false, ())))) (some (.inl (x.1, (x.2.1, ((addI .i64 x.2.2.1 1), ())))))) (some (.inr (.inr (.inl ()))))
def layoutref48_Same_L4 : ((List ByteArray) × ((List ByteArray) × (Int × Unit))) → Option ((Bool × Unit) ⊕ (Unit ⊕ Empty)) := loopFix layoutref48_Same_B4
def layoutref48_Same_A4 : Ann := { head := layoutref48_Same_H4, exits := layoutref48_Same_E4, fn := layoutref48_Same_L4 }
def layoutref48_Same_As : Anns := [(4, layoutref48_Same_A4)]
def layoutref48_Same (x : ((List ByteArray) × ((List ByteArray) × Unit))) : Option (Bool × Unit) :=
  cond (neI (x.1.length : Nat) (x.2.1.length : Nat)) (some (false, ())) ((layoutref48_Same_L4 (x.1, (x.2.1, (0, ())))).bind (Sum.elim (fun z2 => some (z2.1, ())) (Sum.elim (fun z3 => some (true, ())) (fun _ => none))))
def layoutref48_Same_c : Con := { ins := [(.rd, (.slice .str)), (.rd, (.slice .str))], outs := [(true, .bool)], fn := layoutref48_Same }
def layoutref48_Same_C : Ctx := { tab := tab, con := fun _ _ => none, glob := glob, eqs := eqs }
theorem layoutref48_Same_R4 (x : layoutref48_Same_H4.ty.den) : round layoutref48_Same_C layoutref48_Same_As layoutref48_Same_A4 (loopBody 4 (bodyOf Tryd.f15)) x = layoutref48_Same_B4 x := by kernel_rfl
theorem layoutref48_Same_eq (x : (tupTy [(.slice .str), (.slice .str)]).den) : callFn layoutref48_Same_C layoutref48_Same_As (bodyOf Tryd.f15) [(.rd, (.slice .str)), (.rd, (.slice .str))] [(.tmp 4, true, .bool)] x = layoutref48_Same x := by kernel_rfl

/-! layout/layoutlaw48.awake -/
def layoutlaw48_awake_As : Anns := []
def layoutlaw48_awake (x : Unit) : Option (Bool × Unit) :=
  (text_Wrap ((ByteArray.mk #[97, 32, 98, 99, 32, 100, 101, 102]), (2400, ()))).bind fun r1 => (layoutref48_Same (r1.1, ([(ByteArray.mk #[97, 32, 98, 99]), (ByteArray.mk #[100, 101, 102])], ()))).bind fun r2 => cond r2.1 (cond (eqI r1.2.1 0) ((text_Width ((ByteArray.mk #[97, 98, 32, 99]), ())).bind fun r3 => cond (eqI r3.1 2400) ((text_Plain ((ByteArray.mk #[126]), ())).bind fun r4 => some (r4.1, ())) (some (false, ()))) (some (false, ()))) (some (false, ()))
def layoutlaw48_awake_c : Con := { ins := [], outs := [(true, .bool)], fn := layoutlaw48_awake }
def layoutlaw48_awake_C : Ctx := { tab := tab, con := fun | 9, _ => some text_Plain_c | 11, _ => some text_Width_c | 13, _ => some text_Wrap_c | 15, _ => some layoutref48_Same_c | _, _ => none, glob := glob, eqs := eqs }
theorem layoutlaw48_awake_eq (x : (tupTy []).den) : callFn layoutlaw48_awake_C layoutlaw48_awake_As (bodyOf Tryd.f8) [] [(.tmp 0, true, .bool)] x = layoutlaw48_awake x := by kernel_rfl

/-! layout/layoutref48.Plain -/
def layoutref48_Plain_H2 : Shape := { env := [(0, .av (.val .str)), (3, .av (.val I))], objs := [] }
def layoutref48_Plain_E2 : List (Ex × Shape) := [(.ret, { env := [(2, .av (.val .bool))], objs := [] }), (.exit 0, { env := [], objs := [] })]
def layoutref48_Plain_B2 (x : (ByteArray × (Int × Unit))) : Option ((ByteArray × (Int × Unit)) ⊕ ((Bool × Unit) ⊕ (Unit ⊕ Empty))) :=
  cond (ltI x.2.1 (x.1.size : Nat)) ((getI x.1.data.toList x.2.1).bind fun c1 => cond (ltI (c1.toNat : Int) 32) (some (.inr (.inl (false, ())))) ((getI x.1.data.toList x.2.1).bind fun c2 => cond (gtI (c2.toNat : Int) 126) (some (.inr (.inl (false, ())))) (some (.inl (x.1, ((addI .i64 x.2.1 1), ())))))) (some (.inr (.inr (.inl ()))))
def layoutref48_Plain_L2 : (ByteArray × (Int × Unit)) → Option ((Bool × Unit) ⊕ (Unit ⊕ Empty)) := loopFix layoutref48_Plain_B2
def layoutref48_Plain_A2 : Ann := { head := layoutref48_Plain_H2, exits := layoutref48_Plain_E2, fn := layoutref48_Plain_L2 }
def layoutref48_Plain_As : Anns := [(2, layoutref48_Plain_A2)]
def layoutref48_Plain (x : (ByteArray × Unit)) : Option (Bool × Unit) :=
  (layoutref48_Plain_L2 (x.1, (0, ()))).bind (Sum.elim (fun z2 => some (z2.1, ())) (Sum.elim (fun z3 => some (true, ())) (fun _ => none)))
def layoutref48_Plain_c : Con := { ins := [(.rd, .str)], outs := [(true, .bool)], fn := layoutref48_Plain }
def layoutref48_Plain_C : Ctx := { tab := tab, con := fun _ _ => none, glob := glob, eqs := eqs }
theorem layoutref48_Plain_R2 (x : layoutref48_Plain_H2.ty.den) : round layoutref48_Plain_C layoutref48_Plain_As layoutref48_Plain_A2 (loopBody 2 (bodyOf Tryd.f10)) x = layoutref48_Plain_B2 x := by kernel_rfl
theorem layoutref48_Plain_eq (x : (tupTy [.str]).den) : callFn layoutref48_Plain_C layoutref48_Plain_As (bodyOf Tryd.f10) [(.rd, .str)] [(.tmp 2, true, .bool)] x = layoutref48_Plain x := by kernel_rfl

/-! layout/layoutref48.Width -/
def layoutref48_Width_As : Anns := []
def layoutref48_Width (x : (ByteArray × Unit)) : Option (Int × Unit) :=
  (layoutref48_Plain (x.1, ())).bind fun r1 => cond (!r1.1) (some (0, ())) (some ((mulI .i64 600 (x.1.size : Nat)), ()))
def layoutref48_Width_c : Con := { ins := [(.rd, .str)], outs := [(true, I)], fn := layoutref48_Width }
def layoutref48_Width_C : Ctx := { tab := tab, con := fun | 10, _ => some layoutref48_Plain_c | _, _ => none, glob := glob, eqs := eqs }
theorem layoutref48_Width_eq (x : (tupTy [.str]).den) : callFn layoutref48_Width_C layoutref48_Width_As (bodyOf Tryd.f12) [(.rd, .str)] [(.tmp 2, true, I)] x = layoutref48_Width x := by kernel_rfl

/-! layout/layoutlaw48.TextMeasures -/
def layoutlaw48_TextMeasures_As : Anns := []
def layoutlaw48_TextMeasures (x : (ByteArray × Unit)) : Option (Bool × Unit) :=
  cond (gtI (x.1.size : Nat) 5000) ((layoutlaw48_awake ()).bind fun r1 => some (r1.1, ())) ((text_Plain (x.1, ())).bind fun r2 => (layoutref48_Plain (x.1, ())).bind fun r3 => cond (eqB r2.1 r3.1) ((text_Width (x.1, ())).bind fun r4 => (layoutref48_Width (x.1, ())).bind fun r5 => cond (eqI r4.1 r5.1) ((layoutlaw48_awake ()).bind fun r6 => some (r6.1, ())) (some (false, ()))) (some (false, ())))
def layoutlaw48_TextMeasures_c : Con := { ins := [(.rd, .str)], outs := [(true, .bool)], fn := layoutlaw48_TextMeasures }
def layoutlaw48_TextMeasures_C : Ctx := { tab := tab, con := fun | 8, _ => some layoutlaw48_awake_c | 9, _ => some text_Plain_c | 10, _ => some layoutref48_Plain_c | 11, _ => some text_Width_c | 12, _ => some layoutref48_Width_c | _, _ => none, glob := glob, eqs := eqs }
theorem layoutlaw48_TextMeasures_eq (x : (tupTy [.str]).den) : callFn layoutlaw48_TextMeasures_C layoutlaw48_TextMeasures_As (bodyOf Tryd.f3) [(.rd, .str)] [(.tmp 2, true, .bool)] x = layoutlaw48_TextMeasures x := by kernel_rfl

/-! layout/layoutref48.Words -/
def layoutref48_Words_H3 : Shape := { env := [(0, .av (.val .str)), (3, .av (.own 3)), (4, .av (.val .str)), (5, .av (.val I))], objs := [(3, .arr .str)] }
def layoutref48_Words_E3 : List (Ex × Shape) := [(.exit 0, { env := [(3, .av (.own 3)), (4, .av (.val .str))], objs := [(3, .arr .str)] })]
def layoutref48_Words_B3 (x : ((List ByteArray) × (ByteArray × (ByteArray × (Int × Unit))))) : Option (((List ByteArray) × (ByteArray × (ByteArray × (Int × Unit)))) ⊕ (((List ByteArray) × (ByteArray × Unit)) ⊕ Empty)) :=
  cond (ltI x.2.2.2.1 (x.2.1.size : Nat)) ((getI x.2.1.data.toList x.2.2.2.1).bind fun c1 => cond (eqI (c1.toNat : Int) 32) ((app x.1 [x.2.2.1]).bind fun a2 => some (.inl (a2, (x.2.1, ((ByteArray.mk #[]), ((addI .i64 x.2.2.2.1 1), ())))))) ((sliceS x.2.1 x.2.2.2.1 (addI .i64 x.2.2.2.1 1)).bind fun y3 => (catS x.2.2.1 y3).bind fun y4 => some (.inl (x.1, (x.2.1, (y4, ((addI .i64 x.2.2.2.1 1), ()))))))) (some (.inr (.inl (x.1, (x.2.2.1, ())))))
def layoutref48_Words_L3 : ((List ByteArray) × (ByteArray × (ByteArray × (Int × Unit)))) → Option (((List ByteArray) × (ByteArray × Unit)) ⊕ Empty) := loopFix layoutref48_Words_B3
def layoutref48_Words_A3 : Ann := { head := layoutref48_Words_H3, exits := layoutref48_Words_E3, fn := layoutref48_Words_L3 }
def layoutref48_Words_As : Anns := [(3, layoutref48_Words_A3)]
def layoutref48_Words (x : (ByteArray × Unit)) : Option ((List ByteArray) × Unit) :=
  (layoutref48_Words_L3 ([], (x.1, ((ByteArray.mk #[]), (0, ()))))).bind (Sum.elim (fun z2 => (app z2.1 [z2.2.1]).bind fun a3 => some (a3, ())) (fun _ => none))
def layoutref48_Words_c : Con := { ins := [(.rd, .str)], outs := [(true, (.slice .str))], fn := layoutref48_Words }
def layoutref48_Words_C : Ctx := { tab := tab, con := fun _ _ => none, glob := glob, eqs := eqs }
theorem layoutref48_Words_R3 (x : layoutref48_Words_H3.ty.den) : round layoutref48_Words_C layoutref48_Words_As layoutref48_Words_A3 (loopBody 3 (bodyOf Tryd.f16)) x = layoutref48_Words_B3 x := by kernel_rfl
theorem layoutref48_Words_eq (x : (tupTy [.str]).den) : callFn layoutref48_Words_C layoutref48_Words_As (bodyOf Tryd.f16) [(.rd, .str)] [(.tmp 2, true, (.slice .str))] x = layoutref48_Words x := by kernel_rfl

/-! layout/layoutref48.Wrap -/
def layoutref48_Wrap_H14 : Shape := { env := [(1, .av (.val I)), (6, .av (.own 6)), (8, .av (.own 8)), (9, .av (.val .str)), (10, .av (.val I))], objs := [(6, .arr .str), (8, .arr .str)] }
def layoutref48_Wrap_E14 : List (Ex × Shape) := [(.exit 2, { env := [(8, .av (.own 8)), (9, .av (.val .str))], objs := [(8, .arr .str)] })]
def layoutref48_Wrap_B14 (x : ((List ByteArray) × ((List ByteArray) × (Int × (ByteArray × (Int × Unit)))))) : Option (((List ByteArray) × ((List ByteArray) × (Int × (ByteArray × (Int × Unit))))) ⊕ (((List ByteArray) × (ByteArray × Unit)) ⊕ Empty)) :=
  cond (ltI x.2.2.2.2.1 (x.1.length : Nat)) ((catS x.2.2.2.1 (ByteArray.mk #[32])).bind fun y1 => (idxI x.1.length x.2.2.2.2.1).bind fun j2 => (x.1[j2]?).bind fun y3 => (catS y1 y3).bind fun y4 => (layoutref48_Width (y4, ())).bind fun r5 => cond (gtI r5.1 x.2.2.1) ((app x.2.1 [x.2.2.2.1]).bind fun a6 => (idxI x.1.length x.2.2.2.2.1).bind fun j7 => (x.1[j7]?).bind fun y8 => some (.inl (x.1, (a6, (x.2.2.1, (y8, ((addI .i64 x.2.2.2.2.1 1), ()))))))) (some (.inl (x.1, (x.2.1, (x.2.2.1, (y4, ((addI .i64 x.2.2.2.2.1 1), ())))))))) (some (.inr (.inl (x.2.1, (x.2.2.2.1, ())))))
def layoutref48_Wrap_L14 : ((List ByteArray) × ((List ByteArray) × (Int × (ByteArray × (Int × Unit))))) → Option (((List ByteArray) × (ByteArray × Unit)) ⊕ Empty) := loopFix layoutref48_Wrap_B14
def layoutref48_Wrap_A14 : Ann := { head := layoutref48_Wrap_H14, exits := layoutref48_Wrap_E14, fn := layoutref48_Wrap_L14 }
def layoutref48_Wrap_H7 : Shape := { env := [(1, .av (.val I)), (6, .av (.own 6)), (7, .av (.val I))], objs := [(6, .arr .str)] }
def layoutref48_Wrap_E7 : List (Ex × Shape) := [(.ret, { env := [(4, .av (.nils)), (5, .av (.val I))], objs := [] }), (.exit 0, { env := [(1, .av (.val I)), (6, .av (.own 6))], objs := [(6, .arr .str)] })]
def layoutref48_Wrap_B7 (x : ((List ByteArray) × (Int × (Int × Unit)))) : Option (((List ByteArray) × (Int × (Int × Unit))) ⊕ ((Int × Unit) ⊕ (((List ByteArray) × (Int × Unit)) ⊕ Empty))) :=
  cond (ltI x.2.2.1 (x.1.length : Nat)) ((idxI x.1.length x.2.2.1).bind fun j1 => (x.1[j1]?).bind fun y2 => cond (eqS y2 (ByteArray.mk #[])) (some (.inr (.inl (4, ())))) (some (.inl (x.1, (x.2.1, ((addI .i64 x.2.2.1 1), ())))))) (some (.inr (.inr (.inl (x.1, (x.2.1, ()))))))
def layoutref48_Wrap_L7 : ((List ByteArray) × (Int × (Int × Unit))) → Option ((Int × Unit) ⊕ (((List ByteArray) × (Int × Unit)) ⊕ Empty)) := loopFix layoutref48_Wrap_B7
def layoutref48_Wrap_A7 : Ann := { head := layoutref48_Wrap_H7, exits := layoutref48_Wrap_E7, fn := layoutref48_Wrap_L7 }
def layoutref48_Wrap_As : Anns := [(7, layoutref48_Wrap_A7), (14, layoutref48_Wrap_A14)]
def layoutref48_Wrap (x : (ByteArray × (Int × Unit))) : Option ((List ByteArray) × (Int × Unit)) :=
  (layoutref48_Plain (x.1, ())).bind fun r1 => cond (!r1.1) (some ([], (1, ()))) (cond (ltI x.2.1 600) (some ([], (1, ()))) (cond (eqS x.1 (ByteArray.mk #[])) (some ([], (0, ()))) ((layoutref48_Words (x.1, ())).bind fun r2 => (layoutref48_Wrap_L7 (r2.1, (x.2.1, (0, ())))).bind (Sum.elim (fun z4 => some ([], (z4.1, ()))) (Sum.elim (fun z5 => (idxI z5.1.length 0).bind fun j6 => (z5.1[j6]?).bind fun y7 => (layoutref48_Wrap_L14 (z5.1, ([], (z5.2.1, (y7, (1, ())))))).bind (Sum.elim (fun z9 => (app z9.1 [z9.2.1]).bind fun a10 => some (a10, (0, ()))) (fun _ => none))) (fun _ => none))))))
def layoutref48_Wrap_c : Con := { ins := [(.rd, .str), (.rd, I)], outs := [(true, (.slice .str)), (true, I)], fn := layoutref48_Wrap }
def layoutref48_Wrap_C : Ctx := { tab := tab, con := fun | 10, _ => some layoutref48_Plain_c | 12, _ => some layoutref48_Width_c | 16, _ => some layoutref48_Words_c | _, _ => none, glob := glob, eqs := eqs }
theorem layoutref48_Wrap_R14 (x : layoutref48_Wrap_H14.ty.den) : round layoutref48_Wrap_C layoutref48_Wrap_As layoutref48_Wrap_A14 (loopBody 14 (bodyOf Tryd.f14)) x = layoutref48_Wrap_B14 x := by kernel_rfl
theorem layoutref48_Wrap_R7 (x : layoutref48_Wrap_H7.ty.den) : round layoutref48_Wrap_C layoutref48_Wrap_As layoutref48_Wrap_A7 (loopBody 7 (bodyOf Tryd.f14)) x = layoutref48_Wrap_B7 x := by kernel_rfl
theorem layoutref48_Wrap_eq (x : (tupTy [.str, I]).den) : callFn layoutref48_Wrap_C layoutref48_Wrap_As (bodyOf Tryd.f14) [(.rd, .str), (.rd, I)] [(.tmp 4, true, (.slice .str)), (.tmp 5, true, I)] x = layoutref48_Wrap x := by kernel_rfl

/-! layout/layoutlaw48.TextBreaks -/
def layoutlaw48_TextBreaks_As : Anns := []
def layoutlaw48_TextBreaks (x : (ByteArray × (Int × Unit))) : Option (Bool × Unit) :=
  cond (gtI (x.1.size : Nat) 2000) ((layoutlaw48_awake ()).bind fun r1 => some (r1.1, ())) ((text_Wrap (x.1, (x.2.1, ()))).bind fun r2 => (layoutref48_Wrap (x.1, (x.2.1, ()))).bind fun r3 => (layoutref48_Same (r2.1, (r3.1, ()))).bind fun r4 => cond r4.1 (cond (eqI r2.2.1 r3.2.1) ((layoutlaw48_awake ()).bind fun r5 => some (r5.1, ())) (some (false, ()))) (some (false, ())))
def layoutlaw48_TextBreaks_c : Con := { ins := [(.rd, .str), (.rd, I)], outs := [(true, .bool)], fn := layoutlaw48_TextBreaks }
def layoutlaw48_TextBreaks_C : Ctx := { tab := tab, con := fun | 8, _ => some layoutlaw48_awake_c | 13, _ => some text_Wrap_c | 14, _ => some layoutref48_Wrap_c | 15, _ => some layoutref48_Same_c | _, _ => none, glob := glob, eqs := eqs }
theorem layoutlaw48_TextBreaks_eq (x : (tupTy [.str, I]).den) : callFn layoutlaw48_TextBreaks_C layoutlaw48_TextBreaks_As (bodyOf Tryd.f4) [(.rd, .str), (.rd, I)] [(.tmp 4, true, .bool)] x = layoutlaw48_TextBreaks x := by kernel_rfl

/-! layout/layoutref48.Join -/
def layoutref48_Join_H3 : Shape := { env := [(0, .av (.val (.slice .str))), (3, .av (.val .str)), (4, .av (.val I))], objs := [] }
def layoutref48_Join_E3 : List (Ex × Shape) := [(.exit 0, { env := [(3, .av (.val .str))], objs := [] })]
def layoutref48_Join_B3 (x : ((List ByteArray) × (ByteArray × (Int × Unit)))) : Option (((List ByteArray) × (ByteArray × (Int × Unit))) ⊕ ((ByteArray × Unit) ⊕ Empty)) :=
  cond (ltI x.2.2.1 (x.1.length : Nat)) (cond (gtI x.2.2.1 0) ((catS x.2.1 (ByteArray.mk #[32])).bind fun y1 => (getI x.1 x.2.2.1).bind fun y2 => (catS y1 y2).bind fun y3 => some (.inl (x.1, (y3, ((addI .i64 x.2.2.1 1), ()))))) ((getI x.1 x.2.2.1).bind fun y4 => (catS x.2.1 y4).bind fun y5 => some (.inl (x.1, (y5, ((addI .i64 x.2.2.1 1), ())))))) (some (.inr (.inl (x.2.1, ()))))
def layoutref48_Join_L3 : ((List ByteArray) × (ByteArray × (Int × Unit))) → Option ((ByteArray × Unit) ⊕ Empty) := loopFix layoutref48_Join_B3
def layoutref48_Join_A3 : Ann := { head := layoutref48_Join_H3, exits := layoutref48_Join_E3, fn := layoutref48_Join_L3 }
def layoutref48_Join_As : Anns := [(3, layoutref48_Join_A3)]
def layoutref48_Join (x : ((List ByteArray) × Unit)) : Option (ByteArray × Unit) :=
  (layoutref48_Join_L3 (x.1, ((ByteArray.mk #[]), (0, ())))).bind (Sum.elim (fun z2 => some (z2.1, ())) (fun _ => none))
def layoutref48_Join_c : Con := { ins := [(.rd, (.slice .str))], outs := [(true, .str)], fn := layoutref48_Join }
def layoutref48_Join_C : Ctx := { tab := tab, con := fun _ _ => none, glob := glob, eqs := eqs }
theorem layoutref48_Join_R3 (x : layoutref48_Join_H3.ty.den) : round layoutref48_Join_C layoutref48_Join_As layoutref48_Join_A3 (loopBody 3 (bodyOf Tryd.f17)) x = layoutref48_Join_B3 x := by kernel_rfl
theorem layoutref48_Join_eq (x : (tupTy [(.slice .str)]).den) : callFn layoutref48_Join_C layoutref48_Join_As (bodyOf Tryd.f17) [(.rd, (.slice .str))] [(.tmp 2, true, .str)] x = layoutref48_Join x := by kernel_rfl

/-! layout/layoutlaw48.TextWraps -/
def layoutlaw48_TextWraps_H7 : Shape := { env := [(0, .av (.val .str)), (1, .av (.val I)), (5, .av (.val (.slice .str))), (7, .av (.val I))], objs := [] }
def layoutlaw48_TextWraps_E7 : List (Ex × Shape) := [(.ret, { env := [(4, .av (.val .bool))], objs := [] }), (.exit 0, { env := [(0, .av (.val .str)), (5, .av (.val (.slice .str)))], objs := [] })]
def layoutlaw48_TextWraps_B7 (x : (ByteArray × (Int × ((List ByteArray) × (Int × Unit))))) : Option ((ByteArray × (Int × ((List ByteArray) × (Int × Unit)))) ⊕ ((Bool × Unit) ⊕ ((ByteArray × ((List ByteArray) × Unit)) ⊕ Empty))) :=
  cond (ltI x.2.2.2.1 (x.2.2.1.length : Nat)) ((getI x.2.2.1 x.2.2.2.1).bind fun y1 => (layoutref48_Words (y1, ())).bind fun r2 => (getI x.2.2.1 x.2.2.2.1).bind fun y3 => (layoutref48_Width (y3, ())).bind fun r4 => cond (gtI r4.1 x.2.1) (cond (gtI (r2.1.length : Nat) 1) (some (.inr (.inl (false, ())))) ((getI x.2.2.1 x.2.2.2.1).bind fun y5 => cond (eqS y5 (ByteArray.mk #[])) (some (.inr (.inl (false, ())))) (cond (ltI (addI .i64 x.2.2.2.1 1) (x.2.2.1.length : Nat)) ((getI x.2.2.1 x.2.2.2.1).bind fun y6 => (catS y6 (ByteArray.mk #[32])).bind fun y7 => (getI x.2.2.1 (addI .i64 x.2.2.2.1 1)).bind fun y8 => (layoutref48_Words (y8, ())).bind fun r9 => (idxI r9.1.length 0).bind fun j10 => (r9.1[j10]?).bind fun y11 => (catS y7 y11).bind fun y12 => (layoutref48_Width (y12, ())).bind fun r13 => cond (leI r13.1 x.2.1) (some (.inr (.inl (false, ())))) (some (.inl (x.1, (x.2.1, (x.2.2.1, ((addI .i64 x.2.2.2.1 1), ()))))))) (some (.inl (x.1, (x.2.1, (x.2.2.1, ((addI .i64 x.2.2.2.1 1), ()))))))))) ((getI x.2.2.1 x.2.2.2.1).bind fun y14 => cond (eqS y14 (ByteArray.mk #[])) (some (.inr (.inl (false, ())))) (cond (ltI (addI .i64 x.2.2.2.1 1) (x.2.2.1.length : Nat)) ((getI x.2.2.1 x.2.2.2.1).bind fun y15 => (catS y15 (ByteArray.mk #[32])).bind fun y16 => (getI x.2.2.1 (addI .i64 x.2.2.2.1 1)).bind fun y17 => (layoutref48_Words (y17, ())).bind fun r18 => (idxI r18.1.length 0).bind fun j19 => (r18.1[j19]?).bind fun y20 => (catS y16 y20).bind fun y21 => (layoutref48_Width (y21, ())).bind fun r22 => cond (leI r22.1 x.2.1) (some (.inr (.inl (false, ())))) (some (.inl (x.1, (x.2.1, (x.2.2.1, ((addI .i64 x.2.2.2.1 1), ()))))))) (some (.inl (x.1, (x.2.1, (x.2.2.1, ((addI .i64 x.2.2.2.1 1), ()))))))))) (some (.inr (.inr (.inl (x.1, (x.2.2.1, ()))))))
def layoutlaw48_TextWraps_L7 : (ByteArray × (Int × ((List ByteArray) × (Int × Unit)))) → Option ((Bool × Unit) ⊕ ((ByteArray × ((List ByteArray) × Unit)) ⊕ Empty)) := loopFix layoutlaw48_TextWraps_B7
def layoutlaw48_TextWraps_A7 : Ann := { head := layoutlaw48_TextWraps_H7, exits := layoutlaw48_TextWraps_E7, fn := layoutlaw48_TextWraps_L7 }
def layoutlaw48_TextWraps_As : Anns := [(7, layoutlaw48_TextWraps_A7)]
def layoutlaw48_TextWraps (x : (ByteArray × (Int × Unit))) : Option (Bool × Unit) :=
  cond (gtI (x.1.size : Nat) 2000) ((layoutlaw48_awake ()).bind fun r1 => some (r1.1, ())) ((text_Wrap (x.1, (x.2.1, ()))).bind fun r2 => cond (neI r2.2.1 0) (cond (eqI (r2.1.length : Nat) 0) (cond (eqI r2.2.1 1) ((layoutlaw48_awake ()).bind fun r3 => some (r3.1, ())) (cond (eqI r2.2.1 4) ((layoutlaw48_awake ()).bind fun r4 => some (r4.1, ())) (some (false, ())))) (some (false, ()))) ((layoutlaw48_TextWraps_L7 (x.1, (x.2.1, (r2.1, (0, ()))))).bind (Sum.elim (fun z6 => some (z6.1, ())) (Sum.elim (fun z7 => (layoutref48_Join (z7.2.1, ())).bind fun r8 => cond (eqS r8.1 z7.1) ((layoutlaw48_awake ()).bind fun r9 => some (r9.1, ())) (some (false, ()))) (fun _ => none)))))
def layoutlaw48_TextWraps_c : Con := { ins := [(.rd, .str), (.rd, I)], outs := [(true, .bool)], fn := layoutlaw48_TextWraps }
def layoutlaw48_TextWraps_C : Ctx := { tab := tab, con := fun | 8, _ => some layoutlaw48_awake_c | 12, _ => some layoutref48_Width_c | 13, _ => some text_Wrap_c | 16, _ => some layoutref48_Words_c | 17, _ => some layoutref48_Join_c | _, _ => none, glob := glob, eqs := eqs }
theorem layoutlaw48_TextWraps_R7 (x : layoutlaw48_TextWraps_H7.ty.den) : round layoutlaw48_TextWraps_C layoutlaw48_TextWraps_As layoutlaw48_TextWraps_A7 (loopBody 7 (bodyOf Tryd.f5)) x = layoutlaw48_TextWraps_B7 x := by kernel_rfl
theorem layoutlaw48_TextWraps_eq (x : (tupTy [.str, I]).den) : callFn layoutlaw48_TextWraps_C layoutlaw48_TextWraps_As (bodyOf Tryd.f5) [(.rd, .str), (.rd, I)] [(.tmp 4, true, .bool)] x = layoutlaw48_TextWraps x := by kernel_rfl

/-! layout/layoutlaw48.TextNarrows -/
def layoutlaw48_TextNarrows_As : Anns := []
def layoutlaw48_TextNarrows (x : (ByteArray × ((List Int) × Unit))) : Option (Bool × Unit) :=
  match x.2.1 with
  | p1_0 :: p1_1 :: _ => cond (gtI (x.1.size : Nat) 2000) ((layoutlaw48_awake ()).bind fun r1 => some (r1.1, ())) (cond (ltI (minI p1_0 p1_1) 600) ((layoutlaw48_awake ()).bind fun r2 => some (r2.1, ())) (cond (gtI (maxI p1_0 p1_1) 2000000) ((layoutlaw48_awake ()).bind fun r3 => some (r3.1, ())) ((text_Wrap (x.1, ((minI p1_0 p1_1), ()))).bind fun r4 => (text_Wrap (x.1, ((maxI p1_0 p1_1), ()))).bind fun r5 => cond (neI r4.2.1 r5.2.1) (some (false, ())) (cond (gtI (r5.1.length : Nat) (r4.1.length : Nat)) (some (false, ())) (cond (neI r4.2.1 0) ((layoutlaw48_awake ()).bind fun r6 => some (r6.1, ())) (cond (eqS x.1 (ByteArray.mk #[])) ((layoutlaw48_awake ()).bind fun r7 => some (r7.1, ())) ((text_Wrap (x.1, ((mulI .i64 600 (x.1.size : Nat)), ()))).bind fun r8 => cond (eqI r8.2.1 0) ((layoutref48_Same (r8.1, ([x.1], ()))).bind fun r9 => cond r9.1 ((layoutlaw48_awake ()).bind fun r10 => some (r10.1, ())) (some (false, ()))) (some (false, ())))))))))
  | _ => none
def layoutlaw48_TextNarrows_c : Con := { ins := [(.rd, .str), (.rd, (.arr 2 I))], outs := [(true, .bool)], fn := layoutlaw48_TextNarrows }
def layoutlaw48_TextNarrows_C : Ctx := { tab := tab, con := fun | 8, _ => some layoutlaw48_awake_c | 13, _ => some text_Wrap_c | 15, _ => some layoutref48_Same_c | _, _ => none, glob := glob, eqs := eqs }
theorem layoutlaw48_TextNarrows_eq (x : (tupTy [.str, (.arr 2 I)]).den) : callFn layoutlaw48_TextNarrows_C layoutlaw48_TextNarrows_As (bodyOf Tryd.f6) [(.rd, .str), (.rd, (.arr 2 I))] [(.tmp 4, true, .bool)] x = layoutlaw48_TextNarrows x := by 
  obtain ⟨a0, a1, u⟩ := x
  cases u
  rcases a1 with _ | ⟨b1, _ | ⟨b2, _⟩⟩
  all_goals kernel_rfl

/-! layout/text.Size -/
def text_Size_H3 : Shape := { env := [(2, .av (.ptr 2 0)), (3, .av (.ptr 3 0)), (10, .av (.val (.slice .str))), (11, .av (.val I)), (12, .av (.val I))], objs := [(2, .box [.val I, .val I]), (3, .box [.val I, .val I])] }
def text_Size_E3 : List (Ex × Shape) := [(.exit 0, { env := [(2, .av (.ptr 2 0)), (3, .av (.ptr 3 0))], objs := [(2, .box [.val I, .val I]), (3, .box [.val I, .val I])] })]
def text_Size_B3 (x : (Int × (Int × (Int × (Int × ((List ByteArray) × (Int × (Int × Unit)))))))) : Option ((Int × (Int × (Int × (Int × ((List ByteArray) × (Int × (Int × Unit))))))) ⊕ ((Int × (Int × (Int × (Int × Unit)))) ⊕ Empty)) :=
  cond (ltI x.2.2.2.2.2.2.1 x.2.2.2.2.2.1) ((getI x.2.2.2.2.1 x.2.2.2.2.2.2.1).bind fun y1 => (text_Width (y1, ())).bind fun r2 => some (.inl (x.1, (x.2.1, ((maxI x.2.2.1 r2.1), (x.2.2.2.1, (x.2.2.2.2.1, (x.2.2.2.2.2.1, ((addI .i64 x.2.2.2.2.2.2.1 1), ()))))))))) (some (.inr (.inl (x.1, (x.2.1, (x.2.2.1, (x.2.2.2.1, ())))))))
def text_Size_L3 : (Int × (Int × (Int × (Int × ((List ByteArray) × (Int × (Int × Unit))))))) → Option ((Int × (Int × (Int × (Int × Unit)))) ⊕ Empty) := loopFix text_Size_B3
def text_Size_A3 : Ann := { head := text_Size_H3, exits := text_Size_E3, fn := text_Size_L3 }
def text_Size_As : Anns := [(3, text_Size_A3)]
def text_Size (x : ((List ByteArray) × Unit)) : Option ((Int × (Int × Unit)) × Unit) :=
  (text_Size_L3 (0, (0, (0, ((mulI .i64 1000 (x.1.length : Nat)), (x.1, ((x.1.length : Nat), (0, ())))))))).bind (Sum.elim (fun z2 => some ((z2.2.2.1, (z2.2.2.2.1, ())), ())) (fun _ => none))
def text_Size_c : Con := { ins := [(.rd, (.slice .str))], outs := [(true, (.prod I (.prod I .unit)))], fn := text_Size }
def text_Size_C : Ctx := { tab := tab, con := fun | 11, _ => some text_Width_c | _, _ => none, glob := glob, eqs := eqs }
theorem text_Size_R3 (x : text_Size_H3.ty.den) : round text_Size_C text_Size_As text_Size_A3 (loopBody 3 (bodyOf Tryd.f18)) x = text_Size_B3 x := by kernel_rfl
theorem text_Size_eq (x : (tupTy [(.slice .str)]).den) : callFn text_Size_C text_Size_As (bodyOf Tryd.f18) [(.rd, (.slice .str))] [(.cell 2 36, true, (.prod I (.prod I .unit)))] x = text_Size x := by kernel_rfl

/-! layout/layoutref48.Size -/
def layoutref48_Size_H3 : Shape := { env := [(0, .av (.val (.slice .str))), (2, .av (.ptr 2 0)), (3, .av (.ptr 3 0)), (4, .av (.val I))], objs := [(2, .box [.val I, .val I]), (3, .box [.val I, .val I])] }
def layoutref48_Size_E3 : List (Ex × Shape) := [(.exit 0, { env := [(2, .av (.ptr 2 0)), (3, .av (.ptr 3 0))], objs := [(2, .box [.val I, .val I]), (3, .box [.val I, .val I])] })]
def layoutref48_Size_B3 (x : (Int × (Int × (Int × (Int × ((List ByteArray) × (Int × Unit))))))) : Option ((Int × (Int × (Int × (Int × ((List ByteArray) × (Int × Unit)))))) ⊕ ((Int × (Int × (Int × (Int × Unit)))) ⊕ Empty)) :=
  cond (ltI x.2.2.2.2.2.1 (x.2.2.2.2.1.length : Nat)) ((getI x.2.2.2.2.1 x.2.2.2.2.2.1).bind fun y1 => (layoutref48_Width (y1, ())).bind fun r2 => some (.inl (x.1, (x.2.1, ((maxI x.2.2.1 r2.1), ((addI .i64 x.2.2.2.1 1000), (x.2.2.2.2.1, ((addI .i64 x.2.2.2.2.2.1 1), ())))))))) (some (.inr (.inl (x.1, (x.2.1, (x.2.2.1, (x.2.2.2.1, ())))))))
def layoutref48_Size_L3 : (Int × (Int × (Int × (Int × ((List ByteArray) × (Int × Unit)))))) → Option ((Int × (Int × (Int × (Int × Unit)))) ⊕ Empty) := loopFix layoutref48_Size_B3
def layoutref48_Size_A3 : Ann := { head := layoutref48_Size_H3, exits := layoutref48_Size_E3, fn := layoutref48_Size_L3 }
def layoutref48_Size_As : Anns := [(3, layoutref48_Size_A3)]
def layoutref48_Size (x : ((List ByteArray) × Unit)) : Option ((Int × (Int × Unit)) × Unit) :=
  (layoutref48_Size_L3 (0, (0, (0, (0, (x.1, (0, ()))))))).bind (Sum.elim (fun z2 => some ((z2.2.2.1, (z2.2.2.2.1, ())), ())) (fun _ => none))
def layoutref48_Size_c : Con := { ins := [(.rd, (.slice .str))], outs := [(true, (.prod I (.prod I .unit)))], fn := layoutref48_Size }
def layoutref48_Size_C : Ctx := { tab := tab, con := fun | 12, _ => some layoutref48_Width_c | _, _ => none, glob := glob, eqs := eqs }
theorem layoutref48_Size_R3 (x : layoutref48_Size_H3.ty.den) : round layoutref48_Size_C layoutref48_Size_As layoutref48_Size_A3 (loopBody 3 (bodyOf Tryd.f19)) x = layoutref48_Size_B3 x := by kernel_rfl
theorem layoutref48_Size_eq (x : (tupTy [(.slice .str)]).den) : callFn layoutref48_Size_C layoutref48_Size_As (bodyOf Tryd.f19) [(.rd, (.slice .str))] [(.cell 2 36, true, (.prod I (.prod I .unit)))] x = layoutref48_Size x := by kernel_rfl

/-! layout/layoutlaw48.TextSizes -/
def layoutlaw48_TextSizes_H4 : Shape := { env := [(0, .av (.val (.slice .str))), (3, .av (.val I))], objs := [] }
def layoutlaw48_TextSizes_E4 : List (Ex × Shape) := [(.ret, { env := [(2, .av (.val .bool))], objs := [] }), (.exit 0, { env := [(0, .av (.val (.slice .str)))], objs := [] })]
def layoutlaw48_TextSizes_B4 (x : ((List ByteArray) × (Int × Unit))) : Option (((List ByteArray) × (Int × Unit)) ⊕ ((Bool × Unit) ⊕ (((List ByteArray) × Unit) ⊕ Empty))) :=
  cond (ltI x.2.1 (x.1.length : Nat)) ((getI x.1 x.2.1).bind fun y1 => cond (gtI (y1.size : Nat) 1000) ((layoutlaw48_awake ()).bind fun r2 => some (.inr (.inl (r2.1, ())))) (some (.inl (x.1, ((addI .i64 x.2.1 1), ()))))) (some (.inr (.inr (.inl (x.1, ())))))
def layoutlaw48_TextSizes_L4 : ((List ByteArray) × (Int × Unit)) → Option ((Bool × Unit) ⊕ (((List ByteArray) × Unit) ⊕ Empty)) := loopFix layoutlaw48_TextSizes_B4
def layoutlaw48_TextSizes_A4 : Ann := { head := layoutlaw48_TextSizes_H4, exits := layoutlaw48_TextSizes_E4, fn := layoutlaw48_TextSizes_L4 }
def layoutlaw48_TextSizes_As : Anns := [(4, layoutlaw48_TextSizes_A4)]
def layoutlaw48_TextSizes (x : ((List ByteArray) × Unit)) : Option (Bool × Unit) :=
  cond (gtI (x.1.length : Nat) 100) ((layoutlaw48_awake ()).bind fun r1 => some (r1.1, ())) ((layoutlaw48_TextSizes_L4 (x.1, (0, ()))).bind (Sum.elim (fun z3 => some (z3.1, ())) (Sum.elim (fun z4 => (text_Size (z4.1, ())).bind fun r5 => (layoutref48_Size (z4.1, ())).bind fun r6 => cond ((eqI r5.1.1 r6.1.1) && ((eqI r5.1.2.1 r6.1.2.1) && true)) ((layoutlaw48_awake ()).bind fun r7 => some (r7.1, ())) (some (false, ()))) (fun _ => none))))
def layoutlaw48_TextSizes_c : Con := { ins := [(.rd, (.slice .str))], outs := [(true, .bool)], fn := layoutlaw48_TextSizes }
def layoutlaw48_TextSizes_C : Ctx := { tab := tab, con := fun | 8, _ => some layoutlaw48_awake_c | 18, _ => some text_Size_c | 19, _ => some layoutref48_Size_c | _, _ => none, glob := glob, eqs := eqs }
theorem layoutlaw48_TextSizes_R4 (x : layoutlaw48_TextSizes_H4.ty.den) : round layoutlaw48_TextSizes_C layoutlaw48_TextSizes_As layoutlaw48_TextSizes_A4 (loopBody 4 (bodyOf Tryd.f7)) x = layoutlaw48_TextSizes_B4 x := by kernel_rfl
theorem layoutlaw48_TextSizes_eq (x : (tupTy [(.slice .str)]).den) : callFn layoutlaw48_TextSizes_C layoutlaw48_TextSizes_As (bodyOf Tryd.f7) [(.rd, (.slice .str))] [(.tmp 2, true, .bool)] x = layoutlaw48_TextSizes x := by kernel_rfl
end
end Go.Vm

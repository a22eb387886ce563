/-
  text.Wrap, walked on the machine: its loop writes the first word in its place until a line is full, and a list of its own from then on. strings.Split at its number.
-/
import Derived.Test.YtjhmefkkaenoaaaDoorVmLoop2
import Derived.Test.YtjhmefkkaenoaaaDoorVmSplit
import Derived.Test.YtjhmefkkaenoaaaDoorD48
import Derived.Test.YtjhmefkkaenoaaaDoorShelf48
set_option linter.unusedVariables false
set_option linter.unusedSimpArgs false
namespace Go.Vm
open Go.Proofs
noncomputable section
set_option maxRecDepth 100000

theorem split_at : Con.Holds Tryd.prog glob 22 splitC :=
  split_holds Tryd.lays146 (by kernel_rfl) (fun args w => L22 args w) glob
where
  L22 (args : Array Value) (w : World) : (callFunc (Tryd.lays146_ren.f 146) args).run Tryd.prog w = .ok (.enter (Tryd.lays146_ren.f 146) args) w :=
    enters_of Tryd.lays146.f146 (by kernel_rfl) rfl args w

def wrapCtx : Ctx := { tab := tab, con := fun | 9, _ => some text_Plain_c | 11, _ => some text_Width_c | 22, _ => some strings_Split_c | 23, _ => some slices_Contains_string_c | _, _ => none, glob := glob, eqs := eqs }

/-- The loop from its beginning, on the machine. -/
def wrapL : Loops := fun key _ s K => cond (Nat.beq key 10) (match s.env.get 7, s.env.get 28, s.env.get 29, s.env.get 30, s.env.get 1 with
  | .av (.cut id off len), .av (.view id' off' n), .av (.val (.int .i64) n'), .av (.val (.int .i64) k), .av (.val (.int .i64) width) =>
    match s.G.get id with
    | some (.arr .str l) => cond (Nat.beq id 22 && Nat.beq id' 22 && eqI k 0)
        (cond (Nat.beq off 0 && Nat.beq len 1 && Nat.beq off' 1 && Nat.beq (n + 1) l.length && eqI n' (n : Nat) && Nat.ble l.length lim) ((wrapF width (l.drop 1) (l.take 1)).bind fun out => K (.exit 0) { env := [(7, .av (.val (.slice .str) out))], G := [] }) none) none
    | _ => none
  | _, _, _, _, _ => none) none

theorem wrap_exec (x : (tupTy [.str, I]).den) : exec wrapCtx wrapL (bodyOf Tryd.f13) (fun e s => match e with
      | .exit _ => none
      | .normal => endFn [(.rd, .str), (.rd, I)] [(.tmp 4, false, (.slice .str)), (.tmp 5, true, I)] s
      | .ret => endFn [(.rd, .str), (.rd, I)] [(.tmp 4, false, (.slice .str)), (.tmp 5, true, I)] s) { env := argEnv [(.rd, .str), (.rd, I)] 0 x, G := argHeap [(.rd, .str), (.rd, I)] 0 x } = wrapM x := by kernel_rfl

/-! ### The rounds with a list of its own -/

abbrev wrapBody : Code := loopBody 10 (bodyOf Tryd.f13)
def wrapHB : Shape := { env := [(1, .av (.val I)), (7, .av (.own 55)), (28, .av (.val (.slice .str))), (29, .av (.val I)), (30, .av (.val I))], objs := [(55, .arr .str)] }
def wrapEB : List (Ex × Shape) := [(.exit 0, { env := [(7, .av (.val (.slice .str)))], objs := [] })]
def wrapBB (x : ((List ByteArray) × (Int × ((List ByteArray) × (Int × (Int × Unit)))))) : Option (((List ByteArray) × (Int × ((List ByteArray) × (Int × (Int × Unit))))) ⊕ (((List ByteArray) × Unit) ⊕ Empty)) :=
  cond (ltI x.2.2.2.2.1 x.2.2.2.1) ((getI x.2.2.1 x.2.2.2.2.1).bind fun w => (idxI x.1.length (subI .i64 (x.1.length : Nat) 1)).bind fun j => (x.1[j]?).bind fun y => (catS y (ByteArray.mk #[32])).bind fun t => (catS t w).bind fun jn =>
    (text_Width (jn, ())).bind fun r => cond (leI r.1 x.2.1) ((x.1[j]?).bind fun _ => some (.inl (x.1.set j jn, x.2.1, x.2.2.1, x.2.2.2.1, addI .i64 x.2.2.2.2.1 1, ())))
      ((app x.1 [w]).bind fun o => some (.inl (o, x.2.1, x.2.2.1, x.2.2.2.1, addI .i64 x.2.2.2.2.1 1, ())))) (some (.inr (.inl (x.1, ()))))
def wrapAB : Ann := { head := wrapHB, exits := wrapEB, fn := loopFix wrapBB }
def wrapAs : Anns := [(10, wrapAB)]
theorem wrap_RB (x : wrapHB.ty.den) : round wrapCtx wrapAs wrapAB wrapBody x = wrapBB x := by kernel_rfl

/-! ### The rounds before -/

def stA (l : List ByteArray) (n : Nat) (n' k width : Int) : St := { env := [(1, .av (.val (.int .i64) width)), (7, .av (.cut 22 0 1)), (28, .av (.view 22 1 n)), (29, .av (.val (.int .i64) n')), (30, .av (.val (.int .i64) k))], G := [(22, .arr .str l)] }
abbrev OutA : Type := (List ByteArray × Nat × Int × Int × Int) ⊕ (wrapHB.ty.den ⊕ List ByteArray)
def postA (e : Ex) (s : St) : Option OutA := match e with
  | .normal => match s.env.get 7 with
    | .av (.cut 22 0 1) => match s.env.get 28, s.env.get 29, s.env.get 30, s.env.get 1, s.G.get 22 with
      | .av (.view 22 1 n), .av (.val (.int .i64) n'), .av (.val (.int .i64) k), .av (.val (.int .i64) width), some (.arr .str l) => some (.inl (l, n, n', k, width))
      | _, _, _, _, _ => none
    | .av (.own _) => (wrapHB.ext s).bind fun y => some (.inr (.inl y))
    | _ => none
  | .exit 0 => match s.env.get 7, s.G.get 22 with
    | .av (.cut 22 0 1), some (.arr .str l) => some (.inr (.inr (l.take 1)))
    | _, _ => none
  | _ => none
def wrapBA (l : List ByteArray) (n : Nat) (n' k width : Int) : Option OutA :=
  cond (ltI k n') ((idxI n k).bind fun j => (l[1 + j]?).bind fun w => (l[0]?).bind fun x => (catS x (ByteArray.mk #[32])).bind fun t => (catS t w).bind fun jn =>
    (text_Width (jn, ())).bind fun r => cond (leI r.1 width) ((l[0]?).bind fun _ => some (.inl (l.set 0 jn, n, n', addI .i64 k 1, width)))
      ((app (l.take 1) [w]).bind fun o => some (.inr (.inl (o, width, (l.drop 1).take n, n', addI .i64 k 1, ()))))) (some (.inr (.inr (l.take 1))))
theorem wrap_RA (l : List ByteArray) (n : Nat) (n' k width : Int) : exec wrapCtx (loopsOf wrapAs) wrapBody postA (stA l n n' k width) = wrapBA l n n' k width := by kernel_rfl

end
end Go.Vm

/-
 The law CompactDirections on values.
-/
import Derived.Test.YtpgfkljmcacegaaDoorN42E
set_option linter.unusedVariables false
set_option linter.unusedSimpArgs false
namespace Go.Vm
open Go.Proofs
set_option maxRecDepth 100000
theorem awake42_true : Zaj ()=some (true,()):=by kernel_rfl
attribute [local irreducible] loopFix
theorem directions_both (N0 : Int) (E : List Arc) (A : List (List Int)) (g : List Int) (B : List ByteArray) (o : Int) (hA : ∀ l∈A,l.length≤9223372036854775807) :
  ∃ b,Zax (((N0,E,A,()),g,B,o,()),())=some (b,())∧Zj (((N0,E,A,()),g,B,o,()),())=some (b,()) ∧
   (b=false→Zu (((N0,E,A,()),g,B,o,()),())=some ([],13,())∧Zf (((N0,E,A,()),g,B,o,()),())=some ([],13,())) ∧
   (b=true→∃ N : Nat,N0=(N : Int)∧∃ nx fw k,ShapeOK N E A g B o nx∧Fol id E A fw∧Dirs E.length (nxN fw) (gN g) k∧k 0=1∧(∀ k,k < 2 * E.length→(at0 B k).size=0) ∧
    Zay (((N0,E,A,()),g,B,o,()),())=some (dirL k E.length,()) ∧
    Zu (((N0,E,A,()),g,B,o,()),())=some (dirL k E.length,0,())∧Zf (((N0,E,A,()),g,B,o,()),())=some (dirL k E.length,0,())):=by
 obtain ⟨b,b1,b2,b3,_⟩:=straight_both N0 E A g B o hA
 have hp : Zu (((N0,E,A,()),g,B,o,()),())=(Zax (((N0,E,A,()),g,B,o,()),())).bind fun r1=>cond (!r1.1) (some ([],(13,()))) ((Zay (((N0,E,A,()),g,B,o,()),())).bind fun r2=>some (r2.1,(0,()))):=rfl
 refine ⟨b,b1,b2,fun hb=>?_,fun hb=>?_⟩
 ·subst hb
  refine ⟨by rw [hp,b1]; rfl,?_⟩
  unfold Zf
  simp only
  rw [b2]; rfl
 ·subst hb
  obtain ⟨N,rfl,nx,h,hbe⟩:=b3 rfl
  obtain ⟨fw,_,ff⟩:=rfollow_eq h.rot ()
  refine ⟨N,rfl,nx,fw,?_⟩
  by_cases hE : 0 < E.length
  ·obtain ⟨k,k1,k2⟩:=shape_dirs h ff hE hbe
   have d1:=directed_eq h ff hE hbe k1 k2
   exact ⟨k,h,ff,k1,k2,hbe,d1,by rw [hp,b1,Option.bind_some]; simp only [Bool.not_true,cond_false]; rw [d1]; rfl,rdirections_eq h ff hE hbe k1 k2 b2⟩
  ·have hE0 : E.length=0:=by omega
   have hEn : E=[]:=List.length_eq_zero_iff.1 hE0
   have hg : g=[]:=List.length_eq_zero_iff.1 (by have:=h.turn.glen; omega)
   have dk : Dirs E.length (nxN fw) (gN g) (fun _=>1):=⟨fun d hd=>by omega,fun d hd=>by omega,fun d hd=>by omega⟩
   have hL : dirL (fun _=>1) E.length=[]:=by rw [hE0]; rfl
   have d1 : Zay ((((N : Int),E,A,()),g,B,o,()),())=some (dirL (fun _=>1) E.length,()):=by rw [hL,hg]; exact directed_none _ _ _ _ _
   refine ⟨fun _=>1,h,ff,dk,rfl,hbe,d1,by rw [hp,b1,Option.bind_some]; simp only [Bool.not_true,cond_false]; rw [d1]; rfl,?_⟩
   obtain ⟨out,o1,o2,_,_⟩:=ref_rounds h dk ff (unset []) [] (Nat.le_refl _) ⟨by simp [hE0],fun d hd=>by omega⟩
   have ho : out=[]:=List.length_eq_zero_iff.1 (by rw [o2.len]; omega)
   subst ho
   have hf:=rfill_loop (N : Int) E A g B o 0 (by omega) 0 0 rfl
   unfold Zf
   simp only
   rw [b2,Option.bind_some]
   simp only [Bool.not_true,cond_false]
   have e2 : mulI .i64 2 (E.length : Nat)=((0 : Nat) : Int):=by rw [hE0]; rfl
   rw [e2,makeL_of (Nat.le_refl _) (by omega),Option.bind_some]
   rw [show Zf_L6 ((N : Int),E,A,g,B,o,List.replicate 0 (zeroVal I),((0 : Nat) : Int),0,())=_ from hf]
   simp only [Option.bind_some,Sum.elim_inl]
   rw [gtI_f (by omega),cond_false]
   rw [show Zf_L12 ((N : Int),E,A,g,B,o,List.replicate 0 (-1),true,())=_ from o1,hL]
   rfl
theorem dirL_len (k : Nat→Int) (M : Nat) : (dirL k M).length=2 * M:=by simp [dirL]
theorem wf_lists {N : Int} {E : List Arc} {A : List (List Int)} {u : Unit} (h : Wf (.prod I (.prod (.slice (.prod I (.prod I .unit))) (.prod (.slice (.slice I)) .unit))) (N,E,A,u)) : ∀ l∈A,l.length≤9223372036854775807:=by
 intro l hl
 have h1 : Wf (.slice (.slice (.int .i64))) A:=h.2.2.1
 exact (h1.2 l hl).1
end Go.Vm

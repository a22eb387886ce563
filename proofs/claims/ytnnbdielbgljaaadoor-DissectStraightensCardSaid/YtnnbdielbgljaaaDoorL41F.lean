/-
 The law DissectStraightens on values.
-/
import Derived.Test.YtnnbdielbgljaaaDoorL41E
set_option linter.unusedVariables false
set_option linter.unusedSimpArgs false
namespace Go.Vm
open Go.Proofs
set_option maxRecDepth 100000
attribute [local irreducible] loopFix
theorem law_inner (P : List (List Int)) (v : Nat) (l : List Int) (hv : P[v]?=some l) (hl : l.length≤1000000) : ∀ (q p : List Int),p++q=l→Zb_L13 (P,P,(v : Int),(p.length : Nat),())=some (.inr (.inl (P,P,(v : Int),())))
 | [],p,h=>by
  subst h
  have hvl:=(List.getElem?_eq_some_iff.1 hv).1
  refine loop_done ?_
  unfold Zb_B13
  simp only
  rw [idxI_of hvl,Option.bind_some,hv,Option.bind_some,ltI_f (by simp),cond_false]
 | d :: q,p,h=>by
  have hvl:=(List.getElem?_eq_some_iff.1 hv).1
  have hx : l[p.length]?=some d:=by rw [← h,List.getElem?_append_right (Nat.le_refl _),Nat.sub_self]; rfl
  have hp : p.length < l.length:=(List.getElem?_eq_some_iff.1 hx).1
  have ih:=law_inner P v l hv hl q (p++[d]) (by simpa using h)
  refine (loop_step (t:=(P,P,(v : Int),(((p++[d]).length : Nat) : Int),())) ?_).trans ih
  unfold Zb_B13
  simp only
  simp only [idxI_of hvl,Option.bind_some,hv,getI_of,hx]
  rw [ltI_t (by omega),cond_true,neI_f rfl,cond_false,add1 (by omega)]
  simp
theorem law_outer (P : List (List Int)) (hP : P.length≤1000000) (hl : ∀ l∈P,l.length≤1000000) : ∀ (Q R : List (List Int)),R++Q=P→Zb_L8 (P,P,(R.length : Nat),())=some (.inr (.inl ()))
 | [],R,h=>by
  subst h
  refine loop_done ?_
  unfold Zb_B8
  simp only
  rw [ltI_f (by simp),cond_false]
 | l :: Q,R,h=>by
  have hx : P[R.length]?=some l:=by rw [← h,List.getElem?_append_right (Nat.le_refl _),Nat.sub_self]; rfl
  have hp : R.length < P.length:=(List.getElem?_eq_some_iff.1 hx).1
  have ih:=law_outer P hP hl Q (R++[l]) (by simpa using h)
  refine (loop_step (t:=(P,P,(((R++[l]).length : Nat) : Int),())) ?_).trans ih
  unfold Zb_B8
  simp only
  simp only [idxI_of hp,Option.bind_some,hx]
  rw [ltI_t (by omega),cond_true,neI_f rfl,cond_false]
  rw [show Zb_L13 (P,P,((R.length : Nat) : Int),0,())=_ from law_inner P R.length l hx (hl l (List.mem_of_getElem? hx)) l [] rfl]
  simp only [Option.bind_some,Sum.elim_inr,Sum.elim_inl]
  rw [add1 (by omega)]
  simp
theorem frL_mem : ∀ {r m : Nat} {l : List Int},l∈frL m r→l.length=2
 | 0,_,_,h=>by cases h
 | r+1,m,l,h=>by
  rcases List.mem_cons.1 h with rfl | h
  ·rfl
  ·exact frL_mem h
theorem frR_mem {B : List ByteArray} : ∀ {Es : List Arc} {e m : Nat} {l : List Int},l∈frR B e Es m→l.length=2
 | [],_,_,_,h=>by cases h
 | a :: Es,e,m,l,h=>by
  rcases List.mem_append.1 h with h | h
  ·exact frL_mem h
  ·exact frR_mem h
theorem paR_mem {B : List ByteArray} {M : Nat} (hB : BendsOK B M) : ∀ {Es : List Arc} {e m : Nat} {l : List Int},e+Es.length≤M→l∈paR B e Es m→l.length≤65
 | [],_,_,_,_,h=>by cases h
 | a :: Es,e,m,l,he,h=>by
  simp only [List.length_cons] at he
  rcases List.mem_cons.1 h with rfl | h
  ·have:=(hB.at' e (by omega)).2.2
   simp [evL_len]; omega
  ·exact paR_mem hB (by omega) h
theorem str_same {N : Nat} {E : List Arc} {A : List (List Int)} {g : List Int} {B : List ByteArray} {o : Int} {nx : List Int} (h : ShapeOK N E A g B o nx) (hE : E.length≤10000) (hA : A.length≤10000) : Zam (strS N E A g B o,strS N E A g B o,())=some (true,()):=by
 have hB:=bends_ok h
 have hEl : (EdR B 0 E N).length=mR B 0 E 0:=by have:=EdR_len (B:=B) (Es:=E) (e:=0) (n:=N) (m:=0); omega
 have hmle:=mR_le hB (Es:=E) (e:=0) (m:=0) (by omega)
 have hanl : (anR g B 0 E).length=2 * mR B 0 E 0:=by have:=anR_len (g:=g) (B:=B) (Es:=E) (e:=0) (m:=0); omega
 have hfl:=frR_len hB (Es:=E) (e:=0) (m:=0) (by omega)
 refine same41_refl _ _ _ _ _ _ (by omega) ?_ ?_ (by omega) (by simp; omega)
 ·simp only [List.length_append,plA,List.length_map]; omega
 ·intro l hl
  rcases List.mem_append.1 hl with hl | hl
  ·obtain ⟨l',hl',rfl⟩:=List.mem_map.1 hl
   have:=h.rot.list_len hl'
   simp; omega
  ·have:=frR_mem hl; omega
theorem dissectStraightens_law (N : Int) (E : List Arc) (A : List (List Int)) (g : List Int) (B : List ByteArray) (o : Int) (hA : ∀ l∈A,l.length≤9223372036854775807) : Zb (((N,E,A,()),g,B,o,()),())=some (true,()):=by
 obtain ⟨b0,s1,s2⟩:=few41_eq N E A g B o
 unfold Zb
 simp only
 rw [s1,awake41_true,Option.bind_some]
 cases b0 with
 | false=>rfl
 | true =>
  simp only [Bool.not_true,cond_false]
  obtain ⟨hE,hA2⟩:=s2 rfl
  rcases straighten_both N E A g B o hA with ⟨k1,k2,_⟩ | ⟨n,nx,rfl,h,_,k1,k2⟩
  ·rw [k1,k2]
   simp only [Option.bind_some]
   rw [neI_f rfl,cond_false,same41_refl 0 [] [] [] [] 0 (by simp) (by simp) (by simp) (by simp) (by simp)]
   simp only [Option.bind_some,Bool.not_true,cond_false]
   rw [neI_f rfl,cond_false]
   rw [show Zb_L8 ([],[],0,())=_ from law_outer [] (by simp) (by simp) [] [] rfl]
   rfl
  ·have hB:=bends_ok h
   rw [k1,k2]
   simp only [Option.bind_some]
   rw [neI_f rfl,cond_false]
   rw [show Zam (((((strS n E A g B o).1.1,(strS n E A g B o).1.2.1,(strS n E A g B o).1.2.2.1,()),(strS n E A g B o).2.1,(strS n E A g B o).2.2.1,(strS n E A g B o).2.2.2.1,())),(((strS n E A g B o).1.1,(strS n E A g B o).1.2.1,(strS n E A g B o).1.2.2.1,()),(strS n E A g B o).2.1,(strS n E A g B o).2.2.1,(strS n E A g B o).2.2.2.1,()),())=_ from str_same h (by omega) (by omega)]
   simp only [Option.bind_some,Bool.not_true,cond_false]
   rw [neI_f rfl,cond_false]
   rw [show Zb_L8 (paR B 0 E 0,paR B 0 E 0,0,())=_ from law_outer (paR B 0 E 0) (by rw [paR_len]; omega) (fun l hl=>by have:=paR_mem hB (by omega) hl; omega) (paR B 0 E 0) [] rfl]
   rfl
theorem wf_lists41 {N : Int} {E : List Arc} {A : List (List Int)} {u : Unit} (h : Wf (.prod I (.prod (.slice (.prod I (.prod I .unit))) (.prod (.slice (.slice I)) .unit))) (N,E,A,u)) : ∀ l∈A,l.length≤9223372036854775807:=by
 intro l hl
 have h1 : Wf (.slice (.slice (.int .i64))) A:=h.2.2.1
 exact (h1.2 l hl).1
theorem dissectStraightens_plain (x : (tupTy (Zb_c.ins.map (·.2))).den) (h : WfIns Zb_c.ins x) : Zb x=some (true,()):=by
 obtain ⟨⟨⟨N,E,A,u1⟩,g,B,o,u2⟩,u3⟩:=x
 exact dissectStraightens_law N E A g B o (wf_lists41 h.1.1)
end Go.Vm

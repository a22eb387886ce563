/-
 Small lemmas on systems and lists.
-/
import Derived.Test.YtnnbdielbgljaaaDoorP33M
import Derived.Test.YtnnbdielbgljaaaDoorP39J
set_option linter.unusedVariables false
set_option linter.unusedSimpArgs false
namespace Go.Vm
open Go.Proofs
set_option maxRecDepth 100000
attribute [local irreducible] loopFix
theorem cyc_loop (l : List Int) (hl : l.length≤1000000) : ∀ (r j : Nat),j+r=l.length→Zm_L8 (l,l,0,true,(j : Int),())=some (.inl (l,l,0,true,())):=by
 intro r
 induction r with
 | zero =>
  intro j hj
  refine loop_done ?_
  simp only [Zm_B8]
  rw [ltI_f (by omega)]; rfl
 | succ r ih =>
  intro j hj
  refine (loop_step ?_).trans (ih (j+1) (by omega))
  obtain ⟨y,hy⟩ : ∃ y,l[j]?=some y:=⟨_,List.getElem?_eq_getElem (by omega)⟩
  simp only [Zm_B8]
  rw [ltI_t (by omega),cond_true,cond_true,eqI_f (by omega),cond_false,addI64 (by omega) (by omega),show (0 : Int)+(j : Int)=((j : Nat) : Int) by omega,remN,Nat.mod_eq_of_lt (by omega),getI_of,hy,Option.bind_some,Option.bind_some,eqI_t rfl,add1 (by omega)]
theorem cyclic_refl (l : List Int) (hl : l.length≤1000000) : Zm (l,l,())=some (true,()):=by
 unfold Zm
 simp only
 rw [neI_f rfl,cond_false]
 by_cases h : l.length=0
 ·have : Zm_L4 (l,l,0,())=some (.inr (.inl (l,()))):=by
   refine loop_done ?_
   simp only [Zm_B4]
   rw [ltI_f (by omega)]; rfl
  rw [this,Option.bind_some]
  simp only [Sum.elim_inr,Sum.elim_inl]
  rw [eqI_t (by omega)]
 ·have : Zm_L4 (l,l,0,())=some (.inl (true,())):=by
   refine loop_done ?_
   simp only [Zm_B4]
   rw [ltI_t (by omega),cond_true,show Zm_L8 (l,l,0,true,0,())=_ from cyc_loop l hl l.length 0 (by omega),Option.bind_some]
   rfl
  rw [this]; rfl
theorem same29_refl (N : Int) (E : List Arc) (A : List (List Int)) (hE : E.length≤1000000) (hA : A.length≤1000000) (hl : ∀ l∈A,l.length≤1000000) : Zah ((N,E,A,()),(N,E,A,()),())=some (true,()):=by
 unfold Zah
 simp only
 rw [neI_f rfl,cond_false,neI_f rfl,cond_false,neI_f rfl,cond_false]
 have k1:=scan (B:=Zah_B4) (fun (_ : Unit) i=>(N,E,A,N,E,A,(i : Int),())) (fun _=>.inr (.inl (N,E,A,N,E,A,()))) (fun (_ : Unit)=>.inl (false,())) (fun (_ : Nat) (_ : Unit) (_ : Arc)=>some (Sum.inl ())) E (by
   intro u i a hd'
   have hi : i < E.length:=(List.getElem?_eq_some_iff.1 hd').1
   simp only [Zah_B4]
   rw [ltI_t (by omega),cond_true,getI_of,hd',Option.bind_some,Option.bind_some,eqI_t rfl,eqI_t rfl,add1 (by omega)]
   rfl) (by
   intro u
   simp only [Zah_B4]
   rw [ltI_f (by omega)]; rfl) ()
 obtain ⟨t,ht⟩:=foldE_inl (g:=fun (_ : Nat) (_ : Unit) (_ : Arc)=>(some (Sum.inl ()) : Option (Unit⊕Unit))) (fun _ _ _=>()) (l:=E) (i:=0) (s:=()) (fun _ _ _ _=>rfl)
 rw [ht] at k1
 have k2:=scan (B:=Zah_B9) (fun (_ : Unit) i=>(N,E,A,N,E,A,(i : Int),())) (fun _=>.inr (.inl ())) (fun (_ : Unit)=>.inl (false,())) (fun (_ : Nat) (_ : Unit) (_ : List Int)=>some (Sum.inl ())) A (by
   intro u i a hd'
   have hi : i < A.length:=(List.getElem?_eq_some_iff.1 hd').1
   simp only [Zah_B9]
   rw [ltI_t (by omega),cond_true,getI_of,hd',Option.bind_some,Option.bind_some,cyclic_refl a (hl a (List.mem_of_getElem? hd')),Option.bind_some,add1 (by omega)]
   rfl) (by
   intro u
   simp only [Zah_B9]
   rw [ltI_f (by omega)]; rfl) ()
 obtain ⟨t,ht⟩:=foldE_inl (g:=fun (_ : Nat) (_ : Unit) (_ : List Int)=>(some (Sum.inl ()) : Option (Unit⊕Unit))) (fun _ _ _=>()) (l:=A) (i:=0) (s:=()) (fun _ _ _ _=>rfl)
 rw [ht] at k2
 rw [show Zah_L4 (N,E,A,N,E,A,0,())=_ from k1]
 simp only [Option.bind_some,Sum.elim_inr,Sum.elim_inl]
 rw [show Zah_L9 (N,E,A,N,E,A,0,())=_ from k2]
 rfl
section
variable {N : Nat} {E : List Arc} {A : List (List Int)} {nx : List Int}
end
end Go.Vm

/-
 Places in a list.
-/
import Derived.Test.YtpgfkljmcacegaaDoorN33P
set_option linter.unusedVariables false
set_option linter.unusedSimpArgs false
namespace Go.Vm
open Go.Proofs
set_option maxRecDepth 100000
attribute [local irreducible] loopFix
theorem index_int (l : List Int) (v : Int) (hl : l.length≤68719476736) : (Zap (l,v,())=some (-1,())∧v∉l) ∨
  ∃ k : Nat,l[k]?=some v∧Zap (l,v,())=some ((k : Int),()):=by
 have h:=scan (B:=Zap_B2) (fun (_ : Unit) i=>(l,v,((l.length : Nat) : Int),(i : Int),()))
  (fun _=>.inr (.inl ())) (fun (k : Nat)=>.inl ((k : Int),())) (fun i (_ : Unit) a=>some (cond (eqI v a) (.inr i) (.inl ()))) l (by
   intro _ i a ha
   have hi : i < l.length:=(List.getElem?_eq_some_iff.1 ha).1
   unfold Zap_B2
   simp only
   rw [ltI_t (by omega),cond_true,getI_of,ha,Option.bind_some,Option.bind_some]
   cases eqI v a with
   | true=>rfl
   | false=>rw [cond_false,add1 (by omega)]; rfl) (by
   intro _
   unfold Zap_B2
   simp only
   rw [ltI_f (by omega)]; rfl) ()
 unfold Zap Zap_L2
 dsimp only
 rw [show ((0 : Int))=((0 : Nat) : Int) from rfl,h]
 rcases fold_find (fun a=>eqI v a) l 0 with ⟨h1,h2⟩ | ⟨k,a,h1,h2,h3⟩
 ·rw [h1]
  refine .inl ⟨rfl,fun hm=>?_⟩
  have:=h2 v hm
  simp [eqI] at this
 ·rw [h3]
  have : v=a:=by simpa [eqI] using h2
  subst this
  exact .inr ⟨k,h1,by simp only [Option.bind_some,Sum.elim_inr,Sum.elim_inl,Nat.zero_add]⟩
end Go.Vm

/-
 Small lemmas on systems and lists.
-/
import Derived.Test.YtpgfkljmcacegaaDoorN33M
import Derived.Test.YtpgfkljmcacegaaDoorN39J
set_option linter.unusedVariables false
set_option linter.unusedSimpArgs false
namespace Go.Vm
open Go.Proofs
set_option maxRecDepth 100000
attribute [local irreducible] loopFix
theorem fold_find {α : Type} (p : α→Bool) : ∀ (l : List α) (i : Nat),(foldE (fun i (_ : Unit) a=>some (cond (p a) (.inr (i : Nat)) (.inl ()))) i () l=some (.inl ())∧∀ a∈l,p a=false) ∨
  ∃ k a,l[k]?=some a∧p a=true∧foldE (fun i (_ : Unit) a=>some (cond (p a) (.inr (i : Nat)) (.inl ()))) i () l=some (.inr (i+k))
 | [],i=>.inl ⟨rfl,by simp⟩
 | a :: l,i=>by
  simp only [foldE,Option.bind_some]
  cases h : p a with
  | true=>exact .inr ⟨0,a,rfl,h,rfl⟩
  | false =>
   simp only [cond_false,Sum.elim_inl]
   rcases fold_find p l (i+1) with ⟨h1,h2⟩ | ⟨k,b,h1,h2,h3⟩
   ·exact .inl ⟨h1,fun b hb=>by
     rcases List.mem_cons.1 hb with rfl | hb
     ·exact h
     ·exact h2 b hb⟩
   ·exact .inr ⟨k+1,b,by simpa using h1,h2,by rw [h3]; congr 2; omega⟩
theorem succ_mod {i j n : Nat} (hi : i < n) (hj : j < n) (e : (i+1) % n=(j+1) % n) : i=j:=by
 rcases Nat.lt_or_ge (i+1) n with a | a <;> rcases Nat.lt_or_ge (j+1) n with b | b
 ·rw [Nat.mod_eq_of_lt a,Nat.mod_eq_of_lt b] at e; omega
 ·have : j+1=n:=by omega
  rw [Nat.mod_eq_of_lt a,this,Nat.mod_self] at e; omega
 ·have : i+1=n:=by omega
  rw [this,Nat.mod_self,Nat.mod_eq_of_lt b] at e; omega
 ·omega
section
variable {N : Nat} {E : List Arc} {A : List (List Int)} {nx : List Int}
theorem fol_at (h : RotOK (N : Nat) E A) (hn : Fol oth E A nx) {a : Nat} {y : Int} (ha : nx[a]?=some y) :
  ∃ (v : Nat) (l : List Int) (i : Nat),A[v]?=some l∧i < l.length∧l.getD i 0=((oth a : Nat) : Int)∧y=l.getD ((i+1) % l.length) 0∧y∈l:=by
 have hk : a < 2 * E.length:=by
  have:=(List.getElem?_eq_some_iff.1 ha).1
  rw [hn.len] at this; exact this
 obtain ⟨l,hl,hd⟩:=List.mem_flatten.1 (h.mem (oth_lt hk))
 obtain ⟨v,hv⟩:=List.mem_iff_getElem?.1 hl
 obtain ⟨i,hi,hid⟩:=List.getElem_of_mem hd
 have g1:=hn.get l hl i hi
 have hm : (i+1) % l.length < l.length:=Nat.mod_lt _ (by omega)
 rw [hid,Int.toNat_natCast,oth_oth,ha] at g1
 have g1:=Option.some.inj g1
 refine ⟨v,l,i,hv,hi,?_,g1,?_⟩
 ·rw [List.getD_eq_getElem?_getD,List.getElem?_eq_getElem hi,hid]; rfl
 ·rw [g1,List.getD_eq_getElem?_getD,List.getElem?_eq_getElem hm]; exact List.getElem_mem hm
theorem fol_inj32 (h : RotOK (N : Nat) E A) (hn : Fol oth E A nx) : Inj nx:=by
 intro a b y ha hb
 obtain ⟨v,l,i,hv,hi,e1,e2,e3⟩:=fol_at h hn ha
 obtain ⟨v',l',i',hv',hi',e1',e2',e3'⟩:=fol_at h hn hb
 obtain ⟨k,rfl,_,hk⟩:=h.dart v l hv y e3
 obtain ⟨k',hkk,_,hk'⟩:=h.dart v' l' hv' _ e3'
 have : k=k':=by omega
 subst this
 have : v=v':=by omega
 subst this
 rw [hv] at hv'
 have : l=l':=Option.some.inj hv'
 subst this
 have hnd : l.Nodup:=h.nodup.sublist (List.sublist_flatten_of_mem (List.mem_of_getElem? hv))
 have hm : (i+1) % l.length < l.length:=Nat.mod_lt _ (by omega)
 have hm' : (i'+1) % l.length < l.length:=Nat.mod_lt _ (by omega)
 rw [e2,List.getD_eq_getElem?_getD,List.getD_eq_getElem?_getD,List.getElem?_eq_getElem hm,List.getElem?_eq_getElem hm'] at e2'
 have e2' : l[(i+1) % l.length]=l[(i'+1) % l.length]:=e2'
 have e : (i+1) % l.length=(i'+1) % l.length:=by
  rcases Nat.lt_trichotomy ((i+1) % l.length) ((i'+1) % l.length) with c | c | c
  ·exact absurd e2' (List.pairwise_iff_getElem.1 hnd _ _ hm hm' c)
  ·exact c
  ·exact absurd e2'.symm (List.pairwise_iff_getElem.1 hnd _ _ hm' hm c)
 have : i=i':=succ_mod hi hi' e
 subst this
 rw [e1] at e1'
 have : oth a=oth b:=by omega
 rw [← oth_oth a,this,oth_oth]
end
end Go.Vm

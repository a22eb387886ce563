/-
 A rotation system as it must be is valid.
-/
import Derived.Test.YtnnbdielbgljaaaDoorP29H
set_option linter.unusedVariables false
set_option linter.unusedSimpArgs false
namespace Go.Vm
open Go.Proofs
set_option maxRecDepth 100000
attribute [local irreducible] loopFix
section
variable {E : List Arc} {A : List (List Int)} {N : Nat}
theorem valList_go {v : Nat} : ∀ (l : List Int) (i : Nat) (S : List Int) (met : List Bool) (n : Int),met.length=2 * E.length→(∀ k : Nat,k < 2 * E.length→(met[k]?=some true↔(k : Int)∈S)) →
  (∀ d∈l,∃ k : Nat,d=(k : Int)∧k < 2 * E.length∧tl E k=v)→(S++l).Nodup→∃ t,foldE (valStep E v) i (met,n) l=some (.inl t)
 | [],i,S,met,n,_,_,_,_=>⟨(met,n),rfl⟩
 | d :: l,i,S,met,n,hm,hS,hl,hnd=>by
  obtain ⟨k,rfl,hk,htl⟩:=hl d (by simp)
  have hns : (k : Int)∉S:=by
   rw [List.nodup_append] at hnd
   intro hin
   exact hnd.2.2 _ hin (k : Int) (by simp) rfl
  have hf : met[k]?=some false:=by
   obtain ⟨b,hb⟩ : ∃ b,met[k]?=some b:=⟨_,List.getElem?_eq_getElem (by omega)⟩
   cases b with
   | false=>exact hb
   | true=>exact absurd ((hS k hk).1 hb) hns
  simp only [foldE]
  unfold valStep
  rw [if_pos ⟨by omega,by simp only; omega,by simpa using hf,by simpa using htl⟩]
  simp only [Option.bind_some,Sum.elim_inl,Int.toNat_natCast]
  refine valList_go l (i+1) (S++[(k : Int)]) (met.set k true) _ (by simpa using hm) (fun j hj=>?_) (fun d hd=>hl d (by simp [hd])) (by simpa using hnd)
  rw [List.getElem?_set]
  by_cases e : k=j
  ·subst e
   rw [if_pos rfl,if_pos (by omega)]
   simp
  ·rw [if_neg e,hS j hj]
   simp only [List.mem_append,List.mem_singleton]
   exact ⟨.inl,fun h=>h.resolve_right (by omega)⟩
theorem valAll_go (hE : E.length≤32768) : ∀ (A : List (List Int)) (i : Nat) (S : List Int) (met : List Bool) (n : Int),met.length=2 * E.length→(∀ k : Nat,k < 2 * E.length→(met[k]?=some true↔(k : Int)∈S)) →
  n=S.length→(∀ d∈S,∃ k : Nat,d=(k : Int)∧k < 2 * E.length)→(∀ (v : Nat) (l : List Int),A[v]?=some l→∀ d∈l,∃ k : Nat,d=(k : Int)∧k < 2 * E.length∧tl E k=((i+v : Nat) : Int))→(S++A.flatten).Nodup →
  ∃ t,foldE (fun v s l=>valList E v s l) i (met,n) A=some (.inl t)
 | [],i,S,met,n,_,_,_,_,_,_=>⟨(met,n),rfl⟩
 | l :: A,i,S,met,n,hm,hS,hn,hr,hA,hnd=>by
  have hl:=hA 0 l rfl
  rw [List.flatten_cons,← List.append_assoc] at hnd
  have hnd1 : (S++l).Nodup:=(List.nodup_append.1 hnd).1
  have hndS : S.Nodup:=(List.nodup_append.1 hnd1).1
  obtain ⟨t,ht⟩:=valList_go (v:=i) l 0 S met n hm hS (fun d hd=>by simpa using hl d hd) hnd1
  obtain ⟨q1,q2,q3,q4,q5⟩:=valList_ok hm hS hn hndS hr hE ht
  obtain ⟨t2,ht2⟩:=valAll_go hE A (i+1) (S++l) t.1 t.2 q5 q3 q4 (by
   intro d hd
   rcases List.mem_append.1 hd with hd | hd
   ·exact hr d hd
   ·obtain ⟨k,hk,hk2,_⟩:=q1 d hd; exact ⟨k,hk,hk2⟩) (by
   intro v l' hl' d hd
   obtain ⟨k,k1,k2,k3⟩:=hA (v+1) l' (by simpa using hl') d hd
   exact ⟨k,k1,k2,by rw [k3]; omega⟩) hnd
  refine ⟨t2,?_⟩
  simp only [foldE]
  rw [show valList E i (met,n) l=some (.inl t) from ht]
  exact ht2
theorem RotOK.validB (h : RotOK (N : Nat) E A) : validB ((N : Int),E,A,())=true:=by
 have hm1:=h.m1
 have hn1:=h.n1
 have hlen:=h.len
 obtain ⟨t,ht⟩:=valAll_go hm1 A 0 [] (List.replicate (2 * E.length) false) 0 (by simp) (by
  intro k hk
  simp [List.getElem?_replicate,hk]) rfl (by simp) (by
  intro v l hl d hd
  obtain ⟨k,k1,k2,k3⟩:=h.dart v l hl d hd
  exact ⟨k,k1,k2,by rw [k3]; omega⟩) (by simpa using h.nodup)
 have hl:=valAll_len ht
 obtain ⟨_,_,_,q4⟩:=valAll_ok hm1 (A:=A) (i:=0) (S:=[]) (met:=List.replicate (2 * E.length) false) (n:=0) (t:=t) (by simp) (by
   intro k hk
   simp [List.getElem?_replicate,hk]) rfl List.nodup_nil (by simp) ht
 have hall:=h.all
 unfold Go.Vm.validB
 simp only
 rw [show valAll E A=some (.inl t) from ht]
 simp only [List.nil_append] at q4
 rw [ltI_f (by omega),gtI_f (by omega),gtI_f (by omega),neI_f (by omega)]
 have : E.any (edgeBad (N : Int))=false:=by
  rw [List.any_eq_false]
  intro a ha
  obtain ⟨e1,e2,e3,e4,e5⟩:=h.edge a ha
  unfold edgeBad
  rw [ltI_f e1,geI_f e2,ltI_f e3,geI_f e4,eqI_f e5]
  simp
 rw [this]
 have e5 : eqI t.2 ((t.1.length : Nat) : Int)=true:=eqI_t (by omega)
 exact e5
end
end Go.Vm

/-
 What a valid rotation system is.
-/
import Derived.Test.YtnnbdielbgljaaaDoorP29B
set_option linter.unusedVariables false
set_option linter.unusedSimpArgs false
namespace Go.Vm
open Go.Proofs
set_option maxRecDepth 100000
attribute [local irreducible] loopFix
theorem nodup_le : ∀ (m : Nat) (l : List Nat),l.Nodup→(∀ x∈l,x < m)→l.length≤m
 | 0,l,_,h=>by
  cases l with
  | nil=>simp
  | cons a l=>have:=h a (by simp); omega
 | m+1,l,hn,h=>by
  by_cases hm : m∈l
  ·have h1:=nodup_le m (l.erase m) (hn.erase m) (fun x hx=>by
    have h2:=h x (List.mem_of_mem_erase hx)
    have h3 : x≠m:=fun e=>by subst e; exact (List.Nodup.not_mem_erase hn) hx
    omega)
   rw [List.length_erase_of_mem hm] at h1
   omega
  ·have:=nodup_le m l hn (fun x hx=>by
    have h2:=h x hx
    have h3 : x≠m:=fun e=>hm (e ▸ hx)
    omega)
   omega
structure RotOK (N : Int) (E : List Arc) (A : List (List Int)) : Prop where
 n0 : 0≤N
 n1 : N≤16384
 m1 : E.length≤32768
 len : (A.length : Int)=N
 edge : ∀ a∈E,0≤a.1∧a.1 < N∧0≤a.2.1∧a.2.1 < N∧a.1≠a.2.1
 dart : ∀ (v : Nat) (l : List Int),A[v]?=some l→∀ d∈l,∃ k : Nat,d=(k : Int)∧k < 2 * E.length∧tl E k=v
 nodup : A.flatten.Nodup
 all : A.flatten.length=2 * E.length
theorem valList_ok {E : List Arc} {v : Nat} : ∀ {l : List Int} {i : Nat} {S : List Int} {met : List Bool} {n : Int} {t : List Bool×Int},met.length=2 * E.length →
  (∀ k : Nat,k < 2 * E.length→(met[k]?=some true↔(k : Int)∈S))→n=S.length→S.Nodup→(∀ d∈S,∃ k : Nat,d=(k : Int)∧k < 2 * E.length)→E.length≤32768 →
  foldE (valStep E v) i (met,n) l=some (.inl t) →
  (∀ d∈l,∃ k : Nat,d=(k : Int)∧k < 2 * E.length∧tl E k=v)∧(S++l).Nodup∧(∀ k : Nat,k < 2 * E.length→(t.1[k]?=some true↔(k : Int)∈S++l))∧t.2=(S++l).length∧t.1.length=2 * E.length
 | [],i,S,met,n,t,hm,hS,hn,hnd,_,_,h=>by
  simp only [foldE] at h
  cases h
  exact ⟨by simp,by simpa using hnd,by simpa using hS,by simpa using hn,hm⟩
 | d :: l,i,S,met,n,t,hm,hS,hn,hnd,hr,hE,h=>by
  simp only [foldE] at h
  unfold valStep at h
  split at h
  ·rename_i hc
   simp only at hc
   obtain ⟨h0,h1,h2,h3⟩:=hc
   obtain ⟨k,rfl⟩ : ∃ k : Nat,d=k:=⟨d.toNat,by omega⟩
   simp only [Int.toNat_natCast] at h2 h3 h
   have hk : k < 2 * E.length:=by omega
   have hns : (k : Int)∉S:=fun hin=>by rw [(hS k hk).2 hin] at h2; cases h2
   simp only [Option.bind_some,Sum.elim_inl] at h
   have hnd' : (S++[(k : Int)]).Nodup:=by
    rw [List.nodup_append]
    exact ⟨hnd,by simp,fun a ha b hb=>by simp at hb; subst hb; exact fun e=>hns (e ▸ ha)⟩
   have hr' : ∀ d∈S++[(k : Int)],∃ j : Nat,d=(j : Int)∧j < 2 * E.length:=by
    intro d hd
    rcases List.mem_append.1 hd with hd | hd
    ·exact hr d hd
    ·simp at hd; exact ⟨k,hd,hk⟩
   have hlen : (S++[(k : Int)]).length≤2 * E.length:=by
    have:=nodup_le (2 * E.length) ((S++[(k : Int)]).map Int.toNat) (by
     rw [List.Nodup,List.pairwise_map]
     refine hnd'.imp_of_mem ?_
     intro a b ha hb hab e
     obtain ⟨j,rfl,_⟩:=hr' a ha
     obtain ⟨j',rfl,_⟩:=hr' b hb
     simp at e
     exact hab (by rw [e])) (by
     intro x hx
     obtain ⟨y,hy,rfl⟩:=List.mem_map.1 hx
     obtain ⟨j,rfl,hj⟩:=hr' y hy
     simpa using hj)
    simpa using this
   have e2 : addI .i64 n 1=((S++[(k : Int)]).length : Int):=by
    rw [hn,add1 (by simp at hlen; omega)]; simp
   have:=valList_ok (l:=l) (i:=i+1) (S:=S++[(k : Int)]) (met:=met.set k true) (n:=addI .i64 n 1) (t:=t) (by simpa using hm) (by
    intro j hj
    rw [List.getElem?_set]
    by_cases e : k=j
    ·subst e
     rw [if_pos rfl,if_pos (by omega)]
     simp
    ·rw [if_neg e,hS j hj]
     simp only [List.mem_append,List.mem_singleton]
     exact ⟨.inl,fun h=>h.resolve_right (by omega)⟩) e2 hnd' hr' hE h
   obtain ⟨q1,q2,q3,q4,q5⟩:=this
   rw [List.append_assoc,List.singleton_append] at q2 q3 q4
   refine ⟨fun d hd=>?_,q2,q3,q4,q5⟩
   rcases List.mem_cons.1 hd with rfl | hd
   ·exact ⟨k,rfl,hk,h3⟩
   ·exact q1 d hd
  ·cases h
theorem valAll_ok {E : List Arc} (hE : E.length≤32768) : ∀ {A : List (List Int)} {i : Nat} {S : List Int} {met : List Bool} {n : Int} {t : List Bool×Int},met.length=2 * E.length →
  (∀ k : Nat,k < 2 * E.length→(met[k]?=some true↔(k : Int)∈S))→n=S.length→S.Nodup→(∀ d∈S,∃ k : Nat,d=(k : Int)∧k < 2 * E.length) →
  foldE (fun v s l=>valList E v s l) i (met,n) A=some (.inl t) →
  (∀ (v : Nat) (l : List Int),A[v]?=some l→∀ d∈l,∃ k : Nat,d=(k : Int)∧k < 2 * E.length∧tl E k=((i+v : Nat) : Int))∧(S++A.flatten).Nodup∧(∀ k : Nat,k < 2 * E.length→(t.1[k]?=some true↔(k : Int)∈S++A.flatten))∧t.2=(S++A.flatten).length
 | [],i,S,met,n,t,hm,hS,hn,hnd,_,h=>by
  simp only [foldE] at h
  cases h
  exact ⟨by simp,by simpa using hnd,by simpa using hS,by simpa using hn⟩
 | l :: A,i,S,met,n,t,hm,hS,hn,hnd,hr,h=>by
  simp only [foldE] at h
  cases hv : valList E i (met,n) l with
  | none=>rw [hv] at h; cases h
  | some x =>
   rw [hv] at h
   cases x with
   | inr e=>cases h
   | inl u =>
    simp only [Option.bind_some,Sum.elim_inl] at h
    obtain ⟨q1,q2,q3,q4,q5⟩:=valList_ok (i:=0) hm hS hn hnd hr hE hv
    obtain ⟨p1,p2,p3,p4⟩:=valAll_ok hE (A:=A) (i:=i+1) (S:=S++l) (met:=u.1) (n:=u.2) (t:=t) q5 q3 q4 q2 (by
     intro d hd
     rcases List.mem_append.1 hd with hd | hd
     ·exact hr d hd
     ·obtain ⟨k,hk,hk2,_⟩:=q1 d hd; exact ⟨k,hk,hk2⟩) h
    rw [List.append_assoc] at p2 p3 p4
    refine ⟨?_,by simpa using p2,by simpa using p3,by simpa using p4⟩
    intro v l' hl' d hd
    cases v with
    | zero =>
     simp only [List.getElem?_cons_zero,Option.some.injEq] at hl'
     subst hl'
     exact q1 d hd
    | succ v =>
     obtain ⟨k,k1,k2,k3⟩:=p1 v l' (by simpa using hl') d hd
     exact ⟨k,k1,k2,by rw [k3]; omega⟩
theorem valid_ok {N : Int} {E : List Arc} {A : List (List Int)} {u : Unit} (h : validB (N,E,A,u)=true) : RotOK N E A:=by
 unfold validB at h
 simp only [Bool.and_eq_true,Bool.not_eq_true'] at h
 obtain ⟨⟨⟨⟨⟨h0,h1⟩,h2⟩,h3⟩,h4⟩,h5⟩:=h
 have h0 : ¬ N < 0:=by simpa [ltI] using h0
 have h1 : ¬ N > 16384:=by simpa [gtI] using h1
 have h2 : ¬ (E.length : Int) > 32768:=by simpa [gtI] using h2
 have h3 : (A.length : Int)=N:=by simpa [neI] using h3
 have hE : E.length≤32768:=by omega
 split at h5
 ·rename_i t ht
  have hl:=valAll_len ht
  obtain ⟨q1,q2,q3,q4⟩:=valAll_ok hE (A:=A) (i:=0) (S:=[]) (met:=List.replicate (2 * E.length) false) (n:=0) (t:=t) (by simp) (by
   intro k hk
   simp [List.getElem?_replicate,hk]) rfl List.nodup_nil (by simp) ht
  have h5 : t.2=(t.1.length : Int):=by simpa [eqI] using h5
  simp only [List.nil_append] at q2 q3 q4
  refine ⟨by omega,by omega,hE,h3,?_,?_,q2,by omega⟩
  ·intro a ha
   have:=List.any_eq_false.1 h4 a ha
   simp only [edgeBad,Bool.or_eq_true,not_or] at this
   obtain ⟨⟨⟨⟨e1,e2⟩,e3⟩,e4⟩,e5⟩:=this
   simp only [ltI,geI,eqI,decide_eq_true_eq,beq_iff_eq] at e1 e2 e3 e4 e5
   exact ⟨by omega,by omega,by omega,by omega,e5⟩
  ·intro v l hvl d hd
   obtain ⟨k,k1,k2,k3⟩:=q1 v l hvl d hd
   exact ⟨k,k1,k2,by rw [k3]; omega⟩
 ·cases h5
theorem RotOK.mem {N : Int} {E : List Arc} {A : List (List Int)} (h : RotOK N E A) {k : Nat} (hk : k < 2 * E.length) : (k : Int)∈A.flatten:=by
 apply Classical.byContradiction
 intro hn
 have hr : ∀ d∈A.flatten,∃ j : Nat,d=(j : Int)∧j < 2 * E.length:=by
  intro d hd
  obtain ⟨l,hl,hdl⟩:=List.mem_flatten.1 hd
  obtain ⟨v,hv⟩:=List.mem_iff_getElem?.1 hl
  obtain ⟨j,j1,j2,_⟩:=h.dart v l hv d hdl
  exact ⟨j,j1,j2⟩
 have:=nodup_le (2 * E.length) (k :: A.flatten.map Int.toNat) (by
  rw [List.nodup_cons]
  refine ⟨fun hin=>?_,?_⟩
  ·obtain ⟨d,hd,e⟩:=List.mem_map.1 hin
   obtain ⟨j,rfl,_⟩:=hr d hd
   simp at e
   exact hn (e ▸ hd)
  ·rw [List.Nodup,List.pairwise_map]
   refine h.nodup.imp_of_mem ?_
   intro a b ha hb hab e
   obtain ⟨j,rfl,_⟩:=hr a ha
   obtain ⟨j',rfl,_⟩:=hr b hb
   simp at e
   exact hab (by rw [e])) (by
  intro x hx
  rcases List.mem_cons.1 hx with rfl | hx
  ·exact hk
  ·obtain ⟨y,hy,rfl⟩:=List.mem_map.1 hx
   obtain ⟨j,rfl,hj⟩:=hr y hy
   simpa using hj)
 simp only [List.length_cons,List.length_map] at this
 rw [h.all] at this
 omega
end Go.Vm

/-
 Membership; angles.
-/
import Derived.Test.YtnnbdielbgljaaaDoorP29H
import Derived.Test.YtnnbdielbgljaaaDoorP39Rev
set_option linter.unusedVariables false
set_option linter.unusedSimpArgs false
namespace Go.Vm
open Go.Proofs
set_option maxRecDepth 100000
attribute [local irreducible] loopFix
def inB (f : List Int) (x : Int) : Bool:=decide (x∈f)
theorem has_eq (f : List Int) (x : Int) (hf : f.length < 9223372036854775807) : Zas (f,x,())=some (inB f x,()):=by
 have key : ∀ (q p : List Int),p++q=f→Zas_L2 (f,x,((p.length : Nat) : Int),())=some (cond (inB q x) (.inl (true,())) (.inr (.inl ()))):=by
  intro q
  induction q with
  | nil =>
   intro p hp
   refine loop_done ?_
   simp only [Zas_B2]
   rw [ltI_f (by rw [← hp]; simp)]
   simp [inB]
  | cons a q ih =>
   intro p hp
   have hpl : p.length < f.length:=by rw [← hp]; simp
   have ha : f[p.length]?=some a:=by rw [← hp]; simp
   by_cases e : a=x
   ·refine loop_done ?_
    simp only [Zas_B2]
    rw [ltI_t (by omega),cond_true,getI_of,ha,Option.bind_some,eqI_t e]
    simp [inB,e]
   ·have hs : Zas_B2 (f,x,((p.length : Nat) : Int),())=some (.inl (f,x,(((p++[a]).length : Nat) : Int),())):=by
     simp only [Zas_B2]
     rw [ltI_t (by omega),cond_true,getI_of,ha,Option.bind_some,eqI_f e,cond_false,add1 (by omega)]
     simp
    refine (loop_step hs).trans ?_
    refine (ih (p++[a]) (by simp [hp])).trans ?_
    have : inB (a :: q) x=inB q x:=by
     unfold inB
     have : (x∈a :: q)↔x∈q:=by simp [Ne.symm e]
     exact decide_eq_decide.2 this
    rw [this]
 unfold Zas
 simp only
 rw [show Zas_L2 (f,x,0,())=_ from key f [] rfl]
 cases inB f x <;> rfl
theorem contains_eq (f : List Int) (x : Int) (hf : f.length < 9223372036854775807) : Zk (f,x,())=some (inB f x,()):=by
 have key : ∀ (q p : List Int),p++q=f→∃ n : Int,Zad_L2 (f,x,((f.length : Nat) : Int),((p.length : Nat) : Int),())=some (cond (inB q x) (.inl (n,())) (.inr (.inl ())))∧0≤n:=by
  intro q
  induction q with
  | nil =>
   intro p hp
   refine ⟨0,?_,by omega⟩
   refine loop_done ?_
   simp only [Zad_B2]
   rw [ltI_f (by rw [← hp]; simp)]
   simp [inB]
  | cons a q ih =>
   intro p hp
   have hpl : p.length < f.length:=by rw [← hp]; simp
   have ha : f[p.length]?=some a:=by rw [← hp]; simp
   by_cases e : a=x
   ·refine ⟨p.length,?_,by omega⟩
    refine loop_done ?_
    simp only [Zad_B2]
    rw [ltI_t (by omega),cond_true,getI_of,ha,Option.bind_some,eqI_t e.symm]
    simp [inB,e]
   ·have hs : Zad_B2 (f,x,((f.length : Nat) : Int),((p.length : Nat) : Int),())=some (.inl (f,x,((f.length : Nat) : Int),(((p++[a]).length : Nat) : Int),())):=by
     simp only [Zad_B2]
     rw [ltI_t (by omega),cond_true,getI_of,ha,Option.bind_some,eqI_f (Ne.symm e),cond_false,add1 (by omega)]
     simp
    obtain ⟨n,h1,h2⟩:=ih (p++[a]) (by simp [hp])
    refine ⟨n,?_,h2⟩
    refine (loop_step hs).trans (h1.trans ?_)
    have : inB (a :: q) x=inB q x:=by
     unfold inB
     have : (x∈a :: q)↔x∈q:=by simp [Ne.symm e]
     exact decide_eq_decide.2 this
    rw [this]
 obtain ⟨n,h1,h2⟩:=key f [] rfl
 have h1' : Zad_L2 (f,x,((f.length : Nat) : Int),0,())=some (cond (inB f x) (.inl (n,())) (.inr (.inl ()))):=h1
 unfold Zk Zad
 simp only
 rw [h1']
 cases inB f x with
 | true=>simp only [cond_true,Option.bind_some,Sum.elim_inl]; rw [geI_t h2]
 | false=>simp only [cond_false,Option.bind_some,Sum.elim_inr,Sum.elim_inl]; rw [geI_f (by omega)]
abbrev Shp:=Rot×(List Int×(List ByteArray×(Int×Unit)))
def angStep (g : List Int) (_ : Nat) (n : Int) (d : Int) : Option (Int⊕Unit):=(getI g d).bind fun a=>some (cond (ltI a 1 || gtI a 4) (.inr ()) (.inl (addI .i64 n a)))
def angList (g : List Int) (_ : Nat) (_ : Unit) (l : List Int) : Option (Unit⊕Unit):=(foldE (angStep g) 0 0 l).bind (Sum.elim (fun n=>some (cond (gtI (l.length : Nat) 0 && neI n 4) (.inr ()) (.inl ()))) (fun _=>some (.inr ())))
def angAll (g : List Int) (A : List (List Int)) : Option (Unit⊕Unit):=foldE (angList g) 0 () A
theorem ang_inner (N : Int) (E : List Arc) (A : List (List Int)) (g : List Int) (B : List ByteArray) (o : Int) (A' : List (List Int)) (c v : Int) (l : List Int) (hl : l.length≤9223372036854775807) :
  Zbi_L6 (N,E,A,g,B,o,l,0,A',c,v,l,(l.length : Nat),0,())=(foldE (angStep g) 0 0 l).bind (Sum.elim (fun n=>some (.inr (.inl (N,E,A,g,B,o,l,n,A',c,v,())))) (fun _=>some (.inl (false,())))):=by
 refine scan (B:=Zbi_B6) (fun n i=>(N,E,A,g,B,o,l,n,A',c,v,l,((l.length : Nat) : Int),(i : Int),())) (fun n=>.inr (.inl (N,E,A,g,B,o,l,n,A',c,v,()))) (fun _=>.inl (false,())) (angStep g) l ?_ ?_ 0
 ·intro n i d hd'
  have hi : i < l.length:=(List.getElem?_eq_some_iff.1 hd').1
  simp only [Zbi_B6,angStep]
  rw [ltI_t (by omega),cond_true,getI_of,hd',Option.bind_some,add1 (by omega)]
  cases getI g d with
  | none=>rfl
  | some a =>
   simp only [Option.bind_some]
   cases ltI a 1 <;> cases gtI a 4 <;> rfl
 ·intro n
  simp only [Zbi_B6]
  rw [ltI_f (by omega)]; rfl
theorem angled_eq (N : Int) (E : List Arc) (A : List (List Int)) (g : List Int) (B : List ByteArray) (o : Int) (hA : A.length < 9223372036854775807) (hl : ∀ l∈A,l.length≤9223372036854775807) :
  Zbi (((N,E,A,()),g,B,o,()),())=(angAll g A).bind (Sum.elim (fun _=>some (true,())) (fun _=>some (false,()))):=by
 have key:=scan (B:=Zbi_B2) (fun (_ : Unit) i=>(N,E,A,g,B,o,A,((A.length : Nat) : Int),(i : Int),())) (fun _=>.inr (.inl ())) (fun (_ : Unit)=>.inl (false,())) (angList g) A (by
  intro u i l hd'
  have hi : i < A.length:=(List.getElem?_eq_some_iff.1 hd').1
  simp only [Zbi_B2,angList]
  rw [ltI_t (by omega),cond_true,getI_of,hd',Option.bind_some,ang_inner N E A g B o A _ _ l (hl l (List.mem_of_getElem? hd'))]
  cases foldE (angStep g) 0 0 l with
  | none=>rfl
  | some x =>
   cases x with
   | inl n =>
    simp only [Option.bind_some,Sum.elim_inl,Sum.elim_inr]
    rw [add1 (by omega)]
    cases gtI ((l.length : Nat) : Int) 0 <;> cases neI n 4 <;> rfl
   | inr e=>rfl) (by
  intro u
  simp only [Zbi_B2]
  rw [ltI_f (by omega)]; rfl) ()
 unfold Zbi
 simp only
 rw [show Zbi_L2 (N,E,A,g,B,o,A,((A.length : Nat) : Int),0,())=_ from key]
 unfold angAll
 cases foldE (angList g) 0 () A with
 | none=>rfl
 | some x=>cases x <;> rfl
theorem sums_inner (N : Int) (E : List Arc) (A : List (List Int)) (g : List Int) (B : List ByteArray) (o : Int) (v : Nat) (l : List Int) (hv : A[v]?=some l) (hl : l.length≤9223372036854775807) :
  Zak_L6 (N,E,A,g,B,o,(v : Int),0,0,())=(foldE (angStep g) 0 0 l).bind (Sum.elim (fun n=>some (.inr (.inl (N,E,A,g,B,o,(v : Int),n,())))) (fun _=>some (.inl (false,())))):=by
 refine scan (B:=Zak_B6) (fun n i=>(N,E,A,g,B,o,(v : Int),n,(i : Int),())) (fun n=>.inr (.inl (N,E,A,g,B,o,(v : Int),n,()))) (fun _=>.inl (false,())) (angStep g) l ?_ ?_ 0
 ·intro n i d hd'
  have hi : i < l.length:=(List.getElem?_eq_some_iff.1 hd').1
  simp only [Zak_B6,angStep]
  rw [getI_of,hv,Option.bind_some,ltI_t (by omega),cond_true,Option.bind_some,getI_of,hd',Option.bind_some,add1 (by omega)]
  cases getI g d with
  | none=>rfl
  | some a =>
   simp only [Option.bind_some]
   cases ltI a 1 <;> cases gtI a 4 <;> rfl
 ·intro n
  simp only [Zak_B6]
  rw [getI_of,hv,Option.bind_some,ltI_f (by omega)]; rfl
theorem sums_eq (E : List Arc) (A : List (List Int)) (g : List Int) (B : List ByteArray) (o : Int) (hA : A.length < 9223372036854775807) (hl : ∀ l∈A,l.length≤9223372036854775807) :
  Zak (((((A.length : Nat) : Int),E,A,()),g,B,o,()),())=(angAll g A).bind (Sum.elim (fun _=>some (true,())) (fun _=>some (false,()))):=by
 have key:=scan (B:=Zak_B2) (fun (_ : Unit) i=>(((A.length : Nat) : Int),E,A,g,B,o,(i : Int),())) (fun _=>.inr (.inl ())) (fun (_ : Unit)=>.inl (false,())) (angList g) A (by
  intro u i l hd'
  have hi : i < A.length:=(List.getElem?_eq_some_iff.1 hd').1
  simp only [Zak_B2,angList]
  rw [ltI_t (by omega),cond_true,sums_inner _ E A g B o i l hd' (hl l (List.mem_of_getElem? hd'))]
  cases foldE (angStep g) 0 0 l with
  | none=>rfl
  | some x =>
   cases x with
   | inl n =>
    simp only [Option.bind_some,Sum.elim_inl,Sum.elim_inr]
    rw [add1 (by omega),getI_of,hd']
    simp only [Option.bind_some]
    cases gtI ((l.length : Nat) : Int) 0 <;> cases neI n 4 <;> rfl
   | inr e=>rfl) (by
  intro u
  simp only [Zak_B2]
  rw [ltI_f (by omega)]; rfl) ()
 unfold Zak
 simp only
 rw [show Zak_L2 (((A.length : Nat) : Int),E,A,g,B,o,0,())=_ from key]
 unfold angAll
 cases foldE (angList g) 0 () A with
 | none=>rfl
 | some x=>cases x <;> rfl
theorem angAll_some {N : Int} {E : List Arc} {A : List (List Int)} (h : RotOK N E A) (g : List Int) (hg : g.length=2 * E.length) : ∃ b : Bool,angAll g A=some (cond b (.inl ()) (.inr ()))∧(b=true→∀ k : Nat,k < 2 * E.length→∃ a,g[k]?=some a∧1≤a∧a≤4):=by
 have one : ∀ (l : List Int),(∀ d∈l,∃ k : Nat,d=(k : Int)∧k < 2 * E.length)→∀ (i : Nat) (n : Int),∃ x,foldE (angStep g) i n l=some x∧(∀ m,x=.inl m→∀ k : Nat,(k : Int)∈l→∃ a,g[k]?=some a∧1≤a∧a≤4):=by
  intro l
  induction l with
  | nil=>intro _ i n; exact ⟨_,rfl,fun _ _ k hk=>by simp at hk⟩
  | cons d l ih =>
   intro hl i n
   obtain ⟨k,rfl,hk⟩:=hl d (by simp)
   obtain ⟨a,ha⟩ : ∃ a,g[k]?=some a:=⟨_,List.getElem?_eq_getElem (by omega)⟩
   simp only [foldE,angStep]
   rw [getI_of,ha,Option.bind_some]
   by_cases hc : 1≤a∧a≤4
   ·rw [ltI_f hc.1,gtI_f hc.2]
    simp only [Bool.or_false,cond_false,Option.bind_some,Sum.elim_inl]
    obtain ⟨x,h1,h2⟩:=ih (fun d hd'=>hl d (by simp [hd'])) (i+1) (addI .i64 n a)
    refine ⟨x,h1,fun m hm j hj=>?_⟩
    rcases List.mem_cons.1 hj with hj | hj
    ·have : j=k:=by omega
     subst this
     exact ⟨a,ha,hc⟩
    ·exact h2 m hm j hj
   ·have : (ltI a 1 || gtI a 4)=true:=by
     simp only [ltI,gtI,Bool.or_eq_true,decide_eq_true_eq]; omega
    rw [this]
    exact ⟨_,rfl,fun m hm=>by cases hm⟩
 have all : ∀ (A' : List (List Int)),(∀ l∈A',l∈A)→∀ i,∃ b : Bool,foldE (angList g) i () A'=some (cond b (.inl ()) (.inr ()))∧(b=true→∀ k : Nat,(k : Int)∈A'.flatten→∃ a,g[k]?=some a∧1≤a∧a≤4):=by
  intro A'
  induction A' with
  | nil=>intro _ i; exact ⟨true,rfl,fun _ k hk=>by simp at hk⟩
  | cons l A' ih =>
   intro hA i
   obtain ⟨x,h1,h2⟩:=one l (fun d hd'=>h.mem_of (hA l (by simp)) hd') 0 0
   simp only [foldE,angList,h1,Option.bind_some]
   cases x with
   | inr e=>exact ⟨false,rfl,fun h=>by cases h⟩
   | inl n =>
    simp only [Sum.elim_inl,Option.bind_some]
    cases hc : gtI ((l.length : Nat) : Int) 0 && neI n 4 with
    | true=>exact ⟨false,rfl,fun h=>by cases h⟩
    | false =>
     obtain ⟨b,q1,q2⟩:=ih (fun l hl=>hA l (by simp [hl])) (i+1)
     refine ⟨b,q1,fun hb k hk=>?_⟩
     rw [List.flatten_cons,List.mem_append] at hk
     rcases hk with hk | hk
     ·exact h2 n rfl k hk
     ·exact q2 hb k hk
 obtain ⟨b,q1,q2⟩:=all A (fun l hl=>hl) 0
 exact ⟨b,q1,fun hb k hk=>q2 hb k (h.mem hk)⟩
end Go.Vm

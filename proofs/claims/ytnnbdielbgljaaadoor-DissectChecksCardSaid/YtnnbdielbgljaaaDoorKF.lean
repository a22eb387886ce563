/-
 The example; texts of bends.
-/
import Derived.Test.YtnnbdielbgljaaaDoorKB
import Derived.Test.YtnnbdielbgljaaaDoorKC
set_option linter.unusedVariables false
set_option linter.unusedSimpArgs false
/-
 Small things of the chapter: the example, small shapes, equal shapes.
-/
namespace Go.Vm
open Go.Proofs
set_option maxRecDepth 100000
theorem wO : Zv ()=some (true,()):=by kernel_rfl
attribute [local irreducible] ab
theorem FY (N : Int) (E : List Arc) (A : List (List Int)) : ∃ b,Zar ((N,E,A,()),())=some (b,())∧(b=true→E.length≤100∧A.length≤100):=by
 unfold Zar
 dsimp only
 by_cases h1 : E.length≤100
 ·rw [dC (by omega),cond_false]
  by_cases h2 : A.length≤100
  ·rw [dC (by omega),cond_false]
   have h:=jj (B:=oU) (fun (_ : Unit) i=>(N,E,A,(i : Int),())) (fun _=>.inr (.inl ())) (fun (_ : Unit)=>.inl (false,()))
    (fun _ (_ : Unit) (l : List Int)=>some (cond (gtI (l.length : Nat) 100) (.inr ()) (.inl ()))) A (by
     intro _ i l hl
     have hi : i < A.length:=(List.getElem?_eq_some_iff.1 hl).1
     unfold oU
     simp only
     rw [aL (by omega),cond_true,ae,hl,Option.bind_some,Option.bind_some]
     cases gtI (l.length : Nat) 100 with
     | true=>rfl
     | false=>rw [cond_false,bh (by omega)]; rfl) (by
     intro _
     unfold oU
     simp only
     rw [aI (by omega)]; rfl) ()
   unfold zi
   rw [show ((0 : Int))=((0 : Nat) : Int) from rfl,h]
   have hf : ∀ (A : List (List Int)) (i : Nat),aA (fun _ (_ : Unit) (l : List Int)=>some (cond (gtI (l.length : Nat) 100) (.inr ()) (.inl ()) : Unit⊕Unit)) i () A=some (cond (A.any fun l=>gtI (l.length : Nat) 100) (.inr ()) (.inl ())):=by
    intro A
    induction A with
    | nil=>intro i; rfl
    | cons l A ih =>
     intro i
     simp only [aA,Option.bind_some,List.any_cons]
     cases gtI (l.length : Nat) 100 with
     | true=>rfl
     | false=>simp only [cond_false,Sum.elim_inl,Bool.false_or]; exact ih (i+1)
   rw [hf]
   cases A.any fun l=>gtI (l.length : Nat) 100 with
   | true=>exact ⟨false,rfl,fun h=>by cases h⟩
   | false=>exact ⟨true,rfl,fun _=>⟨h1,h2⟩⟩
  ·rw [eA (by omega)]; exact ⟨false,rfl,fun h=>by cases h⟩
 ·rw [eA (by omega)]; exact ⟨false,rfl,fun h=>by cases h⟩
theorem rm (N : Int) (E : List Arc) (A : List (List Int)) (g : List Int) (o : Int) : ∀ (q p : List ByteArray) (n : Int),(p++q).length≤1000000→∃ m,vG (N,E,A,g,p++q,o,n,(p.length : Nat),())=some (.inl (m,()))
 | [],p,n,h=>⟨n,by
  refine aj ?_
  unfold n7
  simp only
  rw [aI (by simp)]; rfl⟩
 | s :: q,p,n,h=>by
  obtain ⟨m,hm⟩:=rm N E A g o q (p++[s]) (ak .i64 n (s.size : Nat)) (by simpa using h)
  have hm : ab n7 _=_:=hm
  refine ⟨m,(ax ?_).trans (by simpa using hm)⟩
  have h' : p.length+(q.length+1)≤1000000:=by simpa using h
  unfold n7
  simp only
  rw [aL (by simp; omega),cond_true,ae,List.getElem?_append_right (Nat.le_refl _),Nat.sub_self,List.getElem?_cons_zero,Option.bind_some,bh (by omega)]
  simp
theorem GS (N : Int) (E : List Arc) (A : List (List Int)) (g : List Int) (B : List ByteArray) (o : Int) : ∃ b,Zat (((N,E,A,()),g,B,o,()),())=some (b,())∧(b=true→E.length≤100∧A.length≤100):=by
 obtain ⟨b,h1,h2⟩:=FY N E A
 unfold Zat
 simp only
 rw [h1,Option.bind_some]
 cases b with
 | false=>exact ⟨false,rfl,fun h=>by cases h⟩
 | true =>
  simp only [Bool.not_true,cond_false]
  by_cases hg : g.length≤200
  ·rw [dC (by omega),cond_false]
   by_cases hB : B.length≤200
   ·rw [dC (by omega),cond_false]
    obtain ⟨m,hm⟩:=rm N E A g o B [] 0 (by simp; omega)
    rw [show vG (N,E,A,g,B,o,0,0,())=_ from hm]
    exact ⟨leI m 400,rfl,fun _=>h2 rfl⟩
   ·rw [eA (by omega)]; exact ⟨false,rfl,fun h=>by cases h⟩
  ·rw [eA (by omega)]; exact ⟨false,rfl,fun h=>by cases h⟩
theorem pP (N : Int) (E : List Arc) (A : List (List Int)) (v : Nat) (l : List Int) (hv : A[v]?=some l) : ∀ (q p : List Int),p++q=l→l.length≤1000000 →
  Cf (N,E,A,N,E,A,(v : Int),(p.length : Nat),())=some (.inr (.inl (N,E,A,N,E,A,(v : Int),())))
 | [],p,h,hl=>by
  subst h
  refine aj ?_
  unfold tN
  simp only
  rw [ae,hv,Option.bind_some,aI (by simp)]; rfl
 | x :: q,p,h,hl=>by
  have ih:=pP N E A v l hv q (p++[x]) (by simpa using h) hl
  have hx : l[p.length]?=some x:=by rw [← h,List.getElem?_append_right (Nat.le_refl _),Nat.sub_self]; rfl
  have hp : p.length < l.length:=(List.getElem?_eq_some_iff.1 hx).1
  have ih : ab tN _=_:=ih
  refine (ax ?_).trans (by simpa using ih)
  unfold tN
  simp only
  rw [ae,hv,Option.bind_some,aL (by omega),cond_true,Option.bind_some,ae,hx]
  simp only [Option.bind_some]
  rw [ae,hx,Option.bind_some,bo rfl,cond_false,bh (by omega)]
  simp
theorem zP (N : Int) (E : List Arc) (A : List (List Int)) (hE : E.length≤1000000) (hA : A.length≤1000000) (hl : ∀ l∈A,l.length≤1000000) : Zw ((N,E,A,()),(N,E,A,()),())=some (true,()):=by
 unfold Zw
 simp only
 rw [zb N E A hE hA hl,Option.bind_some]
 simp only [Bool.not_true,cond_false]
 have h:=jj (B:=uw) (fun (_ : Unit) i=>(N,E,A,N,E,A,(i : Int),())) (fun _=>.inr (.inl ())) (fun (_ : Unit)=>.inl (false,()))
  (fun _ (_ : Unit) (l : List Int)=>some (.inl ())) A (by
   intro _ i l hl'
   have hi : i < A.length:=(List.getElem?_eq_some_iff.1 hl').1
   unfold uw
   simp only
   rw [aL (by omega),cond_true,show Cf (N,E,A,N,E,A,(i : Int),0,())=_ from pP N E A i l hl' l [] rfl (hl l (List.mem_of_getElem? hl'))]
   simp only [Option.bind_some,Sum.elim_inr,Sum.elim_inl]
   rw [bh (by omega)]) (by
   intro _
   unfold uw
   simp only
   rw [aI (by omega)]; rfl) ()
 have hf : ∀ (A : List (List Int)) (i : Nat),aA (fun _ (_ : Unit) (l : List Int)=>some (.inl () : Unit⊕Unit)) i () A=some (.inl ()):=by
  intro A
  induction A with
  | nil=>intro i; rfl
  | cons l A ih=>intro i; exact ih (i+1)
 rw [hf] at h
 rw [show Gm (N,E,A,N,E,A,0,())=_ from h]
 rfl
theorem xv (N : Int) (E : List Arc) (A : List (List Int)) (g : List Int) (B : List ByteArray) (o : Int) (hE : E.length≤1000000) (hA : A.length≤1000000) (hl : ∀ l∈A,l.length≤1000000) (hg : g.length≤1000000000) (hB : B.length≤1000000000) :
  Zah (((N,E,A,()),g,B,o,()),((N,E,A,()),g,B,o,()),())=some (true,()):=by
 unfold Zah
 simp only
 rw [zP N E A hE hA hl,Option.bind_some]
 simp only [Bool.not_true,cond_false]
 rw [bo rfl,bo rfl,bo rfl]
 simp only [cond_false]
 have h1:=jj (B:=ny) (fun (_ : Unit) i=>(N,E,A,g,B,o,N,E,A,g,B,o,(i : Int),())) (fun _=>.inr (.inl (N,E,A,g,B,o,N,E,A,g,B,o,()))) (fun (_ : Unit)=>.inl (false,()))
  (fun _ (_ : Unit) (l : Int)=>some (.inl ())) g (by
   intro _ i l hl'
   have hi : i < g.length:=(List.getElem?_eq_some_iff.1 hl').1
   unfold ny
   simp only
   rw [aL (by omega),cond_true,ae,hl',Option.bind_some,Option.bind_some,bo rfl,cond_false,bh (by omega)]; rfl) (by
   intro _
   unfold ny
   simp only
   rw [aI (by omega)]; rfl) ()
 have h2:=jj (B:=oI) (fun (_ : Unit) i=>(N,E,A,g,B,o,N,E,A,g,B,o,(i : Int),())) (fun _=>.inr (.inl ())) (fun (_ : Unit)=>.inl (false,()))
  (fun _ (_ : Unit) (l : ByteArray)=>some (.inl ())) B (by
   intro _ i l hl'
   have hi : i < B.length:=(List.getElem?_eq_some_iff.1 hl').1
   unfold oI
   simp only
   rw [aL (by omega),cond_true,ae,hl',Option.bind_some,Option.bind_some,show neS l l=false by simp [neS],cond_false,bh (by omega)]; rfl) (by
   intro _
   unfold oI
   simp only
   rw [aI (by omega)]; rfl) ()
 have hf : ∀ {α : Type} (A : List α) (i : Nat),aA (fun _ (_ : Unit) (l : α)=>some (.inl () : Unit⊕Unit)) i () A=some (.inl ()):=by
  intro α A
  induction A with
  | nil=>intro i; rfl
  | cons l A ih=>intro i; exact ih (i+1)
 rw [hf] at h1 h2
 rw [show Aw (N,E,A,g,B,o,N,E,A,g,B,o,0,())=_ from h1]
 simp only [Option.bind_some,Sum.elim_inr,Sum.elim_inl]
 rw [show Bn (N,E,A,g,B,o,N,E,A,g,B,o,0,())=_ from h2]
 rfl
end Go.Vm

/-
 Straighten: the chains that replace the edges, in the program and in the reference.
-/
namespace Go.Vm
open Go.Proofs
set_option maxRecDepth 100000
attribute [local irreducible] ab
def evL : Nat→Nat→List Int
 | _,0=>[]
 | m,r+1=>((2 * m : Nat) : Int) :: evL (m+1) r
def frL : Nat→Nat→List (List Int)
 | _,0=>[]
 | m,r+1=>[((2 * m+1 : Nat) : Int),((2 * m+2 : Nat) : Int)] :: frL (m+1) r
def chP : Int→Nat→Nat→List Arc
 | _,_,0=>[]
 | p,n,r+1=>(p,(n : Int),()) :: chP (n : Int) (n+1) r
def P7 : Int→Nat→Nat→Int
 | p,_,0=>p
 | _,n,r+1=>P7 (n : Int) (n+1) r
theorem J7 {n : Nat} (h : n≤4000000000) : aX .i64 2 (n : Int)=((2 * n : Nat) : Int):=by rw [fN (by omega) (by omega)]; omega
theorem Kk {a b : Nat} (h : a+b≤9000000000) : ak .i64 (a : Int) (b : Int)=((a+b : Nat) : Int):=by rw [cG (by omega) (by omega)]; omega
def CB (c : Int) : Int:=if c=82 then 3 else 1
def raL (q : List Int) (g0 : Int) : List Int→List Int
 | []=>q
 | c :: l=>raL (q++[g0,CB c]) (4 - CB c) l
def P8 : List Int→List Int
 | []=>[]
 | c :: l=>CB c :: (4 - CB c) :: P8 l
end Go.Vm


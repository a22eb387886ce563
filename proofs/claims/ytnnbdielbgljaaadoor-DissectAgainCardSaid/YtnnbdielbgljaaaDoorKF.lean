/-
 The example; texts of bends.
-/
import Derived.Test.YtnnbdielbgljaaaDoorKB
import Derived.Test.YtnnbdielbgljaaaDoorKC
set_option linter.unusedVariables false
set_option linter.unusedSimpArgs false
/-
 Small things of the chapter: the example, small shapes, equal shapes.
-/
namespace Go.Vm
open Go.Proofs
set_option maxRecDepth 100000
theorem uR : Zz ()=some (true,()):=by kernel_rfl
attribute [local irreducible] ab
theorem CO (N : Int) (E : List Arc) (A : List (List Int)) : ∃ b,Zar ((N,E,A,()),())=some (b,())∧(b=true→E.length≤100∧A.length≤100):=by
 unfold Zar
 dsimp only
 by_cases h1 : E.length≤100
 ·rw [c7 (by omega),cond_false]
  by_cases h2 : A.length≤100
  ·rw [c7 (by omega),cond_false]
   have h:=mF (B:=sb) (fun (_ : Unit) i=>(N,E,A,(i : Int),())) (fun _=>.inr (.inl ())) (fun (_ : Unit)=>.inl (false,()))
    (fun _ (_ : Unit) (l : List Int)=>some (cond (gtI (l.length : Nat) 100) (.inr ()) (.inl ()))) A (by
     intro _ i l hl
     have hi : i < A.length:=(List.getElem?_eq_some_iff.1 hl).1
     unfold sb
     simp only
     rw [aB (by omega),cond_true,af,hl,Option.bind_some,Option.bind_some]
     cases gtI (l.length : Nat) 100 with
     | true=>rfl
     | false=>rw [cond_false,a9 (by omega)]; rfl) (by
     intro _
     unfold sb
     simp only
     rw [aA (by omega)]; rfl) ()
   unfold xD
   rw [show ((0 : Int))=((0 : Nat) : Int) from rfl,h]
   have hf : ∀ (A : List (List Int)) (i : Nat),aw (fun _ (_ : Unit) (l : List Int)=>some (cond (gtI (l.length : Nat) 100) (.inr ()) (.inl ()) : Unit⊕Unit)) i () A=some (cond (A.any fun l=>gtI (l.length : Nat) 100) (.inr ()) (.inl ())):=by
    intro A
    induction A with
    | nil=>intro i; rfl
    | cons l A ih =>
     intro i
     simp only [aw,Option.bind_some,List.any_cons]
     cases gtI (l.length : Nat) 100 with
     | true=>rfl
     | false=>simp only [cond_false,Sum.elim_inl,Bool.false_or]; exact ih (i+1)
   rw [hf]
   cases A.any fun l=>gtI (l.length : Nat) 100 with
   | true=>exact ⟨false,rfl,fun h=>by cases h⟩
   | false=>exact ⟨true,rfl,fun _=>⟨h1,h2⟩⟩
  ·rw [d7 (by omega)]; exact ⟨false,rfl,fun h=>by cases h⟩
 ·rw [d7 (by omega)]; exact ⟨false,rfl,fun h=>by cases h⟩
theorem pQ (N : Int) (E : List Arc) (A : List (List Int)) (g : List Int) (o : Int) : ∀ (q p : List ByteArray) (n : Int),(p++q).length≤1000000→∃ m,vm (N,E,A,g,p++q,o,n,(p.length : Nat),())=some (.inl (m,()))
 | [],p,n,h=>⟨n,by
  refine ac ?_
  unfold rR
  simp only
  rw [aA (by simp)]; rfl⟩
 | s :: q,p,n,h=>by
  obtain ⟨m,hm⟩:=pQ N E A g o q (p++[s]) (ae .i64 n (s.size : Nat)) (by simpa using h)
  have hm : ab rR _=_:=hm
  refine ⟨m,(ao ?_).trans (by simpa using hm)⟩
  have h' : p.length+(q.length+1)≤1000000:=by simpa using h
  unfold rR
  simp only
  rw [aB (by simp; omega),cond_true,af,List.getElem?_append_right (Nat.le_refl _),Nat.sub_self,List.getElem?_cons_zero,Option.bind_some,a9 (by omega)]
  simp
theorem Ch (N : Int) (E : List Arc) (A : List (List Int)) (g : List Int) (B : List ByteArray) (o : Int) : ∃ b,Zat (((N,E,A,()),g,B,o,()),())=some (b,())∧(b=true→E.length≤100∧A.length≤100):=by
 obtain ⟨b,h1,h2⟩:=CO N E A
 unfold Zat
 simp only
 rw [h1,Option.bind_some]
 cases b with
 | false=>exact ⟨false,rfl,fun h=>by cases h⟩
 | true =>
  simp only [Bool.not_true,cond_false]
  by_cases hg : g.length≤200
  ·rw [c7 (by omega),cond_false]
   by_cases hB : B.length≤200
   ·rw [c7 (by omega),cond_false]
    obtain ⟨m,hm⟩:=pQ N E A g o B [] 0 (by simp; omega)
    rw [show vm (N,E,A,g,B,o,0,0,())=_ from hm]
    exact ⟨leI m 400,rfl,fun _=>h2 rfl⟩
   ·rw [d7 (by omega)]; exact ⟨false,rfl,fun h=>by cases h⟩
  ·rw [d7 (by omega)]; exact ⟨false,rfl,fun h=>by cases h⟩
end Go.Vm

/-
 Straighten: the chains that replace the edges, in the program and in the reference.
-/
namespace Go.Vm
open Go.Proofs
set_option maxRecDepth 100000
attribute [local irreducible] ab
def evL : Nat→Nat→List Int
 | _,0=>[]
 | m,r+1=>((2 * m : Nat) : Int) :: evL (m+1) r
def frL : Nat→Nat→List (List Int)
 | _,0=>[]
 | m,r+1=>[((2 * m+1 : Nat) : Int),((2 * m+2 : Nat) : Int)] :: frL (m+1) r
def chP : Int→Nat→Nat→List Arc
 | _,_,0=>[]
 | p,n,r+1=>(p,(n : Int),()) :: chP (n : Int) (n+1) r
def G4 : Int→Nat→Nat→Int
 | p,_,0=>p
 | _,n,r+1=>G4 (n : Int) (n+1) r
theorem Eb {n : Nat} (h : n≤4000000000) : aQ .i64 2 (n : Int)=((2 * n : Nat) : Int):=by rw [fV (by omega) (by omega)]; omega
theorem EU {a b : Nat} (h : a+b≤9000000000) : ae .i64 (a : Int) (b : Int)=((a+b : Nat) : Int):=by rw [cu (by omega) (by omega)]; omega
def zk (c : Int) : Int:=if c=82 then 3 else 1
def raL (q : List Int) (g0 : Int) : List Int→List Int
 | []=>q
 | c :: l=>raL (q++[g0,zk c]) (4 - zk c) l
def G5 : List Int→List Int
 | []=>[]
 | c :: l=>zk c :: (4 - zk c) :: G5 l
end Go.Vm


/-
 Small things of the chapter: the example, small shapes, equal shapes.
-/
import Derived.Test.YtnnbdielbgljaaaDoorP33S
import Derived.Test.YtnnbdielbgljaaaDoorP39C
set_option linter.unusedVariables false
set_option linter.unusedSimpArgs false
namespace Go.Vm
open Go.Proofs
set_option maxRecDepth 100000
theorem awake41_true : Zs ()=some (true,()):=by kernel_rfl
attribute [local irreducible] loopFix
theorem few29_eq (N : Int) (E : List Arc) (A : List (List Int)) : ∃ b,Zaq ((N,E,A,()),())=some (b,())∧(b=true→E.length≤100∧A.length≤100):=by
 unfold Zaq
 dsimp only
 by_cases h1 : E.length≤100
 ·rw [gtI_f (by omega),cond_false]
  by_cases h2 : A.length≤100
  ·rw [gtI_f (by omega),cond_false]
   have h:=scan (B:=Zaq_B4) (fun (_ : Unit) i=>(N,E,A,(i : Int),())) (fun _=>.inr (.inl ())) (fun (_ : Unit)=>.inl (false,()))
    (fun _ (_ : Unit) (l : List Int)=>some (cond (gtI (l.length : Nat) 100) (.inr ()) (.inl ()))) A (by
     intro _ i l hl
     have hi : i < A.length:=(List.getElem?_eq_some_iff.1 hl).1
     unfold Zaq_B4
     simp only
     rw [ltI_t (by omega),cond_true,getI_of,hl,Option.bind_some,Option.bind_some]
     cases gtI (l.length : Nat) 100 with
     | true=>rfl
     | false=>rw [cond_false,add1 (by omega)]; rfl) (by
     intro _
     unfold Zaq_B4
     simp only
     rw [ltI_f (by omega)]; rfl) ()
   unfold Zaq_L4
   rw [show ((0 : Int))=((0 : Nat) : Int) from rfl,h]
   have hf : ∀ (A : List (List Int)) (i : Nat),foldE (fun _ (_ : Unit) (l : List Int)=>some (cond (gtI (l.length : Nat) 100) (.inr ()) (.inl ()) : Unit⊕Unit)) i () A=some (cond (A.any fun l=>gtI (l.length : Nat) 100) (.inr ()) (.inl ())):=by
    intro A
    induction A with
    | nil=>intro i; rfl
    | cons l A ih =>
     intro i
     simp only [foldE,Option.bind_some,List.any_cons]
     cases gtI (l.length : Nat) 100 with
     | true=>rfl
     | false=>simp only [cond_false,Sum.elim_inl,Bool.false_or]; exact ih (i+1)
   rw [hf]
   cases A.any fun l=>gtI (l.length : Nat) 100 with
   | true=>exact ⟨false,rfl,fun h=>by cases h⟩
   | false=>exact ⟨true,rfl,fun _=>⟨h1,h2⟩⟩
  ·rw [gtI_t (by omega)]; exact ⟨false,rfl,fun h=>by cases h⟩
 ·rw [gtI_t (by omega)]; exact ⟨false,rfl,fun h=>by cases h⟩
theorem few41_loop (N : Int) (E : List Arc) (A : List (List Int)) (g : List Int) (o : Int) : ∀ (q p : List ByteArray) (n : Int),(p++q).length≤1000000→∃ m,Zao_L5 (N,E,A,g,p++q,o,n,(p.length : Nat),())=some (.inl (m,()))
 | [],p,n,h=>⟨n,by
  refine loop_done ?_
  unfold Zao_B5
  simp only
  rw [ltI_f (by simp)]; rfl⟩
 | s :: q,p,n,h=>by
  obtain ⟨m,hm⟩:=few41_loop N E A g o q (p++[s]) (addI .i64 n (s.size : Nat)) (by simpa using h)
  have hm : loopFix Zao_B5 _=_:=hm
  refine ⟨m,(loop_step ?_).trans (by simpa using hm)⟩
  have h' : p.length+(q.length+1)≤1000000:=by simpa using h
  unfold Zao_B5
  simp only
  rw [ltI_t (by simp; omega),cond_true,getI_of,List.getElem?_append_right (Nat.le_refl _),Nat.sub_self,List.getElem?_cons_zero,Option.bind_some,add1 (by omega)]
  simp
theorem few41_eq (N : Int) (E : List Arc) (A : List (List Int)) (g : List Int) (B : List ByteArray) (o : Int) : ∃ b,Zao (((N,E,A,()),g,B,o,()),())=some (b,())∧(b=true→E.length≤100∧A.length≤100):=by
 obtain ⟨b,h1,h2⟩:=few29_eq N E A
 unfold Zao
 simp only
 rw [h1,Option.bind_some]
 cases b with
 | false=>exact ⟨false,rfl,fun h=>by cases h⟩
 | true =>
  simp only [Bool.not_true,cond_false]
  by_cases hg : g.length≤200
  ·rw [gtI_f (by omega),cond_false]
   by_cases hB : B.length≤200
   ·rw [gtI_f (by omega),cond_false]
    obtain ⟨m,hm⟩:=few41_loop N E A g o B [] 0 (by simp; omega)
    rw [show Zao_L5 (N,E,A,g,B,o,0,0,())=_ from hm]
    exact ⟨leI m 400,rfl,fun _=>h2 rfl⟩
   ·rw [gtI_t (by omega)]; exact ⟨false,rfl,fun h=>by cases h⟩
  ·rw [gtI_t (by omega)]; exact ⟨false,rfl,fun h=>by cases h⟩
theorem exact_inner (N : Int) (E : List Arc) (A : List (List Int)) (v : Nat) (l : List Int) (hv : A[v]?=some l) : ∀ (q p : List Int),p++q=l→l.length≤1000000 →
  Zu_L7 (N,E,A,N,E,A,(v : Int),(p.length : Nat),())=some (.inr (.inl (N,E,A,N,E,A,(v : Int),())))
 | [],p,h,hl=>by
  subst h
  refine loop_done ?_
  unfold Zu_B7
  simp only
  rw [getI_of,hv,Option.bind_some,ltI_f (by simp)]; rfl
 | x :: q,p,h,hl=>by
  have ih:=exact_inner N E A v l hv q (p++[x]) (by simpa using h) hl
  have hx : l[p.length]?=some x:=by rw [← h,List.getElem?_append_right (Nat.le_refl _),Nat.sub_self]; rfl
  have hp : p.length < l.length:=(List.getElem?_eq_some_iff.1 hx).1
  have ih : loopFix Zu_B7 _=_:=ih
  refine (loop_step ?_).trans (by simpa using ih)
  unfold Zu_B7
  simp only
  rw [getI_of,hv,Option.bind_some,ltI_t (by omega),cond_true,Option.bind_some,getI_of,hx]
  simp only [Option.bind_some]
  rw [getI_of,hx,Option.bind_some,neI_f rfl,cond_false,add1 (by omega)]
  simp
theorem exact_refl (N : Int) (E : List Arc) (A : List (List Int)) (hE : E.length≤1000000) (hA : A.length≤1000000) (hl : ∀ l∈A,l.length≤1000000) : Zu ((N,E,A,()),(N,E,A,()),())=some (true,()):=by
 unfold Zu
 simp only
 rw [same29_refl N E A hE hA hl,Option.bind_some]
 simp only [Bool.not_true,cond_false]
 have h:=scan (B:=Zu_B4) (fun (_ : Unit) i=>(N,E,A,N,E,A,(i : Int),())) (fun _=>.inr (.inl ())) (fun (_ : Unit)=>.inl (false,()))
  (fun _ (_ : Unit) (l : List Int)=>some (.inl ())) A (by
   intro _ i l hl'
   have hi : i < A.length:=(List.getElem?_eq_some_iff.1 hl').1
   unfold Zu_B4
   simp only
   rw [ltI_t (by omega),cond_true,show Zu_L7 (N,E,A,N,E,A,(i : Int),0,())=_ from exact_inner N E A i l hl' l [] rfl (hl l (List.mem_of_getElem? hl'))]
   simp only [Option.bind_some,Sum.elim_inr,Sum.elim_inl]
   rw [add1 (by omega)]) (by
   intro _
   unfold Zu_B4
   simp only
   rw [ltI_f (by omega)]; rfl) ()
 have hf : ∀ (A : List (List Int)) (i : Nat),foldE (fun _ (_ : Unit) (l : List Int)=>some (.inl () : Unit⊕Unit)) i () A=some (.inl ()):=by
  intro A
  induction A with
  | nil=>intro i; rfl
  | cons l A ih=>intro i; exact ih (i+1)
 rw [hf] at h
 rw [show Zu_L4 (N,E,A,N,E,A,0,())=_ from h]
 rfl
theorem same41_refl (N : Int) (E : List Arc) (A : List (List Int)) (g : List Int) (B : List ByteArray) (o : Int) (hE : E.length≤1000000) (hA : A.length≤1000000) (hl : ∀ l∈A,l.length≤1000000) (hg : g.length≤1000000000) (hB : B.length≤1000000000) :
  Zam (((N,E,A,()),g,B,o,()),((N,E,A,()),g,B,o,()),())=some (true,()):=by
 unfold Zam
 simp only
 rw [exact_refl N E A hE hA hl,Option.bind_some]
 simp only [Bool.not_true,cond_false]
 rw [neI_f rfl,neI_f rfl,neI_f rfl]
 simp only [cond_false]
 have h1:=scan (B:=Zam_B4) (fun (_ : Unit) i=>(N,E,A,g,B,o,N,E,A,g,B,o,(i : Int),())) (fun _=>.inr (.inl (N,E,A,g,B,o,N,E,A,g,B,o,()))) (fun (_ : Unit)=>.inl (false,()))
  (fun _ (_ : Unit) (l : Int)=>some (.inl ())) g (by
   intro _ i l hl'
   have hi : i < g.length:=(List.getElem?_eq_some_iff.1 hl').1
   unfold Zam_B4
   simp only
   rw [ltI_t (by omega),cond_true,getI_of,hl',Option.bind_some,Option.bind_some,neI_f rfl,cond_false,add1 (by omega)]; rfl) (by
   intro _
   unfold Zam_B4
   simp only
   rw [ltI_f (by omega)]; rfl) ()
 have h2:=scan (B:=Zam_B9) (fun (_ : Unit) i=>(N,E,A,g,B,o,N,E,A,g,B,o,(i : Int),())) (fun _=>.inr (.inl ())) (fun (_ : Unit)=>.inl (false,()))
  (fun _ (_ : Unit) (l : ByteArray)=>some (.inl ())) B (by
   intro _ i l hl'
   have hi : i < B.length:=(List.getElem?_eq_some_iff.1 hl').1
   unfold Zam_B9
   simp only
   rw [ltI_t (by omega),cond_true,getI_of,hl',Option.bind_some,Option.bind_some,show neS l l=false by simp [neS],cond_false,add1 (by omega)]; rfl) (by
   intro _
   unfold Zam_B9
   simp only
   rw [ltI_f (by omega)]; rfl) ()
 have hf : ∀ {α : Type} (A : List α) (i : Nat),foldE (fun _ (_ : Unit) (l : α)=>some (.inl () : Unit⊕Unit)) i () A=some (.inl ()):=by
  intro α A
  induction A with
  | nil=>intro i; rfl
  | cons l A ih=>intro i; exact ih (i+1)
 rw [hf] at h1 h2
 rw [show Zam_L4 (N,E,A,g,B,o,N,E,A,g,B,o,0,())=_ from h1]
 simp only [Option.bind_some,Sum.elim_inr,Sum.elim_inl]
 rw [show Zam_L9 (N,E,A,g,B,o,N,E,A,g,B,o,0,())=_ from h2]
 rfl
end Go.Vm

/-
 The program checks a rotation system.
-/
import Derived.Test.YtnnbdielbgljaaaDoorD41
import Derived.Test.YtnnbdielbgljaaaDoorVmD
import Derived.Test.YtnnbdielbgljaaaDoorVmD
import Derived.KernelRfl
set_option linter.unusedVariables false
set_option linter.unusedSimpArgs false
namespace Go.Vm
open Go.Proofs
set_option maxRecDepth 100000
attribute [local irreducible] loopFix
abbrev Arc:=Int×(Int×Unit)
abbrev Rot:=Int×(List Arc×(List (List Int)×Unit))
def tl (E : List Arc) (d : Nat) : Int:=match E[d / 2]? with
 | some a=>if d % 2=0 then a.1 else a.2.1
 | none=>0
theorem tail_eq (a : Arc) (k : Nat) : Zbh (a,((k : Int),()))=some (if k=0 then a.1 else a.2.1,()):=by
 unfold Zbh
 by_cases h : k=0
 ·subst h; simp [eqI]
 ·simp only
  rw [eqI_f (by omega),if_neg h]; rfl
def edgeBad (N : Int) (a : Arc) : Bool:=ltI a.1 0 || geI a.1 N || ltI a.2.1 0 || geI a.2.1 N || eqI a.1 a.2.1
def edgeStep (N : Int) (_ : Nat) (_ : Unit) (a : Arc) : Option (Unit⊕Unit):=some (cond (edgeBad N a) (.inr ()) (.inl ()))
def valStep (E : List Arc) (v : Nat) (_ : Nat) (s : List Bool×Int) (d : Int) : Option ((List Bool×Int)⊕Unit) :=
 if 0≤d∧d < s.1.length∧s.1[d.toNat]?=some false∧tl E d.toNat=v then some (.inl (s.1.set d.toNat true,addI .i64 s.2 1)) else some (.inr ())
def valList (E : List Arc) (v : Nat) (s : List Bool×Int) (l : List Int) : Option ((List Bool×Int)⊕Unit):=foldE (valStep E v) 0 s l
def valAll (E : List Arc) (A : List (List Int)) : Option ((List Bool×Int)⊕Unit):=foldE (fun v s l=>valList E v s l) 0 (List.replicate (2 * E.length) false,0) A
def validB (r : Rot) : Bool :=
 !(ltI r.1 0) && !(gtI r.1 16384) && !(gtI (r.2.1.length : Nat) 32768) && !(neI (r.2.2.1.length : Nat) r.1) && !(r.2.1.any (edgeBad r.1)) &&
  (match valAll r.2.1 r.2.2.1 with
  | some (.inl s)=>eqI s.2 (s.1.length : Nat)
  | _=>false)
theorem edge_fold (N : Int) : ∀ (E : List Arc) (i : Nat),foldE (edgeStep N) i () E=some (cond (E.any (edgeBad N)) (.inr ()) (.inl ()))
 | [],_=>rfl
 | a :: E,i=>by
  simp only [foldE,edgeStep,Option.bind_some,List.any_cons]
  cases edgeBad N a with
  | true=>rfl
  | false=>exact edge_fold N E (i+1)
theorem valStep_len {E : List Arc} {v : Nat} {i : Nat} {s t : List Bool×Int} {d : Int} (h : valStep E v i s d=some (.inl t)) : t.1.length=s.1.length:=by
 unfold valStep at h
 split at h
 ·cases h; simp
 ·cases h
theorem val_inner (N : Int) (E : List Arc) (A A' : List (List Int)) (c : Int) (v : Nat) (l : List Int) (hE : E.length≤32768) (hl : l.length≤9223372036854775807) (met : List Bool) (n : Int) (hm : met.length=2 * E.length) :
  Zau_L15 (N,E,A,met,n,(v : Int),A',c,(v : Int),l,(l.length : Nat),0,()) =
   (valList E v (met,n) l).bind (Sum.elim (fun t=>some (.inr (.inl (N,E,A,t.1,t.2,A',c,(v : Int),())))) (fun _=>some (.inl (false,())))):=by
 refine scanI (B:=Zau_B15) (fun _ s=>s.1.length=2 * E.length) (fun s i=>(N,E,A,s.1,s.2,(v : Int),A',c,(v : Int),l,((l.length : Nat) : Int),(i : Int),()))
  (fun s=>.inr (.inl (N,E,A,s.1,s.2,A',c,(v : Int),()))) (fun _=>.inl (false,())) (valStep E v) l ?_ ?_ ?_ (met,n) hm
 ·rintro ⟨met,n⟩ i d hs hd
  have hi : i < l.length:=(List.getElem?_eq_some_iff.1 hd).1
  simp only at hs
  simp only [Zau_B15]
  rw [ltI_t (by omega),cond_true,getI_of,hd,Option.bind_some]
  unfold valStep
  by_cases h0 : 0≤d
  ·rw [ltI_f h0,cond_false]
   by_cases h1 : d < met.length
   ·obtain ⟨k,rfl⟩ : ∃ k : Nat,d=k:=⟨d.toNat,by omega⟩
    have hk : k < met.length:=by omega
    rw [geI_f h1,cond_false,idxI_of hk,Option.bind_some]
    obtain ⟨b,hb⟩ : ∃ b,met[k]?=some b:=⟨_,List.getElem?_eq_getElem hk⟩
    simp only [hb,Option.bind_some,Int.toNat_natCast]
    cases b with
    | true=>simp
    | false =>
     have hke : k / 2 < E.length:=by omega
     obtain ⟨a,ha⟩ : ∃ a,E[k / 2]?=some a:=⟨_,List.getElem?_eq_getElem hke⟩
     rw [cond_false,quo2 (by omega),getI_of,ha,Option.bind_some,rem2,tail_eq,Option.bind_some]
     have ht : tl E k=if k % 2=0 then a.1 else a.2.1:=by simp [tl,ha]
     rw [← ht]
     simp only
     by_cases hv : tl E k=v
     ·rw [neI_f hv,cond_false,hv,if_pos ⟨by omega,by omega,trivial,rfl⟩,add1 (by omega)]
      rfl
     ·rw [neI_t hv,cond_true,if_neg (by simp [hv])]
      rfl
   ·rw [geI_t (by omega),cond_true,if_neg (fun h=>h1 h.2.1)]
    rfl
  ·rw [ltI_t (by omega),cond_true,if_neg (fun h=>h0 h.1)]
   rfl
 ·rintro s i d t hs hd hg
  rw [valStep_len hg]; exact hs
 ·intro s hs
  simp only [Zau_B15]
  rw [ltI_f (by omega)]; rfl
theorem valList_len {E : List Arc} {v : Nat} {l : List Int} {s t : List Bool×Int} (h : valList E v s l=some (.inl t)) : t.1.length=s.1.length:=by
 have:=foldE_inv (I:=fun _ (u : List Bool×Int)=>u.1.length=s.1.length) (fun u j a t h1 _ h3=>by rw [valStep_len h3]; exact h1) rfl h
 exact this
theorem val_outer (N : Int) (E : List Arc) (A : List (List Int)) (hE : E.length≤32768) (hA : A.length≤32768) (hl : ∀ l∈A,l.length≤9223372036854775807) :
  Zau_L12 (N,E,A,List.replicate (2 * E.length) false,0,A,(A.length : Nat),0,()) =
   (valAll E A).bind (Sum.elim (fun t=>some (.inr (.inl (t.1,t.2,())))) (fun _=>some (.inl (false,())))):=by
 refine scanI (B:=Zau_B12) (fun _ s=>s.1.length=2 * E.length) (fun s i=>(N,E,A,s.1,s.2,A,((A.length : Nat) : Int),(i : Int),()))
  (fun s=>.inr (.inl (s.1,s.2,()))) (fun _=>.inl (false,())) (fun v s l=>valList E v s l) A ?_ ?_ ?_ (List.replicate (2 * E.length) false,0) (by simp)
 ·rintro ⟨met,n⟩ i l hs hd
  have hi : i < A.length:=(List.getElem?_eq_some_iff.1 hd).1
  simp only at hs
  simp only [Zau_B12]
  rw [ltI_t (by omega),cond_true,getI_of,hd,Option.bind_some,val_inner N E A A _ i l hE (hl l (List.mem_of_getElem? hd)) met n hs]
  cases valList E i (met,n) l with
  | none=>rfl
  | some x =>
   cases x with
   | inl t =>
    simp only [Option.bind_some,Sum.elim_inl,Sum.elim_inr]
    rw [add1 (by omega)]
   | inr e=>rfl
 ·rintro s i d t hs hd hg
  rw [valList_len hg]; exact hs
 ·intro s hs
  simp only [Zau_B12]
  rw [ltI_f (by omega)]; rfl
theorem edges_eq (N : Int) (E : List Arc) (A : List (List Int)) (hE : E.length≤32768) :
  Zau_L4 (N,E,A,E,(E.length : Nat),0,())=some (cond (E.any (edgeBad N)) (.inl (false,())) (.inr (.inl (N,E,A,())))):=by
 have:=scan (B:=Zau_B4) (fun (_ : Unit) i=>(N,E,A,E,((E.length : Nat) : Int),(i : Int),())) (fun _=>.inr (.inl (N,E,A,()))) (fun (_ : Unit)=>.inl (false,())) (edgeStep N) E (by
  intro s i a ha
  have hi : i < E.length:=(List.getElem?_eq_some_iff.1 ha).1
  simp only [Zau_B4]
  rw [ltI_t (by omega),cond_true,getI_of,ha,Option.bind_some,add1 (by omega)]
  simp only [edgeStep,edgeBad]
  cases ltI a.1 0 <;> cases geI a.1 N <;> cases ltI a.2.1 0 <;> cases geI a.2.1 N <;> cases eqI a.1 a.2.1 <;> rfl) (by
  intro s
  simp only [Zau_B4]
  rw [ltI_f (by omega)]; rfl) ()
 rw [edge_fold] at this
 show loopFix _ _=_
 refine this.trans ?_
 cases E.any (edgeBad N) <;> rfl
theorem valAll_some (E : List Arc) (A : List (List Int)) : ∃ x,valAll E A=some x:=by
 have one : ∀ v l i s,∃ x,foldE (valStep E v) i s l=some x:=by
  intro v l
  induction l with
  | nil=>intro i s; exact ⟨_,rfl⟩
  | cons d l ih =>
   intro i s
   simp only [foldE]
   unfold valStep
   split
   ·exact ih _ _
   ·exact ⟨_,rfl⟩
 have : ∀ A i s,∃ x,foldE (fun v s l=>valList E v s l) i s A=some x:=by
  intro A
  induction A with
  | nil=>intro i s; exact ⟨_,rfl⟩
  | cons l A ih =>
   intro i s
   simp only [foldE]
   obtain ⟨x,hx⟩:=one i l 0 s
   rw [show valList E i s l=some x from hx]
   cases x with
   | inl t=>exact ih _ _
   | inr e=>exact ⟨_,rfl⟩
 exact this A 0 _
theorem valid_eq (r : Rot) (hl : ∀ l∈r.2.2.1,l.length≤9223372036854775807) : Zau (r,())=some (validB r,()):=by
 obtain ⟨N,E,A,u⟩:=r
 unfold Zau validB
 simp only
 by_cases h0 : N < 0
 ·rw [ltI_t h0]; simp
 rw [ltI_f (by omega),cond_false]
 have g0 : getI [16384,32768] 0=some (16384 : Int):=by decide
 have g1 : getI [16384,32768] 1=some (32768 : Int):=by decide
 rw [g0,Option.bind_some]
 by_cases h1 : N > 16384
 ·rw [gtI_t h1]; simp
 rw [gtI_f (by omega),cond_false,g1,Option.bind_some]
 by_cases h2 : (E.length : Int) > 32768
 ·rw [gtI_t h2]; simp
 rw [gtI_f (by omega),cond_false]
 by_cases h3 : (A.length : Int)=N
 ·rw [neI_f h3,cond_false,edges_eq N E A (by omega),Option.bind_some]
  cases h4 : E.any (edgeBad N) with
  | true=>simp
  | false =>
   simp only [cond_false,Sum.elim_inr,Sum.elim_inl]
   have e2 : mulI .i64 2 (E.length : Nat)=((2 * E.length : Nat) : Int):=by rw [mulI64 (by omega) (by omega)]; omega
   rw [e2,makeL_of (Nat.le_refl _) (by omega),Option.bind_some]
   rw [show List.replicate (2 * E.length) (zeroVal Ty.bool)=List.replicate (2 * E.length) false from rfl,val_outer N E A (by omega) (by omega) hl]
   obtain ⟨x,hx⟩:=valAll_some E A
   rw [hx]
   cases x with
   | inl t=>simp
   | inr e=>simp
 ·rw [neI_t h3]; simp
end Go.Vm

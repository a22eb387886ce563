/-
 The reference checks a rotation system.
-/
import Derived.Test.YtnnbdielbgljaaaDoorP29A
set_option linter.unusedVariables false
set_option linter.unusedSimpArgs false
namespace Go.Vm
open Go.Proofs
set_option maxRecDepth 100000
attribute [local irreducible] loopFix
def tails (E : List Arc) : List Int:=E.flatMap fun a=>[a.1,a.2.1]
theorem tails_length : ∀ E : List Arc,(tails E).length=2 * E.length
 | []=>rfl
 | a :: E=>by
  have:=tails_length E
  simp only [tails,List.flatMap_cons,List.length_append,List.length_cons,List.length_nil] at this ⊢
  omega
theorem tails_get : ∀ (E : List Arc) (d : Nat),d < 2 * E.length→(tails E)[d]?=some (tl E d)
 | [],d,h=>by simp at h
 | a :: E,0,_=>rfl
 | a :: E,1,_=>rfl
 | a :: E,d+2,h=>by
  have:=tails_get E d (by simp at h; omega)
  have e1 : (tails (a :: E))[d+2]?=(tails E)[d]?:=rfl
  have e2 : tl (a :: E) (d+2)=tl E d:=by
   unfold tl
   have : (d+2) / 2=d / 2+1:=by omega
   rw [this,List.getElem?_cons_succ]
   have : (d+2) % 2=d % 2:=by omega
   rw [this]
  rw [e1,e2,this]
theorem tails_eq (N : Int) (E : List Arc) (A : List (List Int)) (u : Unit) (hE : E.length≤32768) : Zw ((N,E,A,u),())=some (tails E,()):=by
 have key:=scanI (B:=Zw_B3) (ε:=Empty) (fun i (s : List Int)=>s.length=2 * i) (fun s i=>(N,E,A,s,(i : Int),())) (fun s=>.inl (s,())) (fun e=>nomatch e)
  (fun _ s a=>some (.inl (s++[a.1,a.2.1]))) E (by
   intro s i a hs ha
   have hi : i < E.length:=(List.getElem?_eq_some_iff.1 ha).1
   simp only [Zw_B3]
   rw [ltI_t (by omega),cond_true,getI_of,ha,Option.bind_some,Option.bind_some,app_of (by simp; omega),Option.bind_some,add1 (by omega)]
   rfl) (by
   intro s i a t hs ha hg
   cases hg
   simp [hs]; omega) (by
   intro s hs
   simp only [Zw_B3]
   rw [ltI_f (by omega)]; rfl) [] rfl
 have hf : ∀ (l : List Arc) (i : Nat) (s : List Int),foldE (ε:=Empty) (fun _ (s : List Int) (a : Arc)=>some (.inl (s++[a.1,a.2.1]))) i s l=some (.inl (s++tails l)):=by
  intro l
  induction l with
  | nil=>intro i s; simp [foldE,tails]
  | cons a l ih =>
   intro i s
   simp only [foldE,Option.bind_some,Sum.elim_inl]
   rw [ih]
   simp [tails]
 rw [hf] at key
 unfold Zw
 simp only
 rw [show Zw_L3 (N,E,A,[],0,())=some (.inl (tails E,())) from key]
 rfl
theorem rval_inner (N : Int) (E : List Arc) (A : List (List Int)) (v : Nat) (l : List Int) (hA : A[v]?=some l) (hE : E.length≤32768) (hl : l.length≤9223372036854775807) (met : List Bool) (n : Int) (hm : met.length=2 * E.length) :
  Zaa_L16 (N,E,A,tails E,met,n,(v : Int),0,()) =
   (valList E v (met,n) l).bind (Sum.elim (fun t=>some (.inr (.inl (N,E,A,tails E,t.1,t.2,(v : Int),())))) (fun _=>some (.inl (false,())))):=by
 refine scanI (B:=Zaa_B16) (fun _ s=>s.1.length=2 * E.length) (fun s i=>(N,E,A,tails E,s.1,s.2,(v : Int),(i : Int),()))
  (fun s=>.inr (.inl (N,E,A,tails E,s.1,s.2,(v : Int),()))) (fun _=>.inl (false,())) (valStep E v) l ?_ ?_ ?_ (met,n) hm
 ·rintro ⟨met,n⟩ i d hs hd
  have hi : i < l.length:=(List.getElem?_eq_some_iff.1 hd).1
  simp only at hs
  simp only [Zaa_B16]
  rw [getI_of,hA,Option.bind_some,ltI_t (by omega),cond_true,Option.bind_some,getI_of,hd,Option.bind_some]
  unfold valStep
  have htl:=tails_length E
  by_cases h0 : 0≤d
  ·rw [ltI_f h0,cond_false]
   by_cases h1 : d < met.length
   ·obtain ⟨k,rfl⟩ : ∃ k : Nat,d=k:=⟨d.toNat,by omega⟩
    have hk : k < met.length:=by omega
    rw [geI_f (by omega),cond_false,idxI_of hk,Option.bind_some]
    obtain ⟨b,hb⟩ : ∃ b,met[k]?=some b:=⟨_,List.getElem?_eq_getElem hk⟩
    simp only [hb,Option.bind_some,Int.toNat_natCast]
    cases b with
    | true=>simp
    | false =>
     rw [cond_false,idxI_of (by omega),Option.bind_some,tails_get E k (by omega),Option.bind_some]
     by_cases hv : tl E k=v
     ·rw [neI_f hv,cond_false,hv,if_pos ⟨by omega,by omega,rfl,rfl⟩,Option.bind_some,add1 (by omega)]
      rfl
     ·rw [neI_t hv,cond_true,if_neg (by simp [hv])]
      rfl
   ·rw [geI_t (by omega),cond_true,if_neg (fun h=>h1 h.2.1)]
    rfl
  ·rw [ltI_t (by omega),cond_true,if_neg (fun h=>h0 h.1)]
   rfl
 ·rintro s i d t hs hd hg
  rw [valStep_len hg]; exact hs
 ·intro s hs
  simp only [Zaa_B16]
  rw [getI_of,hA,Option.bind_some,ltI_f (by omega)]; rfl
theorem rval_outer (E : List Arc) (A : List (List Int)) (hE : E.length≤32768) (hA : A.length≤32768) (hl : ∀ l∈A,l.length≤9223372036854775807) :
  Zaa_L13 ((A.length : Nat),E,A,tails E,List.replicate (2 * E.length) false,0,0,()) =
   (valAll E A).bind (Sum.elim (fun t=>some (.inr (.inl (tails E,t.2,())))) (fun _=>some (.inl (false,())))):=by
 refine scanI (B:=Zaa_B13) (fun _ s=>s.1.length=2 * E.length) (fun s i=>(((A.length : Nat) : Int),E,A,tails E,s.1,s.2,(i : Int),()))
  (fun s=>.inr (.inl (tails E,s.2,()))) (fun _=>.inl (false,())) (fun v s l=>valList E v s l) A ?_ ?_ ?_ (List.replicate (2 * E.length) false,0) (by simp)
 ·rintro ⟨met,n⟩ i l hs hd
  have hi : i < A.length:=(List.getElem?_eq_some_iff.1 hd).1
  simp only at hs
  simp only [Zaa_B13]
  rw [ltI_t (by omega),cond_true,rval_inner _ E A i l hd hE (hl l (List.mem_of_getElem? hd)) met n hs]
  cases valList E i (met,n) l with
  | none=>rfl
  | some x =>
   cases x with
   | inl t =>
    simp only [Option.bind_some,Sum.elim_inl,Sum.elim_inr]
    rw [add1 (by omega)]
   | inr e=>rfl
 ·rintro s i d t hs hd hg
  rw [valList_len hg]; exact hs
 ·intro s hs
  simp only [Zaa_B13]
  rw [ltI_f (by omega)]; rfl
theorem redges_eq (N : Int) (E : List Arc) (A : List (List Int)) (hE : E.length≤32768) :
  Zaa_L4 (N,E,A,0,())=some (cond (E.any (edgeBad N)) (.inl (false,())) (.inr (.inl (N,E,A,())))):=by
 have:=scan (B:=Zaa_B4) (fun (_ : Unit) i=>(N,E,A,(i : Int),())) (fun _=>.inr (.inl (N,E,A,()))) (fun (_ : Unit)=>.inl (false,())) (edgeStep N) E (by
  intro s i a ha
  have hi : i < E.length:=(List.getElem?_eq_some_iff.1 ha).1
  simp only [Zaa_B4]
  rw [ltI_t (by omega),cond_true,getI_of,ha,Option.bind_some,add1 (by omega)]
  simp only [edgeStep,edgeBad]
  cases ltI a.1 0 <;> cases geI a.1 N <;> cases ltI a.2.1 0 <;> cases geI a.2.1 N <;> cases eqI a.1 a.2.1 <;> rfl) (by
  intro s
  simp only [Zaa_B4]
  rw [ltI_f (by omega)]; rfl) ()
 rw [edge_fold] at this
 refine this.trans ?_
 cases E.any (edgeBad N) <;> rfl
theorem valAll_len {E : List Arc} {A : List (List Int)} {t : List Bool×Int} (h : valAll E A=some (.inl t)) : t.1.length=2 * E.length:=by
 have:=foldE_inv (I:=fun _ (u : List Bool×Int)=>u.1.length=2 * E.length) (fun u j a t h1 _ h3=>by rw [valList_len h3]; exact h1) (by simp) h
 exact this
theorem rvalid_eq (r : Rot) (hl : ∀ l∈r.2.2.1,l.length≤9223372036854775807) : Zaa (r,())=some (validB r,()):=by
 obtain ⟨N,E,A,u⟩:=r
 unfold Zaa validB
 simp only
 by_cases h0 : N < 0
 ·rw [ltI_t h0]; simp
 rw [ltI_f (by omega),cond_false]
 by_cases h1 : N > 16384
 ·rw [gtI_t h1]; simp
 rw [gtI_f (by omega),cond_false]
 by_cases h2 : (E.length : Int) > 32768
 ·rw [gtI_t h2]; simp
 rw [gtI_f (by omega),cond_false]
 by_cases h3 : (A.length : Int)=N
 ·rw [neI_f h3,cond_false,redges_eq N E A (by omega),Option.bind_some]
  cases h4 : E.any (edgeBad N) with
  | true=>simp
  | false =>
   simp only [cond_false,Sum.elim_inr,Sum.elim_inl]
   have e2 : (tails E).length=2 * E.length:=tails_length E
   rw [tails_eq N E A () (by omega),Option.bind_some]
   simp only
   rw [e2,makeL_of (Nat.le_refl _) (by omega),Option.bind_some]
   rw [show List.replicate (2 * E.length) (zeroVal Ty.bool)=List.replicate (2 * E.length) false from rfl,← h3,rval_outer E A (by omega) (by omega) hl]
   obtain ⟨x,hx⟩:=valAll_some E A
   rw [hx]
   cases x with
   | inl t =>
    have:=valAll_len hx
    simp [e2,this]
   | inr e=>simp
 ·rw [neI_t h3]; simp
end Go.Vm

/-
 Rotation systems: valid ones, faces, components.
-/
import Derived.Test.YtnnbdielbgljaaaDoorD41
import Derived.Test.YtnnbdielbgljaaaDoorVmD
import Derived.KernelRfl
set_option linter.unusedVariables false
set_option linter.unusedSimpArgs false
namespace Go.Vm
open Go.Proofs
set_option maxRecDepth 100000
attribute [local irreducible] aa
abbrev Arc:=Int×(Int×Unit)
abbrev Rot:=Int×(List Arc×(List (List Int)×Unit))
def tl (E : List Arc) (d : Nat) : Int:=match E[d / 2]? with
 | some a=>if d % 2=0 then a.1 else a.2.1
 | none=>0
theorem uu (a : Arc) (k : Nat) : Zbi (a,((k : Int),()))=some (if k=0 then a.1 else a.2.1,()):=by
 unfold Zbi
 by_cases h : k=0
 ·subst h; simp [eqI]
 ·simp only
  rw [cn (by omega),if_neg h]; rfl
def cW (N : Int) (a : Arc) : Bool:=ltI a.1 0 || geI a.1 N || ltI a.2.1 0 || geI a.2.1 N || eqI a.1 a.2.1
def im (N : Int) (_ : Nat) (_ : Unit) (a : Arc) : Option (Unit⊕Unit):=some (cond (cW N a) (.inr ()) (.inl ()))
def dG (E : List Arc) (v : Nat) (_ : Nat) (s : List Bool×Int) (d : Int) : Option ((List Bool×Int)⊕Unit) :=
 if 0≤d∧d < s.1.length∧s.1[d.toNat]?=some false∧tl E d.toNat=v then some (.inl (s.1.set d.toNat true,ah .i64 s.2 1)) else some (.inr ())
def di (E : List Arc) (v : Nat) (s : List Bool×Int) (l : List Int) : Option ((List Bool×Int)⊕Unit):=ay (dG E v) 0 s l
def nw (E : List Arc) (A : List (List Int)) : Option ((List Bool×Int)⊕Unit):=ay (fun v s l=>di E v s l) 0 (List.replicate (2 * E.length) false,0) A
def validB (r : Rot) : Bool :=
 !(ltI r.1 0) && !(gtI r.1 16384) && !(gtI (r.2.1.length : Nat) 32768) && !(neI (r.2.2.1.length : Nat) r.1) && !(r.2.1.any (cW r.1)) &&
  (match nw r.2.1 r.2.2.1 with
  | some (.inl s)=>eqI s.2 (s.1.length : Nat)
  | _=>false)
theorem nL (N : Int) : ∀ (E : List Arc) (i : Nat),ay (im N) i () E=some (cond (E.any (cW N)) (.inr ()) (.inl ()))
 | [],_=>rfl
 | a :: E,i=>by
  simp only [ay,im,Option.bind_some,List.any_cons]
  cases cW N a with
  | true=>rfl
  | false=>exact nL N E (i+1)
theorem jF {E : List Arc} {v : Nat} {i : Nat} {s t : List Bool×Int} {d : Int} (h : dG E v i s d=some (.inl t)) : t.1.length=s.1.length:=by
 unfold dG at h
 split at h
 ·cases h; simp
 ·cases h
theorem AX (N : Int) (E : List Arc) (A A' : List (List Int)) (c : Int) (v : Nat) (l : List Int) (hE : E.length≤32768) (hl : l.length≤9223372036854775807) (met : List Bool) (n : Int) (hm : met.length=2 * E.length) :
  tH (N,E,A,met,n,(v : Int),A',c,(v : Int),l,(l.length : Nat),0,()) =
   (di E v (met,n) l).bind (Sum.elim (fun t=>some (.inr (.inl (N,E,A,t.1,t.2,A',c,(v : Int),())))) (fun _=>some (.inl (false,())))):=by
 refine f7 (B:=l7) (fun _ s=>s.1.length=2 * E.length) (fun s i=>(N,E,A,s.1,s.2,(v : Int),A',c,(v : Int),l,((l.length : Nat) : Int),(i : Int),()))
  (fun s=>.inr (.inl (N,E,A,s.1,s.2,A',c,(v : Int),()))) (fun _=>.inl (false,())) (dG E v) l ?_ ?_ ?_ (met,n) hm
 ·rintro ⟨met,n⟩ i d hs hd
  have hi : i < l.length:=(List.getElem?_eq_some_iff.1 hd).1
  simp only at hs
  simp only [l7]
  rw [aG (by omega),cond_true,ae,hd,Option.bind_some]
  unfold dG
  by_cases h0 : 0≤d
  ·rw [aA h0,cond_false]
   by_cases h1 : d < met.length
   ·obtain ⟨k,rfl⟩ : ∃ k : Nat,d=k:=⟨d.toNat,by omega⟩
    have hk : k < met.length:=by omega
    rw [jG h1,cond_false,aD hk,Option.bind_some]
    obtain ⟨b,hb⟩ : ∃ b,met[k]?=some b:=⟨_,List.getElem?_eq_getElem hk⟩
    simp only [hb,Option.bind_some,Int.toNat_natCast]
    cases b with
    | true=>simp
    | false =>
     have hke : k / 2 < E.length:=by omega
     obtain ⟨a,ha⟩ : ∃ a,E[k / 2]?=some a:=⟨_,List.getElem?_eq_getElem hke⟩
     rw [cond_false,BA (by omega),ae,ha,Option.bind_some,BB,uu,Option.bind_some]
     have ht : tl E k=if k % 2=0 then a.1 else a.2.1:=by simp [tl,ha]
     rw [← ht]
     simp only
     by_cases hv : tl E k=v
     ·rw [bx hv,cond_false,hv,if_pos ⟨by omega,by omega,trivial,rfl⟩,aU (by omega)]
      rfl
     ·rw [fp hv,cond_true,if_neg (by simp [hv])]
      rfl
   ·rw [rW (by omega),cond_true,if_neg (fun h=>h1 h.2.1)]
    rfl
  ·rw [aG (by omega),cond_true,if_neg (fun h=>h0 h.1)]
   rfl
 ·rintro s i d t hs hd hg
  rw [jF hg]; exact hs
 ·intro s hs
  simp only [l7]
  rw [aA (by omega)]; rfl
theorem jN {E : List Arc} {v : Nat} {l : List Int} {s t : List Bool×Int} (h : di E v s l=some (.inl t)) : t.1.length=s.1.length:=by
 have:=il (I:=fun _ (u : List Bool×Int)=>u.1.length=s.1.length) (fun u j a t h1 _ h3=>by rw [jF h3]; exact h1) rfl h
 exact this
theorem Bk (N : Int) (E : List Arc) (A : List (List Int)) (hE : E.length≤32768) (hA : A.length≤32768) (hl : ∀ l∈A,l.length≤9223372036854775807) :
  tp (N,E,A,List.replicate (2 * E.length) false,0,A,(A.length : Nat),0,()) =
   (nw E A).bind (Sum.elim (fun t=>some (.inr (.inl (t.1,t.2,())))) (fun _=>some (.inl (false,())))):=by
 refine f7 (B:=mm) (fun _ s=>s.1.length=2 * E.length) (fun s i=>(N,E,A,s.1,s.2,A,((A.length : Nat) : Int),(i : Int),()))
  (fun s=>.inr (.inl (s.1,s.2,()))) (fun _=>.inl (false,())) (fun v s l=>di E v s l) A ?_ ?_ ?_ (List.replicate (2 * E.length) false,0) (by simp)
 ·rintro ⟨met,n⟩ i l hs hd
  have hi : i < A.length:=(List.getElem?_eq_some_iff.1 hd).1
  simp only at hs
  simp only [mm]
  rw [aG (by omega),cond_true,ae,hd,Option.bind_some,AX N E A A _ i l hE (hl l (List.mem_of_getElem? hd)) met n hs]
  cases di E i (met,n) l with
  | none=>rfl
  | some x =>
   cases x with
   | inl t =>
    simp only [Option.bind_some,Sum.elim_inl,Sum.elim_inr]
    rw [aU (by omega)]
   | inr e=>rfl
 ·rintro s i d t hs hd hg
  rw [jN hg]; exact hs
 ·intro s hs
  simp only [mm]
  rw [aA (by omega)]; rfl
theorem Cz (N : Int) (E : List Arc) (A : List (List Int)) (hE : E.length≤32768) :
  xe (N,E,A,E,(E.length : Nat),0,())=some (cond (E.any (cW N)) (.inl (false,())) (.inr (.inl (N,E,A,())))):=by
 have:=jm (B:=rl) (fun (_ : Unit) i=>(N,E,A,E,((E.length : Nat) : Int),(i : Int),())) (fun _=>.inr (.inl (N,E,A,()))) (fun (_ : Unit)=>.inl (false,())) (im N) E (by
  intro s i a ha
  have hi : i < E.length:=(List.getElem?_eq_some_iff.1 ha).1
  simp only [rl]
  rw [aG (by omega),cond_true,ae,ha,Option.bind_some,aU (by omega)]
  simp only [im,cW]
  cases ltI a.1 0 <;> cases geI a.1 N <;> cases ltI a.2.1 0 <;> cases geI a.2.1 N <;> cases eqI a.1 a.2.1 <;> rfl) (by
  intro s
  simp only [rl]
  rw [aA (by omega)]; rfl) ()
 rw [nL] at this
 show aa _ _=_
 refine this.trans ?_
 cases E.any (cW N) <;> rfl
theorem om (E : List Arc) (A : List (List Int)) : ∃ x,nw E A=some x:=by
 have one : ∀ v l i s,∃ x,ay (dG E v) i s l=some x:=by
  intro v l
  induction l with
  | nil=>intro i s; exact ⟨_,rfl⟩
  | cons d l ih =>
   intro i s
   simp only [ay]
   unfold dG
   split
   ·exact ih _ _
   ·exact ⟨_,rfl⟩
 have : ∀ A i s,∃ x,ay (fun v s l=>di E v s l) i s A=some x:=by
  intro A
  induction A with
  | nil=>intro i s; exact ⟨_,rfl⟩
  | cons l A ih =>
   intro i s
   simp only [ay]
   obtain ⟨x,hx⟩:=one i l 0 s
   rw [show di E i s l=some x from hx]
   cases x with
   | inl t=>exact ih _ _
   | inr e=>exact ⟨_,rfl⟩
 exact this A 0 _
theorem gp (r : Rot) (hl : ∀ l∈r.2.2.1,l.length≤9223372036854775807) : Zbb (r,())=some (validB r,()):=by
 obtain ⟨N,E,A,u⟩:=r
 unfold Zbb validB
 simp only
 by_cases h0 : N < 0
 ·rw [aG h0]; simp
 rw [aA (by omega),cond_false]
 have g0 : ar [16384,32768] 0=some (16384 : Int):=by decide
 have g1 : ar [16384,32768] 1=some (32768 : Int):=by decide
 rw [g0,Option.bind_some]
 by_cases h1 : N > 16384
 ·rw [dA h1]; simp
 rw [cM (by omega),cond_false,g1,Option.bind_some]
 by_cases h2 : (E.length : Int) > 32768
 ·rw [dA h2]; simp
 rw [cM (by omega),cond_false]
 by_cases h3 : (A.length : Int)=N
 ·rw [bx h3,cond_false,Cz N E A (by omega),Option.bind_some]
  cases h4 : E.any (cW N) with
  | true=>simp
  | false =>
   simp only [cond_false,Sum.elim_inr,Sum.elim_inl]
   have e2 : aN .i64 2 (E.length : Nat)=((2 * E.length : Nat) : Int):=by rw [lH (by omega) (by omega)]; omega
   rw [e2,db (Nat.le_refl _) (by omega),Option.bind_some]
   rw [show List.replicate (2 * E.length) (aH Ty.bool)=List.replicate (2 * E.length) false from rfl,Bk N E A (by omega) (by omega) hl]
   obtain ⟨x,hx⟩:=om E A
   rw [hx]
   cases x with
   | inl t=>simp
   | inr e=>simp
 ·rw [fp h3]; simp
end Go.Vm

namespace Go.Vm
open Go.Proofs
set_option maxRecDepth 100000
attribute [local irreducible] aa
def tails (E : List Arc) : List Int:=E.flatMap fun a=>[a.1,a.2.1]
theorem fS : ∀ E : List Arc,(tails E).length=2 * E.length
 | []=>rfl
 | a :: E=>by
  have:=fS E
  simp only [tails,List.flatMap_cons,List.length_append,List.length_cons,List.length_nil] at this ⊢
  omega
theorem nk : ∀ (E : List Arc) (d : Nat),d < 2 * E.length→(tails E)[d]?=some (tl E d)
 | [],d,h=>by simp at h
 | a :: E,0,_=>rfl
 | a :: E,1,_=>rfl
 | a :: E,d+2,h=>by
  have:=nk E d (by simp at h; omega)
  have e1 : (tails (a :: E))[d+2]?=(tails E)[d]?:=rfl
  have e2 : tl (a :: E) (d+2)=tl E d:=by
   unfold tl
   have : (d+2) / 2=d / 2+1:=by omega
   rw [this,List.getElem?_cons_succ]
   have : (d+2) % 2=d % 2:=by omega
   rw [this]
  rw [e1,e2,this]
theorem wM (N : Int) (E : List Arc) (A : List (List Int)) (u : Unit) (hE : E.length≤32768) : Zu ((N,E,A,u),())=some (tails E,()):=by
 have key:=f7 (B:=uY) (ε:=Empty) (fun i (s : List Int)=>s.length=2 * i) (fun s i=>(N,E,A,s,(i : Int),())) (fun s=>.inl (s,())) (fun e=>nomatch e)
  (fun _ s a=>some (.inl (s++[a.1,a.2.1]))) E (by
   intro s i a hs ha
   have hi : i < E.length:=(List.getElem?_eq_some_iff.1 ha).1
   simp only [uY]
   rw [aG (by omega),cond_true,ae,ha,Option.bind_some,Option.bind_some,bg (by simp; omega),Option.bind_some,aU (by omega)]
   rfl) (by
   intro s i a t hs ha hg
   cases hg
   simp [hs]; omega) (by
   intro s hs
   simp only [uY]
   rw [aA (by omega)]; rfl) [] rfl
 have hf : ∀ (l : List Arc) (i : Nat) (s : List Int),ay (ε:=Empty) (fun _ (s : List Int) (a : Arc)=>some (.inl (s++[a.1,a.2.1]))) i s l=some (.inl (s++tails l)):=by
  intro l
  induction l with
  | nil=>intro i s; simp [ay,tails]
  | cons a l ih =>
   intro i s
   simp only [ay,Option.bind_some,Sum.elim_inl]
   rw [ih]
   simp [tails]
 rw [hf] at key
 unfold Zu
 simp only
 rw [show BO (N,E,A,[],0,())=some (.inl (tails E,())) from key]
 rfl
theorem yz (N : Int) (E : List Arc) (A : List (List Int)) (v : Nat) (l : List Int) (hA : A[v]?=some l) (hE : E.length≤32768) (hl : l.length≤9223372036854775807) (met : List Bool) (n : Int) (hm : met.length=2 * E.length) :
  th (N,E,A,tails E,met,n,(v : Int),0,()) =
   (di E v (met,n) l).bind (Sum.elim (fun t=>some (.inr (.inl (N,E,A,tails E,t.1,t.2,(v : Int),())))) (fun _=>some (.inl (false,())))):=by
 refine f7 (B:=l8) (fun _ s=>s.1.length=2 * E.length) (fun s i=>(N,E,A,tails E,s.1,s.2,(v : Int),(i : Int),()))
  (fun s=>.inr (.inl (N,E,A,tails E,s.1,s.2,(v : Int),()))) (fun _=>.inl (false,())) (dG E v) l ?_ ?_ ?_ (met,n) hm
 ·rintro ⟨met,n⟩ i d hs hd
  have hi : i < l.length:=(List.getElem?_eq_some_iff.1 hd).1
  simp only at hs
  simp only [l8]
  rw [ae,hA,Option.bind_some,aG (by omega),cond_true,Option.bind_some,ae,hd,Option.bind_some]
  unfold dG
  have htl:=fS E
  by_cases h0 : 0≤d
  ·rw [aA h0,cond_false]
   by_cases h1 : d < met.length
   ·obtain ⟨k,rfl⟩ : ∃ k : Nat,d=k:=⟨d.toNat,by omega⟩
    have hk : k < met.length:=by omega
    rw [jG (by omega),cond_false,aD hk,Option.bind_some]
    obtain ⟨b,hb⟩ : ∃ b,met[k]?=some b:=⟨_,List.getElem?_eq_getElem hk⟩
    simp only [hb,Option.bind_some,Int.toNat_natCast]
    cases b with
    | true=>simp
    | false =>
     rw [cond_false,aD (by omega),Option.bind_some,nk E k (by omega),Option.bind_some]
     by_cases hv : tl E k=v
     ·rw [bx hv,cond_false,hv,if_pos ⟨by omega,by omega,rfl,rfl⟩,Option.bind_some,aU (by omega)]
      rfl
     ·rw [fp hv,cond_true,if_neg (by simp [hv])]
      rfl
   ·rw [rW (by omega),cond_true,if_neg (fun h=>h1 h.2.1)]
    rfl
  ·rw [aG (by omega),cond_true,if_neg (fun h=>h0 h.1)]
   rfl
 ·rintro s i d t hs hd hg
  rw [jF hg]; exact hs
 ·intro s hs
  simp only [l8]
  rw [ae,hA,Option.bind_some,aA (by omega)]; rfl
theorem xY (E : List Arc) (A : List (List Int)) (hE : E.length≤32768) (hA : A.length≤32768) (hl : ∀ l∈A,l.length≤9223372036854775807) :
  uD ((A.length : Nat),E,A,tails E,List.replicate (2 * E.length) false,0,0,()) =
   (nw E A).bind (Sum.elim (fun t=>some (.inr (.inl (tails E,t.2,())))) (fun _=>some (.inl (false,())))):=by
 refine f7 (B:=lX) (fun _ s=>s.1.length=2 * E.length) (fun s i=>(((A.length : Nat) : Int),E,A,tails E,s.1,s.2,(i : Int),()))
  (fun s=>.inr (.inl (tails E,s.2,()))) (fun _=>.inl (false,())) (fun v s l=>di E v s l) A ?_ ?_ ?_ (List.replicate (2 * E.length) false,0) (by simp)
 ·rintro ⟨met,n⟩ i l hs hd
  have hi : i < A.length:=(List.getElem?_eq_some_iff.1 hd).1
  simp only at hs
  simp only [lX]
  rw [aG (by omega),cond_true,yz _ E A i l hd hE (hl l (List.mem_of_getElem? hd)) met n hs]
  cases di E i (met,n) l with
  | none=>rfl
  | some x =>
   cases x with
   | inl t =>
    simp only [Option.bind_some,Sum.elim_inl,Sum.elim_inr]
    rw [aU (by omega)]
   | inr e=>rfl
 ·rintro s i d t hs hd hg
  rw [jN hg]; exact hs
 ·intro s hs
  simp only [lX]
  rw [aA (by omega)]; rfl
theorem Aw (N : Int) (E : List Arc) (A : List (List Int)) (hE : E.length≤32768) :
  yw (N,E,A,0,())=some (cond (E.any (cW N)) (.inl (false,())) (.inr (.inl (N,E,A,())))):=by
 have:=jm (B:=ro) (fun (_ : Unit) i=>(N,E,A,(i : Int),())) (fun _=>.inr (.inl (N,E,A,()))) (fun (_ : Unit)=>.inl (false,())) (im N) E (by
  intro s i a ha
  have hi : i < E.length:=(List.getElem?_eq_some_iff.1 ha).1
  simp only [ro]
  rw [aG (by omega),cond_true,ae,ha,Option.bind_some,aU (by omega)]
  simp only [im,cW]
  cases ltI a.1 0 <;> cases geI a.1 N <;> cases ltI a.2.1 0 <;> cases geI a.2.1 N <;> cases eqI a.1 a.2.1 <;> rfl) (by
  intro s
  simp only [ro]
  rw [aA (by omega)]; rfl) ()
 rw [nL] at this
 refine this.trans ?_
 cases E.any (cW N) <;> rfl
theorem lP {E : List Arc} {A : List (List Int)} {t : List Bool×Int} (h : nw E A=some (.inl t)) : t.1.length=2 * E.length:=by
 have:=il (I:=fun _ (u : List Bool×Int)=>u.1.length=2 * E.length) (fun u j a t h1 _ h3=>by rw [jN h3]; exact h1) (by simp) h
 exact this
theorem eJ (r : Rot) (hl : ∀ l∈r.2.2.1,l.length≤9223372036854775807) : Zaf (r,())=some (validB r,()):=by
 obtain ⟨N,E,A,u⟩:=r
 unfold Zaf validB
 simp only
 by_cases h0 : N < 0
 ·rw [aG h0]; simp
 rw [aA (by omega),cond_false]
 by_cases h1 : N > 16384
 ·rw [dA h1]; simp
 rw [cM (by omega),cond_false]
 by_cases h2 : (E.length : Int) > 32768
 ·rw [dA h2]; simp
 rw [cM (by omega),cond_false]
 by_cases h3 : (A.length : Int)=N
 ·rw [bx h3,cond_false,Aw N E A (by omega),Option.bind_some]
  cases h4 : E.any (cW N) with
  | true=>simp
  | false =>
   simp only [cond_false,Sum.elim_inr,Sum.elim_inl]
   have e2 : (tails E).length=2 * E.length:=fS E
   rw [wM N E A () (by omega),Option.bind_some]
   simp only
   rw [e2,db (Nat.le_refl _) (by omega),Option.bind_some]
   rw [show List.replicate (2 * E.length) (aH Ty.bool)=List.replicate (2 * E.length) false from rfl,← h3,xY E A (by omega) (by omega) hl]
   obtain ⟨x,hx⟩:=om E A
   rw [hx]
   cases x with
   | inl t =>
    have:=lP hx
    simp [e2,this]
   | inr e=>simp
 ·rw [fp h3]; simp
end Go.Vm

namespace Go.Vm
open Go.Proofs
set_option maxRecDepth 100000
attribute [local irreducible] aa
theorem fy : ∀ (m : Nat) (l : List Nat),l.Nodup→(∀ x∈l,x < m)→l.length≤m
 | 0,l,_,h=>by
  cases l with
  | nil=>simp
  | cons a l=>have:=h a (by simp); omega
 | m+1,l,hn,h=>by
  by_cases hm : m∈l
  ·have h1:=fy m (l.erase m) (hn.erase m) (fun x hx=>by
    have h2:=h x (List.mem_of_mem_erase hx)
    have h3 : x≠m:=fun e=>by subst e; exact (List.Nodup.not_mem_erase hn) hx
    omega)
   rw [List.length_erase_of_mem hm] at h1
   omega
  ·have:=fy m l hn (fun x hx=>by
    have h2:=h x hx
    have h3 : x≠m:=fun e=>hm (e ▸ hx)
    omega)
   omega
structure RotOK (N : Int) (E : List Arc) (A : List (List Int)) : Prop where
 n0 : 0≤N
 n1 : N≤16384
 m1 : E.length≤32768
 len : (A.length : Int)=N
 edge : ∀ a∈E,0≤a.1∧a.1 < N∧0≤a.2.1∧a.2.1 < N∧a.1≠a.2.1
 dart : ∀ (v : Nat) (l : List Int),A[v]?=some l→∀ d∈l,∃ k : Nat,d=(k : Int)∧k < 2 * E.length∧tl E k=v
 nodup : A.flatten.Nodup
 all : A.flatten.length=2 * E.length
theorem lG {E : List Arc} {v : Nat} : ∀ {l : List Int} {i : Nat} {S : List Int} {met : List Bool} {n : Int} {t : List Bool×Int},met.length=2 * E.length →
  (∀ k : Nat,k < 2 * E.length→(met[k]?=some true↔(k : Int)∈S))→n=S.length→S.Nodup→(∀ d∈S,∃ k : Nat,d=(k : Int)∧k < 2 * E.length)→E.length≤32768 →
  ay (dG E v) i (met,n) l=some (.inl t) →
  (∀ d∈l,∃ k : Nat,d=(k : Int)∧k < 2 * E.length∧tl E k=v)∧(S++l).Nodup∧(∀ k : Nat,k < 2 * E.length→(t.1[k]?=some true↔(k : Int)∈S++l))∧t.2=(S++l).length∧t.1.length=2 * E.length
 | [],i,S,met,n,t,hm,hS,hn,hnd,_,_,h=>by
  simp only [ay] at h
  cases h
  exact ⟨by simp,by simpa using hnd,by simpa using hS,by simpa using hn,hm⟩
 | d :: l,i,S,met,n,t,hm,hS,hn,hnd,hr,hE,h=>by
  simp only [ay] at h
  unfold dG at h
  split at h
  ·rename_i hc
   simp only at hc
   obtain ⟨h0,h1,h2,h3⟩:=hc
   obtain ⟨k,rfl⟩ : ∃ k : Nat,d=k:=⟨d.toNat,by omega⟩
   simp only [Int.toNat_natCast] at h2 h3 h
   have hk : k < 2 * E.length:=by omega
   have hns : (k : Int)∉S:=fun hin=>by rw [(hS k hk).2 hin] at h2; cases h2
   simp only [Option.bind_some,Sum.elim_inl] at h
   have hnd' : (S++[(k : Int)]).Nodup:=by
    rw [List.nodup_append]
    exact ⟨hnd,by simp,fun a ha b hb=>by simp at hb; subst hb; exact fun e=>hns (e ▸ ha)⟩
   have hr' : ∀ d∈S++[(k : Int)],∃ j : Nat,d=(j : Int)∧j < 2 * E.length:=by
    intro d hd
    rcases List.mem_append.1 hd with hd | hd
    ·exact hr d hd
    ·simp at hd; exact ⟨k,hd,hk⟩
   have hlen : (S++[(k : Int)]).length≤2 * E.length:=by
    have:=fy (2 * E.length) ((S++[(k : Int)]).map Int.toNat) (by
     rw [List.Nodup,List.pairwise_map]
     refine hnd'.imp_of_mem ?_
     intro a b ha hb hab e
     obtain ⟨j,rfl,_⟩:=hr' a ha
     obtain ⟨j',rfl,_⟩:=hr' b hb
     simp at e
     exact hab (by rw [e])) (by
     intro x hx
     obtain ⟨y,hy,rfl⟩:=List.mem_map.1 hx
     obtain ⟨j,rfl,hj⟩:=hr' y hy
     simpa using hj)
    simpa using this
   have e2 : ah .i64 n 1=((S++[(k : Int)]).length : Int):=by
    rw [hn,aU (by simp at hlen; omega)]; simp
   have:=lG (l:=l) (i:=i+1) (S:=S++[(k : Int)]) (met:=met.set k true) (n:=ah .i64 n 1) (t:=t) (by simpa using hm) (by
    intro j hj
    rw [List.getElem?_set]
    by_cases e : k=j
    ·subst e
     rw [if_pos rfl,if_pos (by omega)]
     simp
    ·rw [if_neg e,hS j hj]
     simp only [List.mem_append,List.mem_singleton]
     exact ⟨.inl,fun h=>h.resolve_right (by omega)⟩) e2 hnd' hr' hE h
   obtain ⟨q1,q2,q3,q4,q5⟩:=this
   rw [List.append_assoc,List.singleton_append] at q2 q3 q4
   refine ⟨fun d hd=>?_,q2,q3,q4,q5⟩
   rcases List.mem_cons.1 hd with rfl | hd
   ·exact ⟨k,rfl,hk,h3⟩
   ·exact q1 d hd
  ·cases h
theorem nH {E : List Arc} (hE : E.length≤32768) : ∀ {A : List (List Int)} {i : Nat} {S : List Int} {met : List Bool} {n : Int} {t : List Bool×Int},met.length=2 * E.length →
  (∀ k : Nat,k < 2 * E.length→(met[k]?=some true↔(k : Int)∈S))→n=S.length→S.Nodup→(∀ d∈S,∃ k : Nat,d=(k : Int)∧k < 2 * E.length) →
  ay (fun v s l=>di E v s l) i (met,n) A=some (.inl t) →
  (∀ (v : Nat) (l : List Int),A[v]?=some l→∀ d∈l,∃ k : Nat,d=(k : Int)∧k < 2 * E.length∧tl E k=((i+v : Nat) : Int))∧(S++A.flatten).Nodup∧(∀ k : Nat,k < 2 * E.length→(t.1[k]?=some true↔(k : Int)∈S++A.flatten))∧t.2=(S++A.flatten).length
 | [],i,S,met,n,t,hm,hS,hn,hnd,_,h=>by
  simp only [ay] at h
  cases h
  exact ⟨by simp,by simpa using hnd,by simpa using hS,by simpa using hn⟩
 | l :: A,i,S,met,n,t,hm,hS,hn,hnd,hr,h=>by
  simp only [ay] at h
  cases hv : di E i (met,n) l with
  | none=>rw [hv] at h; cases h
  | some x =>
   rw [hv] at h
   cases x with
   | inr e=>cases h
   | inl u =>
    simp only [Option.bind_some,Sum.elim_inl] at h
    obtain ⟨q1,q2,q3,q4,q5⟩:=lG (i:=0) hm hS hn hnd hr hE hv
    obtain ⟨p1,p2,p3,p4⟩:=nH hE (A:=A) (i:=i+1) (S:=S++l) (met:=u.1) (n:=u.2) (t:=t) q5 q3 q4 q2 (by
     intro d hd
     rcases List.mem_append.1 hd with hd | hd
     ·exact hr d hd
     ·obtain ⟨k,hk,hk2,_⟩:=q1 d hd; exact ⟨k,hk,hk2⟩) h
    rw [List.append_assoc] at p2 p3 p4
    refine ⟨?_,by simpa using p2,by simpa using p3,by simpa using p4⟩
    intro v l' hl' d hd
    cases v with
    | zero =>
     simp only [List.getElem?_cons_zero,Option.some.injEq] at hl'
     subst hl'
     exact q1 d hd
    | succ v =>
     obtain ⟨k,k1,k2,k3⟩:=p1 v l' (by simpa using hl') d hd
     exact ⟨k,k1,k2,by rw [k3]; omega⟩
theorem DT {N : Int} {E : List Arc} {A : List (List Int)} {u : Unit} (h : validB (N,E,A,u)=true) : RotOK N E A:=by
 unfold validB at h
 simp only [Bool.and_eq_true,Bool.not_eq_true'] at h
 obtain ⟨⟨⟨⟨⟨h0,h1⟩,h2⟩,h3⟩,h4⟩,h5⟩:=h
 have h0 : ¬ N < 0:=by simpa [ltI] using h0
 have h1 : ¬ N > 16384:=by simpa [gtI] using h1
 have h2 : ¬ (E.length : Int) > 32768:=by simpa [gtI] using h2
 have h3 : (A.length : Int)=N:=by simpa [neI] using h3
 have hE : E.length≤32768:=by omega
 split at h5
 ·rename_i t ht
  have hl:=lP ht
  obtain ⟨q1,q2,q3,q4⟩:=nH hE (A:=A) (i:=0) (S:=[]) (met:=List.replicate (2 * E.length) false) (n:=0) (t:=t) (by simp) (by
   intro k hk
   simp [List.getElem?_replicate,hk]) rfl List.nodup_nil (by simp) ht
  have h5 : t.2=(t.1.length : Int):=by simpa [eqI] using h5
  simp only [List.nil_append] at q2 q3 q4
  refine ⟨by omega,by omega,hE,h3,?_,?_,q2,by omega⟩
  ·intro a ha
   have:=List.any_eq_false.1 h4 a ha
   simp only [cW,Bool.or_eq_true,not_or] at this
   obtain ⟨⟨⟨⟨e1,e2⟩,e3⟩,e4⟩,e5⟩:=this
   simp only [ltI,geI,eqI,decide_eq_true_eq,beq_iff_eq] at e1 e2 e3 e4 e5
   exact ⟨by omega,by omega,by omega,by omega,e5⟩
  ·intro v l hvl d hd
   obtain ⟨k,k1,k2,k3⟩:=q1 v l hvl d hd
   exact ⟨k,k1,k2,by rw [k3]; omega⟩
 ·cases h5
theorem RotOK.mem {N : Int} {E : List Arc} {A : List (List Int)} (h : RotOK N E A) {k : Nat} (hk : k < 2 * E.length) : (k : Int)∈A.flatten:=by
 apply Classical.byContradiction
 intro hn
 have hr : ∀ d∈A.flatten,∃ j : Nat,d=(j : Int)∧j < 2 * E.length:=by
  intro d hd
  obtain ⟨l,hl,hdl⟩:=List.mem_flatten.1 hd
  obtain ⟨v,hv⟩:=List.mem_iff_getElem?.1 hl
  obtain ⟨j,j1,j2,_⟩:=h.dart v l hv d hdl
  exact ⟨j,j1,j2⟩
 have:=fy (2 * E.length) (k :: A.flatten.map Int.toNat) (by
  rw [List.nodup_cons]
  refine ⟨fun hin=>?_,?_⟩
  ·obtain ⟨d,hd,e⟩:=List.mem_map.1 hin
   obtain ⟨j,rfl,_⟩:=hr d hd
   simp at e
   exact hn (e ▸ hd)
  ·rw [List.Nodup,List.pairwise_map]
   refine h.nodup.imp_of_mem ?_
   intro a b ha hb hab e
   obtain ⟨j,rfl,_⟩:=hr a ha
   obtain ⟨j',rfl,_⟩:=hr b hb
   simp at e
   exact hab (by rw [e])) (by
  intro x hx
  rcases List.mem_cons.1 hx with rfl | hx
  ·exact hk
  ·obtain ⟨y,hy,rfl⟩:=List.mem_map.1 hx
   obtain ⟨j,rfl,hj⟩:=hr y hy
   simpa using hj)
 simp only [List.length_cons,List.length_map] at this
 rw [h.all] at this
 omega
end Go.Vm

namespace Go.Vm
open Go.Proofs
set_option maxRecDepth 100000
attribute [local irreducible] aa
theorem FZ (a b : Nat) : gF (a : Int) (b : Int)=((a % b : Nat) : Int):=by
 unfold gF
 rw [Int.tmod_eq_emod_of_nonneg (by omega)]; rfl
theorem kD {α : Type} {l : List α} (h : l.Nodup) {i j : Nat} (hi : i < l.length) (hj : j < l.length) (e : l[i]=l[j]) : i=j:=by
 rw [List.Nodup,List.pairwise_iff_getElem] at h
 apply Classical.byContradiction
 intro hne
 rcases Nat.lt_or_ge i j with hlt | hge
 ·exact h i j hi hj hlt e
 ·exact h j i hj hi (by omega) e.symm
def dI (f : Nat→Nat) (l : List Int) : Nat→List Int→Int→Option (List Int⊕Empty):=fun i out d=>some (.inl (out.set (f d.toNat) (l.getD ((i+1) % l.length) 0)))
def HI (f : Nat→Nat) (A : List (List Int)) (out : List Int) : Option (List Int⊕Empty):=ay (fun _ out l=>ay (dI f l) 0 out l) 0 out A
theorem lj (f : Nat→Nat) (l out : List Int) (hinj : ∀ i j (hi : i < l.length) (hj : j < l.length),f l[i].toNat=f l[j].toNat→i=j) (hlt : ∀ d∈l,f d.toNat < out.length) :
  ∃ out',ay (dI f l) 0 out l=some (.inl out')∧out'.length=out.length∧(∀ i (h : i < l.length),out'[f l[i].toNat]?=some (l.getD ((i+1) % l.length) 0)) ∧
   ∀ k,(∀ d∈l,f d.toNat≠k)→out'[k]?=out[k]?:=by
 obtain ⟨t,ht⟩:=iA (g:=dI f l) (l:=l) (i:=0) (s:=out) (fun i out d=>out.set (f d.toNat) (l.getD ((i+1) % l.length) 0)) (fun _ _ _ _=>rfl)
 have:=il (g:=dI f l) (I:=fun j (o : List Int)=>o.length=out.length∧(∀ i (h : i < l.length),i < j→o[f l[i].toNat]?=some (l.getD ((i+1) % l.length) 0))∧∀ k,(∀ d∈l,f d.toNat≠k)→o[k]?=out[k]?)
  (l:=l) (i:=0) (s:=out) (t:=t) (by
   intro o j d u hI hd hg
   simp only [Nat.zero_add] at hI hg ⊢
   obtain ⟨h1,h2,h3⟩:=hI
   simp only [dI] at hg
   cases hg
   obtain ⟨hj,hjd⟩:=List.getElem?_eq_some_iff.1 hd
   refine ⟨by simpa using h1,fun i hi hij=>?_,fun k hk=>?_⟩
   ·rw [List.getElem?_set]
    by_cases e : i=j
    ·subst e
     rw [hjd,if_pos rfl,if_pos (by rw [h1]; exact hlt d (List.mem_of_getElem? hd))]
    ·rw [if_neg (fun e2=>e (hinj j i hj hi (by rw [hjd]; exact e2)).symm)]
     exact h2 i hi (by omega)
   ·rw [List.getElem?_set,if_neg (hk d (List.mem_of_getElem? hd))]
    exact h3 k hk) ⟨rfl,fun i _ h=>by omega,fun _ _=>rfl⟩ ht
 simp only [Nat.zero_add] at this
 exact ⟨t,ht,this.1,fun i h=>this.2.1 i h h,this.2.2⟩
theorem kh (f : Nat→Nat) (hf : ∀ a b,f a=f b→a=b) : ∀ (A : List (List Int)) (i : Nat) (out : List Int),A.flatten.Nodup→(∀ d∈A.flatten,∃ k : Nat,d=(k : Int))→(∀ d∈A.flatten,f d.toNat < out.length) →
  ∃ out',ay (fun _ out l=>ay (dI f l) 0 out l) i out A=some (.inl out')∧out'.length=out.length∧(∀ l∈A,∀ i (h : i < l.length),out'[f l[i].toNat]?=some (l.getD ((i+1) % l.length) 0)) ∧
   ∀ k,(∀ d∈A.flatten,f d.toNat≠k)→out'[k]?=out[k]?
 | [],i,out,_,_,_=>⟨out,rfl,rfl,by simp,by simp⟩
 | l :: A,i,out,hn,hr,hlt=>by
  rw [List.flatten_cons,List.nodup_append] at hn
  obtain ⟨n1,n2,n3⟩:=hn
  have kK : ∀ d∈l,d∈(l :: A).flatten:=fun d hd=>by simp [hd]
  have sub2 : ∀ d∈A.flatten,d∈(l :: A).flatten:=fun d hd=>by simp only [List.flatten_cons,List.mem_append]; exact .inr hd
  have feq : ∀ a∈(l :: A).flatten,∀ b∈(l :: A).flatten,f a.toNat=f b.toNat→a=b:=by
   intro a ha b hb e
   obtain ⟨j,rfl⟩:=hr a ha
   obtain ⟨j',rfl⟩:=hr b hb
   have:=hf _ _ e
   simp at this
   rw [this]
  obtain ⟨o1,e1,e2,e3,e4⟩:=lj f l out (fun i j hi hj e=>by
   have:=feq _ (kK _ (List.getElem_mem hi)) _ (kK _ (List.getElem_mem hj)) e
   exact kD n1 hi hj this) (fun d hd=>hlt d (kK d hd))
  obtain ⟨o2,g1,g2,g3,g4⟩:=kh f hf A (i+1) o1 n2 (fun d hd=>hr d (sub2 d hd)) (fun d hd=>by rw [e2]; exact hlt d (sub2 d hd))
  refine ⟨o2,?_,by omega,?_,?_⟩
  ·simp only [ay,e1,Option.bind_some,Sum.elim_inl]; exact g1
  ·intro l' hl' j hj
   rcases List.mem_cons.1 hl' with rfl | hl'
   ·rw [g4 _ (fun d hd e=>by
     have:=feq _ (sub2 d hd) _ (kK _ (List.getElem_mem hj)) e
     exact n3 _ (List.getElem_mem hj) d hd this.symm)]
    exact e3 j hj
   ·exact g3 l' hl' j hj
  ·intro k hk
   rw [g4 k (fun d hd=>hk d (sub2 d hd)),e4 k (fun d hd=>hk d (kK d hd))]
theorem AW (l out : List Int) (A A' : List (List Int)) (c v : Int) (hl : l.length≤65536) (hr : ∀ d∈l,∃ k : Nat,d=(k : Int)∧oth k < out.length∧k < 65536) :
  yA (out,l,A,c,v,l,(l.length : Nat),0,())=(ay (dI oth l) 0 out l).bind (Sum.elim (fun t=>some (.inl (t,A,c,v,()))) (fun e=>nomatch e)):=by
 refine (f7 (B:=qM) (fun _ o=>o.length=out.length) (fun s i=>(s,l,A,c,v,l,((l.length : Nat) : Int),(i : Int),())) (fun s=>.inl (s,A,c,v,())) (fun e=>nomatch e) (dI oth l) l ?_ ?_ ?_ out rfl).trans ?_
 ·intro s i d hs hd
  have hi : i < l.length:=(List.getElem?_eq_some_iff.1 hd).1
  obtain ⟨k,rfl,hk,hk2⟩:=hr d (List.mem_of_getElem? hd)
  simp only [qM]
  rw [aG (by omega),cond_true,ae,hd,Option.bind_some,cn (by omega),cond_false,aU (by omega),FZ,ae]
  have hm : (i+1) % l.length < l.length:=Nat.mod_lt _ (by omega)
  rw [List.getElem?_eq_getElem hm,Option.bind_some,AO (by omega),aD (by omega),Option.bind_some]
  obtain ⟨z,hz⟩ : ∃ z,s[oth k]?=some z:=⟨_,List.getElem?_eq_getElem (by omega)⟩
  rw [hz,Option.bind_some]
  simp only [dI,Option.bind_some,Sum.elim_inl,Int.toNat_natCast]
  rw [List.getD_eq_getElem?_getD,List.getElem?_eq_getElem hm]
  rfl
 ·intro s i d t hs hd hg
  simp only [dI] at hg
  cases hg; simpa using hs
 ·intro s hs
  simp only [qM]
  rw [aA (by omega)]; rfl
 ·cases ay (dI oth l) 0 out l with
  | none=>rfl
  | some x=>cases x with
   | inl t=>rfl
   | inr e=>exact nomatch e
theorem yp (N : Int) (E : List Arc) (A : List (List Int)) (l out : List Int) (v : Int) (hl : l.length≤65536) (hr : ∀ d∈l,∃ k : Nat,d=(k : Int)∧k < out.length) :
  Cx (N,E,A,out,v,l,0,())=(ay (dI id l) 0 out l).bind (Sum.elim (fun t=>some (.inl (N,E,A,t,v,()))) (fun e=>nomatch e)):=by
 refine (f7 (B:=vB) (fun _ o=>o.length=out.length) (fun s i=>(N,E,A,s,v,l,(i : Int),())) (fun s=>.inl (N,E,A,s,v,())) (fun e=>nomatch e) (dI id l) l ?_ ?_ ?_ out rfl).trans ?_
 ·intro s i d hs hd
  have hi : i < l.length:=(List.getElem?_eq_some_iff.1 hd).1
  obtain ⟨k,rfl,hk⟩:=hr d (List.mem_of_getElem? hd)
  simp only [vB]
  rw [aG (by omega),cond_true,ae,hd,Option.bind_some,cn (by omega),cond_false,aU (by omega),FZ,ae]
  have hm : (i+1) % l.length < l.length:=Nat.mod_lt _ (by omega)
  rw [List.getElem?_eq_getElem hm,Option.bind_some,aD (by omega),Option.bind_some]
  obtain ⟨z,hz⟩ : ∃ z,s[k]?=some z:=⟨_,List.getElem?_eq_getElem (by omega)⟩
  rw [hz,Option.bind_some]
  simp only [dI,Option.bind_some,Sum.elim_inl,Int.toNat_natCast,id]
  rw [List.getD_eq_getElem?_getD,List.getElem?_eq_getElem hm]
  rfl
 ·intro s i d t hs hd hg
  simp only [dI] at hg
  cases hg; simpa using hs
 ·intro s hs
  simp only [vB]
  rw [aA (by omega)]; rfl
 ·cases ay (dI id l) 0 out l with
  | none=>rfl
  | some x=>cases x with
   | inl t=>rfl
   | inr e=>exact nomatch e
section
variable {N : Int} {E : List Arc} {A : List (List Int)}
theorem RotOK.mem_of {N : Int} {E : List Arc} {A : List (List Int)} (h : RotOK N E A) {l : List Int} (hl : l∈A) {d : Int} (hd : d∈l) : ∃ k : Nat,d=(k : Int)∧k < 2 * E.length:=by
 obtain ⟨v,hv⟩:=List.mem_iff_getElem?.1 hl
 obtain ⟨k,k1,k2,_⟩:=h.dart v l hv d hd
 exact ⟨k,k1,k2⟩
theorem RotOK.mem_flat (h : RotOK N E A) {d : Int} (hd : d∈A.flatten) : ∃ k : Nat,d=(k : Int)∧k < 2 * E.length:=by
 obtain ⟨l,hl,hdl⟩:=List.mem_flatten.1 hd
 exact h.mem_of hl hdl
theorem RotOK.list_len (h : RotOK N E A) {l : List Int} (hl : l∈A) : l.length≤2 * E.length:=by
 have h1:=h.all
 have : l.length≤A.flatten.length:=(List.sublist_flatten_of_mem hl).length_le
 omega
structure Fol (f : Nat→Nat) (E : List Arc) (A : List (List Int)) (o : List Int) : Prop where
 len : o.length=2 * E.length
 get : ∀ l∈A,∀ i (h : i < l.length),o[f l[i].toNat]?=some (l.getD ((i+1) % l.length) 0)
theorem Bl (h : RotOK N E A) (out : List Int) (ho : out.length=2 * E.length) : ∃ o,tM (out,A,(A.length : Nat),0,())=some (.inl (o,()))∧Fol oth E A o:=by
 have h16 : A.length≤16384:=by have:=h.len; have:=h.n1; omega
 have hm1:=h.m1
 obtain ⟨o,e1,e2,e3,_⟩:=kh oth (fun a b e=>by rw [← cv a,e,cv]) A 0 out h.nodup (fun d hd=>by obtain ⟨k,hk,_⟩:=h.mem_flat hd; exact ⟨k,hk⟩) (fun d hd=>by
  obtain ⟨k,rfl,hk⟩:=h.mem_flat hd
  rw [ho]; exact bd (by simpa using hk))
 have key:=f7 (B:=pG) (ε:=Empty) (fun _ (o : List Int)=>o.length=2 * E.length) (fun s i=>(s,A,((A.length : Nat) : Int),(i : Int),())) (fun s=>.inl (s,())) (fun e=>nomatch e) (fun _ out l=>ay (dI oth l) 0 out l) A (by
   intro s i l hs hd
   have hi : i < A.length:=(List.getElem?_eq_some_iff.1 hd).1
   have hl:=List.mem_of_getElem? hd
   have hll:=h.list_len hl
   simp only [pG]
   rw [aG (by omega),cond_true,ae,hd,Option.bind_some,AW l s A A _ _ (by omega) (fun d hd=>by
    obtain ⟨k,rfl,hk⟩:=h.mem_of hl hd
    exact ⟨k,rfl,by rw [hs]; exact bd hk,by omega⟩)]
   cases ay (dI oth l) 0 s l with
   | none=>rfl
   | some x=>cases x with
    | inl t=>simp only [Option.bind_some,Sum.elim_inl]; rw [aU (by omega)]
    | inr e=>exact nomatch e) (by
   intro s i l t hs hd hg
   have hl:=List.mem_of_getElem? hd
   obtain ⟨o,e1,e2,_⟩:=lj oth l s (fun i j hi hj e=>by
    have e:=(by rw [← cv l[i].toNat,e,cv] : l[i].toNat=l[j].toNat)
    obtain ⟨a,ha,_⟩:=h.mem_of hl (List.getElem_mem hi)
    obtain ⟨b,hb,_⟩:=h.mem_of hl (List.getElem_mem hj)
    rw [ha,hb] at e
    simp at e
    have hnd : l.Nodup:=(List.sublist_flatten_of_mem hl).nodup h.nodup
    exact kD hnd hi hj (by rw [ha,hb,e])) (fun d hd=>by
    obtain ⟨k,rfl,hk⟩:=h.mem_of hl hd
    rw [hs]; exact bd (by simpa using hk))
   rw [e1] at hg; cases hg
   omega) (by
   intro s hs
   simp only [pG]
   rw [aA (by omega)]; rfl) out ho
 rw [show ay (fun _ out l=>ay (dI oth l) 0 out l) 0 out A=some (.inl o) from e1] at key
 exact ⟨o,key,by omega,e3⟩
theorem xy (h : RotOK N E A) (out : List Int) (ho : out.length=2 * E.length) : ∃ o,yM ((A.length : Nat),E,A,out,0,())=some (.inl (o,()))∧Fol id E A o:=by
 have h16 : A.length≤16384:=by have:=h.len; have:=h.n1; omega
 have hm1:=h.m1
 obtain ⟨o,e1,e2,e3,_⟩:=kh id (fun a b e=>e) A 0 out h.nodup (fun d hd=>by obtain ⟨k,hk,_⟩:=h.mem_flat hd; exact ⟨k,hk⟩) (fun d hd=>by
  obtain ⟨k,rfl,hk⟩:=h.mem_flat hd
  rw [ho]; simpa using hk)
 have key:=f7 (B:=wv) (ε:=Empty) (fun _ (o : List Int)=>o.length=2 * E.length) (fun s i=>(((A.length : Nat) : Int),E,A,s,(i : Int),())) (fun s=>.inl (s,())) (fun e=>nomatch e) (fun _ out l=>ay (dI id l) 0 out l) A (by
   intro s i l hs hd
   have hi : i < A.length:=(List.getElem?_eq_some_iff.1 hd).1
   have hl:=List.mem_of_getElem? hd
   have hll:=h.list_len hl
   simp only [wv]
   rw [aG (by omega),cond_true,ae,hd,Option.bind_some,yp _ E A l s _ (by omega) (fun d hd=>by
    obtain ⟨k,rfl,hk⟩:=h.mem_of hl hd
    exact ⟨k,rfl,by omega⟩)]
   cases ay (dI id l) 0 s l with
   | none=>rfl
   | some x=>cases x with
    | inl t=>simp only [Option.bind_some,Sum.elim_inl]; rw [aU (by omega)]
    | inr e=>exact nomatch e) (by
   intro s i l t hs hd hg
   have hl:=List.mem_of_getElem? hd
   obtain ⟨o,e1,e2,_⟩:=lj id l s (fun i j hi hj e=>by
    obtain ⟨a,ha,_⟩:=h.mem_of hl (List.getElem_mem hi)
    obtain ⟨b,hb,_⟩:=h.mem_of hl (List.getElem_mem hj)
    rw [ha,hb] at e
    simp at e
    have hnd : l.Nodup:=(List.sublist_flatten_of_mem hl).nodup h.nodup
    exact kD hnd hi hj (by rw [ha,hb,e])) (fun d hd=>by
    obtain ⟨k,rfl,hk⟩:=h.mem_of hl hd
    rw [hs]; simpa using hk)
   rw [e1] at hg; cases hg
   omega) (by
   intro s hs
   simp only [wv]
   rw [aA (by omega)]; rfl) out ho
 rw [show ay (fun _ out l=>ay (dI id l) 0 out l) 0 out A=some (.inl o) from e1] at key
 exact ⟨o,key,by omega,e3⟩
theorem iu (h : RotOK N E A) (u : Unit) : ∃ o,Zav ((N,E,A,u),())=some (o,())∧Fol oth E A o:=by
 have hm1:=h.m1
 unfold Zav
 simp only
 have e2 : aN .i64 2 (E.length : Nat)=((2 * E.length : Nat) : Int):=by rw [lH (by omega) (by omega)]; omega
 obtain ⟨o,h1,h2⟩:=Bl h (List.replicate (2 * E.length) (aH (.int .i64))) (by simp)
 rw [e2,db (Nat.le_refl _) (by omega),Option.bind_some]
 refine ⟨o,?_,h2⟩
 rw [show tM (List.replicate (2 * E.length) (aH (.int .i64)),A,(A.length : Nat),0,())=_ from h1]
 rfl
theorem cU (h : RotOK N E A) (u : Unit) : ∃ o,Zn ((N,E,A,u),())=some (o,())∧Fol id E A o:=by
 have hm1:=h.m1
 unfold Zn
 simp only
 have e2 : aN .i64 2 (E.length : Nat)=((2 * E.length : Nat) : Int):=by rw [lH (by omega) (by omega)]; omega
 obtain ⟨o,h1,h2⟩:=xy h (List.replicate (2 * E.length) (aH (.int .i64))) (by simp)
 rw [e2,db (Nat.le_refl _) (by omega),Option.bind_some,← h.len]
 refine ⟨o,?_,h2⟩
 rw [show yM ((A.length : Nat),E,A,List.replicate (2 * E.length) (aH (.int .i64)),0,())=_ from h1]
 rfl
theorem dq (h : RotOK N E A) {o o' : List Int} (h1 : Fol oth E A o) (h2 : Fol id E A o') {k : Nat} (hk : k < 2 * E.length) : ∃ y : Nat,y < 2 * E.length∧o[k]?=some (y : Int)∧o'[oth k]?=some (y : Int):=by
 have:=h.mem (bd hk)
 obtain ⟨l,hl,hd⟩:=List.mem_flatten.1 this
 obtain ⟨i,hi,hid⟩:=List.getElem_of_mem hd
 have g1:=h1.get l hl i hi
 have g2:=h2.get l hl i hi
 rw [hid] at g1 g2
 simp only [Int.toNat_natCast,cv,id] at g1 g2
 have hm : (i+1) % l.length < l.length:=Nat.mod_lt _ (by omega)
 rw [List.getD_eq_getElem?_getD,List.getElem?_eq_getElem hm,Option.getD_some] at g1 g2
 obtain ⟨y,hy,hy2⟩:=h.mem_of hl (List.getElem_mem hm)
 rw [hy] at g1 g2
 exact ⟨y,hy2,g1,g2⟩
end
end Go.Vm

namespace Go.Vm
open Go.Proofs
set_option maxRecDepth 100000
attribute [local irreducible] aa
def unm (met : List Bool) : Nat:=met.countP fun b=>!b
theorem fg : ∀ {met : List Bool} {x : Nat},met[x]?=some false→unm (met.set x true)+1=unm met
 | [],x,h=>by simp at h
 | b :: met,0,h=>by simp at h; subst h; simp [unm]
 | b :: met,x+1,h=>by
  have:=fg (met:=met) (x:=x) (by simpa using h)
  unfold unm at this ⊢
  simp only [List.set_cons_succ,List.countP_cons]
  omega
def kN (nx : List Int) : Nat→List Bool→List Int→Int→Option (List Bool×List Int)
 | 0,_,_,_=>none
 | n+1,met,acc,x=>match met[x.toNat]? with
  | some true=>some (met,acc)
  | some false=>match nx[x.toNat]? with
   | some y=>kN nx n (met.set x.toNat true) (acc++[x]) y
   | none=>none
  | none=>none
def jj (nx : List Int) (L : Nat) : Prop:=nx.length=L∧∀ k,k < L→∃ y : Nat,y < L∧nx[k]?=some (y : Int)
theorem iF {nx : List Int} {L : Nat} (hn : jj nx L) : ∀ (n : Nat) (met : List Bool) (acc : List Int) (x : Nat),met.length=L→x < L→unm met < n →
  ∃ m f,kN nx n met acc (x : Int)=some (m,acc++f)∧m.length=L∧(∀ d∈f,∃ k : Nat,d=(k : Int)∧k < L∧met[k]?=some false) ∧
   (∀ k : Nat,k < L→(m[k]?=some true↔met[k]?=some true∨(k : Int)∈f))∧f.Nodup∧(met[x]?=some false→(x : Int)∈f)∧(met[x]?=some true→f=[])∧f.length+unm m=unm met
 | 0,_,_,_,_,_,h=>by omega
 | n+1,met,acc,x,hm,hx,hu=>by
  obtain ⟨b,hb⟩ : ∃ b,met[x]?=some b:=⟨_,List.getElem?_eq_getElem (by omega)⟩
  cases b with
  | true =>
   refine ⟨met,[],?_,hm,by simp,by simp,List.nodup_nil,by simp [hb],fun _=>rfl,by simp⟩
   simp [kN,hb]
  | false =>
   obtain ⟨y,hy,hny⟩:=hn.2 x hx
   have hus:=fg hb
   obtain ⟨m,f,h1,h2,h3,h4,h5,h6,h7,h8⟩:=iF hn n (met.set x true) (acc++[(x : Int)]) y (by simpa using hm) hy (by omega)
   have hset : ∀ k : Nat,k < L→((met.set x true)[k]?=some true↔met[k]?=some true∨k=x):=by
    intro k hk
    rw [List.getElem?_set]
    by_cases e : x=k
    ·subst e; simp; omega
    ·rw [if_neg e]; simp [Ne.symm e]
   have hsetf : ∀ k : Nat,(met.set x true)[k]?=some false→met[k]?=some false∧k≠x:=by
    intro k hk
    rw [List.getElem?_set] at hk
    by_cases e : x=k
    ·subst e; simp at hk
    ·rw [if_neg e] at hk; exact ⟨hk,Ne.symm e⟩
   refine ⟨m,(x : Int) :: f,?_,h2,?_,?_,?_,by simp,by simp [hb],?_⟩
   ·simp only [kN,Int.toNat_natCast,hb,hny]
    rw [h1]; simp
   ·intro d hd
    rcases List.mem_cons.1 hd with rfl | hd
    ·exact ⟨x,rfl,hx,hb⟩
    ·obtain ⟨k,k1,k2,k3⟩:=h3 d hd
     exact ⟨k,k1,k2,(hsetf k k3).1⟩
   ·intro k hk
    rw [h4 k hk,hset k hk]
    simp only [List.mem_cons]
    constructor
    ·rintro ((h | h) | h)
     ·exact .inl h
     ·exact .inr (.inl (by omega))
     ·exact .inr (.inr h)
    ·rintro (h | h | h)
     ·exact .inl (.inl h)
     ·exact .inl (.inr (by omega))
     ·exact .inr h
   ·rw [List.nodup_cons]
    refine ⟨fun hin=>?_,h5⟩
    obtain ⟨k,k1,_,k3⟩:=h3 _ hin
    exact (hsetf k k3).2 (by omega)
   ·simp only [List.length_cons]; omega
theorem ow {nx : List Int} : ∀ (n : Nat) (met : List Bool) (acc : List Int) (x : Nat) (out : List (List Int)) (c d : Int) (r : List Bool×List Int),acc.length+n≤1000000→met.length=nx.length→jj nx nx.length→x < nx.length →
  kN nx n met acc (x : Int)=some r→uJ (nx,met,out,acc,(x : Int),c,d,())=some (.inl (nx,r.1,out,r.2,c,d,()))
 | 0,_,_,_,_,_,_,_,_,_,_,_,h=>by simp [kN] at h
 | n+1,met,acc,x,out,c,d,r,hl,hm,hn,hx,h=>by
  obtain ⟨b,hb⟩ : ∃ b,met[x]?=some b:=⟨_,List.getElem?_eq_getElem (by omega)⟩
  obtain ⟨y,hy,hny⟩:=hn.2 x hx
  simp only [kN,Int.toNat_natCast,hb] at h
  cases b with
  | true =>
   cases h
   refine ai ?_
   simp only [mD]
   rw [aD (by omega),Option.bind_some,hb]
   rfl
  | false =>
   simp only [hny] at h
   have hs : mD (nx,met,out,acc,(x : Int),c,d,())=some (.inl (nx,met.set x true,out,acc++[(x : Int)],(y : Int),c,d,())):=by
    simp only [mD]
    rw [aD (by omega),Option.bind_some,hb,Option.bind_some,Option.bind_some]
    simp only [hb,Option.bind_some,Bool.not_false,cond_true]
    rw [bg (by simp; omega),Option.bind_some,aD hx,Option.bind_some,hny]
    rfl
   refine (ap hs).trans ?_
   exact ow n (met.set x true) (acc++[(x : Int)]) y out c d r (by simp; omega) (by simpa using hm) hn hy h
theorem wE (k : Nat) (h : k < 4611686018427387904) : Zx ((k : Int),())=some ((oth k : Int),()):=by
 unfold Zx
 simp only
 rw [BB]
 unfold oth
 by_cases e : k % 2=0
 ·rw [dk (by omega),cond_true,aU (by omega),if_pos e]
 ·rw [cn (by omega),cond_false,kK (by omega),if_neg e]
  congr 2
  omega
theorem ml {nx fw : List Int} (hfw : fw.length=nx.length) (hb2 : ∀ k,k < nx.length→fw[oth k]?=nx[k]?) (heven : ∀ k,k < nx.length→oth k < nx.length) (hL : nx.length≤100000) : ∀ (n : Nat) (met : List Bool) (acc : List Int) (x : Nat) (out : List (List Int)) (d : Int) (r : List Bool×List Int),
  acc.length+n≤1000000→met.length=nx.length→jj nx nx.length→x < nx.length →
  kN nx n met acc (x : Int)=some r→xi (out,fw,met,acc,d,(x : Int),())=some (.inl (out,fw,r.1,r.2,d,()))
 | 0,_,_,_,_,_,_,_,_,_,_,h=>by simp [kN] at h
 | n+1,met,acc,x,out,d,r,hl,hm,hn,hx,h=>by
  obtain ⟨b,hb⟩ : ∃ b,met[x]?=some b:=⟨_,List.getElem?_eq_getElem (by omega)⟩
  obtain ⟨y,hy,hny⟩:=hn.2 x hx
  simp only [kN,Int.toNat_natCast,hb] at h
  cases b with
  | true =>
   cases h
   refine ai ?_
   simp only [qk]
   rw [aD (by omega),Option.bind_some,hb]
   rfl
  | false =>
   simp only [hny] at h
   have hs : qk (out,fw,met,acc,d,(x : Int),())=some (.inl (out,fw,met.set x true,acc++[(x : Int)],d,(y : Int),())):=by
    simp only [qk]
    rw [aD (by omega),Option.bind_some,hb,Option.bind_some,Option.bind_some]
    simp only [hb,Option.bind_some,Bool.not_false,cond_true]
    rw [bg (by simp; omega),Option.bind_some,wE x (by omega),Option.bind_some,aD (by rw [hfw]; exact heven x hx),Option.bind_some,hb2 x hx,hny]
    rfl
   refine (ap hs).trans ?_
   exact ml hfw hb2 heven hL n (met.set x true) (acc++[(x : Int)]) y out d r (by simp; omega) (by simpa using hm) hn hy h
def c7 (nx : List Int) : Nat→List Bool×List (List Int)→Unit→Option ((List Bool×List (List Int))⊕Empty):=fun d s _ =>
 (kN nx (nx.length+1) s.1 [] (d : Int)).map fun r=>.inl (r.1,cond r.2.isEmpty s.2 (s.2++[r.2]))
structure FacesInv (L : Nat) (d : Nat) (s : List Bool×List (List Int)) : Prop where
 len : s.1.length=L
 elem : ∀ f∈s.2,f≠[]∧∀ x∈f,∃ k : Nat,x=(k : Int)∧k < L
 met : ∀ k : Nat,k < L→(s.1[k]?=some true↔(k : Int)∈s.2.flatten)
 nodup : s.2.flatten.Nodup
 cover : ∀ k,k < d→k < L→(k : Int)∈s.2.flatten
 num : s.2.length+unm s.1≤L
theorem pM (met : List Bool) : unm met≤met.length:=List.countP_le_length
theorem tX (L : Nat) : unm (List.replicate L false)=L:=by
 unfold unm
 rw [List.countP_eq_length.2 (fun a ha=>by rw [List.mem_replicate] at ha; simp [ha.2])]
 simp
theorem gU {nx : List Int} (hn : jj nx nx.length) {d : Nat} (hd : d < nx.length) {s : List Bool×List (List Int)} (hs : FacesInv nx.length d s) :
  ∃ t,c7 nx d s ()=some (.inl t)∧FacesInv nx.length (d+1) t:=by
 have hu:=pM s.1
 obtain ⟨m,f,h1,h2,h3,h4,h5,h6,h7,h8⟩:=iF hn (nx.length+1) s.1 [] d hs.len hd (by rw [hs.len] at hu; omega)
 simp only [List.nil_append] at h1
 refine ⟨_,by simp only [c7,h1,Option.map_some]; rfl,?_⟩
 have fresh : ∀ x∈f,x∉s.2.flatten:=by
  intro x hx hin
  obtain ⟨k,rfl,k2,k3⟩:=h3 x hx
  rw [(hs.met k k2).2 hin] at k3; cases k3
 cases hf : f with
 | nil =>
  subst hf
  have hmd : s.1[d]?=some true:=by
   obtain ⟨b,hb⟩ : ∃ b,s.1[d]?=some b:=⟨_,List.getElem?_eq_getElem (by rw [hs.len]; exact hd)⟩
   cases b with
   | true=>exact hb
   | false=>have:=h6 hb; simp at this
  refine ⟨h2,hs.elem,fun k hk=>?_,hs.nodup,fun k hk hkL=>?_,?_⟩
  ·show m[k]?=some true↔_
   rw [h4 k hk,hs.met k hk]; simp
  ·rcases Nat.eq_or_lt_of_le (Nat.le_of_lt_succ hk) with rfl | hlt
   ·exact (hs.met k hkL).1 hmd
   ·exact hs.cover k hlt hkL
  ·have:=hs.num
   simp at h8
   show s.2.length+unm m≤_
   omega
 | cons a f' =>
  rw [← hf]
  have hemp : f.isEmpty=false:=by rw [hf]; rfl
  rw [hemp]
  simp only [cond_false]
  have hflat : (s.2++[f]).flatten=s.2.flatten++f:=by simp
  refine ⟨h2,?_,?_,?_,?_,?_⟩
  ·intro g hg
   rcases List.mem_append.1 hg with hg | hg
   ·exact hs.elem g hg
   ·simp only [List.mem_singleton] at hg
    subst hg
    refine ⟨by rw [hf]; simp,fun x hx=>?_⟩
    obtain ⟨k,k1,k2,_⟩:=h3 x hx
    exact ⟨k,k1,k2⟩
  ·intro k hk
   show m[k]?=some true↔_
   rw [h4 k hk,hs.met k hk,hflat,List.mem_append]
  ·show (s.2++[f]).flatten.Nodup
   rw [hflat,List.nodup_append]
   exact ⟨hs.nodup,h5,fun x hx y hy e=>fresh y hy (e ▸ hx)⟩
  ·intro k hk hkL
   show (k : Int)∈(s.2++[f]).flatten
   rw [hflat,List.mem_append]
   rcases Nat.eq_or_lt_of_le (Nat.le_of_lt_succ hk) with rfl | hlt
   ·obtain ⟨b,hb⟩ : ∃ b,s.1[k]?=some b:=⟨_,List.getElem?_eq_getElem (by rw [hs.len]; exact hkL)⟩
    cases b with
    | true=>exact .inl ((hs.met k hkL).1 hb)
    | false=>exact .inr (h6 hb)
   ·exact .inl (hs.cover k hlt hkL)
  ·have:=hs.num
   show (s.2++[f]).length+unm m≤_
   rw [hf] at h8
   simp only [List.length_append,List.length_cons,List.length_nil] at h8 ⊢
   omega
theorem gQ (L : Nat) : FacesInv L 0 (List.replicate L false,[]):=by
 refine ⟨by simp,by simp,fun k hk=>?_,by simp,fun k hk=>by omega,?_⟩
 ·simp [List.getElem?_replicate,hk]
 ·have:=tX L
  simp [this]
theorem sr {nx : List Int} (hn : jj nx nx.length) : ∀ (l : List Unit) (d : Nat) (s : List Bool×List (List Int)),d+l.length=nx.length→FacesInv nx.length d s →
  ∃ t,ay (c7 nx) d s l=some (.inl t)∧FacesInv nx.length nx.length t
 | [],d,s,h,hs=>by
  have : d=nx.length:=by simpa using h
  subst this
  exact ⟨s,rfl,hs⟩
 | () :: l,d,s,h,hs=>by
  simp only [List.length_cons] at h
  obtain ⟨t,h1,h2⟩:=gU hn (by omega : d < nx.length) hs
  obtain ⟨t',h3,h4⟩:=sr hn l (d+1) t (by omega) h2
  exact ⟨t',by simp only [ay,h1,Option.bind_some,Sum.elim_inl]; exact h3,h4⟩
def ab (nx : List Int) : List (List Int):=match ay (c7 nx) 0 (List.replicate nx.length false,[]) (List.replicate nx.length ()) with
 | some (.inl t)=>t.2
 | _=>[]
theorem ey {nx : List Int} (hn : jj nx nx.length) : ∃ m,ay (c7 nx) 0 (List.replicate nx.length false,[]) (List.replicate nx.length ())=some (.inl (m,ab nx))∧FacesInv nx.length nx.length (m,ab nx):=by
 obtain ⟨t,h1,h2⟩:=sr hn (List.replicate nx.length ()) 0 _ (by simp) (gQ nx.length)
 have : ab nx=t.2:=by unfold ab; rw [h1]
 rw [this]
 exact ⟨t.1,h1,h2⟩
theorem xa {nx : List Int} (hL : nx.length≤100000) (hn : jj nx nx.length) : x6 (nx,List.replicate nx.length false,[],(nx.length : Nat),0,())=some (.inl (ab nx,())):=by
 have key:=f7 (B:=qj) (ε:=Empty) (fun d s=>FacesInv nx.length d s) (fun s i=>(nx,s.1,s.2,((nx.length : Nat) : Int),(i : Int),())) (fun s=>.inl (s.2,())) (fun e=>nomatch e) (c7 nx) (List.replicate nx.length ()) (by
   rintro ⟨met,out⟩ d u hs hd
   have hd' : d < nx.length:=by have:=(List.getElem?_eq_some_iff.1 hd).1; simpa using this
   have hu:=pM met
   have hml : met.length=nx.length:=hs.len
   obtain ⟨m,f,h1,h2,h3,h4,h5,h6,h7,h8⟩:=iF hn (nx.length+1) met [] d hml hd' (by omega)
   simp only [List.nil_append] at h1
   simp only [qj,c7]
   rw [aG (by omega),cond_true,ow (nx.length+1) met [] d out _ _ (m,f) (by simp; omega) hml hn hd' h1,h1]
   simp only [Option.bind_some,Sum.elim_inl,Option.map_some]
   have hnum:=hs.num
   simp only at hnum
   cases f with
   | nil =>
    rw [cM (by simp)]
    simp only [cond_false,List.isEmpty_nil,cond_true]
    rw [aU (by omega)]
   | cons a f =>
    rw [dA (by simp),cond_true,bg (by simp only [List.length_singleton]; omega),Option.bind_some,aU (by omega)]
    rfl) (by
   rintro s d u t hs hd hg
   have hd' : d < nx.length:=by have:=(List.getElem?_eq_some_iff.1 hd).1; simpa using this
   obtain ⟨t',h1,h2⟩:=gU hn hd' hs
   cases u
   rw [h1] at hg; cases hg
   exact h2) (by
   intro s hs
   simp only [qj]
   rw [aA (by simp)]; rfl) (List.replicate nx.length false,[]) (gQ nx.length)
 obtain ⟨m,h1,_⟩:=ey hn
 rw [h1] at key
 exact key
theorem wd {nx fw : List Int} (hfw : fw.length=nx.length) (hb2 : ∀ k,k < nx.length→fw[oth k]?=nx[k]?) (heven : ∀ k,k < nx.length→oth k < nx.length) (hL : nx.length≤100000) (hn : jj nx nx.length) :
  CY ([],fw,List.replicate nx.length false,0,())=some (.inl (ab nx,())):=by
 have key:=f7 (B:=wq) (ε:=Empty) (fun d s=>FacesInv nx.length d s) (fun s i=>(s.2,fw,s.1,(i : Int),())) (fun s=>.inl (s.2,())) (fun e=>nomatch e) (c7 nx) (List.replicate nx.length ()) (by
   rintro ⟨met,out⟩ d u hs hd
   have hd' : d < nx.length:=by have:=(List.getElem?_eq_some_iff.1 hd).1; simpa using this
   have hu:=pM met
   have hml : met.length=nx.length:=hs.len
   obtain ⟨m,f,h1,h2,h3,h4,h5,h6,h7,h8⟩:=iF hn (nx.length+1) met [] d hml hd' (by omega)
   simp only [List.nil_append] at h1
   have hnum:=hs.num
   simp only at hnum
   simp only [wq,c7]
   rw [aG (by omega),cond_true,aD (by omega),Option.bind_some]
   obtain ⟨b,hb⟩ : ∃ b,met[d]?=some b:=⟨_,List.getElem?_eq_getElem (by omega)⟩
   rw [hb,Option.bind_some]
   cases b with
   | true =>
    have hf:=h7 hb
    subst hf
    have hw : kN nx (nx.length+1) met [] (d : Int)=some (met,[]):=by simp [kN,hb]
    rw [hw,cond_true,aU (by omega)]
    rfl
   | false =>
    rw [cond_false,ml hfw hb2 heven hL (nx.length+1) met [] d out _ (m,f) (by simp; omega) hml hn hd' h1,h1]
    have hne : f≠[]:=fun e=>by have:=h6 hb; rw [e] at this; simp at this
    cases f with
    | nil=>exact absurd rfl hne
    | cons a f =>
     simp only [Option.bind_some,Sum.elim_inl,Option.map_some]
     rw [bg (by simp only [List.length_singleton]; omega),Option.bind_some,aU (by omega)]
     rfl) (by
   rintro s d u t hs hd hg
   have hd' : d < nx.length:=by have:=(List.getElem?_eq_some_iff.1 hd).1; simpa using this
   obtain ⟨t',h1,h2⟩:=gU hn hd' hs
   cases u
   rw [h1] at hg; cases hg
   exact h2) (by
   intro s hs
   simp only [wq]
   rw [aA (by simp [hfw])]; rfl) (List.replicate nx.length false,[]) (gQ nx.length)
 obtain ⟨m,h1,_⟩:=ey hn
 rw [h1] at key
 exact key
section
variable {N : Int} {E : List Arc} {A : List (List Int)}
theorem Fol.nxOK (h : RotOK N E A) {o : List Int} (ho : Fol oth E A o) : jj o o.length:=by
 refine ⟨rfl,fun k hk=>?_⟩
 rw [ho.len] at hk ⊢
 obtain ⟨l,hl,hd⟩:=List.mem_flatten.1 (h.mem (bd hk))
 obtain ⟨i,hi,hid⟩:=List.getElem_of_mem hd
 have g1:=ho.get l hl i hi
 rw [hid] at g1
 simp only [Int.toNat_natCast,cv] at g1
 have hm : (i+1) % l.length < l.length:=Nat.mod_lt _ (by omega)
 rw [List.getD_eq_getElem?_getD,List.getElem?_eq_getElem hm,Option.getD_some] at g1
 obtain ⟨y,hy,hy2⟩:=h.mem_of hl (List.getElem_mem hm)
 rw [hy] at g1
 exact ⟨y,hy2,g1⟩
theorem lw (h : RotOK N E A) (hv : validB (N,E,A,())=true) (hl : ∀ l∈A,l.length≤9223372036854775807) : ∃ nx m,Zav ((N,E,A,()),())=some (nx,())∧Fol oth E A nx∧FacesInv nx.length nx.length (m,ab nx) ∧
  Zbf ((N,E,A,()),())=some (ab nx,())∧Zy ((N,E,A,()),())=some (ab nx,()):=by
 obtain ⟨nx,e1,f1⟩:=iu h ()
 obtain ⟨fw,e2,f2⟩:=cU h ()
 have hm1:=h.m1
 have hn:=Fol.nxOK h f1
 have hL : nx.length≤100000:=by rw [f1.len]; omega
 obtain ⟨m,_,hi⟩:=ey hn
 refine ⟨nx,m,e1,f1,hi,?_,?_⟩
 ·unfold Zbf
  simp only
  rw [gp (N,E,A,()) hl,hv,Option.bind_some]
  simp only [Bool.not_true,cond_false]
  rw [e1,Option.bind_some]
  simp only
  rw [db (Nat.le_refl _) (by omega),Option.bind_some,show List.replicate nx.length (aH Ty.bool)=List.replicate nx.length false from rfl,xa hL hn]
  rfl
 ·unfold Zy
  simp only
  rw [eJ (N,E,A,()) hl,hv,Option.bind_some]
  simp only [Bool.not_true,cond_false]
  rw [e2,Option.bind_some]
  simp only
  have hfl : fw.length=nx.length:=by rw [f1.len,f2.len]
  rw [db (Nat.le_refl _) (by omega),Option.bind_some,show List.replicate fw.length (aH Ty.bool)=List.replicate fw.length false from rfl,hfl,
   wd hfl (fun k hk=>by
    obtain ⟨y,_,y1,y2⟩:=dq h f1 f2 (k:=k) (by rw [← f1.len]; exact hk)
    rw [y1,y2]) (fun k hk=>by rw [f1.len] at hk ⊢; exact bd hk) hL hn]
  rfl
end
end Go.Vm

namespace Go.Vm
open Go.Proofs
set_option maxRecDepth 100000
attribute [local irreducible] aa
def hd (E : List Arc) (k : Nat) : Int:=tl E (oth k)
inductive Reach (E : List Arc) : Nat→Nat→Prop
 | refl (v : Nat) : Reach E v v
 | step {u v w k : Nat} (h : Reach E u v) (hk : k < 2 * E.length) (h1 : tl E k=v) (h2 : hd E k=w) : Reach E u w
theorem Reach.trans {E : List Arc} {u v w : Nat} (h1 : Reach E u v) (h2 : Reach E v w) : Reach E u w:=by
 induction h2 with
 | refl=>exact h1
 | step _ hk e1 e2 ih=>exact .step ih hk e1 e2
theorem Reach.symm {E : List Arc} {u v : Nat} (h : Reach E u v) : Reach E v u:=by
 induction h with
 | refl=>exact .refl _
 | step _ hk e1 e2 ih =>
  refine Reach.trans (.step (.refl _) (bd hk) e2 ?_) ih
  unfold hd; rw [cv]; exact e1
def iS (N : Nat) (E : List Arc) : Prop:=∀ v,v < N→Reach E 0 v
section
variable {N : Nat} {E : List Arc} {A : List (List Int)}
theorem RotOK.tl_lt (h : RotOK (N : Nat) E A) {k : Nat} (hk : k < 2 * E.length) : ∃ v : Nat,tl E k=v∧v < N:=by
 have h1 : k / 2 < E.length:=by omega
 obtain ⟨a,ha⟩ : ∃ a,E[k / 2]?=some a:=⟨_,List.getElem?_eq_getElem h1⟩
 obtain ⟨e1,e2,e3,e4,_⟩:=h.edge a (List.mem_of_getElem? ha)
 unfold tl
 rw [ha]
 by_cases e : k % 2=0
 ·exact ⟨a.1.toNat,by simp [e]; omega,by omega⟩
 ·exact ⟨a.2.1.toNat,by simp [e]; omega,by omega⟩
theorem RotOK.hd_lt (h : RotOK (N : Nat) E A) {k : Nat} (hk : k < 2 * E.length) : ∃ v : Nat,hd E k=v∧v < N:=h.tl_lt (bd hk)
theorem RotOK.around (h : RotOK (N : Nat) E A) {k v : Nat} (hk : k < 2 * E.length) (hv : tl E k=v) {l : List Int} (hl : A[v]?=some l) : (k : Int)∈l:=by
 obtain ⟨l',hl',hd'⟩:=List.mem_flatten.1 (h.mem hk)
 obtain ⟨v',hv'⟩:=List.mem_iff_getElem?.1 hl'
 obtain ⟨k',e1,_,e3⟩:=h.dart v' l' hv' _ hd'
 have : k=k':=by omega
 subst this
 rw [hv] at e3
 have : v=v':=by omega
 subst this
 rw [hl] at hv'; cases hv'
 exact hd'
def oJ (E : List Arc) (_ : Nat) (s : List Bool×List Int) (d : Int) : Option ((List Bool×List Int)⊕Empty) :=
 some (.inl (if s.1[(hd E d.toNat).toNat]?=some false then (s.1.set (hd E d.toNat).toNat true,s.2++[hd E d.toNat]) else s))
theorem iG (hN : ∀ k,k < 2 * E.length→∃ v : Nat,hd E k=v∧v < N) : ∀ (l : List Int) (i : Nat) (seen : List Bool) (st : List Int),seen.length=N→(∀ d∈l,∃ k : Nat,d=(k : Int)∧k < 2 * E.length) →
  ∃ seen' new,ay (oJ E) i (seen,st) l=some (.inl (seen',st++new))∧seen'.length=N∧new.length+unm seen'=unm seen ∧
   (∀ v,v < N→(seen'[v]?=some true↔seen[v]?=some true∨∃ k : Nat,(k : Int)∈l∧hd E k=v))∧(∀ v : Nat,v < N→seen'[v]?=some true→seen[v]?=some true∨(v : Int)∈new) ∧
   (∀ d∈new,∃ v : Nat,d=(v : Int)∧v < N∧seen'[v]?=some true)
 | [],i,seen,st,hs,_=>⟨seen,[],by simp [ay],hs,by simp,by simp,fun v _ h=>.inl h,by simp⟩
 | d :: l,i,seen,st,hs,hl=>by
  obtain ⟨k,rfl,hk⟩:=hl d (by simp)
  obtain ⟨w,hw,hwN⟩:=hN k hk
  have hl' : ∀ d∈l,∃ k : Nat,d=(k : Int)∧k < 2 * E.length:=fun d hd=>hl d (by simp [hd])
  simp only [ay,oJ,Int.toNat_natCast,hw,Option.bind_some,Sum.elim_inl]
  by_cases hb : seen[w]?=some false
  ·rw [if_pos hb]
   obtain ⟨seen',new,h1,h2,h3,h4,h5,h6⟩:=iG hN l (i+1) (seen.set w true) (st++[(w : Int)]) (by simpa using hs) hl'
   have hu:=fg hb
   have hset : ∀ v,v < N→((seen.set w true)[v]?=some true↔seen[v]?=some true∨v=w):=by
    intro v hv
    rw [List.getElem?_set]
    by_cases e : w=v
    ·subst e; simp; omega
    ·rw [if_neg e]; simp [Ne.symm e]
   refine ⟨seen',(w : Int) :: new,by rw [h1]; simp,h2,by simp only [List.length_cons]; omega,?_,?_,?_⟩
   ·intro v hv
    rw [h4 v hv,hset v hv]
    constructor
    ·rintro ((h | h) | ⟨j,hj,hj2⟩)
     ·exact .inl h
     ·exact .inr ⟨k,by simp,by rw [hw,h]⟩
     ·exact .inr ⟨j,by simp [hj],hj2⟩
    ·rintro (h | ⟨j,hj,hj2⟩)
     ·exact .inl (.inl h)
     ·rcases List.mem_cons.1 hj with hj | hj
      ·have : j=k:=by omega
       subst this
       exact .inl (.inr (by rw [hw] at hj2; omega))
      ·exact .inr ⟨j,hj,hj2⟩
   ·intro v hv h
    rcases h5 v hv h with h | h
    ·rcases (hset v hv).1 h with h | h
     ·exact .inl h
     ·exact .inr (by simp [h])
    ·exact .inr (by simp [h])
   ·intro d hd
    rcases List.mem_cons.1 hd with rfl | hd
    ·exact ⟨w,rfl,hwN,(h4 w hwN).2 (.inl ((hset w hwN).2 (.inr rfl)))⟩
    ·exact h6 d hd
  ·rw [if_neg hb]
   have hbt : seen[w]?=some true:=by
    obtain ⟨b,hb'⟩ : ∃ b,seen[w]?=some b:=⟨_,List.getElem?_eq_getElem (by omega)⟩
    cases b with
    | true=>exact hb'
    | false=>exact absurd hb' hb
   obtain ⟨seen',new,h1,h2,h3,h4,h5,h6⟩:=iG hN l (i+1) seen st hs hl'
   refine ⟨seen',new,h1,h2,h3,?_,h5,h6⟩
   intro v hv
   rw [h4 v hv]
   constructor
   ·rintro (h | ⟨j,hj,hj2⟩)
    ·exact .inl h
    ·exact .inr ⟨j,by simp [hj],hj2⟩
   ·rintro (h | ⟨j,hj,hj2⟩)
    ·exact .inl h
    ·rcases List.mem_cons.1 hj with hj | hj
     ·have : j=k:=by omega
      subst this
      have : v=w:=by rw [hw] at hj2; omega
      subst this
      exact .inl hbt
     ·exact .inr ⟨j,hj,hj2⟩
theorem EP (h : RotOK (N : Nat) E A) (hv : validB ((N : Int),E,A,())=true) (hl : ∀ l∈A,l.length≤9223372036854775807) {k : Nat} (hk : k < 2 * E.length) : Zbl (((N : Int),E,A,()),((k : Int),()))=some (tl E k,()):=by
 have hm1:=h.m1
 unfold Zbl
 simp only
 rw [gp ((N : Int),E,A,()) hl,hv,Option.bind_some]
 simp only [Bool.not_true,cond_false]
 have e2 : aN .i64 2 (E.length : Nat)=((2 * E.length : Nat) : Int):=by rw [lH (by omega) (by omega)]; omega
 have hke : k / 2 < E.length:=by omega
 obtain ⟨a,ha⟩ : ∃ a,E[k / 2]?=some a:=⟨_,List.getElem?_eq_getElem hke⟩
 rw [aA (by omega),cond_false,e2,jG (by omega),cond_false,BA (by omega),ae,ha,Option.bind_some,BB,uu,Option.bind_some]
 simp [tl,ha]
theorem xk (h : RotOK (N : Nat) E A) (hv : validB ((N : Int),E,A,())=true) (hA : ∀ l∈A,l.length≤9223372036854775807) (seen : List Bool) (st : List Int) (c : Int) (l : List Int) (hs : seen.length=N) (hst : st.length+unm seen≤100000) (hl : ∀ d∈l,∃ k : Nat,d=(k : Int)∧k < 2 * E.length) (hll : l.length≤65536) :
  sX ((N : Int),E,A,seen,st,c,l,(l.length : Nat),0,())=(ay (oJ E) 0 (seen,st) l).bind (Sum.elim (fun t=>some (.inl ((N : Int),E,A,t.1,t.2,c,()))) (fun e=>nomatch e)):=by
 refine (f7 (B:=mg) (fun _ s=>s.1.length=N∧s.2.length+unm s.1≤100000) (fun s i=>((N : Int),E,A,s.1,s.2,c,l,((l.length : Nat) : Int),(i : Int),())) (fun s=>.inl ((N : Int),E,A,s.1,s.2,c,())) (fun e=>nomatch e) (oJ E) l ?_ ?_ ?_ (seen,st) ⟨hs,hst⟩).trans ?_
 ·rintro ⟨seen,st⟩ i d ⟨hs,hst⟩ hd'
  simp only at hs hst
  have hi : i < l.length:=(List.getElem?_eq_some_iff.1 hd').1
  have hm1:=h.m1
  obtain ⟨k,rfl,hk⟩:=hl d (List.mem_of_getElem? hd')
  obtain ⟨w,hw,hwN⟩:=h.hd_lt hk
  simp only [mg]
  rw [aG (by omega),cond_true,ae,hd',Option.bind_some,AO (by omega),EP h hv hA (bd hk),Option.bind_some]
  rw [show tl E (oth k)=(w : Int) from hw]
  simp only
  obtain ⟨b,hb⟩ : ∃ b,seen[w]?=some b:=⟨_,List.getElem?_eq_getElem (by omega)⟩
  rw [aD (by omega),Option.bind_some,hb,Option.bind_some,aU (by omega)]
  simp only [oJ,Int.toNat_natCast,hw,hb]
  cases b with
  | true=>rfl
  | false =>
   have:=fg hb
   simp only [Bool.not_false,cond_true,Option.bind_some,hb]
   rw [bg (by simp only [List.length_singleton]; omega)]
   rfl
 ·rintro ⟨seen,st⟩ i d t ⟨hs,hst⟩ hd' hg
  simp only at hs hst
  simp only [oJ] at hg
  cases hg
  split
  ·rename_i hb
   have:=fg hb
   exact ⟨by simpa using hs,by simp only [List.length_append,List.length_singleton]; omega⟩
  ·exact ⟨hs,hst⟩
 ·intro s hs
  simp only [mg]
  rw [aA (by omega)]; rfl
 ·cases ay (oJ E) 0 (seen,st) l with
  | none=>rfl
  | some x=>cases x with
   | inl t=>rfl
   | inr e=>exact nomatch e
structure Look (N : Nat) (E : List Arc) (seen : List Bool) (st : List Int) : Prop where
 len : seen.length=N
 stk : ∀ d∈st,∃ v : Nat,d=(v : Int)∧v < N∧seen[v]?=some true
 closed : ∀ v : Nat,v < N→seen[v]?=some true→(v : Int)∉st→∀ k w : Nat,k < 2 * E.length→tl E k=v→hd E k=w→seen[w]?=some true
 reach : ∀ v : Nat,v < N→seen[v]?=some true→Reach E 0 v
 zero : seen[0]?=some true
theorem Look.step (h : RotOK (N : Nat) E A) {seen seen' : List Bool} {st new : List Int} {v : Nat} {l : List Int} (hL : Look N E seen st) (hvN : v < N) (hv : (v : Int)∈st) (hl : A[v]?=some l) (rest : List Int) (hrest : ∀ d,d∈st↔d=(v : Int)∨d∈rest)
  (h2 : seen'.length=N) (h4 : ∀ v,v < N→(seen'[v]?=some true↔seen[v]?=some true∨∃ k : Nat,(k : Int)∈l∧hd E k=v)) (h5 : ∀ v : Nat,v < N→seen'[v]?=some true→seen[v]?=some true∨(v : Int)∈new)
  (h6 : ∀ d∈new,∃ v : Nat,d=(v : Int)∧v < N∧seen'[v]?=some true) : Look N E seen' (rest++new):=by
 refine ⟨h2,?_,?_,?_,?_⟩
 ·intro d hd'
  rcases List.mem_append.1 hd' with hd' | hd'
  ·obtain ⟨u,e1,e2,e3⟩:=hL.stk d ((hrest d).2 (.inr hd'))
   exact ⟨u,e1,e2,(h4 u e2).2 (.inl e3)⟩
  ·exact h6 d hd'
 ·intro u hu hus hun k w hk hkt hkh
  obtain ⟨w',hw',hwN⟩:=h.hd_lt hk
  have : w=w':=by omega
  subst this
  rcases h5 u hu hus with hus | hus
  ·by_cases e : u=v
   ·subst e
    exact (h4 w hwN).2 (.inr ⟨k,h.around hk hkt hl,hkh⟩)
   ·refine (h4 w hwN).2 (.inl (hL.closed u hu hus (fun hin=>?_) k w hk hkt hkh))
    rcases (hrest u).1 hin with e2 | e2
    ·exact e (by omega)
    ·exact hun (List.mem_append.2 (.inl e2))
  ·exact absurd (List.mem_append.2 (.inr hus)) hun
 ·intro u hu hus
  rcases (h4 u hu).1 hus with hus | ⟨k,hk,hkh⟩
  ·exact hL.reach u hu hus
  ·obtain ⟨_,e1,e2,e3⟩:=hL.stk v hv
   have hvv : v=_:=Int.ofNat.inj e1
   obtain ⟨k',f1,f2,f3⟩:=h.dart v l hl _ hk
   have : k=k':=by omega
   subst this
   exact .step (hL.reach v hvN (by rw [hvv]; exact e3)) f2 f3 hkh
 ·exact (h4 0 (by omega)).2 (.inl hL.zero)
theorem Look.all (h : RotOK (N : Nat) E A) {seen : List Bool} (hL : Look N E seen []) : (∀ v,v < N→seen[v]?=some true)↔iS N E:=by
 constructor
 ·intro ha v hv; exact hL.reach v hv (ha v hv)
 ·intro hc v hv
  have : ∀ {u v : Nat},Reach E u v→u=0→seen[v]?=some true:=by
   intro u v hr
   induction hr with
   | refl=>intro e; rw [e]; exact hL.zero
   | step hr' hk e1 e2 ih =>
    intro e
    obtain ⟨u',e3,e4⟩:=h.tl_lt hk
    rw [e1] at e3
    have : _=u':=Int.ofNat.inj e3
    subst this
    exact hL.closed _ e4 (ih e) (by simp) _ _ hk e1 e2
  exact this (hc v hv) rfl
theorem BN {seen : List Bool} : unm seen=0↔∀ v,v < seen.length→seen[v]?=some true:=by
 unfold unm
 rw [List.countP_eq_zero]
 constructor
 ·intro h v hv
  have:=h seen[v] (List.getElem_mem hv)
  rw [List.getElem?_eq_getElem hv]
  simpa using this
 ·intro h b hb
  obtain ⟨i,hi,rfl⟩:=List.getElem_of_mem hb
  have:=h i hi
  rw [List.getElem?_eq_getElem hi] at this
  simp at this
  simp [this]
theorem AS (h : RotOK (N : Nat) E A) (hv : validB ((N : Int),E,A,())=true) (hA : ∀ l∈A,l.length≤9223372036854775807) (hN0 : 0 < N) :
  ∃ c : Nat,t9 ((N : Int),E,A,(List.replicate N false).set 0 true,[0],0,())=some (.inl ((N : Int),E,A,(c : Int),()))∧(c=N↔iS N E):=by
 have h16 : N≤16384:=by have:=h.n1; omega
 have hAl : A.length=N:=by have:=h.len; omega
 obtain ⟨r,h1,h2⟩:=nf (f:=qn) (fun s=>∃ seen st,∃ c : Nat,s=((N : Int),E,A,seen,st,(c : Int),())∧Look N E seen st∧c+st.length+unm seen=N)
  (fun s=>s.2.2.2.2.1.length+2 * unm s.2.2.2.1) (fun r=>∃ c : Nat,r=.inl ((N : Int),E,A,(c : Int),())∧(c=N↔iS N E)) (by
   rintro _ ⟨seen,st,c,rfl,hL,hc⟩
   rcases List.eq_nil_or_concat st with rfl | ⟨st',d,rfl⟩
   ·right
    refine ⟨.inl ((N : Int),E,A,(c : Int),()),?_,c,rfl,?_⟩
    ·simp only [qn]
     rw [cM (by simp)]; rfl
    ·rw [← hL.all h]
     have:=BN (seen:=seen)
     rw [hL.len] at this
     rw [← this]
     simp at hc
     omega
   ·left
    rw [List.concat_eq_append] at hL hc ⊢
    obtain ⟨v,rfl,hvN,hvs⟩:=hL.stk d (by simp)
    obtain ⟨l,hl⟩ : ∃ l,A[v]?=some l:=⟨_,List.getElem?_eq_getElem (by omega)⟩
    have hlm:=List.mem_of_getElem? hl
    have hll:=h.list_len hlm
    have hm1:=h.m1
    simp only [List.length_append,List.length_singleton] at hc
    obtain ⟨seen',new,q1,q2,q3,q4,q5,q6⟩:=iG (fun k hk=>h.hd_lt hk) l 0 seen st' hL.len (fun d hd'=>h.mem_of hlm hd')
    refine ⟨((N : Int),E,A,seen',st'++new,((c+1 : Nat) : Int),()),?_,⟨seen',st'++new,c+1,rfl,?_,?_⟩,?_⟩
    ·simp only [qn]
     rw [dA (by simp),cond_true]
     have e1 : bf .i64 ((st'++[(v : Int)]).length : Nat) 1=(st'.length : Nat):=by
      rw [kK (by simp; omega)]; simp
     rw [e1,aD (by simp),Option.bind_some]
     have e2 : (st'++[(v : Int)])[st'.length]?=some (v : Int):=by simp
     rw [e2,Option.bind_some]
     have e3 : iC (st'++[(v : Int)]).length 0 ((st'.length : Nat) : Int)=some (0,st'.length):=by
      simp [iC]
      omega
     rw [e3,Option.bind_some,ae,hl,Option.bind_some]
     have e4 : (List.drop 0 (st'++[(v : Int)])).take st'.length=st':=by simp
     simp only
     rw [e4,aU (by omega),xk h hv hA seen st' _ l hL.len (by omega) (fun d hd'=>h.mem_of hlm hd') (by omega),q1]
     rfl
    ·exact hL.step h hvN (by simp) hl st' (fun d=>by simp [or_comm]) q2 q4 q5 q6
    ·simp only [List.length_append]; omega
    ·simp only [List.length_append,List.length_singleton]; omega) ((N : Int),E,A,(List.replicate N false).set 0 true,[0],0,()) (by
   have hr0 : (List.replicate N false)[0]?=some false:=by simp [List.getElem?_replicate,hN0]
   have hu:=fg hr0
   rw [tX] at hu
   have hset : ∀ v,((List.replicate N false).set 0 true)[v]?=some true→v=0:=by
    intro v hv
    rw [List.getElem?_set] at hv
    by_cases e : 0=v
    ·exact e.symm
    ·rw [if_neg e,List.getElem?_replicate] at hv
     split at hv <;> simp at hv
   refine ⟨_,[0],0,rfl,⟨by simp,?_,?_,?_,?_⟩,by simp; omega⟩
   ·intro d hd'
    simp at hd'
    subst hd'
    exact ⟨0,rfl,hN0,by simp [hN0]⟩
   ·intro v hv hs hn
    have:=hset v hs
    subst this
    simp at hn
   ·intro v hv hs
    rw [hset v hs]; exact .refl 0
   ·simp [hN0])
 obtain ⟨c,rfl,h3⟩:=h2
 exact ⟨c,h1,h3⟩
theorem lY (h : RotOK (N : Nat) E A) (hv : validB ((N : Int),E,A,())=true) (hA : ∀ l∈A,l.length≤9223372036854775807) : ∃ b,Zau (((N : Int),E,A,()),())=some (b,())∧(b=true↔0 < N∧iS N E):=by
 have h16 : N≤16384:=by have:=h.n1; omega
 unfold Zau
 simp only
 by_cases h0 : N=0
 ·subst h0
  exact ⟨false,by rw [dk (by rfl)]; rfl,by simp⟩
 ·obtain ⟨c,h1,h2⟩:=AS h hv hA (by omega)
  refine ⟨eqI (c : Int) (N : Int),?_,?_⟩
  ·rw [cn (by omega),cond_false,db (Nat.le_refl _) (by omega),Option.bind_some]
   have e1 : aJ (List.replicate N (aH Ty.bool)).length 0=some 0:=by
    rw [List.length_replicate]; exact aD (i:=0) (by omega)
   rw [e1,Option.bind_some]
   have e2 : (List.replicate N (aH Ty.bool))[0]?=some false:=by simp [List.getElem?_replicate,Nat.pos_of_ne_zero h0,aH]
   rw [e2,Option.bind_some]
   rw [show t9 ((N : Int),E,A,(List.replicate N (aH Ty.bool)).set 0 true,[0],0,())=_ from h1]
   rfl
  ·rw [← h2]
   simp [eqI]
   omega
end
end Go.Vm

namespace Go.Vm
open Go.Proofs
set_option maxRecDepth 100000
attribute [local irreducible] aa
section
variable {N : Nat} {E : List Arc} {A : List (List Int)}
theorem EW (h : RotOK (N : Nat) E A) {k : Nat} (hk : k < 2 * E.length) : ∃ a,E[k / 2]?=some a∧Zbi (a,((ip .i64 (gF (k : Int) 2) 1),()))=some (hd E k,()):=by
 have hke : k / 2 < E.length:=by omega
 obtain ⟨a,ha⟩ : ∃ a,E[k / 2]?=some a:=⟨_,List.getElem?_eq_getElem hke⟩
 refine ⟨a,ha,?_⟩
 rw [BB,AO (by omega),uu]
 unfold hd tl
 rw [oY,ha,o9]
 simp only
 unfold oth
 rcases Nat.mod_two_eq_zero_or_one k with e | e
 ·simp [e]
 ·simp [e]
theorem pC (h : RotOK (N : Nat) E A) (seen : List Bool) (st : List Int) (n c v : Int) (l : List Int) (hs : seen.length=N) (hst : st.length+unm seen≤100000) (hl : ∀ d∈l,∃ k : Nat,d=(k : Int)∧k < 2 * E.length) (hll : l.length≤65536) :
  yH ((N : Int),E,A,seen,st,n,c,v,l,(l.length : Nat),0,())=(ay (oJ E) 0 (seen,st) l).bind (Sum.elim (fun t=>some (.inl ((N : Int),E,A,t.1,t.2,n,c,v,()))) (fun e=>nomatch e)):=by
 refine (f7 (B:=qb) (fun _ s=>s.1.length=N∧s.2.length+unm s.1≤100000) (fun s i=>((N : Int),E,A,s.1,s.2,n,c,v,l,((l.length : Nat) : Int),(i : Int),())) (fun s=>.inl ((N : Int),E,A,s.1,s.2,n,c,v,())) (fun e=>nomatch e) (oJ E) l ?_ ?_ ?_ (seen,st) ⟨hs,hst⟩).trans ?_
 ·rintro ⟨seen,st⟩ i d ⟨hs,hst⟩ hd'
  simp only at hs hst
  have hi : i < l.length:=(List.getElem?_eq_some_iff.1 hd').1
  have hm1:=h.m1
  obtain ⟨k,rfl,hk⟩:=hl d (List.mem_of_getElem? hd')
  obtain ⟨w,hw,hwN⟩:=h.hd_lt hk
  obtain ⟨a,ha,hta⟩:=EW h hk
  simp only [qb]
  rw [aG (by omega),cond_true,ae,hd',Option.bind_some,BA (by omega),ae,ha,Option.bind_some,hta,Option.bind_some,hw]
  simp only
  obtain ⟨b,hb⟩ : ∃ b,seen[w]?=some b:=⟨_,List.getElem?_eq_getElem (by omega)⟩
  rw [aD (by omega),Option.bind_some,hb,Option.bind_some,aU (by omega)]
  simp only [oJ,Int.toNat_natCast,hw,hb]
  cases b with
  | true=>rfl
  | false =>
   have:=fg hb
   simp only [Bool.not_false,cond_true,Option.bind_some,hb]
   rw [bg (by simp only [List.length_singleton]; omega)]
   rfl
 ·rintro ⟨seen,st⟩ i d t ⟨hs,hst⟩ hd' hg
  simp only at hs hst
  simp only [oJ] at hg
  cases hg
  split
  ·rename_i hb
   have:=fg hb
   exact ⟨by simpa using hs,by simp only [List.length_append,List.length_singleton]; omega⟩
  ·exact ⟨hs,hst⟩
 ·intro s hs
  simp only [qb]
  rw [aA (by omega)]; rfl
 ·cases ay (oJ E) 0 (seen,st) l with
  | none=>rfl
  | some x=>cases x with
   | inl t=>rfl
   | inr e=>exact nomatch e
theorem wY (h : RotOK (N : Nat) E A) (n c v : Int) (hN0 : 0 < N) (hc : iS N E) :
  ∃ seen,qc ((N : Int),E,A,(List.replicate N false).set 0 true,[0],n,c,v,())=some (.inl ((N : Int),E,A,seen,n,c,v,()))∧seen.length=N∧∀ v,v < N→seen[v]?=some true:=by
 have h16 : N≤16384:=by have:=h.n1; omega
 have hAl : A.length=N:=by have:=h.len; omega
 obtain ⟨r,h1,h2⟩:=nf (f:=jX) (fun s=>∃ seen st,s=((N : Int),E,A,seen,st,n,c,v,())∧Look N E seen st∧st.length+unm seen≤N)
  (fun s=>s.2.2.2.2.1.length+2 * unm s.2.2.2.1) (fun r=>∃ seen,r=.inl ((N : Int),E,A,seen,n,c,v,())∧seen.length=N∧∀ v,v < N→seen[v]?=some true) (by
   rintro _ ⟨seen,st,rfl,hL,hc'⟩
   match st with
   | [] =>
    right
    refine ⟨.inl ((N : Int),E,A,seen,n,c,v,()),?_,seen,rfl,hL.len,(hL.all h).2 hc⟩
    simp only [jX]
    rw [cM (by simp)]; rfl
   | d :: q =>
    left
    obtain ⟨u,rfl,huN,hus⟩:=hL.stk d (by simp)
    obtain ⟨l,hl⟩ : ∃ l,A[u]?=some l:=⟨_,List.getElem?_eq_getElem (by omega)⟩
    have hlm:=List.mem_of_getElem? hl
    have hll:=h.list_len hlm
    have hm1:=h.m1
    simp only [List.length_cons] at hc'
    obtain ⟨seen',new,q1,q2,q3,q4,q5,q6⟩:=iG (fun k hk=>h.hd_lt hk) l 0 seen ((u : Int) :: q) hL.len (fun d hd'=>h.mem_of hlm hd')
    refine ⟨((N : Int),E,A,seen',q++new,n,c,v,()),?_,⟨seen',q++new,rfl,?_,?_⟩,?_⟩
    ·simp only [jX]
     rw [dA (by simp),cond_true]
     have e1 : aJ ((u : Int) :: q).length 0=some 0:=aD (i:=0) (by simp)
     rw [e1,Option.bind_some]
     simp only [List.getElem?_cons_zero,Option.bind_some]
     rw [ae,hl,Option.bind_some,pC h seen ((u : Int) :: q) n c v l hL.len (by simp only [List.length_cons]; omega) (fun d hd'=>h.mem_of hlm hd') (by omega),q1]
     simp only [Option.bind_some,Sum.elim_inl]
     have e3 : iC ((u : Int) :: q++new).length 1 (((u : Int) :: q++new).length : Nat)=some (1,(q++new).length):=by
      simp only [iC,List.cons_append,List.length_cons]
      rw [if_pos (by omega)]
      congr 2 <;> omega
     rw [e3,Option.bind_some]
     have e4 : (List.drop 1 ((u : Int) :: q++new)).take (q++new).length=q++new:=by
      rw [show List.drop 1 ((u : Int) :: q++new)=q++new from rfl,List.take_length]
     simp only
     rw [e4]
    ·exact hL.step h huN (by simp) hl q (fun d=>by simp) q2 q4 q5 q6
    ·simp only [List.length_append]; omega
    ·simp only [List.length_append,List.length_cons]; omega) ((N : Int),E,A,(List.replicate N false).set 0 true,[0],n,c,v,()) (by
   have hr0 : (List.replicate N false)[0]?=some false:=by simp [List.getElem?_replicate,hN0]
   have hu:=fg hr0
   rw [tX] at hu
   have hset : ∀ v,((List.replicate N false).set 0 true)[v]?=some true→v=0:=by
    intro v hv
    rw [List.getElem?_set] at hv
    by_cases e : 0=v
    ·exact e.symm
    ·rw [if_neg e,List.getElem?_replicate] at hv
     split at hv <;> simp at hv
   refine ⟨_,[0],rfl,⟨by simp,?_,?_,?_,?_⟩,by simp; omega⟩
   ·intro d hd'
    simp at hd'
    subst hd'
    exact ⟨0,rfl,hN0,by simp [hN0]⟩
   ·intro v hv hs hn
    have:=hset v hs
    subst this
    simp at hn
   ·intro v hv hs
    rw [hset v hs]; exact .refl 0
   ·simp [hN0])
 obtain ⟨seen,rfl,h3,h4⟩:=h2
 exact ⟨seen,h1,h3,h4⟩
theorem sx (h : RotOK (N : Nat) E A) (hN0 : 0 < N) (hc : iS N E) : Zj (((N : Int),E,A,()),())=some (1,()):=by
 have h16 : N≤16384:=by have:=h.n1; omega
 obtain ⟨seen,q1,q2,q3⟩:=wY h 1 (N : Int) 0 hN0 hc
 unfold Zj
 simp only
 rw [db (Nat.le_refl _) (by omega),Option.bind_some]
 have first : jh ((N : Int),E,A,List.replicate N (aH Ty.bool),0,(N : Int),0,())=some (.inl ((N : Int),E,A,seen,1,(N : Int),1,())):=by
  simp only [jh]
  rw [aG (by omega),cond_true]
  have e1 : aJ (List.replicate N (aH Ty.bool)).length 0=some 0:=by rw [List.length_replicate]; exact aD (i:=0) (by omega)
  rw [e1,Option.bind_some]
  have e2 : (List.replicate N (aH Ty.bool))[0]?=some false:=by simp [List.getElem?_replicate,hN0,aH]
  simp only [e2,Option.bind_some,cond_false]
  rw [show ah .i64 0 1=1 by decide]
  rw [show qc ((N : Int),E,A,(List.replicate N (aH Ty.bool)).set 0 true,[0],1,(N : Int),0,())=_ from q1]
  simp only [Option.bind_some,Sum.elim_inl]
  rw [show ah .i64 0 1=1 by decide]
 have rest : ∀ (d k : Nat),k+d=N→sV ((N : Int),E,A,seen,1,(N : Int),(k : Int),())=some (.inl (1,())):=by
  intro d
  induction d with
  | zero =>
   intro k hk
   refine ai ?_
   simp only [jh]
   rw [aA (by omega)]; rfl
  | succ d ih =>
   intro k hk
   have hs : jh ((N : Int),E,A,seen,1,(N : Int),(k : Int),())=some (.inl ((N : Int),E,A,seen,1,(N : Int),((k+1 : Nat) : Int),())):=by
    simp only [jh]
    rw [aG (by omega),cond_true,aD (by omega),Option.bind_some,q3 k (by omega),Option.bind_some,cond_true,aU (by omega)]
   exact (ap hs).trans (ih (k+1) (by omega))
 have all : sV ((N : Int),E,A,List.replicate N (aH Ty.bool),0,(N : Int),0,())=some (.inl (1,())) :=
  (ap first).trans (rest (N - 1) 1 (by omega))
 rw [all]
 rfl
def rt (up : List Int) : Nat→Nat→Nat
 | 0,v=>v
 | n+1,v=>match up[v]? with
  | some u=>if u.toNat=v then v else rt up n u.toNat
  | none=>v
def ls (N : Nat) (up : List Int) : Prop:=up.length=N∧∀ v,v < N→∃ u : Nat,up[v]?=some (u : Int)∧u≤v
theorem n8 {up : List Int} (h : ls N up) : ∀ (n v : Nat),v < N→rt up n v≤v
 | 0,v,_=>Nat.le_refl _
 | n+1,v,hv=>by
  obtain ⟨u,hu,hle⟩:=h.2 v hv
  simp only [rt,hu,Int.toNat_natCast]
  split
  ·exact Nat.le_refl _
  ·have:=n8 h n u (by omega); omega
theorem rL {up : List Int} (h : ls N up) : ∀ (n v : Nat),v < N→v≤n→rt up (n+1) v=rt up n v
 | 0,v,hv,hn=>by
  have : v=0:=by omega
  subst this
  obtain ⟨u,hu,hle⟩:=h.2 0 hv
  have : u=0:=by omega
  subst this
  have hu' : up[0]?=some (0 : Int):=hu
  simp [rt,hu']
 | n+1,v,hv,hn=>by
  obtain ⟨u,hu,hle⟩:=h.2 v hv
  rw [rt,rt]
  simp only [hu,Int.toNat_natCast]
  split
  ·rfl
  ·exact rL h n u (by omega) (by omega)
theorem Fw {up : List Int} (h : ls N up) {v : Nat} (hv : v < N) : ∀ n,v≤n→rt up n v=rt up N v:=by
 have key : ∀ d,rt up (v+d) v=rt up v v:=by
  intro d
  induction d with
  | zero=>rfl
  | succ d ih=>rw [show v+(d+1)=v+d+1 by omega,rL h _ v hv (by omega),ih]
 intro n hn
 obtain ⟨d,rfl⟩ : ∃ d,n=v+d:=⟨n - v,by omega⟩
 obtain ⟨d',hd'⟩ : ∃ d,N=v+d:=⟨N - v,by omega⟩
 rw [key d]
 rw [hd',key d']
theorem jz {up : List Int} (h : ls N up) {v u : Nat} (hv : v < N) (hu : up[v]?=some (u : Int)) : rt up N v=if u=v then v else rt up N u:=by
 obtain ⟨u',hu',hle⟩:=h.2 v hv
 rw [hu] at hu'
 have : u=u':=by have:=Option.some.inj hu'; omega
 subst this
 rw [← Fw h hv (v+1) (by omega)]
 simp only [rt,hu,Int.toNat_natCast]
 split
 ·rfl
 ·rw [Fw h (by omega) v (by omega)]
theorem o8 {up : List Int} (h : ls N up) : ∀ (v : Nat),v < N→up[rt up N v]?=some ((rt up N v : Nat) : Int):=by
 intro v
 induction v using Nat.strongRecOn with
 | ind v ih =>
  intro hv
  obtain ⟨u,hu,hle⟩:=h.2 v hv
  rw [jz h hv hu]
  split
  ·rename_i e; subst e; exact hu
  ·exact ih u (by omega) (by omega)
theorem EC {up : List Int} (h : ls N up) : ∀ (v : Nat),v < N→xE (up,(v : Int),())=some (.inl (((rt up N v : Nat) : Int),())):=by
 intro v
 induction v using Nat.strongRecOn with
 | ind v ih =>
  intro hv
  obtain ⟨u,hu,hle⟩:=h.2 v hv
  rw [jz h hv hu]
  by_cases e : u=v
  ·subst e
   rw [if_pos rfl]
   refine ai ?_
   simp only [pJ]
   rw [ae,hu,Option.bind_some,bx rfl]; rfl
  ·rw [if_neg e]
   have hs : pJ (up,(v : Int),())=some (.inl (up,(u : Int),())):=by
    simp only [pJ]
    rw [ae,hu,Option.bind_some,fp (by omega)]; rfl
   exact (ap hs).trans (ih u (by omega) (by omega))
theorem yN {up : List Int} (h : ls N up) {v : Nat} (hv : v < N) : Zal (up,(v : Int),())=some (((rt up N v : Nat) : Int),()):=by
 unfold Zal
 simp only
 rw [EC h v hv]; rfl
theorem EQ {up : List Int} (h : ls N up) {a b : Nat} (ha : a < N) (hb : b < N) (hra : up[a]?=some (a : Int)) (hrb : up[b]?=some (b : Int)) (hlt : b < a) :
  ls N (up.set a (b : Int))∧∀ v,v < N→rt (up.set a (b : Int)) N v=if rt up N v=a then b else rt up N v:=by
 have hok : ls N (up.set a (b : Int)):=by
  refine ⟨by simpa using h.1,fun v hv=>?_⟩
  rw [List.getElem?_set]
  by_cases e : a=v
  ·subst e; exact ⟨b,by simp [h.1]; omega,by omega⟩
  ·rw [if_neg e]; exact h.2 v hv
 refine ⟨hok,fun v=>?_⟩
 induction v using Nat.strongRecOn with
 | ind v ih =>
  intro hv
  obtain ⟨u,hu,hle⟩:=h.2 v hv
  by_cases e : v=a
  ·subst e
   have h1 : (up.set v (b : Int))[v]?=some (b : Int):=by simp [h.1,hv]
   rw [jz hok hv h1,if_neg (by omega),ih b hlt hb]
   rw [jz h hv hra,if_pos rfl,if_pos rfl,jz h hb hrb,if_pos rfl,if_neg (by omega)]
  ·have h1 : (up.set a (b : Int))[v]?=some (u : Int):=by rw [List.getElem?_set,if_neg (by omega)]; exact hu
   rw [jz hok hv h1,jz h hv hu]
   by_cases e2 : u=v
   ·subst e2; simp [e]
   ·rw [if_neg e2,if_neg e2]
    exact ih u (by omega) (by omega)
end
end Go.Vm

namespace Go.Vm
open Go.Proofs
set_option maxRecDepth 100000
attribute [local irreducible] aa
section
variable {N : Nat} {E : List Arc} {A : List (List Int)}
def bM (up : List Int) (v : Nat) : Bool:=decide (up[v]?=some (v : Int))
def eH (N : Nat) (up : List Int) : Nat:=(List.range N).countP (bM up)
theorem yr {up : List Int} (h : ls N up) {a b : Nat} (ha : a < N) (hra : up[a]?=some (a : Int)) (hlt : b < a) : eH N (up.set a (b : Int))+1=eH N up:=by
 have e1 : cr (bM (up.set a (b : Int))) a=bM up:=by
  funext v
  unfold cr bM
  by_cases e : v=a
  ·subst e; simp [hra]
  ·rw [List.getElem?_set,if_neg (Ne.symm e)]
   simp [e]
 have e2 : bM (up.set a (b : Int)) a=false:=by
  unfold bM
  simp [h.1,ha]
  omega
 unfold eH
 rw [← e1,l6 e2 ha]
structure CompInv (N : Nat) (E : List Arc) (i : Nat) (s : List Int×Int) : Prop where
 up : ls N s.1
 num : s.2=(eH N s.1 : Int)
 same : ∀ j a,j < i→E[j]?=some a→rt s.1 N a.1.toNat=rt s.1 N a.2.1.toNat
 reach : ∀ v,v < N→Reach E v (rt s.1 N v)
def jM (N : Nat) (_ : Nat) (s : List Int×Int) (a : Arc) : Option ((List Int×Int)⊕Empty) :=
 let p:=rt s.1 N a.1.toNat
 let q:=rt s.1 N a.2.1.toNat
 some (.inl (if p=q then s else (s.1.set (max p q) ((min p q : Nat) : Int),bf .i64 s.2 1)))
theorem ya (h : RotOK (N : Nat) E A) {j : Nat} {a : Arc} (ha : E[j]?=some a) : Reach E a.1.toNat a.2.1.toNat:=by
 have hj : j < E.length:=(List.getElem?_eq_some_iff.1 ha).1
 obtain ⟨e1,e2,e3,e4,_⟩:=h.edge a (List.mem_of_getElem? ha)
 refine .step (.refl _) (k:=2 * j) (by omega) ?_ ?_
 ·unfold tl
  rw [show 2 * j / 2=j by omega,ha]
  simp
  omega
 ·unfold hd tl oth
  rw [if_pos (by omega),show (2 * j+1) / 2=j by omega,ha]
  have : (2 * j+1) % 2=1:=by omega
  simp [this]
  omega
theorem ov (h : RotOK (N : Nat) E A) {i : Nat} {s t : List Int×Int} {a : Arc} (hs : CompInv N E i s) (ha : E[i]?=some a) (hg : jM N i s a=some (.inl t)) : CompInv N E (i+1) t:=by
 have h16 : N≤16384:=by have:=h.n1; omega
 obtain ⟨e1,e2,e3,e4,_⟩:=h.edge a (List.mem_of_getElem? ha)
 have hpa : a.1.toNat < N:=by omega
 have hqa : a.2.1.toNat < N:=by omega
 have hp:=n8 hs.up N _ hpa
 have hq:=n8 hs.up N _ hqa
 have hrp:=o8 hs.up _ hpa
 have hrq:=o8 hs.up _ hqa
 simp only [jM] at hg
 cases hg
 by_cases e : rt s.1 N a.1.toNat=rt s.1 N a.2.1.toNat
 ·rw [if_pos e]
  refine ⟨hs.up,hs.num,fun j b hj hb=>?_,hs.reach⟩
  rcases Nat.eq_or_lt_of_le (Nat.le_of_lt_succ hj) with rfl | hlt
  ·rw [ha] at hb; cases hb; exact e
  ·exact hs.same j b hlt hb
 ·rw [if_neg e]
  -- the greater one is laid under the smaller one
  obtain ⟨x,y,hx,hy,hxy,hrx,hry,hpq⟩ : ∃ x y : Nat,x=max (rt s.1 N a.1.toNat) (rt s.1 N a.2.1.toNat)∧y=min (rt s.1 N a.1.toNat) (rt s.1 N a.2.1.toNat)∧y < x∧s.1[x]?=some (x : Int)∧s.1[y]?=some (y : Int) ∧
    ((rt s.1 N a.1.toNat=x∧rt s.1 N a.2.1.toNat=y)∨(rt s.1 N a.1.toNat=y∧rt s.1 N a.2.1.toNat=x)):=by
   rcases Nat.lt_or_ge (rt s.1 N a.1.toNat) (rt s.1 N a.2.1.toNat) with hlt | hge
   ·exact ⟨_,_,rfl,rfl,by omega,by rw [Nat.max_eq_right (by omega)]; exact hrq,by rw [Nat.min_eq_left (by omega)]; exact hrp,.inr ⟨by omega,by omega⟩⟩
   ·exact ⟨_,_,rfl,rfl,by omega,by rw [Nat.max_eq_left (by omega)]; exact hrp,by rw [Nat.min_eq_right (by omega)]; exact hrq,.inl ⟨by omega,by omega⟩⟩
  rw [← hx,← hy]
  have hxN : x < N:=by omega
  have hyN : y < N:=by omega
  obtain ⟨j1,j2⟩:=EQ hs.up hxN hyN hrx hry hxy
  have hrj:=yr hs.up hxN hrx hxy
  have hrle : eH N s.1≤N:=by
   have:=List.countP_le_length (p:=bM s.1) (l:=List.range N)
   simpa [eH] using this
  have hxyr : Reach E x y:=by
   have r1:=hs.reach _ hpa
   have r2:=hs.reach _ hqa
   have r3:=ya h ha
   rcases hpq with ⟨p1,p2⟩ | ⟨p1,p2⟩
   ·rw [p1] at r1; rw [p2] at r2
    exact (r1.symm.trans r3).trans r2
   ·rw [p1] at r1; rw [p2] at r2
    exact ((r2.symm.trans r3.symm).trans r1)
  refine ⟨j1,?_,?_,?_⟩
  ·show bf .i64 s.2 1=_
   rw [hs.num,kK (by omega)]
   show _=((eH N (s.1.set x (y : Int)) : Nat) : Int)
   omega
  ·intro j b hj hb
   obtain ⟨b1,b2,b3,b4,_⟩:=h.edge b (List.mem_of_getElem? hb)
   rw [j2 _ (by omega),j2 _ (by omega)]
   rcases Nat.eq_or_lt_of_le (Nat.le_of_lt_succ hj) with rfl | hlt
   ·rw [ha] at hb; cases hb
    rcases hpq with ⟨p1,p2⟩ | ⟨p1,p2⟩ <;> rw [p1,p2] <;> simp <;> omega
   ·rw [hs.same j b hlt hb]
  ·intro v hv
   rw [j2 v hv]
   have:=hs.reach v hv
   split
   ·rename_i e5
    rw [e5] at this
    exact this.trans hxyr
   ·exact this
theorem vm (h : RotOK (N : Nat) E A) : ∃ up,∃ c : Nat,D5 ((N : Int),E,A,(List.range N).map Int.ofNat,(N : Int),0,())=some (.inl ((c : Int),()))∧CompInv N E E.length (up,(c : Int)):=by
 have h16 : N≤16384:=by have:=h.n1; omega
 have hm1:=h.m1
 have h0 : CompInv N E 0 ((List.range N).map Int.ofNat,(N : Int)):=by
  have hg : ∀ v,v < N→((List.range N).map Int.ofNat)[v]?=some (v : Int):=by
   intro v hv; simp [hv]
  have hu : ls N ((List.range N).map Int.ofNat):=⟨by simp,fun v hv=>⟨v,hg v hv,Nat.le_refl _⟩⟩
  have hr : ∀ v,v < N→rt ((List.range N).map Int.ofNat) N v=v:=fun v hv=>by rw [jz hu hv (hg v hv),if_pos rfl]
  refine ⟨hu,?_,fun j a hj=>by omega,fun v hv=>by rw [hr v hv]; exact .refl _⟩
  have : eH N ((List.range N).map Int.ofNat)=N:=by
   unfold eH
   rw [List.countP_eq_length.2 (fun v hv=>?_)]
   ·simp
   ·have:=List.mem_range.1 hv
    simp [bM,this]
  simp only
  rw [this]
 have key:=f7 (B:=vf) (ε:=Empty) (fun i s=>CompInv N E i s) (fun s i=>((N : Int),E,A,s.1,s.2,(i : Int),())) (fun s=>.inl (s.2,())) (fun e=>nomatch e) (jM N) E (by
   rintro ⟨up,n⟩ i a hs ha
   have hi : i < E.length:=(List.getElem?_eq_some_iff.1 ha).1
   obtain ⟨e1,e2,e3,e4,_⟩:=h.edge a (List.mem_of_getElem? ha)
   obtain ⟨p,hp⟩ : ∃ p : Nat,a.1=p:=⟨a.1.toNat,by omega⟩
   obtain ⟨q,hq⟩ : ∃ q : Nat,a.2.1=q:=⟨a.2.1.toNat,by omega⟩
   have hpN : p < N:=by omega
   have hqN : q < N:=by omega
   have hu : ls N up:=hs.up
   have lp:=n8 hu N p hpN
   have lq:=n8 hu N q hqN
   simp only [vf]
   rw [aG (by omega),cond_true,ae,ha,Option.bind_some]
   simp only [hp,Option.bind_some,hq]
   rw [yN hu hpN,Option.bind_some,yN hu hqN,Option.bind_some,aU (by omega)]
   simp only [jM,hp,hq,Int.toNat_natCast]
   by_cases e : rt up N p=rt up N q
   ·rw [bx (by omega),if_pos e]; rfl
   ·rw [fp (by omega),if_neg e,cond_true]
    have em : ju ((rt up N p : Nat) : Int) ((rt up N q : Nat) : Int)=((max (rt up N p) (rt up N q) : Nat) : Int):=by
     unfold ju; split <;> omega
    have en : uf ((rt up N p : Nat) : Int) ((rt up N q : Nat) : Int)=((min (rt up N p) (rt up N q) : Nat) : Int):=by
     unfold uf; split <;> omega
    rw [em,en,aD (by rw [hu.1]; omega),Option.bind_some]
    obtain ⟨z,hz⟩ : ∃ z,up[max (rt up N p) (rt up N q)]?=some z:=⟨_,List.getElem?_eq_getElem (by rw [hu.1]; omega)⟩
    rw [hz]
    rfl) (by
   rintro s i a t hs ha hg
   exact ov h hs ha hg) (by
   intro s hs
   simp only [vf]
   rw [aA (by omega)]; rfl) ((List.range N).map Int.ofNat,(N : Int)) h0
 obtain ⟨t,ht⟩:=iA (g:=jM N) (l:=E) (i:=0) (s:=((List.range N).map Int.ofNat,(N : Int)))
  (fun _ s a=>if rt s.1 N a.1.toNat=rt s.1 N a.2.1.toNat then s else (s.1.set (max (rt s.1 N a.1.toNat) (rt s.1 N a.2.1.toNat)) ((min (rt s.1 N a.1.toNat) (rt s.1 N a.2.1.toNat) : Nat) : Int),bf .i64 s.2 1)) (fun _ _ _ _=>rfl)
 have hI:=il (I:=fun i s=>CompInv N E i s) (fun s j a u h1 h2 h3=>by
  rw [Nat.zero_add] at h1 h3 ⊢
  exact ov h h1 h2 h3) h0 ht
 rw [Nat.zero_add] at hI
 rw [ht] at key
 refine ⟨t.1,eH N t.1,?_,⟨hI.up,rfl,hI.same,hI.reach⟩⟩
 rw [← hI.num]
 exact key
theorem AE (h : RotOK (N : Nat) E A) (hN0 : 0 < N) {up : List Int} {c : Nat} (hI : CompInv N E E.length (up,(c : Int))) : c=1↔iS N E:=by
 have hc : c=eH N up:=by have:=hI.num; simp only at this; omega
 have hu : ls N up:=hI.up
 have hroot0 : bM up 0=true:=by
  obtain ⟨u,e1,e2⟩:=hu.2 0 hN0
  have : u=0:=by omega
  subst this
  simpa [bM] using e1
 have hrt : ∀ v,v < N→bM up (rt up N v)=true:=fun v hv=>by
  have:=o8 hu v hv
  simp [bM,this]
 constructor
 ·intro h1
  have hz : ∀ v,v < N→bM up v=true→v=0:=by
   intro v hv hr
   apply Classical.byContradiction
   intro hne
   have e1 : cr (fun x=>bM up x && x != 0) 0=bM up:=by
    funext x
    unfold cr
    by_cases e : x=0
    ·subst e; simp [hroot0]
    ·have e5 : (x == 0)=false:=by simpa using e
     have e6 : (x != 0)=true:=by simpa using e
     rw [e5]; show (bM up x && x != 0 || false)=_; rw [e6]; simp
   have e2 : (List.range N).countP (bM up)=(List.range N).countP (fun x=>bM up x && x != 0)+1:=by
    rw [← l6 (S:=fun x=>bM up x && x != 0) (i:=0) (by simp) hN0,e1]
   have e3 : (List.range N).countP (fun x=>bM up x && x != 0)=0:=by
    unfold eH at hc; omega
   rw [List.countP_eq_zero] at e3
   have:=e3 v (List.mem_range.2 hv)
   simp [hr,hne] at this
  intro v hv
  have e4:=hz _ (Nat.lt_of_le_of_lt (n8 hu N v hv) hv) (hrt v hv)
  have:=hI.reach v hv
  simp only [e4] at this
  exact this.symm
 ·intro hcn
  have hall : ∀ {u v : Nat},Reach E u v→u < N→rt up N u=rt up N v:=by
   intro u v hr
   induction hr with
   | refl=>intro _; rfl
   | @step v w k hr' hk e1 e2 ih =>
    intro hu0
    rw [ih hu0]
    have hj : k / 2 < E.length:=by omega
    obtain ⟨a,ha⟩ : ∃ a,E[k / 2]?=some a:=⟨_,List.getElem?_eq_getElem hj⟩
    have hs:=hI.same (k / 2) a hj ha
    simp only at hs
    have e1' : tl E k=(if k % 2=0 then a.1 else a.2.1):=by simp [tl,ha]
    have e2' : hd E k=(if k % 2=0 then a.2.1 else a.1):=by
     unfold hd tl
     rw [oY,ha,o9]
     rcases Nat.mod_two_eq_zero_or_one k with e | e <;> simp [e]
    rw [e1'] at e1
    rw [e2'] at e2
    rcases Nat.mod_two_eq_zero_or_one k with e | e
    ·simp only [e,if_true] at e1 e2
     rw [e1,e2] at hs
     simpa using hs
    ·simp only [e,if_neg (by omega : ¬ (1=0))] at e1 e2
     rw [e1,e2] at hs
     simpa using hs.symm
  have hz : ∀ v,v < N→bM up v=true→v=0:=by
   intro v hv hr
   have e1 : up[v]?=some (v : Int):=by simpa [bM] using hr
   have e0 : up[0]?=some ((0 : Nat) : Int):=by simpa [bM] using hroot0
   have:=hall (hcn v hv) hN0
   rw [jz hu hN0 e0,if_pos rfl,jz hu hv e1,if_pos rfl] at this
   exact this.symm
  rw [hc]
  unfold eH
  have e1 : (List.range N).countP (bM up)=(List.range N).countP (cr (fun _=>false) 0):=by
   refine List.countP_congr fun x hx=>?_
   have hxN:=List.mem_range.1 hx
   unfold cr
   simp only [Bool.false_or,beq_iff_eq]
   exact ⟨hz x hxN,fun e=>by rw [e]; exact hroot0⟩
  rw [e1,l6 (S:=fun _=>false) (i:=0) rfl hN0]
  simp
theorem sQ (h : RotOK (N : Nat) E A) : ∃ c : Nat,Zc (((N : Int),E,A,()),())=some ((c : Int),())∧c≤N∧(0 < N→(c=1↔iS N E)):=by
 have h16 : N≤16384:=by have:=h.n1; omega
 obtain ⟨up,c,h1,h2⟩:=vm h
 refine ⟨c,?_,?_,fun hN0=>AE h hN0 h2⟩
 ·unfold Zc
  simp only
  have key : ∀ (d k : Nat),k+d=N→rP ((N : Int),E,A,(List.range k).map Int.ofNat,(k : Int),())=some (.inl ((N : Int),E,A,(List.range N).map Int.ofNat,())):=by
   intro d
   induction d with
   | zero =>
    intro k hk
    have : k=N:=by omega
    subst this
    refine ai ?_
    simp only [og]
    rw [aA (by omega)]; rfl
   | succ d ih =>
    intro k hk
    have hs : og ((N : Int),E,A,(List.range k).map Int.ofNat,(k : Int),())=some (.inl ((N : Int),E,A,(List.range (k+1)).map Int.ofNat,((k+1 : Nat) : Int),())):=by
     simp only [og]
     rw [aG (by omega),cond_true,bg (by simp; omega),Option.bind_some,aU (by omega),List.range_succ,List.map_append]
     rfl
    exact (ap hs).trans (ih (k+1) (by omega))
  have:=key N 0 (by omega)
  rw [show rP ((N : Int),E,A,[],0,())=_ from this]
  simp only [Option.bind_some,Sum.elim_inl]
  rw [h1]
  rfl
 ·have:=h2.num
  have hle:=List.countP_le_length (p:=bM up) (l:=List.range N)
  simp only [eH,List.length_range] at this hle
  omega
end
end Go.Vm

namespace Go.Vm
open Go.Proofs
set_option maxRecDepth 100000
attribute [local irreducible] aa
section
variable {E : List Arc} {A : List (List Int)} {N : Nat}
theorem rn {v : Nat} : ∀ (l : List Int) (i : Nat) (S : List Int) (met : List Bool) (n : Int),met.length=2 * E.length→(∀ k : Nat,k < 2 * E.length→(met[k]?=some true↔(k : Int)∈S)) →
  (∀ d∈l,∃ k : Nat,d=(k : Int)∧k < 2 * E.length∧tl E k=v)→(S++l).Nodup→∃ t,ay (dG E v) i (met,n) l=some (.inl t)
 | [],i,S,met,n,_,_,_,_=>⟨(met,n),rfl⟩
 | d :: l,i,S,met,n,hm,hS,hl,hnd=>by
  obtain ⟨k,rfl,hk,htl⟩:=hl d (by simp)
  have hns : (k : Int)∉S:=by
   rw [List.nodup_append] at hnd
   intro hin
   exact hnd.2.2 _ hin (k : Int) (by simp) rfl
  have hf : met[k]?=some false:=by
   obtain ⟨b,hb⟩ : ∃ b,met[k]?=some b:=⟨_,List.getElem?_eq_getElem (by omega)⟩
   cases b with
   | false=>exact hb
   | true=>exact absurd ((hS k hk).1 hb) hns
  simp only [ay]
  unfold dG
  rw [if_pos ⟨by omega,by simp only; omega,by simpa using hf,by simpa using htl⟩]
  simp only [Option.bind_some,Sum.elim_inl,Int.toNat_natCast]
  refine rn l (i+1) (S++[(k : Int)]) (met.set k true) _ (by simpa using hm) (fun j hj=>?_) (fun d hd=>hl d (by simp [hd])) (by simpa using hnd)
  rw [List.getElem?_set]
  by_cases e : k=j
  ·subst e
   rw [if_pos rfl,if_pos (by omega)]
   simp
  ·rw [if_neg e,hS j hj]
   simp only [List.mem_append,List.mem_singleton]
   exact ⟨.inl,fun h=>h.resolve_right (by omega)⟩
theorem rH (hE : E.length≤32768) : ∀ (A : List (List Int)) (i : Nat) (S : List Int) (met : List Bool) (n : Int),met.length=2 * E.length→(∀ k : Nat,k < 2 * E.length→(met[k]?=some true↔(k : Int)∈S)) →
  n=S.length→(∀ d∈S,∃ k : Nat,d=(k : Int)∧k < 2 * E.length)→(∀ (v : Nat) (l : List Int),A[v]?=some l→∀ d∈l,∃ k : Nat,d=(k : Int)∧k < 2 * E.length∧tl E k=((i+v : Nat) : Int))→(S++A.flatten).Nodup →
  ∃ t,ay (fun v s l=>di E v s l) i (met,n) A=some (.inl t)
 | [],i,S,met,n,_,_,_,_,_,_=>⟨(met,n),rfl⟩
 | l :: A,i,S,met,n,hm,hS,hn,hr,hA,hnd=>by
  have hl:=hA 0 l rfl
  rw [List.flatten_cons,← List.append_assoc] at hnd
  have hnd1 : (S++l).Nodup:=(List.nodup_append.1 hnd).1
  have hndS : S.Nodup:=(List.nodup_append.1 hnd1).1
  obtain ⟨t,ht⟩:=rn (v:=i) l 0 S met n hm hS (fun d hd=>by simpa using hl d hd) hnd1
  obtain ⟨q1,q2,q3,q4,q5⟩:=lG hm hS hn hndS hr hE ht
  obtain ⟨t2,ht2⟩:=rH hE A (i+1) (S++l) t.1 t.2 q5 q3 q4 (by
   intro d hd
   rcases List.mem_append.1 hd with hd | hd
   ·exact hr d hd
   ·obtain ⟨k,hk,hk2,_⟩:=q1 d hd; exact ⟨k,hk,hk2⟩) (by
   intro v l' hl' d hd
   obtain ⟨k,k1,k2,k3⟩:=hA (v+1) l' (by simpa using hl') d hd
   exact ⟨k,k1,k2,by rw [k3]; omega⟩) hnd
  refine ⟨t2,?_⟩
  simp only [ay]
  rw [show di E i (met,n) l=some (.inl t) from ht]
  exact ht2
theorem RotOK.validB (h : RotOK (N : Nat) E A) : validB ((N : Int),E,A,())=true:=by
 have hm1:=h.m1
 have hn1:=h.n1
 have hlen:=h.len
 obtain ⟨t,ht⟩:=rH hm1 A 0 [] (List.replicate (2 * E.length) false) 0 (by simp) (by
  intro k hk
  simp [List.getElem?_replicate,hk]) rfl (by simp) (by
  intro v l hl d hd
  obtain ⟨k,k1,k2,k3⟩:=h.dart v l hl d hd
  exact ⟨k,k1,k2,by rw [k3]; omega⟩) (by simpa using h.nodup)
 have hl:=lP ht
 obtain ⟨_,_,_,q4⟩:=nH hm1 (A:=A) (i:=0) (S:=[]) (met:=List.replicate (2 * E.length) false) (n:=0) (t:=t) (by simp) (by
   intro k hk
   simp [List.getElem?_replicate,hk]) rfl List.nodup_nil (by simp) ht
 have hall:=h.all
 unfold Go.Vm.validB
 simp only
 rw [show nw E A=some (.inl t) from ht]
 simp only [List.nil_append] at q4
 rw [aA (by omega),cM (by omega),cM (by omega),bx (by omega)]
 have : E.any (cW (N : Int))=false:=by
  rw [List.any_eq_false]
  intro a ha
  obtain ⟨e1,e2,e3,e4,e5⟩:=h.edge a ha
  unfold cW
  rw [aA e1,jG e2,aA e3,jG e4,cn e5]
  simp
 rw [this]
 have e5 : eqI t.2 ((t.1.length : Nat) : Int)=true:=dk (by omega)
 exact e5
end
end Go.Vm

namespace Go.Vm
open Go.Proofs
set_option maxRecDepth 100000
attribute [local irreducible] aa
section
variable {N : Nat} {E : List Arc} {A : List (List Int)}
def EE (E : List Arc) (v : Nat) : Prop:=∀ u,u < v→¬ Reach E u v
open Classical in
noncomputable def gr (E : List Arc) (v : Nat) : Bool:=decide (EE E v)
theorem fC {v : Nat} : gr E v=true↔EE E v:=by unfold gr; simp
noncomputable def comps (N : Nat) (E : List Arc) : Nat:=(List.range N).countP (gr E)
theorem ET (h : RotOK (N : Nat) E A) {s : List Int×Int} (hI : CompInv N E E.length s) : ∀ {u v : Nat},Reach E u v→u < N→rt s.1 N u=rt s.1 N v:=by
 intro u v hr
 induction hr with
 | refl=>intro _; rfl
 | @step v w k hr' hk e1 e2 ih =>
  intro hu0
  rw [ih hu0]
  have hj : k / 2 < E.length:=by omega
  obtain ⟨a,ha⟩ : ∃ a,E[k / 2]?=some a:=⟨_,List.getElem?_eq_getElem hj⟩
  have hs:=hI.same (k / 2) a hj ha
  have e1' : tl E k=(if k % 2=0 then a.1 else a.2.1):=by simp [tl,ha]
  have e2' : hd E k=(if k % 2=0 then a.2.1 else a.1):=by
   unfold hd tl
   rw [oY,ha,o9]
   rcases Nat.mod_two_eq_zero_or_one k with e | e <;> simp [e]
  rw [e1'] at e1
  rw [e2'] at e2
  rcases Nat.mod_two_eq_zero_or_one k with e | e
  ·simp only [e,if_true] at e1 e2
   rw [e1,e2] at hs
   simpa using hs
  ·simp only [e,if_neg (by omega : ¬ (1=0))] at e1 e2
   rw [e1,e2] at hs
   simpa using hs.symm
theorem u4 (h : RotOK (N : Nat) E A) {s : List Int×Int} (hI : CompInv N E E.length s) : eH N s.1=comps N E:=by
 unfold eH comps
 refine List.countP_congr fun v hv=>?_
 have hvN:=List.mem_range.1 hv
 rw [fC]
 constructor
 ·intro hr u hu hR
  have e1 : s.1[v]?=some (v : Int):=by simpa [bM] using hr
  have e2:=ET h hI hR (by omega)
  rw [jz hI.up hvN e1,if_pos rfl] at e2
  have:=n8 hI.up N u (by omega)
  omega
 ·intro hm
  have h1:=n8 hI.up N v hvN
  have h2:=hI.reach v hvN
  have h3 : rt s.1 N v=v:=by
   rcases Nat.eq_or_lt_of_le h1 with e | hlt
   ·exact e
   ·exact absurd h2.symm (hm _ hlt)
  have:=o8 hI.up v hvN
  rw [h3] at this
  simp [bM,this]
theorem xL (h : RotOK (N : Nat) E A) : Zc (((N : Int),E,A,()),())=some ((comps N E : Int),()):=by
 obtain ⟨up,c,h1,h2⟩:=vm h
 have hc : c=comps N E:=by
  rw [← u4 h h2]
  have : (c : Int)=(eH N up : Int):=h2.num
  show c=eH N up
  omega
 obtain ⟨c',e1,_⟩:=sQ h
 -- the value is that of the run
 have : Zc (((N : Int),E,A,()),())=some ((c : Int),()):=by
  unfold Zc at e1 ⊢
  simp only at e1 ⊢
  have h16 : N≤16384:=by have:=h.n1; omega
  have key : ∀ (d k : Nat),k+d=N→rP ((N : Int),E,A,(List.range k).map Int.ofNat,(k : Int),())=some (.inl ((N : Int),E,A,(List.range N).map Int.ofNat,())):=by
   intro d
   induction d with
   | zero =>
    intro k hk
    have : k=N:=by omega
    subst this
    refine ai ?_
    simp only [og]
    rw [aA (by omega)]; rfl
   | succ d ih =>
    intro k hk
    have hs : og ((N : Int),E,A,(List.range k).map Int.ofNat,(k : Int),())=some (.inl ((N : Int),E,A,(List.range (k+1)).map Int.ofNat,((k+1 : Nat) : Int),())):=by
     simp only [og]
     rw [aG (by omega),cond_true,bg (by simp; omega),Option.bind_some,aU (by omega),List.range_succ,List.map_append]
     rfl
    exact (ap hs).trans (ih (k+1) (by omega))
  have hk:=key N 0 (by omega)
  rw [show rP ((N : Int),E,A,[],0,())=_ from hk]
  simp only [Option.bind_some,Sum.elim_inl]
  rw [h1]
  rfl
 rw [this,hc]
structure LookQ (N : Nat) (E : List Arc) (Q : Nat→Prop) (seen0 seen : List Bool) (st : List Int) : Prop where
 len : seen.length=N
 stk : ∀ d∈st,∃ v : Nat,d=(v : Int)∧v < N∧seen[v]?=some true
 closed : ∀ v : Nat,v < N→seen[v]?=some true→(v : Int)∉st→∀ k w : Nat,k < 2 * E.length→tl E k=v→hd E k=w→seen[w]?=some true
 reach : ∀ v : Nat,v < N→seen[v]?=some true→Q v
 keep : ∀ v : Nat,v < N→seen0[v]?=some true→seen[v]?=some true
theorem LookQ.step (h : RotOK (N : Nat) E A) {Q : Nat→Prop} (hQ : ∀ v w k : Nat,Q v→k < 2 * E.length→tl E k=v→hd E k=w→Q w) {seen0 seen seen' : List Bool} {st new : List Int} {v : Nat} {l : List Int} (hL : LookQ N E Q seen0 seen st) (hvN : v < N) (hv : (v : Int)∈st) (hl : A[v]?=some l) (rest : List Int) (hrest : ∀ d,d∈st↔d=(v : Int)∨d∈rest)
  (h2 : seen'.length=N) (h4 : ∀ v,v < N→(seen'[v]?=some true↔seen[v]?=some true∨∃ k : Nat,(k : Int)∈l∧hd E k=v)) (h5 : ∀ v : Nat,v < N→seen'[v]?=some true→seen[v]?=some true∨(v : Int)∈new)
  (h6 : ∀ d∈new,∃ v : Nat,d=(v : Int)∧v < N∧seen'[v]?=some true) : LookQ N E Q seen0 seen' (rest++new):=by
 refine ⟨h2,?_,?_,?_,?_⟩
 ·intro d hd'
  rcases List.mem_append.1 hd' with hd' | hd'
  ·obtain ⟨u,e1,e2,e3⟩:=hL.stk d ((hrest d).2 (.inr hd'))
   exact ⟨u,e1,e2,(h4 u e2).2 (.inl e3)⟩
  ·exact h6 d hd'
 ·intro u hu hus hun k w hk hkt hkh
  obtain ⟨w',hw',hwN⟩:=h.hd_lt hk
  have : w=w':=by omega
  subst this
  rcases h5 u hu hus with hus | hus
  ·by_cases e : u=v
   ·subst e
    exact (h4 w hwN).2 (.inr ⟨k,h.around hk hkt hl,hkh⟩)
   ·refine (h4 w hwN).2 (.inl (hL.closed u hu hus (fun hin=>?_) k w hk hkt hkh))
    rcases (hrest u).1 hin with e2 | e2
    ·exact e (by omega)
    ·exact hun (List.mem_append.2 (.inl e2))
  ·exact absurd (List.mem_append.2 (.inr hus)) hun
 ·intro u hu hus
  rcases (h4 u hu).1 hus with hus | ⟨k,hk,hkh⟩
  ·exact hL.reach u hu hus
  ·obtain ⟨_,e1,e2,e3⟩:=hL.stk v hv
   have hvv : v=_:=Int.ofNat.inj e1
   obtain ⟨k',f1,f2,f3⟩:=h.dart v l hl _ hk
   have : k=k':=by omega
   subst this
   exact hQ v u k (hL.reach v hvN (by rw [hvv]; exact e3)) f2 f3 hkh
 ·intro u hu hus
  exact (h4 u hu).2 (.inl (hL.keep u hu hus))
theorem wj (h : RotOK (N : Nat) E A) {Q : Nat→Prop} (hQ : ∀ v w k : Nat,Q v→k < 2 * E.length→tl E k=v→hd E k=w→Q w) (seen0 : List Bool) (st0 : List Int) (hst : st0.length+unm seen0≤N) (h0 : LookQ N E Q seen0 seen0 st0) (n c v : Int) :
  ∃ seen,qc ((N : Int),E,A,seen0,st0,n,c,v,())=some (.inl ((N : Int),E,A,seen,n,c,v,()))∧LookQ N E Q seen0 seen []:=by
 have h16 : N≤16384:=by have:=h.n1; omega
 have hAl : A.length=N:=by have:=h.len; omega
 obtain ⟨r,h1,h2⟩:=nf (f:=jX) (fun s=>∃ seen st,s=((N : Int),E,A,seen,st,n,c,v,())∧LookQ N E Q seen0 seen st∧st.length+unm seen≤N)
  (fun s=>s.2.2.2.2.1.length+2 * unm s.2.2.2.1) (fun r=>∃ seen,r=.inl ((N : Int),E,A,seen,n,c,v,())∧LookQ N E Q seen0 seen []) (by
   rintro _ ⟨seen,st,rfl,hL,hc'⟩
   match st with
   | [] =>
    right
    refine ⟨.inl ((N : Int),E,A,seen,n,c,v,()),?_,seen,rfl,hL⟩
    simp only [jX]
    rw [cM (by simp)]; rfl
   | d :: q =>
    left
    obtain ⟨u,rfl,huN,hus⟩:=hL.stk d (by simp)
    obtain ⟨l,hl⟩ : ∃ l,A[u]?=some l:=⟨_,List.getElem?_eq_getElem (by omega)⟩
    have hlm:=List.mem_of_getElem? hl
    have hll:=h.list_len hlm
    have hm1:=h.m1
    simp only [List.length_cons] at hc'
    obtain ⟨seen',new,q1,q2,q3,q4,q5,q6⟩:=iG (fun k hk=>h.hd_lt hk) l 0 seen ((u : Int) :: q) hL.len (fun d hd'=>h.mem_of hlm hd')
    refine ⟨((N : Int),E,A,seen',q++new,n,c,v,()),?_,⟨seen',q++new,rfl,?_,?_⟩,?_⟩
    ·simp only [jX]
     rw [dA (by simp),cond_true]
     have e1 : aJ ((u : Int) :: q).length 0=some 0:=aD (i:=0) (by simp)
     rw [e1,Option.bind_some]
     simp only [List.getElem?_cons_zero,Option.bind_some]
     rw [ae,hl,Option.bind_some,pC h seen ((u : Int) :: q) n c v l hL.len (by simp only [List.length_cons]; omega) (fun d hd'=>h.mem_of hlm hd') (by omega),q1]
     simp only [Option.bind_some,Sum.elim_inl]
     have e3 : iC ((u : Int) :: q++new).length 1 (((u : Int) :: q++new).length : Nat)=some (1,(q++new).length):=by
      simp only [iC,List.cons_append,List.length_cons]
      rw [if_pos (by omega)]
      congr 2 <;> omega
     rw [e3,Option.bind_some]
     have e4 : (List.drop 1 ((u : Int) :: q++new)).take (q++new).length=q++new:=by
      rw [show List.drop 1 ((u : Int) :: q++new)=q++new from rfl,List.take_length]
     simp only
     rw [e4]
    ·exact hL.step h hQ huN (by simp) hl q (fun d=>by simp) q2 q4 q5 q6
    ·simp only [List.length_append]; omega
    ·simp only [List.length_append,List.length_cons]; omega) ((N : Int),E,A,seen0,st0,n,c,v,()) ⟨seen0,st0,rfl,h0,hst⟩
 obtain ⟨seen,rfl,h3⟩:=h2
 exact ⟨seen,h1,h3⟩
structure Done (N : Nat) (E : List Arc) (k : Nat) (seen : List Bool) : Prop where
 len : seen.length=N
 closed : ∀ v : Nat,v < N→seen[v]?=some true→∀ d w : Nat,d < 2 * E.length→tl E d=v→hd E d=w→seen[w]?=some true
 old : ∀ v : Nat,v < k→v < N→seen[v]?=some true
 from' : ∀ v : Nat,v < N→seen[v]?=some true→∃ u,u < k∧Reach E u v
theorem Done.reach (h : RotOK (N : Nat) E A) {k : Nat} {seen : List Bool} (hD : Done N E k seen) : ∀ {u v : Nat},Reach E u v→u < N→seen[u]?=some true→seen[v]?=some true:=by
 intro u v hr
 induction hr with
 | refl=>intro _ h; exact h
 | step hr' hk e1 e2 ih =>
  intro hu hs
  obtain ⟨u',e3,e4⟩:=h.tl_lt hk
  rw [e1] at e3
  have : _=u':=Int.ofNat.inj e3
  subst this
  exact hD.closed _ e4 (ih hu hs) _ _ hk e1 e2
theorem gO (p : Nat→Bool) (k : Nat) : (List.range (k+1)).countP p=(List.range k).countP p+cond (p k) 1 0:=by
 rw [List.range_succ,List.countP_append]
 cases h : p k <;> simp [h]
theorem sR (h : RotOK (N : Nat) E A) : Zj (((N : Int),E,A,()),())=some ((comps N E : Int),()):=by
 have h16 : N≤16384:=by have:=h.n1; omega
 have outer : ∀ (d k : Nat) (seen : List Bool),k+d=N→Done N E k seen→sV ((N : Int),E,A,seen,(((List.range k).countP (gr E) : Nat) : Int),(N : Int),(k : Int),())=some (.inl (((comps N E : Nat) : Int),())):=by
  intro d
  induction d with
  | zero =>
   intro k seen hk hD
   have : k=N:=by omega
   subst this
   refine ai ?_
   simp only [jh]
   rw [aA (by omega)]; rfl
  | succ d ih =>
   intro k seen hk hD
   have hkN : k < N:=by omega
   have hcle : (List.range k).countP (gr E)≤k:=by
    have:=List.countP_le_length (p:=gr E) (l:=List.range k)
    simpa using this
   obtain ⟨b,hb⟩ : ∃ b,seen[k]?=some b:=⟨_,List.getElem?_eq_getElem (by rw [hD.len]; exact hkN)⟩
   cases b with
   | true =>
    have hm : gr E k=false:=by
     cases e : gr E k with
     | false=>rfl
     | true =>
      obtain ⟨u,hu,hR⟩:=hD.from' k hkN hb
      exact absurd hR (fC.1 e u hu)
    have hc : (List.range (k+1)).countP (gr E)=(List.range k).countP (gr E):=by rw [gO,hm]; rfl
    have hs : jh ((N : Int),E,A,seen,(((List.range k).countP (gr E) : Nat) : Int),(N : Int),(k : Int),())=some (.inl ((N : Int),E,A,seen,(((List.range (k+1)).countP (gr E) : Nat) : Int),(N : Int),((k+1 : Nat) : Int),())):=by
     simp only [jh]
     rw [aG (by omega),cond_true,aD (by rw [hD.len]; exact hkN),Option.bind_some,hb,Option.bind_some,cond_true,aU (by omega),hc]
    refine (ap hs).trans (ih (k+1) seen (by omega) ⟨hD.len,hD.closed,fun v hv hvN=>?_,fun v hv hvs=>?_⟩)
    ·rcases Nat.eq_or_lt_of_le (Nat.le_of_lt_succ hv) with rfl | hlt
     ·exact hb
     ·exact hD.old v hlt hvN
    ·obtain ⟨u,hu,hR⟩:=hD.from' v hv hvs
     exact ⟨u,by omega,hR⟩
   | false =>
    have hm : gr E k=true:=by
     rw [fC]
     intro u hu hR
     have:=hD.reach h hR (by omega) (hD.old u hu (by omega))
     rw [hb] at this
     cases this
    have hc : (List.range (k+1)).countP (gr E)=(List.range k).countP (gr E)+1:=by rw [gO,hm]; rfl
    have hun:=fg hb
    have hunl:=pM seen
    rw [hD.len] at hunl
    have hset : ∀ v : Nat,(seen.set k true)[v]?=some true→v=k∨seen[v]?=some true:=by
     intro v hv
     rw [List.getElem?_set] at hv
     by_cases e : k=v
     ·exact .inl e.symm
     ·rw [if_neg e] at hv; exact .inr hv
    have hQ : ∀ v w d : Nat,((seen[v]?=some true∧v < N)∨Reach E k v)→d < 2 * E.length→tl E d=v→hd E d=w→((seen[w]?=some true∧w < N)∨Reach E k w):=by
     intro v w d hv hd' e1 e2
     rcases hv with ⟨hv,hvN⟩ | hv
     ·obtain ⟨w',e3,e4⟩:=h.hd_lt hd'
      have : w=w':=by omega
      subst this
      exact .inl ⟨hD.closed v hvN hv d w hd' e1 e2,e4⟩
     ·exact .inr (.step hv hd' e1 e2)
    obtain ⟨seen',q1,q2⟩:=wj h hQ (seen.set k true) [(k : Int)] (by simp; omega) ⟨by simpa using hD.len,fun d hd'=>by
      simp at hd'; subst hd'
      exact ⟨k,rfl,hkN,by simp [hD.len,hkN]⟩,fun v hv hvs hn d w hd' e1 e2=>by
      rcases hset v hvs with rfl | hvs
      ·simp at hn
      ·obtain ⟨w',e3,e4⟩:=h.hd_lt hd'
       have : w=w':=by omega
       subst this
       have:=hD.closed v hv hvs d w hd' e1 e2
       rw [List.getElem?_set]
       by_cases e : k=w
       ·subst e; simp [hD.len,hkN]
       ·rw [if_neg e]; exact this,fun v hv hvs=>by
      rcases hset v hvs with rfl | hvs
      ·exact .inr (.refl _)
      ·exact .inl ⟨hvs,hv⟩,fun _ _ h=>h⟩ (((List.range k).countP (gr E) : Nat)+1 : Nat) (N : Int) (k : Int)
    have hs : jh ((N : Int),E,A,seen,(((List.range k).countP (gr E) : Nat) : Int),(N : Int),(k : Int),())=some (.inl ((N : Int),E,A,seen',(((List.range (k+1)).countP (gr E) : Nat) : Int),(N : Int),((k+1 : Nat) : Int),())):=by
     simp only [jh]
     rw [aG (by omega),cond_true,aD (by rw [hD.len]; exact hkN),Option.bind_some,hb,Option.bind_some,cond_false]
     simp only [aD (show k < seen.length by rw [hD.len]; exact hkN),Option.bind_some,hb]
     rw [aU (a:=(List.range k).countP (gr E)) (by omega),q1]
     simp only [Option.bind_some,Sum.elim_inl]
     rw [aU (a:=k) (by omega),hc]
    refine (ap hs).trans (ih (k+1) seen' (by omega) ⟨q2.len,fun v hv hvs d w hd' e1 e2=>q2.closed v hv hvs (by simp) d w hd' e1 e2,fun v hv hvN=>?_,fun v hv hvs=>?_⟩)
    ·refine q2.keep v hvN ?_
     rw [List.getElem?_set]
     by_cases e : k=v
     ·subst e; simp [hD.len,hkN]
     ·rw [if_neg e]; exact hD.old v (by omega) hvN
    ·rcases q2.reach v hv hvs with ⟨hvs,_⟩ | hR
     ·obtain ⟨u,hu,hR⟩:=hD.from' v hv hvs
      exact ⟨u,by omega,hR⟩
     ·exact ⟨k,by omega,hR⟩
 have:=outer N 0 (List.replicate N false) (by omega) ⟨by simp,fun v hv hvs=>by simp [List.getElem?_replicate,hv] at hvs,fun v hv=>by omega,fun v hv hvs=>by simp [List.getElem?_replicate,hv] at hvs⟩
 unfold Zj
 simp only
 rw [db (Nat.le_refl _) (by omega),Option.bind_some,show List.replicate N (aH Ty.bool)=List.replicate N false from rfl,
  show sV ((N : Int),E,A,List.replicate N false,0,(N : Int),0,())=_ from this]
 rfl
end
end Go.Vm


/-
 What is reached from a vertex.
-/
import Derived.Test.YtnnbdielbgljaaaDoorP29E
set_option linter.unusedVariables false
set_option linter.unusedSimpArgs false
namespace Go.Vm
open Go.Proofs
set_option maxRecDepth 100000
attribute [local irreducible] loopFix
def hd (E : List Arc) (k : Nat) : Int:=tl E (oth k)
inductive Reach (E : List Arc) : Nat→Nat→Prop
 | refl (v : Nat) : Reach E v v
 | step {u v w k : Nat} (h : Reach E u v) (hk : k < 2 * E.length) (h1 : tl E k=v) (h2 : hd E k=w) : Reach E u w
theorem Reach.trans {E : List Arc} {u v w : Nat} (h1 : Reach E u v) (h2 : Reach E v w) : Reach E u w:=by
 induction h2 with
 | refl=>exact h1
 | step _ hk e1 e2 ih=>exact .step ih hk e1 e2
theorem Reach.symm {E : List Arc} {u v : Nat} (h : Reach E u v) : Reach E v u:=by
 induction h with
 | refl=>exact .refl _
 | step _ hk e1 e2 ih =>
  refine Reach.trans (.step (.refl _) (oth_lt hk) e2 ?_) ih
  unfold hd; rw [oth_oth]; exact e1
def Conn (N : Nat) (E : List Arc) : Prop:=∀ v,v < N→Reach E 0 v
section
variable {N : Nat} {E : List Arc} {A : List (List Int)}
theorem RotOK.tl_lt (h : RotOK (N : Nat) E A) {k : Nat} (hk : k < 2 * E.length) : ∃ v : Nat,tl E k=v∧v < N:=by
 have h1 : k / 2 < E.length:=by omega
 obtain ⟨a,ha⟩ : ∃ a,E[k / 2]?=some a:=⟨_,List.getElem?_eq_getElem h1⟩
 obtain ⟨e1,e2,e3,e4,_⟩:=h.edge a (List.mem_of_getElem? ha)
 unfold tl
 rw [ha]
 by_cases e : k % 2=0
 ·exact ⟨a.1.toNat,by simp [e]; omega,by omega⟩
 ·exact ⟨a.2.1.toNat,by simp [e]; omega,by omega⟩
theorem RotOK.hd_lt (h : RotOK (N : Nat) E A) {k : Nat} (hk : k < 2 * E.length) : ∃ v : Nat,hd E k=v∧v < N:=h.tl_lt (oth_lt hk)
theorem RotOK.around (h : RotOK (N : Nat) E A) {k v : Nat} (hk : k < 2 * E.length) (hv : tl E k=v) {l : List Int} (hl : A[v]?=some l) : (k : Int)∈l:=by
 obtain ⟨l',hl',hd'⟩:=List.mem_flatten.1 (h.mem hk)
 obtain ⟨v',hv'⟩:=List.mem_iff_getElem?.1 hl'
 obtain ⟨k',e1,_,e3⟩:=h.dart v' l' hv' _ hd'
 have : k=k':=by omega
 subst this
 rw [hv] at e3
 have : v=v':=by omega
 subst this
 rw [hl] at hv'; cases hv'
 exact hd'
def expl (E : List Arc) (_ : Nat) (s : List Bool×List Int) (d : Int) : Option ((List Bool×List Int)⊕Empty) :=
 some (.inl (if s.1[(hd E d.toNat).toNat]?=some false then (s.1.set (hd E d.toNat).toNat true,s.2++[hd E d.toNat]) else s))
theorem expl_spec (hN : ∀ k,k < 2 * E.length→∃ v : Nat,hd E k=v∧v < N) : ∀ (l : List Int) (i : Nat) (seen : List Bool) (st : List Int),seen.length=N→(∀ d∈l,∃ k : Nat,d=(k : Int)∧k < 2 * E.length) →
  ∃ seen' new,foldE (expl E) i (seen,st) l=some (.inl (seen',st++new))∧seen'.length=N∧new.length+unm seen'=unm seen ∧
   (∀ v,v < N→(seen'[v]?=some true↔seen[v]?=some true∨∃ k : Nat,(k : Int)∈l∧hd E k=v))∧(∀ v : Nat,v < N→seen'[v]?=some true→seen[v]?=some true∨(v : Int)∈new) ∧
   (∀ d∈new,∃ v : Nat,d=(v : Int)∧v < N∧seen'[v]?=some true)
 | [],i,seen,st,hs,_=>⟨seen,[],by simp [foldE],hs,by simp,by simp,fun v _ h=>.inl h,by simp⟩
 | d :: l,i,seen,st,hs,hl=>by
  obtain ⟨k,rfl,hk⟩:=hl d (by simp)
  obtain ⟨w,hw,hwN⟩:=hN k hk
  have hl' : ∀ d∈l,∃ k : Nat,d=(k : Int)∧k < 2 * E.length:=fun d hd=>hl d (by simp [hd])
  simp only [foldE,expl,Int.toNat_natCast,hw,Option.bind_some,Sum.elim_inl]
  by_cases hb : seen[w]?=some false
  ·rw [if_pos hb]
   obtain ⟨seen',new,h1,h2,h3,h4,h5,h6⟩:=expl_spec hN l (i+1) (seen.set w true) (st++[(w : Int)]) (by simpa using hs) hl'
   have hu:=unm_set hb
   have hset : ∀ v,v < N→((seen.set w true)[v]?=some true↔seen[v]?=some true∨v=w):=by
    intro v hv
    rw [List.getElem?_set]
    by_cases e : w=v
    ·subst e; simp; omega
    ·rw [if_neg e]; simp [Ne.symm e]
   refine ⟨seen',(w : Int) :: new,by rw [h1]; simp,h2,by simp only [List.length_cons]; omega,?_,?_,?_⟩
   ·intro v hv
    rw [h4 v hv,hset v hv]
    constructor
    ·rintro ((h | h) | ⟨j,hj,hj2⟩)
     ·exact .inl h
     ·exact .inr ⟨k,by simp,by rw [hw,h]⟩
     ·exact .inr ⟨j,by simp [hj],hj2⟩
    ·rintro (h | ⟨j,hj,hj2⟩)
     ·exact .inl (.inl h)
     ·rcases List.mem_cons.1 hj with hj | hj
      ·have : j=k:=by omega
       subst this
       exact .inl (.inr (by rw [hw] at hj2; omega))
      ·exact .inr ⟨j,hj,hj2⟩
   ·intro v hv h
    rcases h5 v hv h with h | h
    ·rcases (hset v hv).1 h with h | h
     ·exact .inl h
     ·exact .inr (by simp [h])
    ·exact .inr (by simp [h])
   ·intro d hd
    rcases List.mem_cons.1 hd with rfl | hd
    ·exact ⟨w,rfl,hwN,(h4 w hwN).2 (.inl ((hset w hwN).2 (.inr rfl)))⟩
    ·exact h6 d hd
  ·rw [if_neg hb]
   have hbt : seen[w]?=some true:=by
    obtain ⟨b,hb'⟩ : ∃ b,seen[w]?=some b:=⟨_,List.getElem?_eq_getElem (by omega)⟩
    cases b with
    | true=>exact hb'
    | false=>exact absurd hb' hb
   obtain ⟨seen',new,h1,h2,h3,h4,h5,h6⟩:=expl_spec hN l (i+1) seen st hs hl'
   refine ⟨seen',new,h1,h2,h3,?_,h5,h6⟩
   intro v hv
   rw [h4 v hv]
   constructor
   ·rintro (h | ⟨j,hj,hj2⟩)
    ·exact .inl h
    ·exact .inr ⟨j,by simp [hj],hj2⟩
   ·rintro (h | ⟨j,hj,hj2⟩)
    ·exact .inl h
    ·rcases List.mem_cons.1 hj with hj | hj
     ·have : j=k:=by omega
      subst this
      have : v=w:=by rw [hw] at hj2; omega
      subst this
      exact .inl hbt
     ·exact .inr ⟨j,hj,hj2⟩
theorem Tail_eq (h : RotOK (N : Nat) E A) (hv : validB ((N : Int),E,A,())=true) (hl : ∀ l∈A,l.length≤9223372036854775807) {k : Nat} (hk : k < 2 * E.length) : Zbe (((N : Int),E,A,()),((k : Int),()))=some (tl E k,()):=by
 have hm1:=h.m1
 unfold Zbe
 simp only
 rw [valid_eq ((N : Int),E,A,()) hl,hv,Option.bind_some]
 simp only [Bool.not_true,cond_false]
 have e2 : mulI .i64 2 (E.length : Nat)=((2 * E.length : Nat) : Int):=by rw [mulI64 (by omega) (by omega)]; omega
 have hke : k / 2 < E.length:=by omega
 obtain ⟨a,ha⟩ : ∃ a,E[k / 2]?=some a:=⟨_,List.getElem?_eq_getElem hke⟩
 rw [ltI_f (by omega),cond_false,e2,geI_f (by omega),cond_false,quo2 (by omega),getI_of,ha,Option.bind_some,rem2,tail_eq,Option.bind_some]
 simp [tl,ha]
theorem conn_inner (h : RotOK (N : Nat) E A) (hv : validB ((N : Int),E,A,())=true) (hA : ∀ l∈A,l.length≤9223372036854775807) (seen : List Bool) (st : List Int) (c : Int) (l : List Int) (hs : seen.length=N) (hst : st.length+unm seen≤100000) (hl : ∀ d∈l,∃ k : Nat,d=(k : Int)∧k < 2 * E.length) (hll : l.length≤65536) :
  Zan_L11 ((N : Int),E,A,seen,st,c,l,(l.length : Nat),0,())=(foldE (expl E) 0 (seen,st) l).bind (Sum.elim (fun t=>some (.inl ((N : Int),E,A,t.1,t.2,c,()))) (fun e=>nomatch e)):=by
 refine (scanI (B:=Zan_B11) (fun _ s=>s.1.length=N∧s.2.length+unm s.1≤100000) (fun s i=>((N : Int),E,A,s.1,s.2,c,l,((l.length : Nat) : Int),(i : Int),())) (fun s=>.inl ((N : Int),E,A,s.1,s.2,c,())) (fun e=>nomatch e) (expl E) l ?_ ?_ ?_ (seen,st) ⟨hs,hst⟩).trans ?_
 ·rintro ⟨seen,st⟩ i d ⟨hs,hst⟩ hd'
  simp only at hs hst
  have hi : i < l.length:=(List.getElem?_eq_some_iff.1 hd').1
  have hm1:=h.m1
  obtain ⟨k,rfl,hk⟩:=hl d (List.mem_of_getElem? hd')
  obtain ⟨w,hw,hwN⟩:=h.hd_lt hk
  simp only [Zan_B11]
  rw [ltI_t (by omega),cond_true,getI_of,hd',Option.bind_some,xor1 (by omega),Tail_eq h hv hA (oth_lt hk),Option.bind_some]
  rw [show tl E (oth k)=(w : Int) from hw]
  simp only
  obtain ⟨b,hb⟩ : ∃ b,seen[w]?=some b:=⟨_,List.getElem?_eq_getElem (by omega)⟩
  rw [idxI_of (by omega),Option.bind_some,hb,Option.bind_some,add1 (by omega)]
  simp only [expl,Int.toNat_natCast,hw,hb]
  cases b with
  | true=>rfl
  | false =>
   have:=unm_set hb
   simp only [Bool.not_false,cond_true,Option.bind_some,hb]
   rw [app_of (by simp only [List.length_singleton]; omega)]
   rfl
 ·rintro ⟨seen,st⟩ i d t ⟨hs,hst⟩ hd' hg
  simp only at hs hst
  simp only [expl] at hg
  cases hg
  split
  ·rename_i hb
   have:=unm_set hb
   exact ⟨by simpa using hs,by simp only [List.length_append,List.length_singleton]; omega⟩
  ·exact ⟨hs,hst⟩
 ·intro s hs
  simp only [Zan_B11]
  rw [ltI_f (by omega)]; rfl
 ·cases foldE (expl E) 0 (seen,st) l with
  | none=>rfl
  | some x=>cases x with
   | inl t=>rfl
   | inr e=>exact nomatch e
structure Look (N : Nat) (E : List Arc) (seen : List Bool) (st : List Int) : Prop where
 len : seen.length=N
 stk : ∀ d∈st,∃ v : Nat,d=(v : Int)∧v < N∧seen[v]?=some true
 closed : ∀ v : Nat,v < N→seen[v]?=some true→(v : Int)∉st→∀ k w : Nat,k < 2 * E.length→tl E k=v→hd E k=w→seen[w]?=some true
 reach : ∀ v : Nat,v < N→seen[v]?=some true→Reach E 0 v
 zero : seen[0]?=some true
theorem Look.step (h : RotOK (N : Nat) E A) {seen seen' : List Bool} {st new : List Int} {v : Nat} {l : List Int} (hL : Look N E seen st) (hvN : v < N) (hv : (v : Int)∈st) (hl : A[v]?=some l) (rest : List Int) (hrest : ∀ d,d∈st↔d=(v : Int)∨d∈rest)
  (h2 : seen'.length=N) (h4 : ∀ v,v < N→(seen'[v]?=some true↔seen[v]?=some true∨∃ k : Nat,(k : Int)∈l∧hd E k=v)) (h5 : ∀ v : Nat,v < N→seen'[v]?=some true→seen[v]?=some true∨(v : Int)∈new)
  (h6 : ∀ d∈new,∃ v : Nat,d=(v : Int)∧v < N∧seen'[v]?=some true) : Look N E seen' (rest++new):=by
 refine ⟨h2,?_,?_,?_,?_⟩
 ·intro d hd'
  rcases List.mem_append.1 hd' with hd' | hd'
  ·obtain ⟨u,e1,e2,e3⟩:=hL.stk d ((hrest d).2 (.inr hd'))
   exact ⟨u,e1,e2,(h4 u e2).2 (.inl e3)⟩
  ·exact h6 d hd'
 ·intro u hu hus hun k w hk hkt hkh
  obtain ⟨w',hw',hwN⟩:=h.hd_lt hk
  have : w=w':=by omega
  subst this
  rcases h5 u hu hus with hus | hus
  ·by_cases e : u=v
   ·subst e
    exact (h4 w hwN).2 (.inr ⟨k,h.around hk hkt hl,hkh⟩)
   ·refine (h4 w hwN).2 (.inl (hL.closed u hu hus (fun hin=>?_) k w hk hkt hkh))
    rcases (hrest u).1 hin with e2 | e2
    ·exact e (by omega)
    ·exact hun (List.mem_append.2 (.inl e2))
  ·exact absurd (List.mem_append.2 (.inr hus)) hun
 ·intro u hu hus
  rcases (h4 u hu).1 hus with hus | ⟨k,hk,hkh⟩
  ·exact hL.reach u hu hus
  ·obtain ⟨_,e1,e2,e3⟩:=hL.stk v hv
   have hvv : v=_:=Int.ofNat.inj e1
   obtain ⟨k',f1,f2,f3⟩:=h.dart v l hl _ hk
   have : k=k':=by omega
   subst this
   exact .step (hL.reach v hvN (by rw [hvv]; exact e3)) f2 f3 hkh
 ·exact (h4 0 (by omega)).2 (.inl hL.zero)
theorem Look.all (h : RotOK (N : Nat) E A) {seen : List Bool} (hL : Look N E seen []) : (∀ v,v < N→seen[v]?=some true)↔Conn N E:=by
 constructor
 ·intro ha v hv; exact hL.reach v hv (ha v hv)
 ·intro hc v hv
  have : ∀ {u v : Nat},Reach E u v→u=0→seen[v]?=some true:=by
   intro u v hr
   induction hr with
   | refl=>intro e; rw [e]; exact hL.zero
   | step hr' hk e1 e2 ih =>
    intro e
    obtain ⟨u',e3,e4⟩:=h.tl_lt hk
    rw [e1] at e3
    have : _=u':=Int.ofNat.inj e3
    subst this
    exact hL.closed _ e4 (ih e) (by simp) _ _ hk e1 e2
  exact this (hc v hv) rfl
theorem unm_zero {seen : List Bool} : unm seen=0↔∀ v,v < seen.length→seen[v]?=some true:=by
 unfold unm
 rw [List.countP_eq_zero]
 constructor
 ·intro h v hv
  have:=h seen[v] (List.getElem_mem hv)
  rw [List.getElem?_eq_getElem hv]
  simpa using this
 ·intro h b hb
  obtain ⟨i,hi,rfl⟩:=List.getElem_of_mem hb
  have:=h i hi
  rw [List.getElem?_eq_getElem hi] at this
  simp at this
  simp [this]
theorem conn_loop (h : RotOK (N : Nat) E A) (hv : validB ((N : Int),E,A,())=true) (hA : ∀ l∈A,l.length≤9223372036854775807) (hN0 : 0 < N) :
  ∃ c : Nat,Zan_L6 ((N : Int),E,A,(List.replicate N false).set 0 true,[0],0,())=some (.inl ((N : Int),E,A,(c : Int),()))∧(c=N↔Conn N E):=by
 have h16 : N≤16384:=by have:=h.n1; omega
 have hAl : A.length=N:=by have:=h.len; omega
 obtain ⟨r,h1,h2⟩:=loop_rule (f:=Zan_B6) (fun s=>∃ seen st,∃ c : Nat,s=((N : Int),E,A,seen,st,(c : Int),())∧Look N E seen st∧c+st.length+unm seen=N)
  (fun s=>s.2.2.2.2.1.length+2 * unm s.2.2.2.1) (fun r=>∃ c : Nat,r=.inl ((N : Int),E,A,(c : Int),())∧(c=N↔Conn N E)) (by
   rintro _ ⟨seen,st,c,rfl,hL,hc⟩
   rcases List.eq_nil_or_concat st with rfl | ⟨st',d,rfl⟩
   ·right
    refine ⟨.inl ((N : Int),E,A,(c : Int),()),?_,c,rfl,?_⟩
    ·simp only [Zan_B6]
     rw [gtI_f (by simp)]; rfl
    ·rw [← hL.all h]
     have:=unm_zero (seen:=seen)
     rw [hL.len] at this
     rw [← this]
     simp at hc
     omega
   ·left
    rw [List.concat_eq_append] at hL hc ⊢
    obtain ⟨v,rfl,hvN,hvs⟩:=hL.stk d (by simp)
    obtain ⟨l,hl⟩ : ∃ l,A[v]?=some l:=⟨_,List.getElem?_eq_getElem (by omega)⟩
    have hlm:=List.mem_of_getElem? hl
    have hll:=h.list_len hlm
    have hm1:=h.m1
    simp only [List.length_append,List.length_singleton] at hc
    obtain ⟨seen',new,q1,q2,q3,q4,q5,q6⟩:=expl_spec (fun k hk=>h.hd_lt hk) l 0 seen st' hL.len (fun d hd'=>h.mem_of hlm hd')
    refine ⟨((N : Int),E,A,seen',st'++new,((c+1 : Nat) : Int),()),?_,⟨seen',st'++new,c+1,rfl,?_,?_⟩,?_⟩
    ·simp only [Zan_B6]
     rw [gtI_t (by simp),cond_true]
     have e1 : subI .i64 ((st'++[(v : Int)]).length : Nat) 1=(st'.length : Nat):=by
      rw [sub1 (by simp; omega)]; simp
     rw [e1,idxI_of (by simp),Option.bind_some]
     have e2 : (st'++[(v : Int)])[st'.length]?=some (v : Int):=by simp
     rw [e2,Option.bind_some]
     have e3 : viewB (st'++[(v : Int)]).length 0 ((st'.length : Nat) : Int)=some (0,st'.length):=by
      simp [viewB]
      omega
     rw [e3,Option.bind_some,getI_of,hl,Option.bind_some]
     have e4 : (List.drop 0 (st'++[(v : Int)])).take st'.length=st':=by simp
     simp only
     rw [e4,add1 (by omega),conn_inner h hv hA seen st' _ l hL.len (by omega) (fun d hd'=>h.mem_of hlm hd') (by omega),q1]
     rfl
    ·exact hL.step h hvN (by simp) hl st' (fun d=>by simp [or_comm]) q2 q4 q5 q6
    ·simp only [List.length_append]; omega
    ·simp only [List.length_append,List.length_singleton]; omega) ((N : Int),E,A,(List.replicate N false).set 0 true,[0],0,()) (by
   have hr0 : (List.replicate N false)[0]?=some false:=by simp [List.getElem?_replicate,hN0]
   have hu:=unm_set hr0
   rw [unm_rep] at hu
   have hset : ∀ v,((List.replicate N false).set 0 true)[v]?=some true→v=0:=by
    intro v hv
    rw [List.getElem?_set] at hv
    by_cases e : 0=v
    ·exact e.symm
    ·rw [if_neg e,List.getElem?_replicate] at hv
     split at hv <;> simp at hv
   refine ⟨_,[0],0,rfl,⟨by simp,?_,?_,?_,?_⟩,by simp; omega⟩
   ·intro d hd'
    simp at hd'
    subst hd'
    exact ⟨0,rfl,hN0,by simp [hN0]⟩
   ·intro v hv hs hn
    have:=hset v hs
    subst this
    simp at hn
   ·intro v hv hs
    rw [hset v hs]; exact .refl 0
   ·simp [hN0])
 obtain ⟨c,rfl,h3⟩:=h2
 exact ⟨c,h1,h3⟩
theorem connected_eq (h : RotOK (N : Nat) E A) (hv : validB ((N : Int),E,A,())=true) (hA : ∀ l∈A,l.length≤9223372036854775807) : ∃ b,Zan (((N : Int),E,A,()),())=some (b,())∧(b=true↔0 < N∧Conn N E):=by
 have h16 : N≤16384:=by have:=h.n1; omega
 unfold Zan
 simp only
 by_cases h0 : N=0
 ·subst h0
  exact ⟨false,by rw [eqI_t (by rfl)]; rfl,by simp⟩
 ·obtain ⟨c,h1,h2⟩:=conn_loop h hv hA (by omega)
  refine ⟨eqI (c : Int) (N : Int),?_,?_⟩
  ·rw [eqI_f (by omega),cond_false,makeL_of (Nat.le_refl _) (by omega),Option.bind_some]
   have e1 : idxI (List.replicate N (zeroVal Ty.bool)).length 0=some 0:=by
    rw [List.length_replicate]; exact idxI_of (i:=0) (by omega)
   rw [e1,Option.bind_some]
   have e2 : (List.replicate N (zeroVal Ty.bool))[0]?=some false:=by simp [List.getElem?_replicate,Nat.pos_of_ne_zero h0,zeroVal]
   rw [e2,Option.bind_some]
   rw [show Zan_L6 ((N : Int),E,A,(List.replicate N (zeroVal Ty.bool)).set 0 true,[0],0,())=_ from h1]
   rfl
  ·rw [← h2]
   simp [eqI]
   omega
end
end Go.Vm

/-
 Components: the program; representatives.
-/
import Derived.Test.YtnnbdielbgljaaaDoorP29F
set_option linter.unusedVariables false
set_option linter.unusedSimpArgs false
namespace Go.Vm
open Go.Proofs
set_option maxRecDepth 100000
attribute [local irreducible] loopFix
section
variable {N : Nat} {E : List Arc} {A : List (List Int)}
theorem tail_hd (h : RotOK (N : Nat) E A) {k : Nat} (hk : k < 2 * E.length) : ∃ a,E[k / 2]?=some a∧Zbh (a,((xorI .i64 (remI (k : Int) 2) 1),()))=some (hd E k,()):=by
 have hke : k / 2 < E.length:=by omega
 obtain ⟨a,ha⟩ : ∃ a,E[k / 2]?=some a:=⟨_,List.getElem?_eq_getElem hke⟩
 refine ⟨a,ha,?_⟩
 rw [rem2,xor1 (by omega),tail_eq]
 unfold hd tl
 rw [oth_div,ha,oth_mod]
 simp only
 unfold oth
 rcases Nat.mod_two_eq_zero_or_one k with e | e
 ·simp [e]
 ·simp [e]
theorem comp_inner (h : RotOK (N : Nat) E A) (seen : List Bool) (st : List Int) (n c v : Int) (l : List Int) (hs : seen.length=N) (hst : st.length+unm seen≤100000) (hl : ∀ d∈l,∃ k : Nat,d=(k : Int)∧k < 2 * E.length) (hll : l.length≤65536) :
  Zj_L13 ((N : Int),E,A,seen,st,n,c,v,l,(l.length : Nat),0,())=(foldE (expl E) 0 (seen,st) l).bind (Sum.elim (fun t=>some (.inl ((N : Int),E,A,t.1,t.2,n,c,v,()))) (fun e=>nomatch e)):=by
 refine (scanI (B:=Zj_B13) (fun _ s=>s.1.length=N∧s.2.length+unm s.1≤100000) (fun s i=>((N : Int),E,A,s.1,s.2,n,c,v,l,((l.length : Nat) : Int),(i : Int),())) (fun s=>.inl ((N : Int),E,A,s.1,s.2,n,c,v,())) (fun e=>nomatch e) (expl E) l ?_ ?_ ?_ (seen,st) ⟨hs,hst⟩).trans ?_
 ·rintro ⟨seen,st⟩ i d ⟨hs,hst⟩ hd'
  simp only at hs hst
  have hi : i < l.length:=(List.getElem?_eq_some_iff.1 hd').1
  have hm1:=h.m1
  obtain ⟨k,rfl,hk⟩:=hl d (List.mem_of_getElem? hd')
  obtain ⟨w,hw,hwN⟩:=h.hd_lt hk
  obtain ⟨a,ha,hta⟩:=tail_hd h hk
  simp only [Zj_B13]
  rw [ltI_t (by omega),cond_true,getI_of,hd',Option.bind_some,quo2 (by omega),getI_of,ha,Option.bind_some,hta,Option.bind_some,hw]
  simp only
  obtain ⟨b,hb⟩ : ∃ b,seen[w]?=some b:=⟨_,List.getElem?_eq_getElem (by omega)⟩
  rw [idxI_of (by omega),Option.bind_some,hb,Option.bind_some,add1 (by omega)]
  simp only [expl,Int.toNat_natCast,hw,hb]
  cases b with
  | true=>rfl
  | false =>
   have:=unm_set hb
   simp only [Bool.not_false,cond_true,Option.bind_some,hb]
   rw [app_of (by simp only [List.length_singleton]; omega)]
   rfl
 ·rintro ⟨seen,st⟩ i d t ⟨hs,hst⟩ hd' hg
  simp only at hs hst
  simp only [expl] at hg
  cases hg
  split
  ·rename_i hb
   have:=unm_set hb
   exact ⟨by simpa using hs,by simp only [List.length_append,List.length_singleton]; omega⟩
  ·exact ⟨hs,hst⟩
 ·intro s hs
  simp only [Zj_B13]
  rw [ltI_f (by omega)]; rfl
 ·cases foldE (expl E) 0 (seen,st) l with
  | none=>rfl
  | some x=>cases x with
   | inl t=>rfl
   | inr e=>exact nomatch e
theorem comp_queue (h : RotOK (N : Nat) E A) (n c v : Int) (hN0 : 0 < N) (hc : Conn N E) :
  ∃ seen,Zj_L10 ((N : Int),E,A,(List.replicate N false).set 0 true,[0],n,c,v,())=some (.inl ((N : Int),E,A,seen,n,c,v,()))∧seen.length=N∧∀ v,v < N→seen[v]?=some true:=by
 have h16 : N≤16384:=by have:=h.n1; omega
 have hAl : A.length=N:=by have:=h.len; omega
 obtain ⟨r,h1,h2⟩:=loop_rule (f:=Zj_B10) (fun s=>∃ seen st,s=((N : Int),E,A,seen,st,n,c,v,())∧Look N E seen st∧st.length+unm seen≤N)
  (fun s=>s.2.2.2.2.1.length+2 * unm s.2.2.2.1) (fun r=>∃ seen,r=.inl ((N : Int),E,A,seen,n,c,v,())∧seen.length=N∧∀ v,v < N→seen[v]?=some true) (by
   rintro _ ⟨seen,st,rfl,hL,hc'⟩
   match st with
   | [] =>
    right
    refine ⟨.inl ((N : Int),E,A,seen,n,c,v,()),?_,seen,rfl,hL.len,(hL.all h).2 hc⟩
    simp only [Zj_B10]
    rw [gtI_f (by simp)]; rfl
   | d :: q =>
    left
    obtain ⟨u,rfl,huN,hus⟩:=hL.stk d (by simp)
    obtain ⟨l,hl⟩ : ∃ l,A[u]?=some l:=⟨_,List.getElem?_eq_getElem (by omega)⟩
    have hlm:=List.mem_of_getElem? hl
    have hll:=h.list_len hlm
    have hm1:=h.m1
    simp only [List.length_cons] at hc'
    obtain ⟨seen',new,q1,q2,q3,q4,q5,q6⟩:=expl_spec (fun k hk=>h.hd_lt hk) l 0 seen ((u : Int) :: q) hL.len (fun d hd'=>h.mem_of hlm hd')
    refine ⟨((N : Int),E,A,seen',q++new,n,c,v,()),?_,⟨seen',q++new,rfl,?_,?_⟩,?_⟩
    ·simp only [Zj_B10]
     rw [gtI_t (by simp),cond_true]
     have e1 : idxI ((u : Int) :: q).length 0=some 0:=idxI_of (i:=0) (by simp)
     rw [e1,Option.bind_some]
     simp only [List.getElem?_cons_zero,Option.bind_some]
     rw [getI_of,hl,Option.bind_some,comp_inner h seen ((u : Int) :: q) n c v l hL.len (by simp only [List.length_cons]; omega) (fun d hd'=>h.mem_of hlm hd') (by omega),q1]
     simp only [Option.bind_some,Sum.elim_inl]
     have e3 : viewB ((u : Int) :: q++new).length 1 (((u : Int) :: q++new).length : Nat)=some (1,(q++new).length):=by
      simp only [viewB,List.cons_append,List.length_cons]
      rw [if_pos (by omega)]
      congr 2 <;> omega
     rw [e3,Option.bind_some]
     have e4 : (List.drop 1 ((u : Int) :: q++new)).take (q++new).length=q++new:=by
      rw [show List.drop 1 ((u : Int) :: q++new)=q++new from rfl,List.take_length]
     simp only
     rw [e4]
    ·exact hL.step h huN (by simp) hl q (fun d=>by simp) q2 q4 q5 q6
    ·simp only [List.length_append]; omega
    ·simp only [List.length_append,List.length_cons]; omega) ((N : Int),E,A,(List.replicate N false).set 0 true,[0],n,c,v,()) (by
   have hr0 : (List.replicate N false)[0]?=some false:=by simp [List.getElem?_replicate,hN0]
   have hu:=unm_set hr0
   rw [unm_rep] at hu
   have hset : ∀ v,((List.replicate N false).set 0 true)[v]?=some true→v=0:=by
    intro v hv
    rw [List.getElem?_set] at hv
    by_cases e : 0=v
    ·exact e.symm
    ·rw [if_neg e,List.getElem?_replicate] at hv
     split at hv <;> simp at hv
   refine ⟨_,[0],rfl,⟨by simp,?_,?_,?_,?_⟩,by simp; omega⟩
   ·intro d hd'
    simp at hd'
    subst hd'
    exact ⟨0,rfl,hN0,by simp [hN0]⟩
   ·intro v hv hs hn
    have:=hset v hs
    subst this
    simp at hn
   ·intro v hv hs
    rw [hset v hs]; exact .refl 0
   ·simp [hN0])
 obtain ⟨seen,rfl,h3,h4⟩:=h2
 exact ⟨seen,h1,h3,h4⟩
theorem comps_one (h : RotOK (N : Nat) E A) (hN0 : 0 < N) (hc : Conn N E) : Zj (((N : Int),E,A,()),())=some (1,()):=by
 have h16 : N≤16384:=by have:=h.n1; omega
 obtain ⟨seen,q1,q2,q3⟩:=comp_queue h 1 (N : Int) 0 hN0 hc
 unfold Zj
 simp only
 rw [makeL_of (Nat.le_refl _) (by omega),Option.bind_some]
 have first : Zj_B4 ((N : Int),E,A,List.replicate N (zeroVal Ty.bool),0,(N : Int),0,())=some (.inl ((N : Int),E,A,seen,1,(N : Int),1,())):=by
  simp only [Zj_B4]
  rw [ltI_t (by omega),cond_true]
  have e1 : idxI (List.replicate N (zeroVal Ty.bool)).length 0=some 0:=by rw [List.length_replicate]; exact idxI_of (i:=0) (by omega)
  rw [e1,Option.bind_some]
  have e2 : (List.replicate N (zeroVal Ty.bool))[0]?=some false:=by simp [List.getElem?_replicate,hN0,zeroVal]
  simp only [e2,Option.bind_some,cond_false]
  rw [show addI .i64 0 1=1 by decide]
  rw [show Zj_L10 ((N : Int),E,A,(List.replicate N (zeroVal Ty.bool)).set 0 true,[0],1,(N : Int),0,())=_ from q1]
  simp only [Option.bind_some,Sum.elim_inl]
  rw [show addI .i64 0 1=1 by decide]
 have rest : ∀ (d k : Nat),k+d=N→Zj_L4 ((N : Int),E,A,seen,1,(N : Int),(k : Int),())=some (.inl (1,())):=by
  intro d
  induction d with
  | zero =>
   intro k hk
   refine loop_done ?_
   simp only [Zj_B4]
   rw [ltI_f (by omega)]; rfl
  | succ d ih =>
   intro k hk
   have hs : Zj_B4 ((N : Int),E,A,seen,1,(N : Int),(k : Int),())=some (.inl ((N : Int),E,A,seen,1,(N : Int),((k+1 : Nat) : Int),())):=by
    simp only [Zj_B4]
    rw [ltI_t (by omega),cond_true,idxI_of (by omega),Option.bind_some,q3 k (by omega),Option.bind_some,cond_true,add1 (by omega)]
   exact (loop_step hs).trans (ih (k+1) (by omega))
 have all : Zj_L4 ((N : Int),E,A,List.replicate N (zeroVal Ty.bool),0,(N : Int),0,())=some (.inl (1,())) :=
  (loop_step first).trans (rest (N - 1) 1 (by omega))
 rw [all]
 rfl
def rt (up : List Int) : Nat→Nat→Nat
 | 0,v=>v
 | n+1,v=>match up[v]? with
  | some u=>if u.toNat=v then v else rt up n u.toNat
  | none=>v
def UpOK (N : Nat) (up : List Int) : Prop:=up.length=N∧∀ v,v < N→∃ u : Nat,up[v]?=some (u : Int)∧u≤v
theorem rt_le {up : List Int} (h : UpOK N up) : ∀ (n v : Nat),v < N→rt up n v≤v
 | 0,v,_=>Nat.le_refl _
 | n+1,v,hv=>by
  obtain ⟨u,hu,hle⟩:=h.2 v hv
  simp only [rt,hu,Int.toNat_natCast]
  split
  ·exact Nat.le_refl _
  ·have:=rt_le h n u (by omega); omega
theorem rt_stable {up : List Int} (h : UpOK N up) : ∀ (n v : Nat),v < N→v≤n→rt up (n+1) v=rt up n v
 | 0,v,hv,hn=>by
  have : v=0:=by omega
  subst this
  obtain ⟨u,hu,hle⟩:=h.2 0 hv
  have : u=0:=by omega
  subst this
  have hu' : up[0]?=some (0 : Int):=hu
  simp [rt,hu']
 | n+1,v,hv,hn=>by
  obtain ⟨u,hu,hle⟩:=h.2 v hv
  rw [rt,rt]
  simp only [hu,Int.toNat_natCast]
  split
  ·rfl
  ·exact rt_stable h n u (by omega) (by omega)
theorem rt_of {up : List Int} (h : UpOK N up) {v : Nat} (hv : v < N) : ∀ n,v≤n→rt up n v=rt up N v:=by
 have key : ∀ d,rt up (v+d) v=rt up v v:=by
  intro d
  induction d with
  | zero=>rfl
  | succ d ih=>rw [show v+(d+1)=v+d+1 by omega,rt_stable h _ v hv (by omega),ih]
 intro n hn
 obtain ⟨d,rfl⟩ : ∃ d,n=v+d:=⟨n - v,by omega⟩
 obtain ⟨d',hd'⟩ : ∃ d,N=v+d:=⟨N - v,by omega⟩
 rw [key d]
 rw [hd',key d']
theorem rt_up {up : List Int} (h : UpOK N up) {v u : Nat} (hv : v < N) (hu : up[v]?=some (u : Int)) : rt up N v=if u=v then v else rt up N u:=by
 obtain ⟨u',hu',hle⟩:=h.2 v hv
 rw [hu] at hu'
 have : u=u':=by have:=Option.some.inj hu'; omega
 subst this
 rw [← rt_of h hv (v+1) (by omega)]
 simp only [rt,hu,Int.toNat_natCast]
 split
 ·rfl
 ·rw [rt_of h (by omega) v (by omega)]
theorem rt_root {up : List Int} (h : UpOK N up) : ∀ (v : Nat),v < N→up[rt up N v]?=some ((rt up N v : Nat) : Int):=by
 intro v
 induction v using Nat.strongRecOn with
 | ind v ih =>
  intro hv
  obtain ⟨u,hu,hle⟩:=h.2 v hv
  rw [rt_up h hv hu]
  split
  ·rename_i e; subst e; exact hu
  ·exact ih u (by omega) (by omega)
theorem root_eq {up : List Int} (h : UpOK N up) : ∀ (v : Nat),v < N→Zac_L1 (up,(v : Int),())=some (.inl (((rt up N v : Nat) : Int),())):=by
 intro v
 induction v using Nat.strongRecOn with
 | ind v ih =>
  intro hv
  obtain ⟨u,hu,hle⟩:=h.2 v hv
  rw [rt_up h hv hu]
  by_cases e : u=v
  ·subst e
   rw [if_pos rfl]
   refine loop_done ?_
   simp only [Zac_B1]
   rw [getI_of,hu,Option.bind_some,neI_f rfl]; rfl
  ·rw [if_neg e]
   have hs : Zac_B1 (up,(v : Int),())=some (.inl (up,(u : Int),())):=by
    simp only [Zac_B1]
    rw [getI_of,hu,Option.bind_some,neI_t (by omega)]; rfl
   exact (loop_step hs).trans (ih u (by omega) (by omega))
theorem root_fn {up : List Int} (h : UpOK N up) {v : Nat} (hv : v < N) : Zac (up,(v : Int),())=some (((rt up N v : Nat) : Int),()):=by
 unfold Zac
 simp only
 rw [root_eq h v hv]; rfl
theorem rt_join {up : List Int} (h : UpOK N up) {a b : Nat} (ha : a < N) (hb : b < N) (hra : up[a]?=some (a : Int)) (hrb : up[b]?=some (b : Int)) (hlt : b < a) :
  UpOK N (up.set a (b : Int))∧∀ v,v < N→rt (up.set a (b : Int)) N v=if rt up N v=a then b else rt up N v:=by
 have hok : UpOK N (up.set a (b : Int)):=by
  refine ⟨by simpa using h.1,fun v hv=>?_⟩
  rw [List.getElem?_set]
  by_cases e : a=v
  ·subst e; exact ⟨b,by simp [h.1]; omega,by omega⟩
  ·rw [if_neg e]; exact h.2 v hv
 refine ⟨hok,fun v=>?_⟩
 induction v using Nat.strongRecOn with
 | ind v ih =>
  intro hv
  obtain ⟨u,hu,hle⟩:=h.2 v hv
  by_cases e : v=a
  ·subst e
   have h1 : (up.set v (b : Int))[v]?=some (b : Int):=by simp [h.1,hv]
   rw [rt_up hok hv h1,if_neg (by omega),ih b hlt hb]
   rw [rt_up h hv hra,if_pos rfl,if_pos rfl,rt_up h hb hrb,if_pos rfl,if_neg (by omega)]
  ·have h1 : (up.set a (b : Int))[v]?=some (u : Int):=by rw [List.getElem?_set,if_neg (by omega)]; exact hu
   rw [rt_up hok hv h1,rt_up h hv hu]
   by_cases e2 : u=v
   ·subst e2; simp [e]
   ·rw [if_neg e2,if_neg e2]
    exact ih u (by omega) (by omega)
end
end Go.Vm

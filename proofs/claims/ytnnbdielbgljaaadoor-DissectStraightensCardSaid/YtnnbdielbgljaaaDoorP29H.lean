/-
 Components: the reference.
-/
import Derived.Test.YtnnbdielbgljaaaDoorP29G
set_option linter.unusedVariables false
set_option linter.unusedSimpArgs false
namespace Go.Vm
open Go.Proofs
set_option maxRecDepth 100000
attribute [local irreducible] loopFix
section
variable {N : Nat} {E : List Arc} {A : List (List Int)}
def isRoot (up : List Int) (v : Nat) : Bool:=decide (up[v]?=some (v : Int))
def roots (N : Nat) (up : List Int) : Nat:=(List.range N).countP (isRoot up)
theorem roots_join {up : List Int} (h : UpOK N up) {a b : Nat} (ha : a < N) (hra : up[a]?=some (a : Int)) (hlt : b < a) : roots N (up.set a (b : Int))+1=roots N up:=by
 have e1 : put1 (isRoot (up.set a (b : Int))) a=isRoot up:=by
  funext v
  unfold put1 isRoot
  by_cases e : v=a
  ·subst e; simp [hra]
  ·rw [List.getElem?_set,if_neg (Ne.symm e)]
   simp [e]
 have e2 : isRoot (up.set a (b : Int)) a=false:=by
  unfold isRoot
  simp [h.1,ha]
  omega
 unfold roots
 rw [← e1,cnt_put e2 ha]
structure CompInv (N : Nat) (E : List Arc) (i : Nat) (s : List Int×Int) : Prop where
 up : UpOK N s.1
 num : s.2=(roots N s.1 : Int)
 same : ∀ j a,j < i→E[j]?=some a→rt s.1 N a.1.toNat=rt s.1 N a.2.1.toNat
 reach : ∀ v,v < N→Reach E v (rt s.1 N v)
def compStep (N : Nat) (_ : Nat) (s : List Int×Int) (a : Arc) : Option ((List Int×Int)⊕Empty) :=
 let p:=rt s.1 N a.1.toNat
 let q:=rt s.1 N a.2.1.toNat
 some (.inl (if p=q then s else (s.1.set (max p q) ((min p q : Nat) : Int),subI .i64 s.2 1)))
theorem edge_reach (h : RotOK (N : Nat) E A) {j : Nat} {a : Arc} (ha : E[j]?=some a) : Reach E a.1.toNat a.2.1.toNat:=by
 have hj : j < E.length:=(List.getElem?_eq_some_iff.1 ha).1
 obtain ⟨e1,e2,e3,e4,_⟩:=h.edge a (List.mem_of_getElem? ha)
 refine .step (.refl _) (k:=2 * j) (by omega) ?_ ?_
 ·unfold tl
  rw [show 2 * j / 2=j by omega,ha]
  simp
  omega
 ·unfold hd tl oth
  rw [if_pos (by omega),show (2 * j+1) / 2=j by omega,ha]
  have : (2 * j+1) % 2=1:=by omega
  simp [this]
  omega
theorem compStep_ok (h : RotOK (N : Nat) E A) {i : Nat} {s t : List Int×Int} {a : Arc} (hs : CompInv N E i s) (ha : E[i]?=some a) (hg : compStep N i s a=some (.inl t)) : CompInv N E (i+1) t:=by
 have h16 : N≤16384:=by have:=h.n1; omega
 obtain ⟨e1,e2,e3,e4,_⟩:=h.edge a (List.mem_of_getElem? ha)
 have hpa : a.1.toNat < N:=by omega
 have hqa : a.2.1.toNat < N:=by omega
 have hp:=rt_le hs.up N _ hpa
 have hq:=rt_le hs.up N _ hqa
 have hrp:=rt_root hs.up _ hpa
 have hrq:=rt_root hs.up _ hqa
 simp only [compStep] at hg
 cases hg
 by_cases e : rt s.1 N a.1.toNat=rt s.1 N a.2.1.toNat
 ·rw [if_pos e]
  refine ⟨hs.up,hs.num,fun j b hj hb=>?_,hs.reach⟩
  rcases Nat.eq_or_lt_of_le (Nat.le_of_lt_succ hj) with rfl | hlt
  ·rw [ha] at hb; cases hb; exact e
  ·exact hs.same j b hlt hb
 ·rw [if_neg e]
  -- the greater one is laid under the smaller one
  obtain ⟨x,y,hx,hy,hxy,hrx,hry,hpq⟩ : ∃ x y : Nat,x=max (rt s.1 N a.1.toNat) (rt s.1 N a.2.1.toNat)∧y=min (rt s.1 N a.1.toNat) (rt s.1 N a.2.1.toNat)∧y < x∧s.1[x]?=some (x : Int)∧s.1[y]?=some (y : Int) ∧
    ((rt s.1 N a.1.toNat=x∧rt s.1 N a.2.1.toNat=y)∨(rt s.1 N a.1.toNat=y∧rt s.1 N a.2.1.toNat=x)):=by
   rcases Nat.lt_or_ge (rt s.1 N a.1.toNat) (rt s.1 N a.2.1.toNat) with hlt | hge
   ·exact ⟨_,_,rfl,rfl,by omega,by rw [Nat.max_eq_right (by omega)]; exact hrq,by rw [Nat.min_eq_left (by omega)]; exact hrp,.inr ⟨by omega,by omega⟩⟩
   ·exact ⟨_,_,rfl,rfl,by omega,by rw [Nat.max_eq_left (by omega)]; exact hrp,by rw [Nat.min_eq_right (by omega)]; exact hrq,.inl ⟨by omega,by omega⟩⟩
  rw [← hx,← hy]
  have hxN : x < N:=by omega
  have hyN : y < N:=by omega
  obtain ⟨j1,j2⟩:=rt_join hs.up hxN hyN hrx hry hxy
  have hrj:=roots_join hs.up hxN hrx hxy
  have hrle : roots N s.1≤N:=by
   have:=List.countP_le_length (p:=isRoot s.1) (l:=List.range N)
   simpa [roots] using this
  have hxyr : Reach E x y:=by
   have r1:=hs.reach _ hpa
   have r2:=hs.reach _ hqa
   have r3:=edge_reach h ha
   rcases hpq with ⟨p1,p2⟩ | ⟨p1,p2⟩
   ·rw [p1] at r1; rw [p2] at r2
    exact (r1.symm.trans r3).trans r2
   ·rw [p1] at r1; rw [p2] at r2
    exact ((r2.symm.trans r3.symm).trans r1)
  refine ⟨j1,?_,?_,?_⟩
  ·show subI .i64 s.2 1=_
   rw [hs.num,sub1 (by omega)]
   show _=((roots N (s.1.set x (y : Int)) : Nat) : Int)
   omega
  ·intro j b hj hb
   obtain ⟨b1,b2,b3,b4,_⟩:=h.edge b (List.mem_of_getElem? hb)
   rw [j2 _ (by omega),j2 _ (by omega)]
   rcases Nat.eq_or_lt_of_le (Nat.le_of_lt_succ hj) with rfl | hlt
   ·rw [ha] at hb; cases hb
    rcases hpq with ⟨p1,p2⟩ | ⟨p1,p2⟩ <;> rw [p1,p2] <;> simp <;> omega
   ·rw [hs.same j b hlt hb]
  ·intro v hv
   rw [j2 v hv]
   have:=hs.reach v hv
   split
   ·rename_i e5
    rw [e5] at this
    exact this.trans hxyr
   ·exact this
theorem comp_run (h : RotOK (N : Nat) E A) : ∃ up,∃ c : Nat,Zc_L8 ((N : Int),E,A,(List.range N).map Int.ofNat,(N : Int),0,())=some (.inl ((c : Int),()))∧CompInv N E E.length (up,(c : Int)):=by
 have h16 : N≤16384:=by have:=h.n1; omega
 have hm1:=h.m1
 have h0 : CompInv N E 0 ((List.range N).map Int.ofNat,(N : Int)):=by
  have hg : ∀ v,v < N→((List.range N).map Int.ofNat)[v]?=some (v : Int):=by
   intro v hv; simp [hv]
  have hu : UpOK N ((List.range N).map Int.ofNat):=⟨by simp,fun v hv=>⟨v,hg v hv,Nat.le_refl _⟩⟩
  have hr : ∀ v,v < N→rt ((List.range N).map Int.ofNat) N v=v:=fun v hv=>by rw [rt_up hu hv (hg v hv),if_pos rfl]
  refine ⟨hu,?_,fun j a hj=>by omega,fun v hv=>by rw [hr v hv]; exact .refl _⟩
  have : roots N ((List.range N).map Int.ofNat)=N:=by
   unfold roots
   rw [List.countP_eq_length.2 (fun v hv=>?_)]
   ·simp
   ·have:=List.mem_range.1 hv
    simp [isRoot,this]
  simp only
  rw [this]
 have key:=scanI (B:=Zc_B8) (ε:=Empty) (fun i s=>CompInv N E i s) (fun s i=>((N : Int),E,A,s.1,s.2,(i : Int),())) (fun s=>.inl (s.2,())) (fun e=>nomatch e) (compStep N) E (by
   rintro ⟨up,n⟩ i a hs ha
   have hi : i < E.length:=(List.getElem?_eq_some_iff.1 ha).1
   obtain ⟨e1,e2,e3,e4,_⟩:=h.edge a (List.mem_of_getElem? ha)
   obtain ⟨p,hp⟩ : ∃ p : Nat,a.1=p:=⟨a.1.toNat,by omega⟩
   obtain ⟨q,hq⟩ : ∃ q : Nat,a.2.1=q:=⟨a.2.1.toNat,by omega⟩
   have hpN : p < N:=by omega
   have hqN : q < N:=by omega
   have hu : UpOK N up:=hs.up
   have lp:=rt_le hu N p hpN
   have lq:=rt_le hu N q hqN
   simp only [Zc_B8]
   rw [ltI_t (by omega),cond_true,getI_of,ha,Option.bind_some]
   simp only [hp,Option.bind_some,hq]
   rw [root_fn hu hpN,Option.bind_some,root_fn hu hqN,Option.bind_some,add1 (by omega)]
   simp only [compStep,hp,hq,Int.toNat_natCast]
   by_cases e : rt up N p=rt up N q
   ·rw [neI_f (by omega),if_pos e]; rfl
   ·rw [neI_t (by omega),if_neg e,cond_true]
    have em : maxI ((rt up N p : Nat) : Int) ((rt up N q : Nat) : Int)=((max (rt up N p) (rt up N q) : Nat) : Int):=by
     unfold maxI; split <;> omega
    have en : minI ((rt up N p : Nat) : Int) ((rt up N q : Nat) : Int)=((min (rt up N p) (rt up N q) : Nat) : Int):=by
     unfold minI; split <;> omega
    rw [em,en,idxI_of (by rw [hu.1]; omega),Option.bind_some]
    obtain ⟨z,hz⟩ : ∃ z,up[max (rt up N p) (rt up N q)]?=some z:=⟨_,List.getElem?_eq_getElem (by rw [hu.1]; omega)⟩
    rw [hz]
    rfl) (by
   rintro s i a t hs ha hg
   exact compStep_ok h hs ha hg) (by
   intro s hs
   simp only [Zc_B8]
   rw [ltI_f (by omega)]; rfl) ((List.range N).map Int.ofNat,(N : Int)) h0
 obtain ⟨t,ht⟩:=foldE_inl (g:=compStep N) (l:=E) (i:=0) (s:=((List.range N).map Int.ofNat,(N : Int)))
  (fun _ s a=>if rt s.1 N a.1.toNat=rt s.1 N a.2.1.toNat then s else (s.1.set (max (rt s.1 N a.1.toNat) (rt s.1 N a.2.1.toNat)) ((min (rt s.1 N a.1.toNat) (rt s.1 N a.2.1.toNat) : Nat) : Int),subI .i64 s.2 1)) (fun _ _ _ _=>rfl)
 have hI:=foldE_inv (I:=fun i s=>CompInv N E i s) (fun s j a u h1 h2 h3=>by
  rw [Nat.zero_add] at h1 h3 ⊢
  exact compStep_ok h h1 h2 h3) h0 ht
 rw [Nat.zero_add] at hI
 rw [ht] at key
 refine ⟨t.1,roots N t.1,?_,⟨hI.up,rfl,hI.same,hI.reach⟩⟩
 rw [← hI.num]
 exact key
theorem comps_iff (h : RotOK (N : Nat) E A) (hN0 : 0 < N) {up : List Int} {c : Nat} (hI : CompInv N E E.length (up,(c : Int))) : c=1↔Conn N E:=by
 have hc : c=roots N up:=by have:=hI.num; simp only at this; omega
 have hu : UpOK N up:=hI.up
 have hroot0 : isRoot up 0=true:=by
  obtain ⟨u,e1,e2⟩:=hu.2 0 hN0
  have : u=0:=by omega
  subst this
  simpa [isRoot] using e1
 have hrt : ∀ v,v < N→isRoot up (rt up N v)=true:=fun v hv=>by
  have:=rt_root hu v hv
  simp [isRoot,this]
 constructor
 ·intro h1
  have hz : ∀ v,v < N→isRoot up v=true→v=0:=by
   intro v hv hr
   apply Classical.byContradiction
   intro hne
   have e1 : put1 (fun x=>isRoot up x && x != 0) 0=isRoot up:=by
    funext x
    unfold put1
    by_cases e : x=0
    ·subst e; simp [hroot0]
    ·have e5 : (x == 0)=false:=by simpa using e
     have e6 : (x != 0)=true:=by simpa using e
     rw [e5]; show (isRoot up x && x != 0 || false)=_; rw [e6]; simp
   have e2 : (List.range N).countP (isRoot up)=(List.range N).countP (fun x=>isRoot up x && x != 0)+1:=by
    rw [← cnt_put (S:=fun x=>isRoot up x && x != 0) (i:=0) (by simp) hN0,e1]
   have e3 : (List.range N).countP (fun x=>isRoot up x && x != 0)=0:=by
    unfold roots at hc; omega
   rw [List.countP_eq_zero] at e3
   have:=e3 v (List.mem_range.2 hv)
   simp [hr,hne] at this
  intro v hv
  have e4:=hz _ (Nat.lt_of_le_of_lt (rt_le hu N v hv) hv) (hrt v hv)
  have:=hI.reach v hv
  simp only [e4] at this
  exact this.symm
 ·intro hcn
  have hall : ∀ {u v : Nat},Reach E u v→u < N→rt up N u=rt up N v:=by
   intro u v hr
   induction hr with
   | refl=>intro _; rfl
   | @step v w k hr' hk e1 e2 ih =>
    intro hu0
    rw [ih hu0]
    have hj : k / 2 < E.length:=by omega
    obtain ⟨a,ha⟩ : ∃ a,E[k / 2]?=some a:=⟨_,List.getElem?_eq_getElem hj⟩
    have hs:=hI.same (k / 2) a hj ha
    simp only at hs
    have e1' : tl E k=(if k % 2=0 then a.1 else a.2.1):=by simp [tl,ha]
    have e2' : hd E k=(if k % 2=0 then a.2.1 else a.1):=by
     unfold hd tl
     rw [oth_div,ha,oth_mod]
     rcases Nat.mod_two_eq_zero_or_one k with e | e <;> simp [e]
    rw [e1'] at e1
    rw [e2'] at e2
    rcases Nat.mod_two_eq_zero_or_one k with e | e
    ·simp only [e,if_true] at e1 e2
     rw [e1,e2] at hs
     simpa using hs
    ·simp only [e,if_neg (by omega : ¬ (1=0))] at e1 e2
     rw [e1,e2] at hs
     simpa using hs.symm
  have hz : ∀ v,v < N→isRoot up v=true→v=0:=by
   intro v hv hr
   have e1 : up[v]?=some (v : Int):=by simpa [isRoot] using hr
   have e0 : up[0]?=some ((0 : Nat) : Int):=by simpa [isRoot] using hroot0
   have:=hall (hcn v hv) hN0
   rw [rt_up hu hN0 e0,if_pos rfl,rt_up hu hv e1,if_pos rfl] at this
   exact this.symm
  rw [hc]
  unfold roots
  have e1 : (List.range N).countP (isRoot up)=(List.range N).countP (put1 (fun _=>false) 0):=by
   refine List.countP_congr fun x hx=>?_
   have hxN:=List.mem_range.1 hx
   unfold put1
   simp only [Bool.false_or,beq_iff_eq]
   exact ⟨hz x hxN,fun e=>by rw [e]; exact hroot0⟩
  rw [e1,cnt_put (S:=fun _=>false) (i:=0) rfl hN0]
  simp
theorem rcomps_eq (h : RotOK (N : Nat) E A) : ∃ c : Nat,Zc (((N : Int),E,A,()),())=some ((c : Int),())∧c≤N∧(0 < N→(c=1↔Conn N E)):=by
 have h16 : N≤16384:=by have:=h.n1; omega
 obtain ⟨up,c,h1,h2⟩:=comp_run h
 refine ⟨c,?_,?_,fun hN0=>comps_iff h hN0 h2⟩
 ·unfold Zc
  simp only
  have key : ∀ (d k : Nat),k+d=N→Zc_L3 ((N : Int),E,A,(List.range k).map Int.ofNat,(k : Int),())=some (.inl ((N : Int),E,A,(List.range N).map Int.ofNat,())):=by
   intro d
   induction d with
   | zero =>
    intro k hk
    have : k=N:=by omega
    subst this
    refine loop_done ?_
    simp only [Zc_B3]
    rw [ltI_f (by omega)]; rfl
   | succ d ih =>
    intro k hk
    have hs : Zc_B3 ((N : Int),E,A,(List.range k).map Int.ofNat,(k : Int),())=some (.inl ((N : Int),E,A,(List.range (k+1)).map Int.ofNat,((k+1 : Nat) : Int),())):=by
     simp only [Zc_B3]
     rw [ltI_t (by omega),cond_true,app_of (by simp; omega),Option.bind_some,add1 (by omega),List.range_succ,List.map_append]
     rfl
    exact (loop_step hs).trans (ih (k+1) (by omega))
  have:=key N 0 (by omega)
  rw [show Zc_L3 ((N : Int),E,A,[],0,())=_ from this]
  simp only [Option.bind_some,Sum.elim_inl]
  rw [h1]
  rfl
 ·have:=h2.num
  have hle:=List.countP_le_length (p:=isRoot up) (l:=List.range N)
  simp only [roots,List.length_range] at this hle
  omega
end
end Go.Vm

/-
 The directions of the darts, in the program.
-/
import Derived.Test.YtpgfkljmcacegaaDoorN42C
import Derived.Test.YtpgfkljmcacegaaDoorN33Q
set_option linter.unusedVariables false
set_option linter.unusedSimpArgs false
namespace Go.Vm
open Go.Proofs
set_option maxRecDepth 100000
attribute [local irreducible] loopFix
theorem bends_val (N : Int) (E : List Arc) (A : List (List Int)) (g : List Int) (B : List ByteArray) (o : Int) (m : Nat) (hB : B.length=2 * m) (hm : m≤32768) (hs : ∀ k,k < 2 * m→(at0 B k).size≤64) : ∀ (k j : Nat) (n : Nat),j+k=m→n≤64 * j →
  ∃ v : Nat,n≤v∧v≤64 * m∧Zbw_L5 (N,E,A,g,B,o,(n : Int),((2 * j : Nat) : Int),())=some (.inl ((v : Int),()))∧Zaf_L5 (N,E,A,g,B,o,(n : Int),((2 * j : Nat) : Int),())=some (.inl ((v : Int),())) ∧
   (v=n→∀ i,j≤i→i < m→(at0 B (2 * i)).size=0):=by
 intro k
 induction k with
 | zero =>
  intro j n hj hn
  refine ⟨n,Nat.le_refl _,by omega,loop_done ?_,loop_done ?_,fun _ i h1 h2=>by omega⟩
  ·simp only [Zbw_B5]
   rw [ltI_f (by omega)]; rfl
  ·simp only [Zaf_B5]
   rw [ltI_f (by omega)]; rfl
 | succ k ih =>
  intro j n hj hn
  have h0 : B[2 * j]?=some (at0 B (2 * j)):=at0_of (by omega)
  have h64:=hs (2 * j) (by omega)
  have ea : addI .i64 ((2 * j : Nat) : Int) 2=((2 * (j+1) : Nat) : Int):=by rw [addI64 (by omega) (by omega)]; omega
  have eb : addI .i64 (n : Int) ((at0 B (2 * j)).size : Nat)=((n+(at0 B (2 * j)).size : Nat) : Int):=by rw [addI64 (by omega) (by omega)]; omega
  obtain ⟨v,v1,v2,h1,h2,h3⟩:=ih (j+1) (n+(at0 B (2 * j)).size) (by omega) (by omega)
  refine ⟨v,by omega,v2,?_,?_,fun e i i1 i2=>?_⟩
  ·refine (loop_step ?_).trans h1
   simp only [Zbw_B5]
   rw [ltI_t (by omega),cond_true,getI_of,h0,Option.bind_some,ea,eb]
  ·refine (loop_step ?_).trans h2
   simp only [Zaf_B5]
   rw [ltI_t (by omega),cond_true,getI_of,h0,Option.bind_some,ea,eb]
  ·by_cases e2 : i=j
   ·subst e2; omega
   ·exact h3 (by omega) i (by omega) i2
theorem straight_both (N0 : Int) (E : List Arc) (A : List (List Int)) (g : List Int) (B : List ByteArray) (o : Int) (hA : ∀ l∈A,l.length≤9223372036854775807) :
  ∃ b,Zax (((N0,E,A,()),g,B,o,()),())=some (b,())∧Zj (((N0,E,A,()),g,B,o,()),())=some (b,()) ∧
   (b=true→∃ N : Nat,N0=(N : Int)∧∃ nx,ShapeOK N E A g B o nx∧∀ k,k < 2 * E.length→(at0 B k).size=0) ∧
   (Zao (((N0,E,A,()),g,B,o,()),())=some (0,())→∃ v,Zaf (((N0,E,A,()),g,B,o,()),())=some (v,())∧(v=0↔b=true)):=by
 obtain ⟨bv,v1,v2,v3⟩:=Zbx_both N0 E A g B o hA
 have hp : Zax (((N0,E,A,()),g,B,o,()),())=(Zby (((N0,E,A,()),g,B,o,()),())).bind fun r1=>cond (eqI r1.1 0) ((Zbw (((N0,E,A,()),g,B,o,()),())).bind fun r2=>some ((eqI r2.1 0),())) (some (false,())):=rfl
 have hr : Zj (((N0,E,A,()),g,B,o,()),())=(Zao (((N0,E,A,()),g,B,o,()),())).bind fun r1=>cond (eqI r1.1 0) ((Zaf (((N0,E,A,()),g,B,o,()),())).bind fun r2=>some ((eqI r2.1 0),())) (some (false,())):=rfl
 have hV : Zby (((N0,E,A,()),g,B,o,()),())=some (cond bv 0 13,()):=by
  unfold Zby
  simp only
  rw [v1,Option.bind_some]
  cases bv <;> rfl
 rw [hp,hr,hV,v2]
 cases hbv : bv with
 | false =>
  refine ⟨false,rfl,rfl,(fun h=>by cases h),fun h=>?_⟩
  simp at h
 | true =>
  subst hbv
  obtain ⟨N,rfl,nx,h⟩:=v3 rfl
  have hB:=h.turn.blen
  have hm1:=h.rot.m1
  have h64 : ∀ k,k < 2 * E.length→(at0 B k).size≤64:=fun k hk=>(h.turn.bound hk).2.2
  obtain ⟨v,_,hv64,b1,b2,b3⟩:=bends_val (N : Int) E A g B o E.length hB hm1 h64 E.length 0 0 (by omega) (by omega)
  have s1 : Zbw ((((N : Int),E,A,()),g,B,o,()),())=some ((v : Int),()):=by
   unfold Zbw
   simp only
   rw [v1,Option.bind_some]
   simp only [Bool.not_true,cond_false]
   rw [show Zbw_L5 ((N : Int),E,A,g,B,o,0,0,())=_ from b1]; rfl
  have s2 : Zaf ((((N : Int),E,A,()),g,B,o,()),())=some ((v : Int),()):=by
   unfold Zaf
   simp only
   rw [v2,Option.bind_some]
   simp only [cond_true]
   rw [neI_f rfl,cond_false]
   rw [show Zaf_L5 ((N : Int),E,A,g,B,o,0,0,())=_ from b2]; rfl
  refine ⟨eqI (v : Int) 0,?_,?_,fun hb=>⟨N,rfl,nx,h,fun k hk=>?_⟩,fun _=>⟨(v : Int),s2,by simp [eqI]⟩⟩
  ·rw [Option.bind_some,s1]; rfl
  ·rw [Option.bind_some,s2]; rfl
  ·have hv0 : v=0:=by simp [eqI] at hb; omega
   have hev:=b3 hv0
   have hbe:=allFrom_iff.1 h.bend
   rcases Nat.mod_two_eq_zero_or_one k with e | e
   ·have:=hev (k / 2) (by omega) (by omega)
    rwa [show 2 * (k / 2)=k by omega] at this
   ·have h1:=hbe (oth k) (by omega) (by have:=oth_lt hk; omega)
    unfold bendR at h1
    rw [Bool.and_eq_true,eqS_iff,oth_oth] at h1
    rw [h1.2,rev_size]
    have:=hev (k / 2) (by omega) (by omega)
    have o' : oth k=2 * (k / 2):=by unfold oth; rw [if_neg (by omega)]; omega
    rw [o']; exact this
theorem small42 (N : Int) (E : List Arc) (A : List (List Int)) (g : List Int) (B : List ByteArray) (o : Int) :
  ∃ b,Zad (((N,E,A,()),g,B,o,()),())=some (b,())∧(b=true→N≤30∧E.length≤40∧A.length≤40∧g.length≤100∧B.length≤100):=by
 unfold Zad
 simp only
 by_cases h1 : N≤30
 ·rw [gtI_f h1,cond_false]
  by_cases h2 : E.length≤40
  ·rw [gtI_f (by omega),cond_false]
   by_cases h3 : A.length≤40
   ·rw [gtI_f (by omega),cond_false]
    by_cases h4 : g.length≤100
    ·rw [gtI_f (by omega),cond_false]
     by_cases h5 : B.length≤100
     ·rw [gtI_f (by omega),cond_false]
      have key:=scan (B:=Zad_B4) (fun (_ : Unit) i=>(N,E,A,g,B,o,(i : Int),())) (fun _=>.inr (.inl ())) (fun (_ : Unit)=>.inl (false,()))
       (fun _ (_ : Unit) (s : ByteArray)=>some (cond (gtI (s.size : Nat) 70) (.inr ()) (.inl ()))) B (by
        intro _ i s hs
        have hi : i < B.length:=(List.getElem?_eq_some_iff.1 hs).1
        simp only [Zad_B4]
        rw [ltI_t (by omega),cond_true,getI_of,hs,Option.bind_some,add1 (by omega)]
        cases gtI (s.size : Nat) 70 <;> rfl) (by
        intro _
        simp only [Zad_B4]
        rw [ltI_f (by omega)]; rfl) ()
      have hf : ∀ (l : List ByteArray) (i : Nat),∃ b : Bool,foldE (fun (_ : Nat) (_ : Unit) (s : ByteArray)=>(some (cond (gtI (s.size : Nat) 70) (.inr ()) (.inl ())) : Option (Unit⊕Unit))) i () l=some (cond b (.inl ()) (.inr ())):=by
       intro l
       induction l with
       | nil=>intro i; exact ⟨true,rfl⟩
       | cons s l ih =>
        intro i
        simp only [foldE]
        cases gtI (s.size : Nat) 70 with
        | true=>exact ⟨false,rfl⟩
        | false=>exact ih (i+1)
      obtain ⟨b,hb⟩:=hf B 0
      rw [hb] at key
      rw [show Zad_L4 (N,E,A,g,B,o,0,())=_ from key]
      refine ⟨b,?_,fun _=>⟨h1,h2,h3,h4,h5⟩⟩
      cases b <;> rfl
     ·rw [gtI_t (by omega)]; exact ⟨false,rfl,fun h=>by cases h⟩
    ·rw [gtI_t (by omega)]; exact ⟨false,rfl,fun h=>by cases h⟩
   ·rw [gtI_t (by omega)]; exact ⟨false,rfl,fun h=>by cases h⟩
  ·rw [gtI_t (by omega)]; exact ⟨false,rfl,fun h=>by cases h⟩
 ·rw [gtI_t (by omega)]; exact ⟨false,rfl,fun h=>by cases h⟩
section
variable {N : Nat} {E : List Arc} {A : List (List Int)} {nx fw g : List Int} {B : List ByteArray} {o : Int}
theorem next_val (h : RotOK (N : Nat) E A) (hn : Fol oth E A nx) (ff : Fol id E A fw) {d : Nat} (hd : d < 2 * E.length) : Zbn (((N : Int),E,A,()),((oth d : Nat) : Int),())=some (((nxN fw d : Nat) : Int),()):=by
 have hm1:=h.m1
 have ho:=oth_lt hd
 obtain ⟨a,a1,a2⟩:=tail_hd h ho
 obtain ⟨v,hv,vn⟩:=h.tl_lt hd
 have e1 : Go.Vm.hd E (oth d)=(v : Int):=by unfold Go.Vm.hd; rw [oth_oth]; exact hv
 obtain ⟨l,l1,lA,ln,ld,lt⟩:=at_list h vn
 have hdl : (d : Int)∈l:=(lt d hd).1 (by unfold tln; rw [hv]; rfl)
 have hll:=h.list_len lA
 rcases index_int l (d : Int) (by omega) with ⟨_,q⟩ | ⟨k,k1,k2⟩
 ·exact absurd hdl q
 ·have hk : k < l.length:=(List.getElem?_eq_some_iff.1 k1).1
  have hkd : l[k]=(d : Int):=(List.getElem?_eq_some_iff.1 k1).2
  have hm : (k+1) % l.length < l.length:=Nat.mod_lt _ (by omega)
  have g1:=ff.get l lA k hk
  rw [hkd,id,Int.toNat_natCast,List.getD_eq_getElem?_getD,List.getElem?_eq_getElem hm,Option.getD_some] at g1
  have g2:=(nxN_eq (fw_ok h hn ff) hd).1
  rw [g1] at g2
  have g3:=Option.some.inj g2
  have e2 : mulI .i64 2 (E.length : Nat)=((2 * E.length : Nat) : Int):=by rw [mulI64 (by omega) (by omega)]; omega
  unfold Zbn
  simp only
  rw [valid_eq ((N : Int),E,A,()) h.lists,h.validB,Option.bind_some]
  simp only [Bool.not_true,cond_false]
  rw [ltI_f (by omega),cond_false,e2,geI_f (by omega),cond_false,quo2 (by omega),getI_of,a1,Option.bind_some,a2,Option.bind_some]
  simp only
  rw [e1,getI_of,l1,Option.bind_some,xor1 (by omega),oth_oth,k2,Option.bind_some,eqI_f (by omega),cond_false,add1 (by omega),remN,getI_of,List.getElem?_eq_getElem hm,g3]
  rfl
def unset (out : List Int) : Nat:=out.countP fun x=>decide (x < 0)
theorem unset_set : ∀ {out : List Int} {x : Nat} {v : Int},(∃ y,out[x]?=some y∧y < 0)→0≤v→unset (out.set x v)+1=unset out
 | [],x,v,⟨y,h,_⟩,_=>by simp at h
 | b :: out,0,v,⟨y,h,hy⟩,hv=>by
  simp at h
  subst h
  unfold unset
  have hv' : ¬ v < 0:=by omega
  rw [List.set_cons_zero,List.countP_cons,List.countP_cons]
  simp [hy,hv']
 | b :: out,x+1,v,⟨y,h,hy⟩,hv=>by
  have:=unset_set (out:=out) (x:=x) ⟨y,by simpa using h,hy⟩ hv
  unfold unset at this ⊢
  rw [List.set_cons_succ,List.countP_cons,List.countP_cons]
  omega
def putD (s : List Int×List Int) (x : Nat) (v : Int) : List Int×List Int:=if s.1.getD x 0 < 0 then (s.1.set x v,s.2++[(x : Int)]) else s
structure DirI (k : Nat→Int) (M : Nat) (out : List Int) : Prop where
 len : out.length=2 * M
 val : ∀ d,d < 2 * M→out[d]?=some (-1)∨out[d]?=some (k d)
def Has (k : Nat→Int) (out : List Int) (d : Nat) : Prop:=out[d]?=some (k d)
variable {k : Nat→Int} {M : Nat}
theorem putD_ok (hk : ∀ d,d < 2 * M→0≤k d) {s : List Int×List Int} (hs : DirI k M s.1) {x : Nat} (hx : x < 2 * M) : DirI k M (putD s x (k x)).1∧Has k (putD s x (k x)).1 x∧(∀ d,d < 2 * M→Has k s.1 d→Has k (putD s x (k x)).1 d) ∧
  (∃ new,(putD s x (k x)).2=s.2++new∧2 * unset (putD s x (k x)).1+2 * new.length=2 * unset s.1∧(∀ y∈new,y=(x : Int)))∧(∀ d,d < 2 * M→Has k (putD s x (k x)).1 d→Has k s.1 d∨(d : Int)∈(putD s x (k x)).2):=by
 have hlen:=hs.len
 have hkx:=hk x hx
 unfold putD
 rcases hs.val x hx with e | e
 ·have hg : s.1.getD x 0=-1:=by rw [List.getD_eq_getElem?_getD,e]; rfl
  rw [hg,if_pos (by decide)]
  simp only
  have hset : ∀ d,(s.1.set x (k x))[d]?=if x=d then (if x < s.1.length then some (k x) else none) else s.1[d]?:=fun d=>List.getElem?_set
  refine ⟨⟨by simp [hlen],fun d hd=>?_⟩,?_,fun d hd h=>?_,⟨[(x : Int)],rfl,?_,by simp⟩,fun d hd h=>?_⟩
  ·rw [hset]
   by_cases c : x=d
   ·subst c; rw [if_pos rfl,if_pos (by omega)]; exact .inr rfl
   ·rw [if_neg c]; exact hs.val d hd
  ·unfold Has; rw [hset,if_pos rfl,if_pos (by omega)]
  ·unfold Has at h ⊢
   rw [hset]
   by_cases c : x=d
   ·subst c; rw [if_pos rfl,if_pos (by omega)]
   ·rw [if_neg c]; exact h
  ·have:=unset_set (out:=s.1) (x:=x) (v:=k x) ⟨-1,e,by decide⟩ hkx
   simp only [List.length_cons,List.length_nil]
   omega
  ·by_cases c : x=d
   ·subst c; right; simp
   ·left
    unfold Has at h ⊢
    rw [hset,if_neg c] at h
    exact h
 ·have hg : s.1.getD x 0=k x:=by rw [List.getD_eq_getElem?_getD,e]; rfl
  rw [hg,if_neg (by omega)]
  exact ⟨hs,e,fun _ _ h=>h,⟨[],by simp,by simp,by simp⟩,fun _ _ h=>.inl h⟩
theorem inner_val (N : Int) (E : List Arc) (A : List (List Int)) (g : List Int) (B : List ByteArray) (o : Int) (s : List Int×List Int) (x y : Nat) (v w : Int) (hx : x < s.1.length) (hy : y < s.1.length) (hst : s.2.length+2≤1000000) :
  Zay_L16 (N,E,A,g,B,o,s.1,s.2,(x : Int),v,(y : Int),w,0,())=some (.inl (N,E,A,g,B,o,(putD (putD s x (remI v 4)) y (remI w 4)).1,(putD (putD s x (remI v 4)) y (remI w 4)).2,())):=by
 have g1 : s.1[x]?=some (s.1.getD x 0):=by rw [List.getD_eq_getElem?_getD,List.getElem?_eq_getElem hx]; rfl
 have s1 : Zay_B16 (N,E,A,g,B,o,s.1,s.2,(x : Int),v,(y : Int),w,0,())=some (.inl (N,E,A,g,B,o,(putD s x (remI v 4)).1,(putD s x (remI v 4)).2,(x : Int),v,(y : Int),w,1,())):=by
  unfold Zay_B16 putD
  simp only
  rw [ltI_t (by omega),cond_true,eqI_t rfl,cond_true,idxI_of hx,Option.bind_some,g1,Option.bind_some]
  by_cases c : s.1.getD x 0 < 0
  ·rw [ltI_t c,cond_true,Option.bind_some,g1,Option.bind_some,app_of (by simp; omega),Option.bind_some,if_pos c]; rfl
  ·rw [ltI_f (by omega),cond_false,if_neg c]; rfl
 have hy2 : y < (putD s x (remI v 4)).1.length:=by
  unfold putD
  split
  ·simpa using hy
  ·exact hy
 have hst2 : (putD s x (remI v 4)).2.length+1≤1000000:=by
  unfold putD
  split
  ·simp; omega
  ·omega
 refine (loop_step s1).trans ?_
 generalize putD s x (remI v 4)=t at hy2 hst2
 have g2 : t.1[y]?=some (t.1.getD y 0):=by rw [List.getD_eq_getElem?_getD,List.getElem?_eq_getElem hy2]; rfl
 have s2 : Zay_B16 (N,E,A,g,B,o,t.1,t.2,(x : Int),v,(y : Int),w,1,())=some (.inl (N,E,A,g,B,o,(putD t y (remI w 4)).1,(putD t y (remI w 4)).2,(x : Int),v,(y : Int),w,2,())):=by
  unfold Zay_B16 putD
  simp only
  rw [ltI_t (by omega),cond_true,eqI_f (by omega),cond_false,eqI_t rfl,cond_true,idxI_of hy2,Option.bind_some,g2,Option.bind_some]
  by_cases c : t.1.getD y 0 < 0
  ·rw [ltI_t c,cond_true,Option.bind_some,g2,Option.bind_some,app_of (by simp; omega),Option.bind_some,if_pos c]; rfl
  ·rw [ltI_f (by omega),cond_false,if_neg c]; rfl
 refine (loop_step s2).trans (loop_done ?_)
 unfold Zay_B16
 simp only
 rw [ltI_f (by omega)]; rfl
theorem Plane.all_darts {V F : Nat} {tl fc fw : Nat→Nat} (p : Plane V F M tl fc fw) (P : Nat→Prop) (h0 : P 0) (hM : 0 < M) (h1 : ∀ d,d < 2 * M→P d→P (fw d)) (h2 : ∀ d,d < 2 * M→P d→P (oth d)) : ∀ d,d < 2 * M→P d:=by
 intro d hd
 have key:=p.cV (fun v=>@ite Nat (∃ x,x < 2 * M∧tl x=v∧P x) (Classical.propDecidable _) 1 0) (fun x hx=>by
  have one : ∀ x,x < 2 * M→(∃ y,y < 2 * M∧tl y=tl x∧P y)→∃ y,y < 2 * M∧tl y=tl (oth x)∧P y:=by
   rintro x hx ⟨y,y1,y2,y3⟩
   exact ⟨oth x,oth_lt2 hx,rfl,h2 x hx (p.around P h1 y x y1 hx y2 y3)⟩
  by_cases c : ∃ y,y < 2 * M∧tl y=tl x∧P y
  ·rw [if_pos c,if_pos (one x hx c)]
  ·rw [if_neg c,if_neg (fun c2=>c (by have:=one (oth x) (oth_lt2 hx) c2; rwa [oth_two] at this))])
 have a:=key (tl d) (p.tlt d hd)
 have b:=key (tl 0) (p.tlt 0 (by omega))
 rw [if_pos ⟨0,by omega,rfl,h0⟩] at b
 rw [← b] at a
 by_cases c : ∃ y,y < 2 * M∧tl y=tl d∧P y
 ·obtain ⟨y,y1,y2,y3⟩:=c
  exact p.around P h1 y d y1 hd y2 y3
 ·rw [if_neg c] at a; omega
def dirL (k : Nat→Int) (M : Nat) : List Int:=(List.range (2 * M)).map k
theorem dirL_eq {out : List Int} (hs : DirI k M out) (h : ∀ d,d < 2 * M→Has k out d) : out=dirL k M:=by
 refine List.ext_getElem? fun d=>?_
 unfold dirL
 by_cases hd : d < 2 * M
 ·rw [h d hd,List.getElem?_map,List.getElem?_range hd]; rfl
 ·rw [List.getElem?_eq_none (by rw [hs.len]; omega),List.getElem?_eq_none (by simp; omega)]
structure DirS (k : Nat→Int) (M : Nat) (fw : Nat→Nat) (out st : List Int) : Prop where
 inv : DirI k M out
 stk : ∀ x∈st,∃ d : Nat,x=(d : Int)∧d < 2 * M∧Has k out d
 done : ∀ d,d < 2 * M→Has k out d→(d : Int)∈st∨(Has k out (fw d)∧Has k out (oth d))
 zero : Has k out 0
theorem unset_le (out : List Int) : unset out≤out.length:=List.countP_le_length
theorem rem_dir {a b : Int} (h0 : 0≤a) (hb : 0≤b∧b < 4) (h : (4 : Int)∣b - a) : remI a 4=b:=by
 obtain ⟨n,rfl⟩ : ∃ n : Nat,a=(n : Int):=⟨a.toNat,by omega⟩
 rw [show ((4 : Int))=((4 : Nat) : Int) from rfl,remN]
 omega
theorem search (h : ShapeOK N E A g B o nx) (ff : Fol id E A fw) (hk : Dirs E.length (nxN fw) (gN g) k) : ∀ (n : Nat) (out st : List Int),n≤300000→2 * unset out+st.length≤n→DirS k E.length (nxN fw) out st →
  ∃ out',Zay_L11 ((N : Int),E,A,g,B,o,out,st,())=some (.inl (out',()))∧DirS k E.length (nxN fw) out' []:=by
 have hn:=h.folOK
 have hm1:=h.rot.m1
 intro n
 induction n with
 | zero =>
  intro out st _ hmu hs
  have hst : st=[]:=List.length_eq_zero_iff.1 (by omega)
  subst hst
  refine ⟨out,loop_done ?_,hs⟩
  unfold Zay_B11
  simp only
  rw [gtI_f (by simp)]; rfl
 | succ n ih =>
  intro out st hnb hmu hs
  rcases List.eq_nil_or_concat st with rfl | ⟨st',x,rfl⟩
  ·refine ⟨out,loop_done ?_,hs⟩
   unfold Zay_B11
   simp only
   rw [gtI_f (by simp)]; rfl
  ·rw [List.concat_eq_append] at hmu hs ⊢
   obtain ⟨d,rfl,hd,hdh⟩:=hs.stk x (by simp)
   have hlen:=hs.inv.len
   have hsl' : (st'++[(d : Int)]).length=st'.length+1:=by simp
   rw [hsl'] at hmu
   have hfwd:=(nxN_eq (fw_ok h.rot hn ff) hd).2
   have hod:=oth_lt hd
   have kd:=hk.nn d hd
   have gd:=shape_ang h d hd
   have hgl:=h.turn.glen
   have gg : g[d]?=some (gN g d):=by
    unfold gN
    rw [List.getD_eq_getElem?_getD,List.getElem?_eq_getElem (by omega)]; rfl
   have e1 : remI (k d+gN g d) 4=k (nxN fw d):=rem_dir (by omega) (hk.nn _ hfwd) (by have:=hk.fw d hd; omega)
   have e2 : remI (k d+2) 4=k (oth d):=rem_dir (by omega) (hk.nn _ hod) (by have:=hk.oth d hd; omega)
   let s0 : List Int×List Int:=(out,st')
   have hnn : ∀ d,d < 2 * E.length→0≤k d:=fun d hd=>(hk.nn d hd).1
   obtain ⟨p1,p2,p3,⟨n1,p4,p5,p6⟩,p7⟩:=putD_ok hnn (s:=s0) hs.inv hfwd
   obtain ⟨r1,r2,r3,⟨n2,r4,r5,r6⟩,r7⟩:=putD_ok hnn (s:=putD s0 (nxN fw d) (k (nxN fw d))) p1 hod
   have hun:=unset_le out
   have hstep : Zay_B11 ((N : Int),E,A,g,B,o,out,st'++[(d : Int)],())=some (.inl ((N : Int),E,A,g,B,o,(putD (putD s0 (nxN fw d) (k (nxN fw d))) (oth d) (k (oth d))).1,(putD (putD s0 (nxN fw d) (k (nxN fw d))) (oth d) (k (oth d))).2,())):=by
    unfold Zay_B11
    simp only
    rw [hsl',gtI_t (by omega),cond_true]
    have es : subI .i64 ((st'.length+1 : Nat) : Int) 1=(st'.length : Int):=by rw [subI64 (by omega) (by omega)]; omega
    rw [es,idxI_of (by omega),Option.bind_some]
    have gl : (st'++[(d : Int)])[st'.length]?=some (d : Int):=by simp
    rw [gl,Option.bind_some]
    have hv : viewB (st'.length+1) 0 (st'.length : Int)=some (0,st'.length):=by
     unfold viewB
     simp
     omega
    rw [hv,Option.bind_some]
    simp only [List.drop_zero]
    rw [xor1 (by omega),next_val h.rot hn ff hd,Option.bind_some,idxI_of (by omega),Option.bind_some,hdh,Option.bind_some,getI_of,gg,Option.bind_some,Option.bind_some,hdh,Option.bind_some]
    simp only
    rw [show (st'++[(d : Int)]).take st'.length=st' by simp,addI64 (by omega) (by omega),addI64 (by omega) (by omega)]
    have hin:=inner_val (N : Int) E A g B o s0 (nxN fw d) (oth d) (k d+gN g d) (k d+2) (by show _ < out.length; omega) (by show _ < out.length; omega) (by show st'.length+2≤_; omega)
    rw [e1,e2] at hin
    rw [show Zay_L16 ((N : Int),E,A,g,B,o,out,st',((nxN fw d : Nat) : Int),k d+gN g d,((oth d : Nat) : Int),k d+2,0,())=_ from hin]
    rfl
   have q4 : (putD (putD s0 (nxN fw d) (k (nxN fw d))) (oth d) (k (oth d))).2=st'++n1++n2:=by rw [r4,p4]
   have hmul : 2 * unset (putD (putD s0 (nxN fw d) (k (nxN fw d))) (oth d) (k (oth d))).1+2 * n2.length+2 * n1.length=2 * unset out:=by
    have : s0.1=out:=rfl
    rw [this] at p5
    omega
   have hl2 : (putD (putD s0 (nxN fw d) (k (nxN fw d))) (oth d) (k (oth d))).2.length=st'.length+n1.length+n2.length:=by rw [q4,List.length_append,List.length_append]
   have hS : DirS k E.length (nxN fw) (putD (putD s0 (nxN fw d) (k (nxN fw d))) (oth d) (k (oth d))).1 (putD (putD s0 (nxN fw d) (k (nxN fw d))) (oth d) (k (oth d))).2:=by
    refine ⟨r1,?_,?_,r3 0 (by omega) (p3 0 (by omega) hs.zero)⟩
    ·intro x hx
     rw [q4,List.mem_append,List.mem_append] at hx
     rcases hx with (hx | hx) | hx
     ·obtain ⟨y,rfl,hy,hyh⟩:=hs.stk x (by simp [hx])
      exact ⟨y,rfl,hy,r3 y hy (p3 y hy hyh)⟩
     ·exact ⟨_,p6 x hx,hfwd,r3 _ hfwd p2⟩
     ·exact ⟨_,r6 x hx,hod,r2⟩
    ·intro y hy hyh
     rcases r7 y hy hyh with h1 | h1
     ·rcases p7 y hy h1 with h2 | h2
      ·rcases hs.done y hy h2 with h3 | ⟨h3,h4⟩
       ·rcases List.mem_append.1 h3 with h4 | h4
        ·left; rw [q4]; simp [h4]
        ·right
         have : y=d:=Int.ofNat.inj (by simpa using h4)
         subst this
         exact ⟨r3 _ hfwd p2,r2⟩
       ·right
        exact ⟨r3 _ (nxN_eq (fw_ok h.rot hn ff) hy).2 (p3 _ (nxN_eq (fw_ok h.rot hn ff) hy).2 h3),r3 _ (oth_lt hy) (p3 _ (oth_lt hy) h4)⟩
      ·left
       rw [q4,List.mem_append]
       rw [p4] at h2
       exact .inl h2
     ·exact .inl h1
   obtain ⟨out',o1,o2⟩:=ih _ _ (by omega) (by omega) hS
   exact ⟨out',(loop_step hstep).trans o1,o2⟩
theorem fill_loop (N : Int) (E : List Arc) (A : List (List Int)) (g : List Int) (B : List ByteArray) (o : Int) (L : Nat) (hL : L≤1000000) : ∀ (r j : Nat),j+r=L →
  Zay_L3 (N,E,A,g,B,o,List.replicate j (-1)++List.replicate r 0,(L : Int),(j : Int),())=some (.inl (N,E,A,g,B,o,List.replicate L (-1),()))
 | 0,j,hj=>by
  refine loop_done ?_
  unfold Zay_B3
  simp only
  rw [ltI_f (by omega)]
  have : j=L:=by omega
  subst this
  simp
 | r+1,j,hj=>by
  have ih:=fill_loop N E A g B o L hL r (j+1) (by omega)
  refine (loop_step ?_).trans ih
  unfold Zay_B3
  simp only
  rw [ltI_t (by omega),cond_true,idxI_of (by simp),Option.bind_some]
  have hg : (List.replicate j (-1 : Int)++List.replicate (r+1) 0)[j]?=some 0:=by
   rw [List.getElem?_append_right (by simp)]
   simp
  rw [hg,Option.bind_some,add1 (by omega)]
  have hset : (List.replicate j (-1 : Int)++List.replicate (r+1) 0).set j (-1)=List.replicate (j+1) (-1)++List.replicate r 0:=by
   rw [List.set_append_right _ _ (by simp),List.length_replicate,Nat.sub_self,List.replicate_succ,List.set_cons_zero,List.replicate_succ']
   simp
  rw [hset]
theorem has_start (hk : ∀ d,d < 2 * M→0≤k d) (h0 : k 0=1) (hM : 0 < M) : DirI k M ((List.replicate (2 * M) (-1)).set 0 1)∧Has k ((List.replicate (2 * M) (-1)).set 0 1) 0∧∀ d,d < 2 * M→Has k ((List.replicate (2 * M) (-1)).set 0 1) d→d=0:=by
 have hs : ∀ d,d < 2 * M→((List.replicate (2 * M) (-1 : Int)).set 0 1)[d]?=if d=0 then some 1 else some (-1):=by
  intro d hd
  rw [List.getElem?_set]
  by_cases c : d=0
  ·subst c; rw [if_pos rfl,if_pos (by simpa using hd),if_pos rfl]
  ·rw [if_neg (Ne.symm c),if_neg c,List.getElem?_replicate,if_pos hd]
 refine ⟨⟨by simp,fun d hd=>?_⟩,?_,fun d hd hh=>?_⟩
 ·rw [hs d hd]
  by_cases c : d=0
  ·subst c; rw [if_pos rfl,h0]; exact .inr rfl
  ·rw [if_neg c]; exact .inl rfl
 ·unfold Has
  rw [hs 0 (by omega),if_pos rfl,h0]
 ·apply Classical.byContradiction
  intro c
  unfold Has at hh
  rw [hs d hd,if_neg c] at hh
  have:=Option.some.inj hh
  have:=hk d hd
  omega
theorem directed_eq (h : ShapeOK N E A g B o nx) (ff : Fol id E A fw) (hE : 0 < E.length) (hb : ∀ k,k < 2 * E.length→(at0 B k).size=0) (hk : Dirs E.length (nxN fw) (gN g) k) (h0 : k 0=1) :
  Zay ((((N : Int),E,A,()),g,B,o,()),())=some (dirL k E.length,()):=by
 have hm1:=h.rot.m1
 have hgl:=h.turn.glen
 have p:=shape_plane h ff hE hb
 obtain ⟨s1,s2,s3⟩:=has_start (fun d hd=>(hk.nn d hd).1) h0 hE
 have hun:=unset_le ((List.replicate (2 * E.length) (-1 : Int)).set 0 1)
 rw [s1.len] at hun
 have hmu0 : 2 * unset ((List.replicate (2 * E.length) (-1 : Int)).set 0 1)+([0] : List Int).length≤2 * (2 * E.length)+1:=by
  simp only [List.length_cons,List.length_nil]
  omega
 obtain ⟨out,o1,o2⟩:=search h ff hk (2 * (2 * E.length)+1) ((List.replicate (2 * E.length) (-1)).set 0 1) [0] (by omega) hmu0 ⟨s1,by
  intro x hx
  have : x=0:=by simpa using hx
  exact ⟨0,this,(show 0 < 2 * E.length from Nat.mul_pos (by decide) hE),s2⟩,by
  intro d hd hh
  have:=s3 d hd hh
  subst this
  exact .inl (by simp),s2⟩
 have hall:=p.all_darts (Has k out) o2.zero hE (fun d hd hh=>by
  rcases o2.done d hd hh with q | q
  ·simp at q
  ·exact q.1) (fun d hd hh=>by
  rcases o2.done d hd hh with q | q
  ·simp at q
  ·exact q.2)
 have hout:=dirL_eq o2.inv hall
 unfold Zay
 simp only
 rw [hgl,makeL_of (Nat.le_refl _) (by omega),Option.bind_some]
 have hf:=fill_loop (N : Int) E A g B o (2 * E.length) (by omega) (2 * E.length) 0 (by omega)
 simp only [List.replicate_zero,List.nil_append] at hf
 have hz : zeroVal I=(0 : Int):=rfl
 rw [List.length_replicate]
 rw [show Zay_L3 ((N : Int),E,A,g,B,o,List.replicate (2 * E.length) (zeroVal I),((2 * E.length : Nat) : Int),0,())=_ from hf]
 simp only [Option.bind_some,Sum.elim_inl,List.length_replicate]
 rw [eqI_f (by omega),cond_false,show idxI (2 * E.length) 0=some 0 from idxI_of (i:=0) (by omega),Option.bind_some,List.getElem?_replicate,if_pos (by omega),Option.bind_some,o1,hout]
 rfl
theorem directed_none (N : Int) (E : List Arc) (A : List (List Int)) (B : List ByteArray) (o : Int) : Zay (((N,E,A,()),[],B,o,()),())=some ([],()):=by
 unfold Zay
 simp only
 rw [show makeL I ((([] : List Int).length : Nat) : Int) ((([] : List Int).length : Nat) : Int)=some [] from rfl,Option.bind_some]
 have hf:=fill_loop N E A [] B o 0 (by omega) 0 0 rfl
 rw [show Zay_L3 (N,E,A,[],B,o,[],((([] : List Int).length : Nat) : Int),0,())=_ from hf]
 rfl
end
end Go.Vm

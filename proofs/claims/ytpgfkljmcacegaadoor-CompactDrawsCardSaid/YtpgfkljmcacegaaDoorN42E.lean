/-
 The directions of the darts, in the reference; the laws of directions on values.
-/
import Derived.Test.YtpgfkljmcacegaaDoorN42D
set_option linter.unusedVariables false
set_option linter.unusedSimpArgs false
namespace Go.Vm
open Go.Proofs
set_option maxRecDepth 100000
attribute [local irreducible] loopFix
def putR (s : List Int×Bool) (a : Int) (x : Nat) (v : Int) : List Int×Bool:=if 0≤a∧s.1.getD x 0 < 0 then (s.1.set x v,true) else s
def refS (g out : List Int) (ch : Bool) (d x : Nat) : List Int×Bool :=
 let s1:=putR (out,ch) (out.getD d 0) x (remI (out.getD d 0+g.getD d 0) 4)
 putR s1 (s1.1.getD d 0) (oth d) (remI (s1.1.getD d 0+2) 4)
theorem getD_of {l : List Int} {i : Nat} (h : i < l.length) : l[i]?=some (l.getD i 0):=by
 rw [List.getD_eq_getElem?_getD,List.getElem?_eq_getElem h]; rfl
section
variable {N : Int} {E : List Arc} {A : List (List Int)} {g : List Int} {B : List ByteArray} {o : Int}
theorem ref_step (out : List Int) (ch : Bool) (v : Int) (l : List Int) (i d x : Nat) (hi : i < l.length) (hl : l.length≤1000000) (hd : l[i]?=some (d : Int)) (hx : l[(i+1) % l.length]?=some (x : Int)) (hdl : d < out.length) (hxl : x < out.length) (hol : oth d < out.length)
  (hgl : d < g.length) (hol2 : out.length≤1000000) (ha : -1≤out.getD d 0∧out.getD d 0≤3) (hg : 0≤g.getD d 0∧g.getD d 0≤4) (hax : d=x→out.getD d 0=out.getD x 0) :
  Zf_B19 (N,E,A,g,B,o,out,ch,v,l,(i : Int),())=some (.inl (N,E,A,g,B,o,(refS g out ch d x).1,(refS g out ch d x).2,v,l,((i+1 : Nat) : Int),())):=by
 have gd:=getD_of hgl
 have od:=getD_of hdl
 have ox:=getD_of hxl
 have oo:=getD_of hol
 have id_ : idxI out.length (d : Int)=some d:=idxI_of hdl
 have ix_ : idxI out.length (x : Int)=some x:=idxI_of hxl
 have io_ : idxI out.length ((oth d : Nat) : Int)=some (oth d):=idxI_of hol
 have xo : xorI .i64 (d : Int) 1=((oth d : Nat) : Int):=xor1 (by omega)
 unfold Zf_B19
 simp only
 rw [ltI_t (by omega),cond_true,getI_of,hd,Option.bind_some,eqI_f (by omega),cond_false,add1 (by omega),remN,getI_of,hx,Option.bind_some,xo]
 simp only [id_,ix_,io_,od,Option.bind_some,getI_of,gd,List.length_set]
 by_cases c1 : 0≤out.getD d 0
 ·rw [geI_t c1,cond_true]
  simp only [ox,Option.bind_some,cond_true]
  by_cases c2 : out.getD x 0 < 0
  ·have hdx : d≠x:=fun e=>by subst e; omega
   rw [ltI_t c2,cond_true]
   have e1 : addI .i64 (out.getD d 0) (g.getD d 0)=out.getD d 0+g.getD d 0:=addI64 (by omega) (by omega)
   have sd : (out.set x (remI (out.getD d 0+g.getD d 0) 4))[d]?=some (out.getD d 0):=by rw [List.getElem?_set,if_neg (Ne.symm hdx),od]
   have hs1 : putR (out,ch) (out.getD d 0) x (remI (out.getD d 0+g.getD d 0) 4)=(out.set x (remI (out.getD d 0+g.getD d 0) 4),true):=if_pos ⟨c1,c2⟩
   have sdD : (out.set x (remI (out.getD d 0+g.getD d 0) 4)).getD d 0=out.getD d 0:=by rw [List.getD_eq_getElem?_getD,sd]; rfl
   have so:=getD_of (l:=out.set x (remI (out.getD d 0+g.getD d 0) 4)) (i:=oth d) (by simpa using hol)
   simp only [e1,sd,Option.bind_some]
   rw [geI_t c1,cond_true,so]
   simp only [Option.bind_some]
   have e2 : addI .i64 (out.getD d 0) 2=out.getD d 0+2:=addI64 (by omega) (by omega)
   unfold refS
   simp only [hs1,sdD]
   unfold putR
   simp only
   by_cases c3 : (out.set x (remI (out.getD d 0+g.getD d 0) 4)).getD (oth d) 0 < 0
   ·rw [ltI_t c3,cond_true,e2,if_pos ⟨c1,c3⟩]
   ·rw [ltI_f (by omega),cond_false,if_neg (fun h=>c3 h.2)]
  ·rw [ltI_f (by omega),cond_false]
   simp only [oo,Option.bind_some]
   have hs1 : putR (out,ch) (out.getD d 0) x (remI (out.getD d 0+g.getD d 0) 4)=(out,ch):=if_neg (fun h=>c2 h.2)
   have e2 : addI .i64 (out.getD d 0) 2=out.getD d 0+2:=addI64 (by omega) (by omega)
   unfold refS
   simp only [hs1]
   unfold putR
   simp only
   by_cases c3 : out.getD (oth d) 0 < 0
   ·rw [ltI_t c3,cond_true,e2,if_pos ⟨c1,c3⟩]
   ·rw [ltI_f (by omega),cond_false,if_neg (fun h=>c3 h.2)]
 ·rw [geI_f (by omega),cond_false]
  try rw [cond_false]
  have hs1 : putR (out,ch) (out.getD d 0) x (remI (out.getD d 0+g.getD d 0) 4)=(out,ch):=if_neg (fun h=>c1 h.1)
  unfold refS
  simp only [hs1]
  unfold putR
  simp only
  rw [if_neg (fun h=>c1 h.1)]
end
section
variable {N : Nat} {E : List Arc} {A : List (List Int)} {nx fw g : List Int} {B : List ByteArray} {o : Int} {k : Nat→Int} {M : Nat}
theorem putR_ok (hk : ∀ d,d < 2 * M→0≤k d∧k d < 4) {s : List Int×Bool} (hs : DirI k M s.1) {d x : Nat} {v : Int} (hd : d < 2 * M) (hx : x < 2 * M) (hv : Has k s.1 d→v=k x) :
  DirI k M (putR s (s.1.getD d 0) x v).1∧(∀ y,y < 2 * M→Has k s.1 y→Has k (putR s (s.1.getD d 0) x v).1 y) ∧
   ((putR s (s.1.getD d 0) x v=s∧(Has k s.1 d→Has k s.1 x))∨((putR s (s.1.getD d 0) x v).2=true∧unset (putR s (s.1.getD d 0) x v).1 < unset s.1)):=by
 have hlen:=hs.len
 unfold putR
 have hkx:=hk x hx
 have hkd:=hk d hd
 by_cases c : 0≤s.1.getD d 0∧s.1.getD x 0 < 0
 ·rw [if_pos c]
  simp only
  have hhd : Has k s.1 d:=by
   rcases hs.val d hd with e | e
   ·have : s.1.getD d 0=-1:=by rw [List.getD_eq_getElem?_getD,e]; rfl
    omega
   ·exact e
  have hvx:=hv hhd
  subst hvx
  have hex : s.1[x]?=some (-1):=by
   rcases hs.val x hx with e | e
   ·exact e
   ·have : s.1.getD x 0=k x:=by rw [List.getD_eq_getElem?_getD,e]; rfl
    omega
  have hset : ∀ d,(s.1.set x (k x))[d]?=if x=d then (if x < s.1.length then some (k x) else none) else s.1[d]?:=fun d=>List.getElem?_set
  refine ⟨⟨by simp [hlen],fun y hy=>?_⟩,fun y hy h=>?_,.inr ⟨by trivial,?_⟩⟩
  ·rw [hset]
   by_cases c : x=y
   ·subst c; rw [if_pos rfl,if_pos (by omega)]; exact .inr rfl
   ·rw [if_neg c]; exact hs.val y hy
  ·unfold Has at h ⊢
   rw [hset]
   by_cases c : x=y
   ·subst c; rw [if_pos rfl,if_pos (by omega)]
   ·rw [if_neg c]; exact h
  ·have:=unset_set (out:=s.1) (x:=x) (v:=k x) ⟨-1,hex,by decide⟩ hkx.1
   omega
 ·rw [if_neg c]
  refine ⟨hs,fun _ _ h=>h,.inl ⟨by trivial,fun h=>?_⟩⟩
  have : s.1.getD d 0=k d:=by rw [List.getD_eq_getElem?_getD,h]; rfl
  rcases hs.val x hx with e | e
  ·have : s.1.getD x 0=-1:=by rw [List.getD_eq_getElem?_getD,e]; rfl
   omega
  ·exact e
structure RefR (k : Nat→Int) (M : Nat) (fw : Nat→Nat) (s t : List Int×Bool) (D : Nat→Prop) : Prop where
 inv : DirI k M t.1
 mono : ∀ y,y < 2 * M→Has k s.1 y→Has k t.1 y
 done : (t=s∧∀ d,d < 2 * M→D d→Has k s.1 d→Has k s.1 (fw d)∧Has k s.1 (oth d))∨(t.2=true∧unset t.1 < unset s.1)
theorem RefR.trans {fw : Nat→Nat} {s t u : List Int×Bool} {D D' : Nat→Prop} (h1 : RefR k M fw s t D) (h2 : RefR k M fw t u D') : RefR k M fw s u (fun d=>D d∨D' d):=by
 refine ⟨h2.inv,fun y hy h=>h2.mono y hy (h1.mono y hy h),?_⟩
 rcases h1.done with ⟨rfl,q1⟩ | ⟨q1,q2⟩
 ·rcases h2.done with ⟨rfl,r1⟩ | ⟨r1,r2⟩
  ·exact .inl ⟨rfl,fun d hd hD h=>hD.elim (fun a=>q1 d hd a h) (fun a=>r1 d hd a h)⟩
  ·exact .inr ⟨r1,r2⟩
 ·rcases h2.done with ⟨rfl,r1⟩ | ⟨r1,r2⟩
  ·exact .inr ⟨q1,q2⟩
  ·exact .inr ⟨r1,by omega⟩
theorem refS_ok (h : ShapeOK N E A g B o nx) (hk : Dirs E.length (nxN fw) (gN g) k) (ff : Fol id E A fw) {out : List Int} {ch : Bool} (hs : DirI k E.length out) {d : Nat} (hd : d < 2 * E.length) :
  RefR k E.length (nxN fw) (out,ch) (refS g out ch d (nxN fw d)) (fun x=>x=d):=by
 have hfwd:=(nxN_eq (fw_ok h.rot h.folOK ff) hd).2
 have hod:=oth_lt hd
 have kd:=hk.nn d hd
 have gd:=shape_ang h d hd
 have val : ∀ {o : List Int},Has k o d→o.getD d 0=k d:=fun {o} hh=>by rw [List.getD_eq_getElem?_getD,hh]; rfl
 have e1 : remI (k d+gN g d) 4=k (nxN fw d):=rem_dir (by omega) (hk.nn _ hfwd) (by have:=hk.fw d hd; omega)
 have e2 : remI (k d+2) 4=k (oth d):=rem_dir (by omega) (hk.nn _ hod) (by have:=hk.oth d hd; omega)
 obtain ⟨p1,p2,p3⟩:=putR_ok hk.nn (s:=(out,ch)) hs hd hfwd (v:=remI (out.getD d 0+g.getD d 0) 4) (fun hh=>by rw [val hh]; exact e1)
 unfold refS
 simp only at p1 p2 p3 ⊢
 generalize putR (out,ch) (out.getD d 0) (nxN fw d) (remI (out.getD d 0+g.getD d 0) 4)=s1 at p1 p2 p3
 obtain ⟨r1,r2,r3⟩:=putR_ok hk.nn (s:=s1) p1 hd hod (v:=remI (s1.1.getD d 0+2) 4) (fun hh=>by rw [val hh]; exact e2)
 refine ⟨r1,fun y hy hh=>r2 y hy (p2 y hy hh),?_⟩
 rcases p3 with ⟨rfl,q2⟩ | ⟨q1,q2⟩
 ·rcases r3 with ⟨t1,t2⟩ | ⟨t1,t2⟩
  ·exact .inl ⟨t1,fun x hx e hh=>by subst e; exact ⟨q2 hh,t2 hh⟩⟩
  ·exact .inr ⟨t1,t2⟩
 ·rcases r3 with ⟨t1,t2⟩ | ⟨t1,t2⟩
  ·rw [t1]; exact .inr ⟨q1,q2⟩
  ·exact .inr ⟨t1,by simp only at q2 ⊢; omega⟩
theorem RefR.refl {fw : Nat→Nat} {s : List Int×Bool} (h : DirI k M s.1) : RefR k M fw s s (fun _=>False):=⟨h,fun _ _ h=>h,.inl ⟨rfl,fun _ _ h=>h.elim⟩⟩
theorem RefR.weak {fw : Nat→Nat} {s t : List Int×Bool} {D D' : Nat→Prop} (h : RefR k M fw s t D) (hD : ∀ d,D' d→D d) : RefR k M fw s t D':=⟨h.inv,h.mono,h.done.elim (fun ⟨a,b⟩=>.inl ⟨a,fun d hd hh=>b d hd (hD d hh)⟩) .inr⟩
theorem ref_inner (h : ShapeOK N E A g B o nx) (hk : Dirs E.length (nxN fw) (gN g) k) (ff : Fol id E A fw) (v : Int) {l : List Int} (lA : l∈A) : ∀ (r i : Nat) (out : List Int) (ch : Bool),i+r=l.length→DirI k E.length out →
  ∃ s : List Int×Bool,Zf_L19 ((N : Int),E,A,g,B,o,out,ch,v,l,(i : Int),())=some (.inl ((N : Int),E,A,g,B,o,s.1,s.2,v,()))∧RefR k E.length (nxN fw) (out,ch) s (fun d=>∃ j,i≤j∧l[j]?=some (d : Int))
 | 0,i,out,ch,hi,hs=>by
  refine ⟨(out,ch),loop_done ?_,(RefR.refl hs).weak fun d ⟨j,h1,h2⟩=>by have:=(List.getElem?_eq_some_iff.1 h2).1; omega⟩
  unfold Zf_B19
  simp only
  rw [ltI_f (by omega)]; rfl
 | r+1,i,out,ch,hi,hs=>by
  have hm1:=h.rot.m1
  have hll:=h.rot.list_len lA
  have hlt : i < l.length:=by omega
  obtain ⟨d,e,hd⟩:=h.rot.mem_of lA (List.getElem_mem hlt)
  have hli : l[i]?=some (d : Int):=by rw [List.getElem?_eq_getElem hlt,e]
  have hm : (i+1) % l.length < l.length:=Nat.mod_lt _ (by omega)
  have g1:=ff.get l lA i hlt
  rw [e,id,Int.toNat_natCast,List.getD_eq_getElem?_getD,List.getElem?_eq_getElem hm,Option.getD_some] at g1
  have g2:=nxN_eq (fw_ok h.rot h.folOK ff) hd
  rw [g1] at g2
  have g3:=Option.some.inj g2.1
  have hlen:=hs.len
  have hgl:=h.turn.glen
  have ang:=shape_ang h d hd
  have rng : ∀ x,x < 2 * E.length→-1≤out.getD x 0∧out.getD x 0≤3:=fun x hx=>by
   have kx:=hk.nn x hx
   rcases hs.val x hx with e | e
   ·have : out.getD x 0=-1:=by rw [List.getD_eq_getElem?_getD,e]; rfl
    omega
   ·have : out.getD x 0=k x:=by rw [List.getD_eq_getElem?_getD,e]; rfl
    omega
  have st:=ref_step (N:=(N : Int)) (E:=E) (A:=A) (B:=B) (o:=o) (g:=g) out ch v l i d (nxN fw d) hlt (by omega) hli (by rw [List.getElem?_eq_getElem hm,g3]) (by omega) (by omega) (by have:=oth_lt hd; omega) (by omega) (by omega) (rng d hd) (by unfold gN at ang; omega) (fun e=>by rw [← e])
  have ok:=refS_ok h hk ff (ch:=ch) hs hd
  obtain ⟨s,s1,s2⟩:=ref_inner h hk ff v lA r (i+1) (refS g out ch d (nxN fw d)).1 (refS g out ch d (nxN fw d)).2 (by omega) ok.inv
  refine ⟨s,(loop_step st).trans s1,(ok.trans s2).weak fun x ⟨j,j1,j2⟩=>?_⟩
  rcases Nat.eq_or_lt_of_le j1 with rfl | j1
  ·left
   rw [hli] at j2
   have:=Option.some.inj j2
   omega
  ·exact .inr ⟨j,j1,j2⟩
theorem ref_outer (h : ShapeOK N E A g B o nx) (hk : Dirs E.length (nxN fw) (gN g) k) (ff : Fol id E A fw) : ∀ (r v : Nat) (out : List Int) (ch : Bool),v+r=N→DirI k E.length out →
  ∃ s : List Int×Bool,Zf_L15 ((N : Int),E,A,g,B,o,out,ch,(v : Int),())=some (.inl ((N : Int),E,A,g,B,o,s.1,s.2,()))∧RefR k E.length (nxN fw) (out,ch) s (fun d=>∃ w l,v≤w∧A[w]?=some l∧(d : Int)∈l)
 | 0,v,out,ch,hv,hs=>by
  refine ⟨(out,ch),loop_done ?_,(RefR.refl hs).weak fun d ⟨w,l,h1,h2,_⟩=>by have:=(List.getElem?_eq_some_iff.1 h2).1; have:=h.rot.al; omega⟩
  unfold Zf_B15
  simp only
  rw [ltI_f (by omega)]; rfl
 | r+1,v,out,ch,hv,hs=>by
  have hn16:=h.rot.n16
  have hvl : v < A.length:=by have:=h.rot.al; omega
  have gv:=List.getElem?_eq_getElem hvl
  obtain ⟨s,s1,s2⟩:=ref_inner h hk ff (v : Int) (List.getElem_mem hvl) A[v].length 0 out ch (by omega) hs
  obtain ⟨t,t1,t2⟩:=ref_outer h hk ff r (v+1) s.1 s.2 (by omega) s2.inv
  refine ⟨t,(loop_step ?_).trans t1,(s2.trans t2).weak fun x ⟨w,l,w1,w2,w3⟩=>?_⟩
  ·unfold Zf_B15
   simp only
   rw [ltI_t (by omega),cond_true,getI_of,gv,Option.bind_some]
   rw [show Zf_L19 ((N : Int),E,A,g,B,o,out,ch,(v : Int),A[v],0,())=_ from s1]
   simp only [Option.bind_some,Sum.elim_inl]
   rw [add1 (by omega)]
  ·rcases Nat.eq_or_lt_of_le w1 with rfl | w1
   ·left
    rw [gv] at w2
    have : A[v]=l:=Option.some.inj w2
    subst this
    obtain ⟨j,hj⟩:=List.mem_iff_getElem?.1 w3
    exact ⟨j,Nat.zero_le _,hj⟩
   ·exact .inr ⟨w,l,w1,w2,w3⟩
theorem ref_rounds (h : ShapeOK N E A g B o nx) (hk : Dirs E.length (nxN fw) (gN g) k) (ff : Fol id E A fw) : ∀ (n : Nat) (out : List Int),unset out≤n→DirI k E.length out →
  ∃ out',Zf_L12 ((N : Int),E,A,g,B,o,out,true,())=some (.inl (out',()))∧DirI k E.length out'∧(∀ y,y < 2 * E.length→Has k out y→Has k out' y)∧∀ d,d < 2 * E.length→Has k out' d→Has k out' (nxN fw d)∧Has k out' (oth d):=by
 intro n
 induction n with
 | zero =>
  intro out hu hs
  obtain ⟨s,s1,s2⟩:=ref_outer h hk ff N 0 out false (by omega) hs
  rcases s2.done with ⟨rfl,q⟩ | ⟨_,q⟩
  ·refine ⟨out,(loop_step (t:=((N : Int),E,A,g,B,o,out,false,())) ?_).trans (loop_done rfl),hs,fun _ _ h=>h,fun d hd=>q d hd ?_⟩
   ·unfold Zf_B12
    simp only [cond_true]
    rw [show Zf_L15 ((N : Int),E,A,g,B,o,out,false,0,())=_ from s1]
    rfl
   ·obtain ⟨l,l1,l2⟩:=List.mem_flatten.1 (h.rot.mem hd)
    obtain ⟨w,hw⟩:=List.mem_iff_getElem?.1 l1
    exact ⟨w,l,Nat.zero_le _,hw,l2⟩
  ·simp only at q; omega
 | succ n ih =>
  intro out hu hs
  obtain ⟨s,s1,s2⟩:=ref_outer h hk ff N 0 out false (by omega) hs
  rcases s2.done with ⟨rfl,q⟩ | ⟨q1,q⟩
  ·refine ⟨out,(loop_step (t:=((N : Int),E,A,g,B,o,out,false,())) ?_).trans (loop_done rfl),hs,fun _ _ h=>h,fun d hd=>q d hd ?_⟩
   ·unfold Zf_B12
    simp only [cond_true]
    rw [show Zf_L15 ((N : Int),E,A,g,B,o,out,false,0,())=_ from s1]
    rfl
   ·obtain ⟨l,l1,l2⟩:=List.mem_flatten.1 (h.rot.mem hd)
    obtain ⟨w,hw⟩:=List.mem_iff_getElem?.1 l1
    exact ⟨w,l,Nat.zero_le _,hw,l2⟩
  ·obtain ⟨out',o1,o2,o3,o4⟩:=ih s.1 (by simp only at q; omega) s2.inv
   refine ⟨out',(loop_step (t:=((N : Int),E,A,g,B,o,s.1,true,())) ?_).trans o1,o2,fun y hy hh=>o3 y hy (s2.mono y hy hh),o4⟩
   unfold Zf_B12
   simp only [cond_true]
   rw [show Zf_L15 ((N : Int),E,A,g,B,o,out,false,0,())=_ from s1]
   simp only [Option.bind_some,Sum.elim_inl,q1]
theorem rfill_loop (N : Int) (E : List Arc) (A : List (List Int)) (g : List Int) (B : List ByteArray) (o : Int) (L : Nat) (hL : L≤1000000) : ∀ (r j : Nat),j+r=L →
  Zf_L6 (N,E,A,g,B,o,List.replicate j (-1)++List.replicate r 0,(L : Int),(j : Int),())=some (.inl (N,E,A,g,B,o,List.replicate L (-1),(L : Int),()))
 | 0,j,hj=>by
  refine loop_done ?_
  unfold Zf_B6
  simp only
  rw [ltI_f (by omega)]
  have : j=L:=by omega
  subst this
  simp
 | r+1,j,hj=>by
  have ih:=rfill_loop N E A g B o L hL r (j+1) (by omega)
  refine (loop_step ?_).trans ih
  unfold Zf_B6
  simp only
  rw [ltI_t (by omega),cond_true,idxI_of (by simp),Option.bind_some]
  have hg : (List.replicate j (-1 : Int)++List.replicate (r+1) 0)[j]?=some 0:=by
   rw [List.getElem?_append_right (by simp)]
   simp
  rw [hg,Option.bind_some,add1 (by omega)]
  have hset : (List.replicate j (-1 : Int)++List.replicate (r+1) 0).set j (-1)=List.replicate (j+1) (-1)++List.replicate r 0:=by
   rw [List.set_append_right _ _ (by simp),List.length_replicate,Nat.sub_self,List.replicate_succ,List.set_cons_zero,List.replicate_succ']
   simp
  rw [hset]
theorem rdirections_eq (h : ShapeOK N E A g B o nx) (ff : Fol id E A fw) (hE : 0 < E.length) (hb : ∀ k,k < 2 * E.length→(at0 B k).size=0) (hk : Dirs E.length (nxN fw) (gN g) k) (h0 : k 0=1) (hst : Zj ((((N : Int),E,A,()),g,B,o,()),())=some (true,())) :
  Zf ((((N : Int),E,A,()),g,B,o,()),())=some (dirL k E.length,0,()):=by
 have hm1:=h.rot.m1
 have p:=shape_plane h ff hE hb
 obtain ⟨s1,s2,s3⟩:=has_start (fun d hd=>(hk.nn d hd).1) h0 hE
 obtain ⟨out,o1,o2,o3,o4⟩:=ref_rounds h hk ff _ _ (Nat.le_refl _) s1
 have hall:=p.all_darts (Has k out) (o3 0 (by omega) s2) hE (fun d hd hh=>(o4 d hd hh).1) (fun d hd hh=>(o4 d hd hh).2)
 have hout:=dirL_eq o2 hall
 have e2 : mulI .i64 2 (E.length : Nat)=((2 * E.length : Nat) : Int):=by rw [mulI64 (by omega) (by omega)]; omega
 unfold Zf
 simp only
 rw [hst,Option.bind_some]
 simp only [Bool.not_true,cond_false]
 rw [e2,makeL_of (Nat.le_refl _) (by omega),Option.bind_some]
 have hf:=rfill_loop (N : Int) E A g B o (2 * E.length) (by omega) (2 * E.length) 0 (by omega)
 simp only [List.replicate_zero,List.nil_append] at hf
 rw [show Zf_L6 ((N : Int),E,A,g,B,o,List.replicate (2 * E.length) (zeroVal I),((2 * E.length : Nat) : Int),0,())=_ from hf]
 simp only [Option.bind_some,Sum.elim_inl,List.length_replicate]
 rw [gtI_t (by omega),cond_true,show idxI (2 * E.length) 0=some 0 from idxI_of (i:=0) (by omega),Option.bind_some,List.getElem?_replicate,if_pos (by omega),Option.bind_some,o1,hout]
 rfl
end
end Go.Vm

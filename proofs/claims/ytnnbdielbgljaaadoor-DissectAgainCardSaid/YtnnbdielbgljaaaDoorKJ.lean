/-
 The directions of the reference; chains; the laws.
-/
import Derived.Test.YtnnbdielbgljaaaDoorKI
set_option linter.unusedVariables false
set_option linter.unusedSimpArgs false
/-
 The directions of the darts, in the reference.
-/
namespace Go.Vm
open Go.Proofs
set_option maxRecDepth 100000
attribute [local irreducible] ab
theorem pT {l : List Int} {i : Nat} (h : i < l.length) : l[i]?=some (l.getD i 0):=by
 rw [List.getD_eq_getElem?_getD,List.getElem?_eq_getElem h]; rfl
section
variable {N : Nat} {E : List Arc} {A : List (List Int)} {nx fw : List Int} {g : List Int} {B : List ByteArray} {o : Int} {k : Nat→Int}
theorem qM (m : Nat) (hm : m≤1000000) : ∀ (r j : Nat),j+r=m→zS ((N : Int),E,A,g,B,o,List.replicate j (-1)++List.replicate r 0,(j : Int),())=some (.inl ((N : Int),E,A,g,B,o,List.replicate m (-1),()))
 | 0,j,h=>by
  have : j=m:=by omega
  subst this
  refine ac ?_
  unfold Al
  simp only
  rw [aA (by simp),cond_false]
  simp
 | r+1,j,h=>by
  refine (ao ?_).trans (qM m hm r (j+1) (by omega))
  unfold Al
  simp only
  have hl : (List.replicate j (-1 : Int)++List.replicate (r+1) 0).length=m:=by simp; omega
  rw [hl,aB (by omega),cond_true,ap (by omega),Option.bind_some]
  have hg : (List.replicate j (-1 : Int)++List.replicate (r+1) 0)[j]?=some 0:=by
   rw [List.getElem?_append_right (by simp)]
   simp
  rw [hg,Option.bind_some,a9 (by omega)]
  have hset : (List.replicate j (-1 : Int)++List.replicate (r+1) 0).set j (-1)=List.replicate (j+1) (-1)++List.replicate r 0:=by
   rw [List.set_append_right _ _ (by simp),List.length_replicate,Nat.sub_self,List.replicate_succ,List.set_cons_zero,List.replicate_succ']
   simp
  rw [hset]
theorem Bq (out todo : List Int) (j d x : Nat) {a b : Int} (hj : todo[j]?=some (d : Int)) (hdl : d < out.length) (hxl : x < out.length) (hyl : oth d < out.length) (hol : out.length≤1000000) (htl : todo.length+2≤1000000) (hfl : d < fw.length) (hx : fw[d]?=some (x : Int)) (hd : out[d]?=some a) (ha : 0≤a∧a < 4) (hg : g[d]?=some b) (hb : 1≤b∧b≤4) :
  sc ((N : Int),E,A,g,B,o,out,fw,todo,(j : Int),())=some (.inl ((N : Int),E,A,g,B,o,(i8 (i8 (out,todo) x (cl (a+b) 4)) (oth d) (cl (a+2) 4)).1,fw,(i8 (i8 (out,todo) x (cl (a+b) 4)) (oth d) (cl (a+2) 4)).2,((j+1 : Nat) : Int),())):=by
 have hjl:=(List.getElem?_eq_some_iff.1 hj).1
 have gx:=pT hxl
 have gy:=pT hyl
 have id_ : aI out.length (d : Int)=some d:=ap hdl
 have ix_ : aI out.length (x : Int)=some x:=ap hxl
 have iy_ : aI out.length ((oth d : Nat) : Int)=some (oth d):=ap hyl
 have e1 : ae .i64 a b=a+b:=cu (by omega) (by omega)
 have e2 : ae .i64 a 2=a+2:=cu (by omega) (by omega)
 unfold sc
 simp only
 rw [aB (by omega),cond_true,ap hjl,Option.bind_some,hj,Option.bind_some,ap hfl,Option.bind_some,hx,Option.bind_some,kI d (by omega),Option.bind_some]
 simp only
 simp only [id_,ix_,iy_,gx,gy,hd,hg,af,Option.bind_some,List.length_set,e1]
 rw [a9 (by omega)]
 by_cases c1 : out.getD x 0 < 0
 ·have hxd : x≠d:=fun e=>by
   subst e
   rw [gx] at hd
   have:=Option.some.inj hd
   omega
  have hp : i8 (out,todo) x (cl (a+b) 4)=(out.set x (cl (a+b) 4),todo++[(x : Int)]):=if_pos c1
  have sd : (out.set x (cl (a+b) 4))[d]?=some a:=by rw [List.getElem?_set,if_neg hxd,hd]
  have sy:=pT (l:=out.set x (cl (a+b) 4)) (i:=oth d) (by simpa using hyl)
  rw [aB c1,cond_true,cm (by simp; omega),Option.bind_some,sy]
  simp only [Option.bind_some,sd,e2]
  rw [hp]
  unfold i8
  simp only
  by_cases c2 : (out.set x (cl (a+b) 4)).getD (oth d) 0 < 0
  ·rw [aB c2,cond_true,cm (by simp; omega),Option.bind_some,if_pos c2]
  ·rw [aA (by omega),cond_false,if_neg c2]
 ·have hp : i8 (out,todo) x (cl (a+b) 4)=(out,todo):=if_neg c1
  rw [aA (by omega),cond_false,hp]
  unfold i8
  simp only
  by_cases c2 : out.getD (oth d) 0 < 0
  ·rw [aB c2,cond_true,e2,cm (by simp; omega),Option.bind_some,if_pos c2]
  ·rw [aA (by omega),cond_false,if_neg c2]
structure DirQ (k : Nat→Int) (M : Nat) (fw : Nat→Nat) (out todo : List Int) (j : Nat) : Prop where
 inv : DirI k M out
 stk : ∀ x∈todo,∃ d : Nat,x=(d : Int)∧d < 2 * M∧Has k out d
 all : ∀ d,d < 2 * M→Has k out d→(d : Int)∈todo
 done : ∀ (i d : Nat),i < j→todo[i]?=some (d : Int)→Has k out (fw d)∧Has k out (oth d)
 zero : Has k out 0
 num : lJ out+todo.length≤2 * M
 jl : j≤todo.length
theorem E4 (h : ShapeOK N E A g B o nx) (ff : Fol id E A fw) (hk : Dirs E.length (nxN fw) (gN g) k) : ∀ (n : Nat) (out todo : List Int) (j : Nat),j+n=2 * E.length→DirQ k E.length (nxN fw) out todo j →
  ∃ out' todo',rE ((N : Int),E,A,g,B,o,out,fw,todo,(j : Int),())=some (.inl (out',()))∧DirQ k E.length (nxN fw) out' todo' todo'.length:=by
 have hn:=h.folOK
 have hm1:=h.rot.m1
 have done : ∀ (out todo : List Int),DirQ k E.length (nxN fw) out todo todo.length→∃ out' todo',rE ((N : Int),E,A,g,B,o,out,fw,todo,(todo.length : Nat),())=some (.inl (out',()))∧DirQ k E.length (nxN fw) out' todo' todo'.length:=by
  intro out todo hs
  refine ⟨out,todo,ac ?_,hs⟩
  unfold sc
  simp only
  rw [aA (by omega)]; rfl
 intro n
 induction n with
 | zero =>
  intro out todo j hj hs
  have h1:=hs.num
  have h2:=hs.jl
  have : j=todo.length:=by omega
  subst this
  exact done out todo hs
 | succ n ih =>
  intro out todo j hj hs
  by_cases hjl : j=todo.length
  ·subst hjl; exact done out todo hs
  ·have h1:=hs.num
   have h2:=hs.jl
   have hlen:=hs.inv.len
   obtain ⟨d,e,hd,hdh⟩:=hs.stk todo[j] (List.getElem_mem (by omega))
   have hjd : todo[j]?=some (d : Int):=by rw [List.getElem?_eq_getElem (by omega),e]
   have hfw:=fh (jK h.rot hn ff) hd
   have hod:=ay hd
   have kd:=hk.nn d hd
   have gd:=nX h d hd
   have hgl:=h.turn.glen
   have gg : g[d]?=some (gN g d):=by
    unfold gN
    rw [List.getD_eq_getElem?_getD,List.getElem?_eq_getElem (by omega)]; rfl
   have e1 : cl (k d+gN g d) 4=k (nxN fw d):=vi (by omega) (hk.nn _ hfw.2) (by have:=hk.fw d hd; omega)
   have e2 : cl (k d+2) 4=k (oth d):=vi (by omega) (hk.nn _ hod) (by have:=hk.oth d hd; omega)
   have hnn : ∀ d,d < 2 * E.length→0≤k d:=fun d hd=>(hk.nn d hd).1
   obtain ⟨p1,p2,p3,⟨n1,p4,p5,p6⟩,p7⟩:=Aa hnn (s:=(out,todo)) hs.inv hfw.2
   obtain ⟨r1,r2,r3,⟨n2,r4,r5,r6⟩,r7⟩:=Aa hnn (s:=i8 (out,todo) (nxN fw d) (k (nxN fw d))) p1 hod
   have hst:=Bq (N:=N) (E:=E) (A:=A) (B:=B) (o:=o) (g:=g) (fw:=fw) out todo j d (nxN fw d) hjd (by omega) (by omega) (by omega) (by omega) (by omega) (by rw [ff.len]; omega) hfw.1 hdh kd gg gd
   rw [e1,e2] at hst
   generalize i8 (i8 (out,todo) (nxN fw d) (k (nxN fw d))) (oth d) (k (oth d))=t at r1 r2 r3 r4 r5 r7 hst
   generalize i8 (out,todo) (nxN fw d) (k (nxN fw d))=s at p1 p2 p3 p4 p5 p7 r1 r2 r3 r4 r5 r7
   have q4 : t.2=todo++(n1++n2):=by rw [r4,p4,List.append_assoc]
   have hS : DirQ k E.length (nxN fw) t.1 t.2 (j+1):=by
    refine ⟨r1,?_,?_,?_,r3 0 (by omega) (p3 0 (by omega) hs.zero),?_,?_⟩
    ·intro x hx
     rw [q4,List.mem_append,List.mem_append] at hx
     rcases hx with hx | hx | hx
     ·obtain ⟨y,rfl,hy,hyh⟩:=hs.stk x hx
      exact ⟨y,rfl,hy,r3 y hy (p3 y hy hyh)⟩
     ·exact ⟨_,p6 x hx,hfw.2,r3 _ hfw.2 p2⟩
     ·exact ⟨_,r6 x hx,hod,r2⟩
    ·intro y hy hyh
     rcases r7 y hy hyh with q | q
     ·rcases p7 y hy q with q' | q'
      ·rw [q4]; simp [hs.all y hy q']
      ·rw [p4] at q'
       rw [q4]
       simp only [List.mem_append] at q' ⊢
       rcases q' with q' | q'
       ·exact .inl q'
       ·exact .inr (.inl q')
     ·exact q
    ·intro i x hi hx
     rw [q4,List.getElem?_append_left (by omega)] at hx
     by_cases c : i=j
     ·subst c
      rw [hjd] at hx
      have : d=x:=by have:=Option.some.inj hx; omega
      subst this
      exact ⟨r3 _ hfw.2 p2,r2⟩
     ·obtain ⟨a1,a2⟩:=hs.done i x (by omega) hx
      obtain ⟨x',ex,hx2,_⟩:=hs.stk (x : Int) (List.mem_of_getElem? hx)
      have : x=x':=by omega
      subst this
      have hfx:=(fh (jK h.rot hn ff) hx2).2
      exact ⟨r3 _ hfx (p3 _ hfx a1),r3 _ (ay hx2) (p3 _ (ay hx2) a2)⟩
    ·rw [q4,List.length_append,List.length_append]
     simp only at p5
     omega
    ·rw [q4,List.length_append]; omega
   obtain ⟨out',todo',o1,o2⟩:=ih t.1 t.2 (j+1) (by omega) hS
   exact ⟨out',todo',(ao hst).trans o1,o2⟩
theorem wJ (h : ShapeOK N E A g B o nx) (hE : 0 < E.length) (hb : ∀ j,j < 2 * E.length→(at0 B j).size=0) (ff : Fol id E A fw) (hk : Dirs E.length (nxN fw) (gN g) k) (h0 : k 0=0) : Ze ((((N : Int),E,A,()),g,B,o,()),())=some (hJ k E.length,()):=by
 have hm1:=h.rot.m1
 have p:=o8 h ff hE hb
 obtain ⟨fw',f1,f2⟩:=bE h.rot ()
 have hfw : fw'=fw:=by
  refine List.ext_getElem? fun i=>?_
  by_cases hi : i < 2 * E.length
  ·obtain ⟨y,_,y1,y2⟩:=bM h.rot h.folOK ff (ay hi)
   obtain ⟨y',_,y1',y2'⟩:=bM h.rot h.folOK f2 (ay hi)
   rw [bt] at y2 y2'
   rw [y1] at y1'
   rw [y2,y2',y1']
  ·rw [List.getElem?_eq_none (by rw [f2.len]; omega),List.getElem?_eq_none (by rw [ff.len]; omega)]
 subst hfw
 unfold Ze
 simp only
 rw [Eb (by omega),cI (Nat.le_refl _) (by omega),Option.bind_some]
 have hfill:=qM (N:=N) (E:=E) (A:=A) (g:=g) (B:=B) (o:=o) (2 * E.length) (by omega) (2 * E.length) 0 (by omega)
 rw [show zS ((N : Int),E,A,g,B,o,List.replicate (2 * E.length) (aH I),0,())=_ from hfill]
 simp only [Option.bind_some,Sum.elim_inl]
 rw [List.length_replicate,bw (by omega),cond_false,show aI (2 * E.length) 0=some 0 from ap (i:=0) (by omega),Option.bind_some]
 have hr0 : (List.replicate (2 * E.length) (-1 : Int))[0]?=some (-1):=by rw [List.getElem?_replicate,if_pos (by omega)]
 rw [hr0,Option.bind_some,f1,Option.bind_some]
 simp only
 have hset : ∀ d,((List.replicate (2 * E.length) (-1 : Int)).set 0 0)[d]?=if 0=d then some 0 else if d < 2 * E.length then some (-1) else none:=fun d=>by
  rw [List.getElem?_set,List.length_replicate,List.getElem?_replicate]
  by_cases c : 0=d
  ·rw [if_pos c,if_pos c,if_pos (by omega)]
  ·rw [if_neg c,if_neg c]
 have hun : lJ ((List.replicate (2 * E.length) (-1 : Int)).set 0 0)+1=lJ (List.replicate (2 * E.length) (-1 : Int)):=nP ⟨-1,hr0,by decide⟩ (by decide)
 have hun2:=Ds (List.replicate (2 * E.length) (-1 : Int))
 rw [List.length_replicate] at hun2
 obtain ⟨out',todo',o1,o2⟩:=E4 h ff hk (2 * E.length) ((List.replicate (2 * E.length) (-1 : Int)).set 0 0) [0] 0 (by omega) ⟨⟨by simp,fun d hd=>by
   rw [hset]
   by_cases c : 0=d
   ·subst c; rw [if_pos rfl,h0]; exact .inr rfl
   ·rw [if_neg c,if_pos hd]; exact .inl rfl⟩,fun x hx=>by
   rw [List.mem_singleton] at hx
   exact ⟨0,hx,Nat.mul_pos (by decide) hE,by unfold Has; rw [hset,if_pos rfl,h0]⟩,fun d hd hh=>by
   by_cases c : 0=d
   ·subst c; simp
   ·unfold Has at hh
    rw [hset,if_neg c,if_pos hd] at hh
    have:=Option.some.inj hh
    have:=(hk.nn d hd).1
    omega,fun i d hi _=>by omega,by unfold Has; rw [hset,if_pos rfl,h0],by simp; omega,by simp⟩
 rw [show rE ((N : Int),E,A,g,B,o,(List.replicate (2 * E.length) (-1 : Int)).set 0 0,fw',[0],0,())=_ from o1]
 simp only [Option.bind_some,Sum.elim_inl]
 have hall:=p.all_darts (fun d=>Has k out' d) o2.zero hE (fun d hd hh=>by
  obtain ⟨i,hi⟩:=List.mem_iff_getElem?.1 (o2.all d hd hh)
  exact (o2.done i d (List.getElem?_eq_some_iff.1 hi).1 hi).1) (fun d hd hh=>by
  obtain ⟨i,hi⟩:=List.mem_iff_getElem?.1 (o2.all d hd hh)
  exact (o2.done i d (List.getElem?_eq_some_iff.1 hi).1 hi).2)
 rw [Es o2.inv hall]
end
end Go.Vm

/-
 Contains, in the reference.
-/
namespace Go.Vm
open Go.Proofs
set_option maxRecDepth 100000
attribute [local irreducible] ab
def fH (dl : List Int) (E : List Arc) (dir : Int) : List Int→Int→Int
 | [],c=>c
 | x :: q,c=>fH dl E dir q (if dl.getD x.toNat 0=dir then hd E x.toNat else c)
theorem qC {dl : List Int} {E : List Arc} {dir : Int} {d : Int} (hd : dl.getD d.toNat 0=dir) : ∀ {q : List Int} {c : Int},(∀ x∈q,dl.getD x.toNat 0=dir→x=d)→(d∈q∨c=Vm.hd E d.toNat)→fH dl E dir q c=Vm.hd E d.toNat
 | [],c,_,h=>by
  rcases h with h | h
  ·cases h
  ·exact h
 | x :: q,c,hu,h=>by
  unfold fH
  refine qC hd (fun y hy=>hu y (by simp [hy])) ?_
  by_cases e : dl.getD x.toNat 0=dir
  ·right
   rw [if_pos e,hu x (by simp) e]
  ·rw [if_neg e]
   rcases h with h | h
   ·rcases List.mem_cons.1 h with rfl | h
    ·exact absurd hd e
    ·exact .inl h
   ·exact .inr h
theorem s8 {dl : List Int} {E : List Arc} {dir : Int} {N : Nat} : ∀ {q : List Int} {c : Int},(∀ x∈q,∃ v : Nat,hd E x.toNat=(v : Int)∧v < N)→(-1≤c∧c < N)→-1≤fH dl E dir q c∧fH dl E dir q c < N
 | [],c,_,h=>h
 | x :: q,c,hx,h=>by
  unfold fH
  refine s8 (fun y hy=>hx y (by simp [hy])) ?_
  obtain ⟨v,e,hv⟩:=hx x (by simp)
  split
  ·rw [e]; omega
  ·exact h
section
variable {N : Nat} {E : List Arc} {A : List (List Int)} {nx fw : List Int} {g : List Int} {k : Nat→Int} {ps : List (List Int)} {o : Nat} {n0 : Nat}
theorem oJ (hM : E.length≤32768) (dl : List Int) (hdl : dl.length=2 * E.length) (nn dir r : Int) {v : Nat} {l : List Int} (hv : A[v]?=some l) (hl : ∀ x∈l,∃ j : Nat,x=(j : Int)∧j < 2 * E.length) (hll : l.length≤1000000) : ∀ (q p : List Int) (c : Int),p++q=l →
  uF ((N : Int),E,A,tails E,dl,nn,(v : Int),dir,r,c,(p.length : Nat),())=some (.inl ((N : Int),E,A,tails E,dl,nn,dir,r,fH dl E dir q c,()))
 | [],p,c,h=>by
  rw [List.append_nil] at h
  subst h
  refine ac ?_
  unfold vA
  simp only
  rw [af,hv,Option.bind_some,aA (by omega),cond_false]; rfl
 | x :: q,p,c,h=>by
  have hx : l[p.length]?=some x:=by rw [← h,List.getElem?_append_right (Nat.le_refl _),Nat.sub_self]; rfl
  have hp : p.length < l.length:=(List.getElem?_eq_some_iff.1 hx).1
  obtain ⟨j,rfl,hj⟩:=hl x (List.mem_of_getElem? hx)
  have ih:=oJ hM dl hdl nn dir r hv hl hll q (p++[(j : Int)]) (if dl.getD j 0=dir then hd E j else c) (by simpa using h)
  have hdj : dl[j]?=some (dl.getD j 0):=pT (by omega)
  have htl:=eP E
  refine (ao (t:=((N : Int),E,A,tails E,dl,nn,(v : Int),dir,r,(if dl.getD j 0=dir then hd E j else c),(((p++[(j : Int)]).length : Nat) : Int),())) ?_).trans (ih.trans ?_)
  ·unfold vA
   simp only [af,hv,Option.bind_some,hx,hdj]
   rw [aB (by omega),cond_true]
   have e : (p++[(j : Int)]).length=p.length+1:=by simp
   rw [e,a9 (by omega)]
   by_cases cc : dl.getD j 0=dir
   ·rw [cv cc,cond_true,kI j (by omega),Option.bind_some]
    simp only
    rw [ap (by have:=ay hj; omega),Option.bind_some,iU E _ (ay hj),Option.bind_some,if_pos cc]
    rfl
   ·rw [bw cc,cond_false,if_neg cc]
  ·simp only [fH,Int.toNat_natCast]
theorem pi (h : RotOK (N : Nat) E A) (dl : List Int) (hdl : dl.length=2 * E.length) (nn dir : Int) {v r : Nat} (hr : r≤N) {l : List Int} (hv : A[v]?=some l) :
  qN ((N : Int),E,A,tails E,dl,nn,(v : Int),dir,(r : Int),())=cond (ltI (fH dl E dir l (-1)) 0) (some (.inr (.inl (fH dl E dir l (-1),())))) (cond (ltI (fH dl E dir l (-1)) nn) (some (.inr (.inl (fH dl E dir l (-1),())))) (some (.inl ((N : Int),E,A,tails E,dl,nn,fH dl E dir l (-1),dir,((r+1 : Nat) : Int),())))):=by
 have hn:=h.n1
 have hm:=h.m1
 have lA:=List.mem_of_getElem? hv
 have hll:=h.list_len lA
 unfold qN
 simp only
 rw [Gp (by omega),cond_true]
 rw [show uF ((N : Int),E,A,tails E,dl,nn,(v : Int),dir,(r : Int),-1,0,())=_ from oJ hm dl hdl nn dir (r : Int) hv (fun x hx=>h.mem_of lA hx) (by omega) l [] (-1) rfl]
 simp only [Option.bind_some,Sum.elim_inl]
 rw [a9 (by omega)]
theorem CC (h : RotOK (N : Nat) E A) (dl : List Int) (dir : Int) {l : List Int} (lA : l∈A) : -1≤fH dl E dir l (-1)∧fH dl E dir l (-1) < N:=by
 refine s8 (fun x hx=>?_) (by omega)
 obtain ⟨j,rfl,hj⟩:=h.mem_of lA hx
 rw [Int.toNat_natCast]
 exact h.hd_lt hj
theorem jc (h : RotOK (N : Nat) E A) (dl : List Int) (hdl : dl.length=2 * E.length) (nn : Nat) (dir : Int) : ∀ (n r v : Nat),r+n=N+1→v < N→∃ z,nV ((N : Int),E,A,tails E,dl,(nn : Int),(v : Int),dir,(r : Int),())=some z
 | 0,r,v,hr,hv=>by
  refine ⟨.inr (.inl ()),ac ?_⟩
  unfold qN
  simp only
  rw [GB (by omega),cond_false]
 | n+1,r,v,hr,hv=>by
  have hal:=h.al
  have hA:=List.getElem?_eq_getElem (by omega : v < A.length)
  have hb:=pi h dl hdl (nn : Int) dir (by omega : r≤N) hA
  obtain ⟨b1,b2⟩:=CC h dl dir (List.mem_of_getElem? hA)
  generalize fH dl E dir A[v] (-1)=c at hb b1 b2
  by_cases c1 : c < 0
  ·rw [aB c1,cond_true] at hb
   exact ⟨_,ac hb⟩
  ·rw [aA (by omega),cond_false] at hb
   by_cases c2 : c < nn
   ·rw [aB c2,cond_true] at hb
    exact ⟨_,ac hb⟩
   ·rw [aA (by omega),cond_false] at hb
    obtain ⟨w,rfl⟩ : ∃ w : Nat,c=(w : Int):=⟨c.toNat,by omega⟩
    obtain ⟨z,hz⟩:=jc h dl hdl nn dir n (r+1) w (by omega) (by omega)
    exact ⟨z,(ao hb).trans hz⟩
theorem xe (h : RotOK (N : Nat) E A) (dl : List Int) (hdl : dl.length=2 * E.length) (nn : Nat) (dir : Int) {v : Nat} (hv : v < N) : ∃ z,Zad (((N : Int),E,A,()),dl,(nn : Int),(v : Int),dir,())=some (z,()):=by
 obtain ⟨z,hz⟩:=jc h dl hdl nn dir (N+1) 0 v (by omega) hv
 unfold Zad
 simp only
 rw [ns (N : Int) E A () h.m1,Option.bind_some]
 simp only
 rw [show nV ((N : Int),E,A,tails E,dl,(nn : Int),(v : Int),dir,0,())=_ from hz]
 rcases z with z | z
 ·exact ⟨_,rfl⟩
 ·rcases z with z | z
  ·exact ⟨_,rfl⟩
  ·exact z.elim
theorem tt (hN : iv fw (2 * E.length)) (hk : Dirs E.length (nxN fw) (gN g) k) : ∀ {f : List Int} {x z : Nat},dd fw (x : Int) f (z : Int)→x < 2 * E.length→(4 : Int)∣k z - k x - (f.map fun d=>gN g d.toNat).sum
 | [],x,z,hp,_=>by
  have : (x : Int)=z:=hp
  have : x=z:=by omega
  subst this
  simp
 | a :: f,x,z,hp,hx=>by
  obtain ⟨rfl,y,hy,hp'⟩:=hp
  rw [Int.toNat_natCast] at hy
  obtain ⟨q1,q2⟩:=fh hN hx
  rw [hy] at q1
  have:=Option.some.inj q1
  subst this
  have h1:=hk.fw x hx
  have h2:=tt hN hk hp' q2
  simp only [List.map_cons,List.sum_cons,Int.toNat_natCast]
  omega
theorem wk (h : Sys N E A nx ps) (hm : Met E A g o ps) (ff : Fol id E A fw) (hk : Dirs E.length (nxN fw) (gN g) k) {a b : Nat} (ha : a < 2 * E.length) (hb : b < 2 * E.length) (e : tl E a=tl E b) (hd : (4 : Int)∣k a - k b) : a=b:=by
 obtain ⟨v,hv,hvN⟩:=h.rot.tl_lt ha
 have hal:=h.rot.al
 have hA:=List.getElem?_eq_getElem (by omega : v < A.length)
 have lA:=List.mem_of_getElem? hA
 have ma:=h.rot.around ha hv hA
 have mb:=h.rot.around hb (by rw [← e]; exact hv) hA
 have hfw:=jK h.rot h.fol ff
 have one : ∀ x∈A[v],1≤gN g x.toNat:=fun x hx=>by
  obtain ⟨j,rfl,hj⟩:=h.rot.mem_of lA hx
  rw [Int.toNat_natCast]
  exact (hm.ang j hj).1
 have key : ∀ {a b : Nat},a < 2 * E.length→b < 2 * E.length→∀ p r q,A[v]=p++((a : Int) :: r)++((b : Int) :: q)→(4 : Int)∣k a - k b→False:=by
  intro a b ha hb p r q hl hd
  have hs:=hm.vert _ lA (by rw [hl]; simp)
  have hc:=ff.cyc lA (by rw [hl]; simp)
  rw [hl] at hs hc
  rw [List.append_assoc] at hc
  have hp:=bK (x:=(a : Int)) (f:=r++((b : Int) :: q)++p) (by simpa using dP hc)
  have hp' : dd fw (a : Int) ((((a : Int) :: r))++(((b : Int) :: q)++p)) (a : Int):=by simpa using hp
  obtain ⟨y,p1,p2⟩:=cB.1 hp'
  have : (b : Int)=y:=p2.1
  subst this
  have h1:=tt hfw hk p1 ha
  rw [List.map_append,List.map_append,List.sum_append,List.sum_append] at hs
  have i1:=nA (F:=fun d=>gN g d.toNat) (l:=p) (fun x hx=>one x (by rw [hl]; simp [hx]))
  have i2:=nA (F:=fun d=>gN g d.toNat) (l:=(a : Int) :: r) (fun x hx=>one x (by rw [hl]; exact List.mem_append.2 (.inl (List.mem_append.2 (.inr hx)))))
  have i3:=nA (F:=fun d=>gN g d.toNat) (l:=(b : Int) :: q) (fun x hx=>one x (by rw [hl]; exact List.mem_append.2 (.inr hx)))
  simp only [List.length_cons] at i2 i3
  omega
 obtain ⟨i,hi,ei⟩:=List.getElem_of_mem ma
 obtain ⟨j,hj,ej⟩:=List.getElem_of_mem mb
 have cut : ∀ {i j : Nat} {a b : Int} (hi : i < A[v].length) (hj : j < A[v].length),A[v][i]=a→A[v][j]=b→i < j→∃ p r q,A[v]=p++(a :: r)++(b :: q):=by
  intro i j a b hi hj ei ej hij
  refine ⟨A[v].take i,(A[v].take j).drop (i+1),A[v].drop (j+1),?_⟩
  have e1 : A[v]=A[v].take j++A[v].drop j:=(List.take_append_drop j _).symm
  have e2 : A[v].drop j=b :: A[v].drop (j+1):=by rw [List.drop_eq_getElem_cons hj,ej]
  have e3 : A[v].take j=(A[v].take j).take i++(A[v].take j).drop i:=(List.take_append_drop i _).symm
  have e4 : (A[v].take j).take i=A[v].take i:=by rw [List.take_take,Nat.min_eq_left (by omega)]
  have e5 : (A[v].take j).drop i=a :: (A[v].take j).drop (i+1):=by
   rw [List.drop_eq_getElem_cons (by rw [List.length_take]; omega),List.getElem_take,ei]
  calc A[v]=A[v].take j++A[v].drop j:=e1
   _=A[v].take j++b :: A[v].drop (j+1):=by rw [e2]
   _=((A[v].take j).take i++(A[v].take j).drop i)++b :: A[v].drop (j+1):=by rw [← e3]
   _=_:=by rw [e4,e5]
 rcases Nat.lt_trichotomy i j with c | c | c
 ·obtain ⟨p,r,q,hl⟩:=cut hi hj ei ej c
  exact (key ha hb p r q hl hd).elim
 ·subst c
  rw [ei] at ej
  omega
 ·obtain ⟨p,r,q,hl⟩:=cut hj hi ej ei c
  exact (key hb ha p r q hl (by omega)).elim
theorem jZ (h : Sys N E A nx ps) (hm : Met E A g o ps) (ff : Fol id E A fw) (hk : Dirs E.length (nxN fw) (gN g) k) {κ : Int} (hκ : 0≤κ∧κ < 4) {b : Nat} (hb : b < n0) : ∀ (c : List Int) (v r : Nat),(∀ x∈c,∃ j : Nat,x=(j : Int)∧j < 2 * E.length∧k j=κ)→ChP E n0 (v : Int) c (b : Int)→c.length+r≤N+1 →
  nV ((N : Int),E,A,tails E,hJ k E.length,(n0 : Int),(v : Int),κ,(r : Int),())=some (.inl ((b : Int),()))
 | [],v,r,_,hp,_=>hp.elim
 | d :: c,v,r,hel,hp,hr=>by
  simp only [List.length_cons] at hr
  obtain ⟨j,rfl,hj,hkj⟩:=hel d (by simp)
  obtain ⟨h1,h2⟩:=hp
  rw [Int.toNat_natCast] at h1 h2
  have hdl : (hJ k E.length).length=2 * E.length:=by simp [hJ]
  have hget : ∀ i,i < 2 * E.length→(hJ k E.length).getD i 0=k i:=fun i hi=>by
   unfold hJ
   rw [List.getD_eq_getElem?_getD,List.getElem?_map,List.getElem?_range hi]; rfl
  obtain ⟨v',hv',hvN⟩:=h.rot.tl_lt hj
  have : v=v':=by rw [h1] at hv'; omega
  subst this
  have hal:=h.rot.al
  have hA:=List.getElem?_eq_getElem (by omega : v < A.length)
  have lA:=List.mem_of_getElem? hA
  have hround:=pi h.rot (hJ k E.length) hdl (n0 : Int) κ (by omega : r≤N) hA
  have hpick : fH (hJ k E.length) E κ A[v] (-1)=hd E j:=by
   have:=qC (dl:=hJ k E.length) (E:=E) (dir:=κ) (d:=(j : Int)) (by rw [Int.toNat_natCast,hget j hj,hkj]) (q:=A[v]) (c:=-1) (fun x hx e=>by
    obtain ⟨i,rfl,hi,ti⟩:=h.rot.dart v _ hA x hx
    rw [Int.toNat_natCast,hget i hi] at e
    have:=wk h hm ff hk hi hj (by rw [ti,hv']) (by omega)
    rw [this]) (.inl (h.rot.around hj hv' hA))
   rwa [Int.toNat_natCast] at this
  rw [hpick] at hround
  rcases h2 with ⟨rfl,h2⟩ | ⟨h2,h3⟩
  ·rw [h2,aA (by omega),cond_false,aB (by omega),cond_true] at hround
   exact ac hround
  ·obtain ⟨w,hw,hwN⟩:=h.rot.hd_lt hj
   rw [hw] at hround h2 h3
   rw [aA (by omega),cond_false,aA h2,cond_false] at hround
   exact (ao hround).trans (jZ h hm ff hk hκ hb c w (r+1) (fun x hx=>hel x (by simp [hx])) h3 (by omega))
theorem AU (h : Sys N E A nx ps) (hm : Met E A g o ps) (ff : Fol id E A fw) (hk : Dirs E.length (nxN fw) (gN g) k) {κ : Int} (hκ : 0≤κ∧κ < 4) {b v : Nat} (hb : b < n0) {c : List Int} (hel : ∀ x∈c,∃ j : Nat,x=(j : Int)∧j < 2 * E.length∧k j=κ) (hp : ChP E n0 (v : Int) c (b : Int)) (hnd : c.Nodup) :
  Zad (((N : Int),E,A,()),hJ k E.length,(n0 : Int),(v : Int),κ,())=some ((b : Int),()):=by
 have hlen : c.length≤N:=by
  have:=eX N (c.map fun x=>tln E x.toNat) (by
   rw [List.Nodup,List.pairwise_map]
   refine hnd.imp_of_mem ?_
   intro x y hx hy hne e
   obtain ⟨i,rfl,hi,ki⟩:=hel x hx
   obtain ⟨j,rfl,hj,kj⟩:=hel y hy
   rw [Int.toNat_natCast,Int.toNat_natCast] at e
   have:=wk h hm ff hk hi hj (by rw [(jB h.rot hi).1,(jB h.rot hj).1,e]) (by omega)
   exact hne (by rw [this])) (fun x hx=>by
   obtain ⟨y,hy,rfl⟩:=List.mem_map.1 hx
   obtain ⟨j,rfl,hj,_⟩:=hel y hy
   rw [Int.toNat_natCast]
   exact (jB h.rot hj).2)
  simpa using this
 have:=jZ h hm ff hk hκ hb c v 0 hel hp (by omega)
 unfold Zad
 simp only
 rw [ns (N : Int) E A () h.rot.m1,Option.bind_some]
 simp only
 rw [show nV ((N : Int),E,A,tails E,hJ k E.length,(n0 : Int),(v : Int),κ,0,())=_ from this]
 rfl
end
section
variable {N N0 : Nat} {E E0 : List Arc} {A A0 : List (List Int)} {nx nx0 : List Int} {g g0 : List Int} {B B0 : List ByteArray} {o : Nat} {o0 : Int}
theorem rU (h : RotOK (N : Nat) E A) (h0 : RotOK (N0 : Nat) E0 A0) (hN : N0≤N) (a b : List Int) (hb : b.length=2 * E.length) (ha : a.length=2 * E0.length) (q : Nat) : ∀ (n t : Nat) (ok : Bool),t+n=2 * E0.length →
  ∃ r,ux ((N : Int),E,A,g,B,(o : Int),(N0 : Int),E0,A0,g0,B0,o0,a,b,tails E0,(q : Int),ok,(t : Int),())=some (.inl ((N : Int),E,A,g,B,(o : Int),(N0 : Int),E0,A0,g0,B0,o0,a,b,tails E0,(q : Int),r,())) ∧
   (ok=true→(∀ d,d < 2 * E0.length→Zad (((N : Int),E,A,()),b,(N0 : Int),tl E0 d,cl (ae .i64 (a.getD d 0) (q : Int)) 4,())=some (hd E0 d,()))→r=true)
 | 0,t,ok,ht=>by
  refine ⟨ok,ac ?_,fun e _=>e⟩
  unfold qi
  simp only
  rw [aA (by omega),cond_false]
 | n+1,t,ok,ht=>by
  cases ok with
  | false =>
   refine ⟨false,ac ?_,fun e=>by cases e⟩
   unfold qi
   simp only
   rw [aB (by omega),cond_true,cond_false]
  | true =>
   have hm0:=h0.m1
   have htl : t < 2 * E0.length:=by omega
   have hta:=eP E0
   obtain ⟨v,hv,hvN⟩:=h0.tl_lt htl
   obtain ⟨z,hz⟩:=xe h b hb N0 (cl (ae .i64 (a.getD t 0) (q : Int)) 4) (v:=v) (by omega)
   obtain ⟨r,r1,r2⟩:=rU h h0 hN a b hb ha q n (t+1) (eqI z (hd E0 t)) (by omega)
   refine ⟨r,(ao ?_).trans r1,fun _ hall=>r2 ?_ hall⟩
   ·unfold qi
    simp only
    rw [aB (by omega),cond_true,cond_true,ap (by omega),Option.bind_some,iU E0 t htl,Option.bind_some,ap (by omega),Option.bind_some,pT (l:=a) (by omega),Option.bind_some,hv,hz,Option.bind_some,kI t (by omega),Option.bind_some]
    simp only
    rw [ap (by have:=ay htl; omega),Option.bind_some,iU E0 _ (ay htl),Option.bind_some,a9 (by omega)]
    rfl
   ·have:=hall t htl
    rw [hv,hz] at this
    have:=Option.some.inj this
    have : z=hd E0 t:=congrArg Prod.fst this
    exact cv this
theorem rn (h : RotOK (N : Nat) E A) (h0 : RotOK (N0 : Nat) E0 A0) (hN : N0≤N) (a b : List Int) (hb : b.length=2 * E.length) (ha : a.length=2 * E0.length) {w : Nat} (hw : w < 4) (hall : ∀ d,d < 2 * E0.length→Zad (((N : Int),E,A,()),b,(N0 : Int),tl E0 d,cl (ae .i64 (a.getD d 0) (w : Int)) 4,())=some (hd E0 d,())) : ∀ (n q : Nat),q+n=w →
  zK ((N : Int),E,A,g,B,(o : Int),(N0 : Int),E0,A0,g0,B0,o0,a,b,tails E0,(q : Int),())=some (.inl (true,()))
 | n,q,hq=>by
  obtain ⟨r,r1,r2⟩:=rU (g:=g) (B:=B) (o:=o) (g0:=g0) (B0:=B0) (o0:=o0) h h0 hN a b hb ha q (2 * E0.length) 0 true (by omega)
  have hbd : Am ((N : Int),E,A,g,B,(o : Int),(N0 : Int),E0,A0,g0,B0,o0,a,b,tails E0,(q : Int),())=cond r (some (.inr (.inl (true,())))) (some (.inl ((N : Int),E,A,g,B,(o : Int),(N0 : Int),E0,A0,g0,B0,o0,a,b,tails E0,((q+1 : Nat) : Int),()))):=by
   unfold Am
   simp only
   rw [aB (by omega),cond_true]
   rw [show ux ((N : Int),E,A,g,B,(o : Int),(N0 : Int),E0,A0,g0,B0,o0,a,b,tails E0,(q : Int),true,0,())=_ from r1]
   simp only [Option.bind_some,Sum.elim_inl]
   rw [a9 (by omega)]
  cases r with
  | true=>exact ac hbd
  | false =>
   cases n with
   | zero =>
    have : q=w:=by omega
    subst this
    have:=r2 rfl hall
    cases this
   | succ n=>exact (ao hbd).trans (rn h h0 hN a b hb ha hw hall n (q+1) (by omega))
theorem wF (hs0 : ShapeOK N0 E0 A0 g0 B0 o0 nx0) (hE0 : 0 < E0.length) (hb0 : ∀ j,j < 2 * E0.length→(at0 B0 j).size=0) (hs : Sys N E A nx (aa nx)) (hm : Met E A g o (aa nx)) (hI : IK N0 E0 nx0 g0 N E A g o) :
  Zg ((((N : Int),E,A,()),g,emB E,(o : Int),()),(((N0 : Int),E0,A0,()),g0,B0,o0,()),())=some (true,()):=by
 obtain ⟨hN,k,k0,h1,h2,h3⟩:=hI
 have hL:=h1 nx hs.fol
 obtain ⟨fw,_,ff⟩:=bE hs.rot ()
 obtain ⟨fw0,_,ff0⟩:=bE hs0.rot ()
 have hD:=wY hs.rot hs.fol ff hL
 have hD0:=wY hs0.rot hs0.folOK ff0 h2
 obtain ⟨sh,_,_⟩:=hs.shape hm rfl
 have d1:=wJ hs0 hE0 hb0 ff0 hD0 (by omega)
 have d2:=wJ sh hs.ne (fun j _=>vk E j) ff hD (by omega)
 unfold Zg
 simp only
 rw [aA (by omega),cond_false,d1,Option.bind_some,d2,Option.bind_some,ns (N0 : Int) E0 A0 () hs0.rot.m1,Option.bind_some]
 simp only
 have hw : ((k0 0 - k 0) % 4).toNat < 4:=by omega
 have hout:=rn (g:=g) (B:=emB E) (o:=o) (g0:=g0) (B0:=B0) (o0:=o0) hs.rot hs0.rot hN (hJ (fun d=>(k0 d - k0 0) % 4) E0.length) (hJ (fun d=>(k d - k 0) % 4) E.length) (by simp [hJ]) (by simp [hJ]) hw (fun d hd=>by
  obtain ⟨c,hc⟩:=h3 d hd
  have e1 : (hJ (fun d=>(k0 d - k0 0) % 4) E0.length).getD d 0=(k0 d - k0 0) % 4:=by
   unfold hJ
   rw [List.getD_eq_getElem?_getD,List.getElem?_map,List.getElem?_range hd]; rfl
  have e2 : cl (ae .i64 ((hJ (fun d=>(k0 d - k0 0) % 4) E0.length).getD d 0) (((k0 0 - k 0) % 4).toNat : Int)) 4=(k0 d - k 0) % 4:=by
   rw [e1,cu (by omega) (by omega)]
   exact vi (by omega) (by omega) (by omega)
  rw [e2]
  obtain ⟨v,hv,hvN⟩:=hs0.rot.tl_lt hd
  obtain ⟨b,hb,hbN⟩:=hs0.rot.hd_lt hd
  have hp:=hc.path
  rw [hv,hb] at hp
  rw [hv,hb]
  exact AU hs hm ff hD (by omega) hbN (fun x hx=>by
   obtain ⟨j,rfl,hj,hkj⟩:=hc.elem x hx
   exact ⟨j,rfl,hj,by omega⟩) hp hc.nodup) ((k0 0 - k 0) % 4).toNat 0 (by omega)
 rw [show zK ((N : Int),E,A,g,emB E,(o : Int),(N0 : Int),E0,A0,g0,B0,o0,hJ (fun d=>(k0 d - k0 0) % 4) E0.length,hJ (fun d=>(k d - k 0) % 4) E.length,tails E0,0,())=_ from hout]
 rfl
end
end Go.Vm

/-
 The laws DissectRefines and DissectAgain on values.
-/
namespace Go.Vm
open Go.Proofs
set_option maxRecDepth 100000
attribute [local irreducible] ab
abbrev ShpV : Type:=(Int×List Arc×List (List Int)×Unit)×List Int×List ByteArray×Int×Unit
structure AllOK (u t : ShpV) : Prop where
 valid : Zt (u,())=some (0,())
 pvalid : Zbq (u,())=some (0,())
 plain : Zx (u,())=some (true,())
 bends : Zbp (u,())=some (0,())
 rect : Zj (u,())=some (true,())
 rrect : Zc (u,())=some (true,())
 cont : Zg (u,t,())=some (true,())
theorem l6 {N : Nat} {E : List Arc} {A : List (List Int)} {g : List Int} {B : List ByteArray} {o : Int} {nx : List Int} (h : ShapeOK N E A g B o nx) (hb : ∀ k,k < 2 * E.length→(at0 B k).size=0) (h0 : 0 < E.length) (h1 : Zbq ((((N : Int),E,A,()),g,B,o,()),())=some (0,())) (h2 : Zbp ((((N : Int),E,A,()),g,B,o,()),())=some (0,()))
  (hsm : N+4 * E.length < 16000) (hE : 9 * E.length < 32000) :
  ∃ (N' : Nat) (E' : List Arc) (A' : List (List Int)) (g' : List Int) (o' : Nat) (nx' : List Int),Zbd ((((N : Int),E,A,()),g,B,o,()),())=some (((((N' : Nat) : Int),E',A',()),g',emB E',((o' : Nat) : Int),()),0,()) ∧
   ShapeOK N' E' A' g' (emB E') (o' : Int) nx'∧0 < E'.length∧N'≤N+4 * E.length+9∧E'.length+2 * N+4=E.length+2 * N'∧E'.length≤2 * N'∧AllOK ((((N' : Nat) : Int),E',A',()),g',emB E',((o' : Nat) : Int),()) (((N : Int),E,A,()),g,B,o,()):=by
 have ho:=h.out0
 obtain ⟨q,rfl⟩ : ∃ q : Nat,o=(q : Int):=⟨o.toNat,by omega⟩
 obtain ⟨hs,hm,_⟩:=h.sys h0 hb
 obtain ⟨N',E',A',g',o',nx',r1,r2,r3,r4,r5,r6,r7⟩:=AL (IK.kept N E nx g) h hb h0 h1 h2 hsm hE (IK.enc hs hm (by omega) (by omega))
 obtain ⟨v1,v2,v3⟩:=r2.shape r3 rfl
 have hz : ∀ k,k < 2 * E'.length→(at0 (emB E') k).size=0:=fun k _=>vk E' k
 have hcont:=wF h h0 hb r2 r3 r7
 obtain ⟨b,p1,p2,p3⟩:=Bp (N' : Int) E' A' g' (emB E') (o' : Int) r2.rot.lists
 have hbt : b=true:=by rw [p3 N' nx' rfl v2 v1 hz r2.ne]; exact r4
 subst hbt
 rcases gO (N' : Int) E' A' g' (emB E') (o' : Int) r2.rot.lists with ⟨w,_⟩ | ⟨_,_,v,bp,_,_,_,_,w3,_,w4,w5,w6⟩
 ·rw [v2] at w; simp at w
 ·have hbp:=w6.2 hz
  subst hbp
  have hv:=w5.2 rfl
  subst hv
  exact ⟨N',E',A',g',o',nx',r1,v1,r2.ne,r5,r6,r3.few r2.rot,⟨v3,v2,w4,w3,p1,p2,hcont⟩⟩
def sqS : ShpV:=((4,[(0,1,()),(1,2,()),(2,3,()),(3,0,())],[[0,7],[2,1],[4,3],[6,5]],()),[3,1,3,1,3,1,3,1],List.replicate 8 ByteArray.empty,1,())
theorem BL : Zt (sqS,())=some (0,()):=by kernel_rfl
theorem tc : Zbq (sqS,())=some (0,()):=by kernel_rfl
theorem Dy : Zbp (sqS,())=some (0,()):=by kernel_rfl
theorem EL : Zj (sqS,())=some (true,()):=by kernel_rfl
theorem th {u t : ShpV} (ok : AllOK u t) : ((Zt (u,())).bind fun r11=>cond (eqI r11.1 0) ((Zj (u,())).bind fun r12=>cond r12.1 ((Zg (u,t,())).bind fun r13=>cond r13.1 ((some (true,())).bind fun r14 : Bool×Unit=>some (r14.1,())) (some (false,()))) (some (false,()))) (some (false,())))=some (true,()):=by
 rw [ok.valid,ok.rect,ok.cont]; rfl
theorem nS (N : Int) (E : List Arc) (A : List (List Int)) (g : List Int) (B : List ByteArray) (o : Int) (hA : ∀ l∈A,l.length≤9223372036854775807) : Zb (((N,E,A,()),g,B,o,()),())=some (true,()):=by
 obtain ⟨b0,s1,s2⟩:=Ch N E A g B o
 unfold Zb
 simp only
 rw [s1,uR,Option.bind_some]
 cases b0 with
 | false=>rfl
 | true =>
  obtain ⟨hE,hA2⟩:=s2 rfl
  simp only [Bool.not_true,cond_false]
  by_cases c16 : E.length≤16
  ·rw [c7 (by omega),cond_false]
   rcases gO N E A g B o hA with ⟨h1,h2⟩ | ⟨n,nx,v,bp,rfl,h,h1,h2,h3,_,h4,h5,h6⟩
   ·rw [qe (.inl h1),Option.bind_some]; rfl
   ·cases bp with
    | false =>
     have hv : v≠0:=fun e=>by have:=h5.1 e; cases this
     rw [qe (.inr ⟨h1,v,hv,h3⟩),Option.bind_some]; rfl
    | true =>
     have hv:=h5.2 rfl
     subst hv
     have hz:=h6.1 rfl
     have hn:=h.rot.len
     by_cases c : 0 < E.length
     ·obtain ⟨N',E',A',g',o',nx',r1,r2,r2',r3,r4,r5,ok⟩:=l6 h hz c h1 h3 (by omega) (by omega)
      obtain ⟨N2,E2,A2,g2,o2,nx2,q1,_,_,_,_,_,ok2⟩:=l6 r2 (fun k _=>vk E' k) r2' ok.pvalid ok.bends (by omega) (by omega)
      rw [r1,Option.bind_some]
      simp only
      rw [bn rfl,cond_false,c7 (by omega),cond_false,ok.valid,Option.bind_some]
      simp only
      rw [bn rfl,cond_false,q1,Option.bind_some]
      simp only
      rw [ok.rect,Option.bind_some]
      simp only [cond_true]
      rw [cv rfl,cond_true]
      exact th ok2
     ·have : E=[]:=List.length_eq_zero_iff.1 (by omega)
      subst this
      have hsq : Zbq (sqS,())=some (0,()):=tc
      rcases gO 4 [(0,1,()),(1,2,()),(2,3,()),(3,0,())] [[0,7],[2,1],[4,3],[6,5]] [3,1,3,1,3,1,3,1] (List.replicate 8 ByteArray.empty) 1 (by simp) with ⟨w,_⟩ | ⟨m,mx,v',bp',em,w0,w1,w2,w3,_,w4,w5,w6⟩
      ·have:=(show Zbq (((4,[(0,1,()),(1,2,()),(2,3,()),(3,0,())],[[0,7],[2,1],[4,3],[6,5]],()),[3,1,3,1,3,1,3,1],List.replicate 8 ByteArray.empty,1,()),())=some (0,()) from hsq).symm.trans w
       simp at this
      ·have : m=4:=by omega
       subst this
       obtain ⟨N2,E2,A2,g2,o2,nx2,q1,_,_,_,_,_,ok2⟩:=l6 w0 (fun k _=>by rw [lb]; rfl) (by simp) tc Dy (by simp) (by simp)
       have q1' : Zbd (((4,[(0,1,()),(1,2,()),(2,3,()),(3,0,())],[[0,7],[2,1],[4,3],[6,5]],()),[3,1,3,1,3,1,3,1],List.replicate 8 ByteArray.empty,1,()),())=_:=q1
       have e_valid:=BL
       have e_rect:=EL
       unfold sqS at e_valid e_rect
       rw [yR h1 h3,Option.bind_some]
       simp only
       rw [bn rfl,cond_false,c7 (by simp),cond_false,e_valid,Option.bind_some]
       simp only
       rw [bn rfl,cond_false,q1',Option.bind_some]
       simp only
       rw [e_rect,Option.bind_some]
       simp only [cond_true]
       rw [cv rfl,cond_true]
       exact th ok2
  ·rw [d7 (by omega),cond_true]; rfl
theorem lV (x : (aP (Zb_c.ins.map (·.2))).den) (h : vO Zb_c.ins x) : Zb x=some (true,()):=by
 obtain ⟨⟨⟨N,E,A,u1⟩,g,B,o,u2⟩,u3⟩:=x
 refine nS N E A g B o fun l hl=>?_
 have h1 : Wf (.slice (.slice (.int .i64))) A:=h.1.1.2.2.1
 exact (h1.2 l hl).1
end Go.Vm


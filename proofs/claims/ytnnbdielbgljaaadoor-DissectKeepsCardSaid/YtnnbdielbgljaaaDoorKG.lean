/-
 Plain shapes; a face is divided; the loop of the program.
-/
import Derived.Test.YtnnbdielbgljaaaDoorKD
import Derived.Test.YtnnbdielbgljaaaDoorKE
import Derived.Test.YtnnbdielbgljaaaDoorKF
set_option linter.unusedVariables false
set_option linter.unusedSimpArgs false
/-
 Plain shapes: what they are, however their faces are listed; they are valid.
-/
namespace Go.Vm
open Go.Proofs
set_option maxRecDepth 100000
attribute [local irreducible] aa
structure Sys (N : Nat) (E : List Arc) (A : List (List Int)) (nx : List Int) (ps : List (List Int)) : Prop where
 rot : RotOK (N : Nat) E A
 fol : Fol oth E A nx
 pos : 0 < N
 conn : iS N E
 ne : 0 < E.length
 fs : FsOK (2 * E.length) ps
 cyc : ∀ f∈ps,Cyc nx f
 num : N+ps.length=E.length+2
def tn (g : List Int) (d : Int) : Int:=2 - gN g (oth d.toNat)
def tsm (g : List Int) (f : List Int) : Int:=(f.map (tn g)).sum
structure Met (E : List Arc) (A : List (List Int)) (g : List Int) (o : Nat) (ps : List (List Int)) : Prop where
 glen : g.length=2 * E.length
 ang : ∀ k,k < 2 * E.length→1≤gN g k∧gN g k≤4
 vert : ∀ l∈A,l≠[]→(l.map fun d=>gN g d.toNat).sum=4
 o2 : o < 2 * E.length
 face : ∀ f∈ps,tsm g f=if (o : Int)∈f then -4 else 4
theorem FsOK.face_nodup {L : Nat} {ps : List (List Int)} (h : FsOK L ps) {f : List Int} (hf : f∈ps) : f.Nodup:=h.nodup.sublist (List.sublist_flatten_of_mem hf)
theorem yh {L : Nat} {nx : List Int} {ps qs : List (List Int)} (hp : FsOK L ps) (hq : FsOK L qs) (cp : ∀ f∈ps,Cyc nx f) (cq : ∀ f∈qs,Cyc nx f) {f : List Int} (hf : f∈ps) : ∃ f'∈qs,f.Perm f':=by
 obtain ⟨h1,h2⟩:=hp.elem f hf
 cases f with
 | nil=>exact absurd rfl h1
 | cons x s =>
  obtain ⟨k,rfl,hk⟩:=h2 x (by simp)
  obtain ⟨f',hf',hx⟩:=List.mem_flatten.1 (hq.cover k hk)
  refine ⟨f',hf',(List.perm_ext_iff_of_nodup (hp.face_nodup hf) (hq.face_nodup hf')).2 fun y=>⟨?_,?_⟩⟩
  ·exact tO (cp _ hf) (cq _ hf') (hp.nat _ hf) (x:=(k : Int)) (by simp) hx y
  ·exact tO (cq _ hf') (cp _ hf) (hq.nat _ hf') hx (x:=(k : Int)) (by simp) y
theorem C8 {a b : List Int} (h : a.Perm b) : a.sum=b.sum:=by
 induction h with
 | nil=>rfl
 | cons x _ ih=>simp [ih]
 | swap x y l=>simp only [List.sum_cons]; omega
 | trans _ _ h1 h2=>rw [h1,h2]
theorem Dn {g f f' : List Int} (h : f.Perm f') : tsm g f=tsm g f':=C8 (h.map _)
theorem Met.move {E : List Arc} {A : List (List Int)} {g : List Int} {o : Nat} {nx : List Int} {ps qs : List (List Int)} (h : Met E A g o ps) (hp : FsOK (2 * E.length) ps) (hq : FsOK (2 * E.length) qs) (cp : ∀ f∈ps,Cyc nx f) (cq : ∀ f∈qs,Cyc nx f) : Met E A g o qs:=by
 refine ⟨h.glen,h.ang,h.vert,h.o2,fun f hf=>?_⟩
 obtain ⟨f',hf',hperm⟩:=yh hq hp cq cp hf
 rw [Dn hperm,h.face f' hf']
 simp only [hperm.mem_iff]
section
variable {N : Nat} {E : List Arc} {A : List (List Int)} {nx : List Int} {ps : List (List Int)} {g : List Int} {o : Nat}
theorem Sys.std (h : Sys N E A nx ps) : Sys N E A nx (ab nx):=by
 obtain ⟨h1,h2⟩:=bh h.rot h.fol
 exact ⟨h.rot,h.fol,h.pos,h.conn,h.ne,h1,h2,by rw [mJ h1 h.fs h2 h.cyc]; exact h.num⟩
theorem Met.std (h : Met E A g o ps) (hs : Sys N E A nx ps) : Met E A g o (ab nx):=h.move hs.fs hs.std.fs hs.cyc hs.std.cyc
theorem Gl {L : Nat} {a b : List (List Int)} {p q : List Int} (h : FsOK L (a++(p++q) :: b)) : FsOK L (a++(q++p) :: b):=by
 refine ⟨fun f hf=>?_,?_,fun k hk=>?_,?_⟩
 ·rcases List.mem_append.1 hf with hf | hf
  ·exact h.elem f (by simp [hf])
  ·rcases List.mem_cons.1 hf with rfl | hf
   ·obtain ⟨h1,h2⟩:=h.elem (p++q) (by simp)
    refine ⟨?_,fun d hd=>h2 d ?_⟩
    ·intro e
     have e':=List.append_eq_nil_iff.1 e
     exact h1 (List.append_eq_nil_iff.2 ⟨e'.2,e'.1⟩)
    ·rw [List.mem_append] at hd ⊢; exact hd.symm
   ·exact h.elem f (by simp [hf])
 ·have:=h.nodup
  rw [List.nodup_iff_count] at this ⊢
  intro x
  have:=this x
  simp only [List.flatten_append,List.flatten_cons,List.count_append] at this ⊢
  omega
 ·have:=h.cover k hk
  simp only [List.flatten_append,List.flatten_cons,List.mem_append] at this ⊢
  rcases this with h | (h | h) | h
  ·exact .inl h
  ·exact .inr (.inl (.inr h))
  ·exact .inr (.inl (.inl h))
  ·exact .inr (.inr h)
 ·have:=h.num; simpa using this
theorem Sys.rotate {a b : List (List Int)} {p q : List Int} (h : Sys N E A nx (a++(p++q) :: b)) : Sys N E A nx (a++(q++p) :: b):=by
 refine ⟨h.rot,h.fol,h.pos,h.conn,h.ne,Gl h.fs,fun f hf=>?_,by have:=h.num; simpa using this⟩
 rcases List.mem_append.1 hf with hf | hf
 ·exact h.cyc f (by simp [hf])
 ·rcases List.mem_cons.1 hf with rfl | hf
  ·exact fN (h.cyc (p++q) (by simp))
  ·exact h.cyc f (by simp [hf])
theorem Sys.has (h : Sys N E A nx ps) {v : Nat} (hv : v < N) : ∃ d,d < 2 * E.length∧tln E d=v:=v5 h.rot h.conn h.ne hv
theorem yq (h : RotOK (N : Nat) E A) (hN : 0 < N) (hc : iS N E) : comps N E=1:=by
 have h1:=sx h hN hc
 rw [sR h] at h1
 simp at h1
 omega
theorem Sys.emp0 (h : Sys N E A nx ps) : emp A=0:=by
 unfold emp
 rw [List.countP_eq_zero]
 intro l hl
 obtain ⟨v,hv⟩:=List.mem_iff_getElem?.1 hl
 have hvl:=(List.getElem?_eq_some_iff.1 hv).1
 obtain ⟨d,hd,he⟩:=h.has (v:=v) (by have:=h.rot.al; omega)
 obtain ⟨l',q1,_,_,_,q2⟩:=yS h.rot (v:=v) (by have:=h.rot.al; omega)
 rw [hv] at q1
 cases q1
 have:=(q2 d hd).1 he
 cases l with
 | nil=>cases this
 | cons _ _=>simp
theorem Sys.genus (h : Sys N E A nx ps) : Zbe (((N : Int),E,A,()),())=some (0,()):=by
 rw [(AM h.rot h.fol).1]
 have h1:=yq h.rot h.pos h.conn
 have h2:=h.emp0
 have h3:=h.std.num
 have hm:=h.rot.m1
 unfold ud
 rw [h1,h2]
 have e : (N : Int) - E.length+((ab nx).length+0 : Nat)=((2 : Nat) : Int):=by omega
 rw [e,BA (by omega)]
 rfl
theorem mC (n k : Nat) : at0 (List.replicate n ByteArray.empty) k=ByteArray.empty:=by
 unfold at0
 rw [List.getD_eq_getElem?_getD,List.getElem?_replicate]
 split <;> rfl
theorem Met.good (hr : RotOK (N : Nat) E A) (h : Met E A g o ps) : ∀ k,k < 2 * E.length→∃ a,g[k]?=some a∧1≤a∧a≤4:=fun k hk=>by
 have:=h.ang k hk
 refine ⟨gN g k,?_,this.1,this.2⟩
 unfold gN
 rw [List.getD_eq_getElem?_getD,List.getElem?_eq_getElem (by rw [h.glen]; exact hk)]; rfl
theorem Met.turnOK (hr : RotOK (N : Nat) E A) (h : Met E A g o ps) : TurnOK g (List.replicate (2 * E.length) ByteArray.empty) (2 * E.length):=by
 have:=hr.m1
 refine ⟨by omega,h.glen,by simp,fun k hk=>bd hk,h.good hr,fun k _=>?_⟩
 rw [mC]; rfl
theorem vJ (f : Int→Int) : ∀ l : List Int,t6 f l=(l.map f).sum
 | []=>rfl
 | d :: l=>by simp [t6,vJ f l]
theorem Sys.valid (h : Sys N E A nx ps) (hm : Met E A g o ps) : Zbr ((((N : Int),E,A,()),g,List.replicate (2 * E.length) ByteArray.empty,(o : Int),()),())=some (true,()):=by
 have hs:=h.std
 have hms:=hm.std h
 have hm1:=h.rot.m1
 have ho:=hm.o2
 have gl : ∀ l∈A,Ec g l:=fun l hl d hd=>by
  obtain ⟨k,rfl,hk⟩:=h.rot.mem_of hl hd
  exact ⟨k,rfl,hm.good h.rot k hk⟩
 refine Dm h.rot h.rot.lists h.pos h.conn h.genus (hm.turnOK h.rot) (by omega) (.inl (by omega)) ?_ ?_ (sO h.rot h.fol).1 ?_ ?_
 ·refine zu g A 0 fun l hl j=>?_
  have hll:=h.rot.list_len hl
  rw [yB g l j (gl l hl) (by omega),vJ]
  cases l with
  | nil=>rfl
  | cons d l =>
   have:=hm.vert (d :: l) hl (by simp)
   unfold gN at this
   rw [this,bx rfl,Bool.and_false]; rfl
 ·rw [dz]
  intro k _ _
  unfold fL
  rw [mC,mC]
  have e1 : fM ByteArray.empty=true:=rfl
  have e2 : rev ByteArray.empty=ByteArray.empty:=rfl
  rw [e1,e2,DI]; rfl
 ·refine ⟨by have:=hs.fs.num; omega,fun f hf=>⟨by have:=hs.fs.flen (by omega) f hf; omega,(hs.fs.elem f hf).2⟩⟩
 ·unfold b8
  rw [List.all_eq_true]
  intro f hf
  unfold eh
  rw [l5 (L:=2 * E.length) (fun k _=>by rw [mC]; rfl) (hs.fs.elem f hf).2]
  have:=hms.face f hf
  unfold tsm tn at this
  rw [this]
  unfold inB
  by_cases c : (o : Int)∈f
  ·simp [c,eqI]
  ·simp [c,eqI]
theorem Sys.valids (h : Sys N E A nx ps) (hm : Met E A g o ps) : Zbu ((((N : Int),E,A,()),g,List.replicate (2 * E.length) ByteArray.empty,(o : Int),()),())=some (0,())∧Zac ((((N : Int),E,A,()),g,List.replicate (2 * E.length) ByteArray.empty,(o : Int),()),())=some (0,()):=by
 have hv:=h.valid hm
 obtain ⟨b,v1,v2,_⟩:=mz (N : Int) E A g (List.replicate (2 * E.length) ByteArray.empty) (o : Int) h.rot.lists
 rw [hv] at v1
 cases v1
 refine ⟨?_,v2⟩
 unfold Zbu
 simp only
 rw [hv]; rfl
theorem ShapeOK.sys {B : List ByteArray} {o : Int} (h : ShapeOK N E A g B o nx) (hE : 0 < E.length) (hb : ∀ k,k < 2 * E.length→(at0 B k).size=0) : Sys N E A nx (ab nx)∧Met E A g o.toNat (ab nx)∧o=(o.toNat : Int):=by
 obtain ⟨h1,h2⟩:=bh h.rot h.folOK
 have h0:=h.out0
 have h3:=h.out1
 refine ⟨⟨h.rot,h.folOK,h.pos,h.conn,hE,h1,h2,vI h hE hb⟩,⟨h.turn.glen,kz h,fun l hl hne=>nQ h hl hne,by omega,fun f hf=>?_⟩,by omega⟩
 have hc:=h.chk
 unfold b8 at hc
 rw [List.all_eq_true] at hc
 have:=hc f hf
 unfold eh at this
 rw [l5 (L:=2 * E.length) hb (h1.elem f hf).2] at this
 simp only [eqI,beq_iff_eq] at this
 unfold tsm tn
 rw [this]
 unfold inB
 rw [show ((o.toNat : Nat) : Int)=o by omega]
 by_cases c : o∈f
 ·simp [c]
 ·simp [c]
end
end Go.Vm

/-
 A new vertex on an edge, a new edge within a face: the faces' lists.
-/
namespace Go.Vm
open Go.Proofs
set_option maxRecDepth 100000
attribute [local irreducible] aa
theorem BD {L d f : Nat} {nx nx' : List Int} {a b : List (List Int)} {s1 s2 : List Int} (hf : FsOK L (a++((d : Int) :: s1++(f : Int) :: s2) :: b)) (cf : ∀ g∈a++((d : Int) :: s1++(f : Int) :: s2) :: b,Cyc nx g) (hinj : Inj nx)
  (na : nx'[L]?=some (f : Int)) (nb : nx'[L+1]?=some (d : Int))
  (old : ∀ k,k < L→(nx[k]?=some (d : Int)→nx'[k]?=some (L : Int))∧(nx[k]?=some (f : Int)→nx'[k]?=some ((L+1 : Nat) : Int))∧(nx[k]?≠some (d : Int)→nx[k]?≠some (f : Int)→nx'[k]?=nx[k]?)) :
  FsOK (L+2) (((d : Int) :: s1++[((L+1 : Nat) : Int)]) :: ((f : Int) :: s2++[(L : Int)]) :: (a++b))∧∀ h∈(((d : Int) :: s1++[((L+1 : Nat) : Int)]) :: ((f : Int) :: s2++[(L : Int)]) :: (a++b)),Cyc nx' h:=by
 have hgm : ((d : Int) :: s1++(f : Int) :: s2)∈a++((d : Int) :: s1++(f : Int) :: s2) :: b:=by simp
 have hd : (d : Int)∈(d : Int) :: s1++(f : Int) :: s2:=by simp
 have hfg : (f : Int)∈(d : Int) :: s1++(f : Int) :: s2:=by simp
 have hgel:=(hf.elem _ hgm).2
 have hgnd : ((d : Int) :: s1++(f : Int) :: s2).Nodup:=hf.nodup.sublist (List.sublist_flatten_of_mem hgm)
 have hc : Cyc nx ((d : Int) :: s1++(f : Int) :: s2):=cf _ hgm
 have hcount : ∀ x : Int,((d : Int) :: s1++(f : Int) :: s2).count x=((d : Int) :: s1).count x+((f : Int) :: s2).count x:=fun x=>List.count_append
 have hone : ∀ x : Int,((d : Int) :: s1).count x+((f : Int) :: s2).count x≤1:=fun x=>by
  rw [← hcount]; exact List.nodup_iff_count.1 hgnd x
 have hsub1 : ∀ x∈(d : Int) :: s1,x∈(d : Int) :: s1++(f : Int) :: s2:=fun x hx=>by
  have:=List.count_pos_iff.2 hx
  exact List.count_pos_iff.1 (by rw [hcount]; omega)
 have hsub2 : ∀ x∈(f : Int) :: s2,x∈(d : Int) :: s1++(f : Int) :: s2:=fun x hx=>by
  have:=List.count_pos_iff.2 hx
  exact List.count_pos_iff.1 (by rw [hcount]; omega)
 have hdis : ∀ x∈(d : Int) :: s1,x∉(f : Int) :: s2:=fun x h1 h2=>by
  have:=List.count_pos_iff.2 h1; have:=List.count_pos_iff.2 h2; have:=hone x; omega
 obtain ⟨y,h1,h2⟩:=cu (f:=(d : Int) :: s1) (g:=(f : Int) :: s2).1 (bS hc)
 have : (f : Int)=y:=h2.1
 subst this
 have nat1 : ∀ x∈(d : Int) :: s1,∃ k : Nat,x=(k : Int)∧k < L:=fun x hx=>hgel x (hsub1 x hx)
 have nat2 : ∀ x∈(f : Int) :: s2,∃ k : Nat,x=(k : Int)∧k < L:=fun x hx=>hgel x (hsub2 x hx)
 have inj : ∀ x y : Int,(∃ k : Nat,x=(k : Int)∧k < L)→(∃ k : Nat,y=(k : Int)∧k < L)→∀ z : Int,nx[x.toNat]?=some z→nx[y.toNat]?=some z→x=y:=by
  rintro x y ⟨k,rfl,_⟩ ⟨k',rfl,_⟩ z e1 e2
  have:=hinj _ _ _ e1 e2
  simp at this
  omega
 have last1:=ik h1 (by simp)
 have last2:=ik h2 (by simp)
 have t1 : dm nx' (d : Int) ((d : Int) :: s1) ((L+1 : Nat) : Int):=by
  refine fY h1 (by simp) (fun hm=>hdis _ (List.mem_of_mem_tail hm) (by simp)) fun y hy=>?_
  obtain ⟨k,rfl,hk⟩:=nat1 y hy
  rw [Int.toNat_natCast]
  refine ⟨(old k hk).2.1,fun hne=>(old k hk).2.2 (fun hd2=>?_) hne⟩
  obtain ⟨w,w1,w2⟩:=last2
  have:=inj (k : Int) w ⟨k,rfl,hk⟩ (nat2 w w1) _ (by simpa using hd2) w2
  subst this
  exact hdis _ hy w1
 have t2 : dm nx' (f : Int) ((f : Int) :: s2) (L : Int):=by
  refine fY h2 (by simp) (fun hm=>hdis _ (by simp) (List.mem_of_mem_tail hm)) fun y hy=>?_
  obtain ⟨k,rfl,hk⟩:=nat2 y hy
  rw [Int.toNat_natCast]
  refine ⟨(old k hk).1,fun hne=>(old k hk).2.2 hne (fun hd2=>?_)⟩
  obtain ⟨w,w1,w2⟩:=last1
  have:=inj (k : Int) w ⟨k,rfl,hk⟩ (nat1 w w1) _ (by simpa using hd2) w2
  subst this
  exact hdis _ w1 hy
 have c1 : Cyc nx' ((d : Int) :: s1++[((L+1 : Nat) : Int)]):=cL (x:=(d : Int)) (cu.2 ⟨_,t1,rfl,(d : Int),by simpa using nb,rfl⟩) (by simp)
 have c2 : Cyc nx' ((f : Int) :: s2++[(L : Int)]):=cL (x:=(f : Int)) (cu.2 ⟨_,t2,rfl,(f : Int),by simpa using na,rfl⟩) (by simp)
 have flat : ∀ x : Int,((((d : Int) :: s1++[((L+1 : Nat) : Int)]) :: ((f : Int) :: s2++[(L : Int)]) :: (a++b)).flatten).count x=(a++((d : Int) :: s1++(f : Int) :: s2) :: b).flatten.count x+[(L : Int),((L+1 : Nat) : Int)].count x:=by
  intro x
  rw [dv,hcount]
  simp only [List.flatten_cons,List.count_append,List.flatten_append,List.count_cons,List.count_nil]
  omega
 have small : ∀ x∈(a++((d : Int) :: s1++(f : Int) :: s2) :: b).flatten,∃ k : Nat,x=(k : Int)∧k < L:=fun x hx=>by
  obtain ⟨l,hl,hxl⟩:=List.mem_flatten.1 hx
  exact (hf.elem l hl).2 x hxl
 have other : ∀ h∈a++b,h∈a++((d : Int) :: s1++(f : Int) :: s2) :: b∧∀ x∈h,x∉(d : Int) :: s1++(f : Int) :: s2:=by
  intro h hh
  have hhm : h∈a++((d : Int) :: s1++(f : Int) :: s2) :: b:=by simp at hh ⊢; rcases hh with hh | hh <;> simp [hh]
  refine ⟨hhm,fun x hx hx2=>?_⟩
  have h1:=List.nodup_iff_count.1 hf.nodup x
  rw [dv] at h1
  have h2:=List.count_pos_iff.2 hx2
  rcases List.mem_append.1 hh with hh | hh
  ·have:=List.count_pos_iff.2 (List.mem_flatten.2 ⟨h,hh,hx⟩); omega
  ·have:=List.count_pos_iff.2 (List.mem_flatten.2 ⟨h,hh,hx⟩); omega
 refine ⟨⟨?_,?_,?_,?_⟩,?_⟩
 ·intro h hh
  rcases List.mem_cons.1 hh with rfl | hh
  ·refine ⟨by simp,fun x hx=>?_⟩
   rcases List.mem_append.1 hx with hx | hx
   ·obtain ⟨k,e,hk⟩:=nat1 x hx; exact ⟨k,e,by omega⟩
   ·rw [List.mem_singleton] at hx; exact ⟨L+1,hx,by omega⟩
  ·rcases List.mem_cons.1 hh with rfl | hh
   ·refine ⟨by simp,fun x hx=>?_⟩
    rcases List.mem_append.1 hx with hx | hx
    ·obtain ⟨k,e,hk⟩:=nat2 x hx; exact ⟨k,e,by omega⟩
    ·rw [List.mem_singleton] at hx; exact ⟨L,hx,by omega⟩
   ·obtain ⟨e1,e2⟩:=hf.elem h (other h hh).1
    exact ⟨e1,fun x hx=>by obtain ⟨k,e,hk⟩:=e2 x hx; exact ⟨k,e,by omega⟩⟩
 ·rw [List.nodup_iff_count]
  intro x
  rw [flat]
  have h1:=List.nodup_iff_count.1 hf.nodup x
  simp only [List.count_cons,List.count_nil,beq_iff_eq]
  by_cases hx : x∈(a++((d : Int) :: s1++(f : Int) :: s2) :: b).flatten
  ·obtain ⟨k,rfl,hk⟩:=small x hx
   rw [if_neg (by omega),if_neg (by omega)]; omega
  ·rw [List.count_eq_zero.2 hx]
   split <;> split <;> omega
 ·intro k hk
  have : 0 < ((((d : Int) :: s1++[((L+1 : Nat) : Int)]) :: ((f : Int) :: s2++[(L : Int)]) :: (a++b)).flatten).count (k : Int):=by
   rw [flat]
   rcases Nat.lt_or_ge k L with h | h
   ·have:=List.count_pos_iff.2 (hf.cover k h); omega
   ·have hin : (k : Int)∈[(L : Int),((L+1 : Nat) : Int)]:=by
     simp; omega
    have:=List.count_pos_iff.2 hin; omega
  exact List.count_pos_iff.1 this
 ·have:=hf.num
  simp only [List.length_cons,List.length_append] at this ⊢
  omega
 ·intro h hh
  rcases List.mem_cons.1 hh with rfl | hh
  ·exact c1
  ·rcases List.mem_cons.1 hh with rfl | hh
   ·exact c2
   ·obtain ⟨hm,hdj⟩:=other h hh
    have hcy:=cf h hm
    have hne:=hcy.1
    cases h with
    | nil=>exact absurd rfl hne
    | cons x h =>
     refine cL (kF (bS hcy) fun y hy=>?_) (by simp)
     obtain ⟨k,rfl,hk⟩:=(hf.elem _ hm).2 y hy
     rw [Int.toNat_natCast]
     refine (old k hk).2.2 (fun e=>?_) (fun e=>?_)
     ·exact hdj _ (dy hcy hy e) hd
     ·exact hdj _ (dy hcy hy e) hfg
section
variable {N : Nat} {E : List Arc} {A : List (List Int)} {nx : List Int} {ps : List (List Int)} {g : List Int} {o : Nat}
theorem Sys.split {e x y : Nat} (h : Sys N E A nx ps) (hs : SplitOK N E A e x y) : ∃ nx',Sys (N+1) (cB E N e x y) (jk A e E.length y) nx' (ps.map fun f=>f.flatMap (sig e E.length)):=by
 have he:=hs.he
 have hr':=hs.rot'
 obtain ⟨nx',_,hn'⟩:=iu hr' ()
 have hf:=h.fs
 have cf:=h.cyc
 have hlen : (cB E N e x y).length=E.length+1:=ew
 obtain ⟨n0,n1,n2,n3⟩:=hs.next h.fol hn'
 have hel : ∀ d∈ps.flatten,∃ k : Nat,d=(k : Int)∧k < 2 * E.length:=fun d hd=>by
  obtain ⟨l,hl,hdl⟩:=List.mem_flatten.1 hd
  exact (hf.elem l hl).2 d hdl
 obtain ⟨c1,c2,c3⟩:=nz he hel
 have hone:=List.nodup_iff_count.1 hf.nodup
 have hg : FsOK (2 * (E.length+1)) (ps.map fun f=>f.flatMap (sig e E.length)):=by
  refine ⟨?_,?_,?_,?_⟩
  ·intro g hg
   obtain ⟨f,hfm,rfl⟩:=List.mem_map.1 hg
   obtain ⟨q1,q2⟩:=hf.elem f hfm
   refine ⟨?_,fun d hd=>?_⟩
   ·cases f with
    | nil=>exact absurd rfl q1
    | cons a s =>
     rw [List.flatMap_cons]
     unfold sig
     split
     ·simp
     ·split <;> simp
   ·obtain ⟨k,e1,e2⟩:=oM he q2 d hd
    exact ⟨k,e1,by omega⟩
  ·rw [jZ,List.nodup_iff_count]
   intro z
   by_cases hz : z∈ps.flatten.flatMap (sig e E.length)
   ·obtain ⟨k,rfl,hk⟩:=oM he hel z hz
    rcases Nat.lt_or_ge k (2 * E.length) with c | c
    ·rw [c1 k c]; exact hone _
    ·by_cases c4 : k=2 * E.length
     ·subst c4; rw [c2]; exact hone _
     ·have : k=2 * E.length+1:=by omega
      subst this; rw [c3]; exact hone _
   ·rw [List.count_eq_zero.2 hz]; omega
  ·intro k hk
   rw [jZ]
   refine List.count_pos_iff.1 ?_
   rcases Nat.lt_or_ge k (2 * E.length) with c | c
   ·rw [c1 k c]; exact List.count_pos_iff.2 (hf.cover k c)
   ·by_cases c4 : k=2 * E.length
    ·subst c4; rw [c2]; exact List.count_pos_iff.2 (hf.cover _ (by omega))
    ·have : k=2 * E.length+1:=by omega
     subst this; rw [c3]; exact List.count_pos_iff.2 (hf.cover _ (by omega))
  ·have:=hf.num
   rw [List.length_map]; omega
 refine ⟨nx',hr',hn',by omega,?_,by rw [hlen]; omega,by rw [hlen]; exact hg,?_,by rw [List.length_map,hlen]; have:=h.num; omega⟩
 ·intro v hv
  have hx0 : Reach (cB E N e x y) 0 x:=(hs.reach h.pos hs.xn).2 (h.conn x hs.xn)
  by_cases c : v < N
  ·exact (hs.reach h.pos c).2 (h.conn v c)
  ·have : v=N:=by omega
   subst this
   exact hx0.trans hs.toN
 ·intro g hgm
  obtain ⟨f,hfm,rfl⟩:=List.mem_map.1 hgm
  have hc:=cf f hfm
  cases f with
  | nil=>exact absurd rfl hc.1
  | cons a s =>
   exact cL (qe n0 n1 n2 n3 he (hf.elem _ hfm).2 (bS hc)) ((hg.elem _ hgm).1)
theorem Sys.edge {a b : List (List Int)} {s1 s2 : List Int} {d f u v : Nat} (h : Sys N E A nx (a++((d : Int) :: s1++(f : Int) :: s2) :: b)) (he : EdgeOK N E A d f u v) :
  ∃ nx',Sys N (E++[((u : Int),(v : Int),())]) (jS A u v E.length d f) nx' (((d : Int) :: s1++[((2 * E.length+1 : Nat) : Int)]) :: ((f : Int) :: s2++[((2 * E.length : Nat) : Int)]) :: (a++b)):=by
 have hr':=he.rot'
 obtain ⟨nx',_,hn'⟩:=iu hr' ()
 have hN:=he.next h.fol hn'
 have hlen : (E++[((u : Int),(v : Int),())]).length=E.length+1:=by simp
 obtain ⟨q1,q2⟩:=BD h.fs h.cyc (nZ h.rot h.fol) hN.a hN.b hN.old
 refine ⟨nx',hr',hn',h.pos,fun w hw=>iW (h.conn w hw),by rw [hlen]; omega,by rw [hlen]; exact q1,q2,?_⟩
 have:=h.num
 simp only [List.length_cons,List.length_append,List.length_nil] at this ⊢
 omega
end
end Go.Vm

/-
 A new vertex on an edge, a new edge within a face: the angles.
-/
namespace Go.Vm
open Go.Proofs
set_option maxRecDepth 100000
attribute [local irreducible] aa
theorem ed {a b : Nat} (h : oth a=oth b) : a=b:=by rw [← cv a,h,cv]
theorem yg {g : List Int} {i k : Nat} {v : Int} (hi : i < g.length) : gN (g.set i v) k=if k=i then v else gN g k:=by
 unfold gN
 rw [List.getD_eq_getElem?_getD,List.getD_eq_getElem?_getD,List.getElem?_set]
 by_cases h : i=k
 ·subst h; simp [hi]
 ·rw [if_neg h,if_neg (fun e=>h e.symm)]
theorem nh {g r : List Int} {k : Nat} : gN (g++r) k=if k < g.length then gN g k else gN r (k - g.length):=by
 unfold gN
 rw [List.getD_eq_getElem?_getD,List.getD_eq_getElem?_getD,List.getD_eq_getElem?_getD,List.getElem?_append]
 split <;> rfl
theorem gI {g : List Int} {p q : List Int} : tsm g (p++q)=tsm g p+tsm g q:=by simp [tsm]
theorem bP {g : List Int} {x : Int} {q : List Int} : tsm g (x :: q)=tn g x+tsm g q:=by simp [tsm]
theorem dV {g : List Int} : tsm g []=0:=rfl
theorem kr {g g' : List Int} : ∀ {f : List Int},(∀ x∈f,tn g' x=tn g x)→tsm g' f=tsm g f
 | [],_=>rfl
 | x :: f,h=>by rw [bP,bP,h x (by simp),kr fun y hy=>h y (by simp [hy])]
theorem fW {F F' : Int→Int} : ∀ {l : List Int},(∀ x∈l,F' x=F x)→(l.map F').sum=(l.map F).sum
 | [],_=>rfl
 | x :: l,h=>by simp only [List.map_cons,List.sum_cons]; rw [h x (by simp),fW fun y hy=>h y (by simp [hy])]
theorem uW {F F' : Int→Int} {c : Int} : ∀ {l : List Int},l.Nodup→c∈l→(∀ x∈l,x≠c→F' x=F x)→(l.map F').sum=(l.map F).sum+(F' c - F c)
 | [],_,h,_=>by cases h
 | x :: l,hn,hc,h=>by
  rw [List.nodup_cons] at hn
  simp only [List.map_cons,List.sum_cons]
  rcases List.mem_cons.1 hc with rfl | hc
  ·rw [fW (F:=F) (F':=F') fun y hy=>h y (by simp [hy]) (fun e=>hn.1 (e ▸ hy))]; omega
  ·rw [uW hn.2 hc fun y hy=>h y (by simp [hy]),h x (by simp) (fun e=>hn.1 (e ▸ hc))]; omega
theorem zz {F : Int→Int} {l : List Int} {z f : Int} (hn : l.Nodup) (hf : f∈l) : ((bef l z f).map F).sum=(l.map F).sum+F z:=by
 obtain ⟨p,q,rfl⟩:=List.append_of_mem hf
 have hp : f∉p:=fun h=>by
  have:=List.nodup_append.1 hn
  exact this.2.2 f h f (by simp) rfl
 have hq : f∉q:=fun h=>by
  have:=(List.nodup_append.1 hn).2.1
  rw [List.nodup_cons] at this
  exact this.1 h
 rw [fZ _ _ _ _ hp hq]
 simp only [List.map_append,List.map_cons,List.sum_append,List.sum_cons]
 omega
theorem wc {nx : List Int} {p q : List Int} {z y : Int} (h : Cyc nx (p++z :: y :: q)) : nx[z.toNat]?=some y:=by
 have:=h.2 p.length (by simp)
 rw [List.getElem_append_right (Nat.le_refl _)] at this
 simp only [Nat.sub_self,List.getElem_cons_zero] at this
 rw [this]
 congr 1
 have hl : (p.length+1) % (p++z :: y :: q).length=p.length+1:=Nat.mod_eq_of_lt (by simp)
 rw [hl,List.getD_eq_getElem?_getD,List.getElem?_append_right (by omega),show p.length+1 - p.length=1 by omega]
 rfl
theorem CZ {nx : List Int} {s : List Int} {x z : Int} (h : Cyc nx (x :: s++[z])) : nx[z.toNat]?=some x:=by
 have h' : Cyc nx ([z]++(x :: s)):=fN (p:=x :: s) (q:=[z]) h
 exact wc (p:=[]) h'
section
variable {N : Nat} {E : List Arc} {A : List (List Int)} {nx : List Int} {ps : List (List Int)} {g : List Int} {o : Nat}
def nC (g : List Int) (e : Nat) : List Int:=g.set (2 * e+1) 2++[2,gN g (2 * e+1)]
def mvN (e m o : Nat) : Nat:=if o=2 * e+1 then 2 * m+1 else o
theorem cY {e m k : Nat} (hg : g.length=2 * m) (he : e < m) (hk : k < 2 * m) : gN (nC g e) k=if k=2 * e+1 then 2 else gN g k:=by
 unfold nC
 rw [nh,List.length_set,if_pos (by omega),yg (by omega)]
theorem qD {e m : Nat} (hg : g.length=2 * m) : gN (nC g e) (2 * m)=2:=by
 unfold nC
 rw [nh,List.length_set,if_neg (by omega),hg,Nat.sub_self]; rfl
theorem pQ {e m : Nat} (hg : g.length=2 * m) : gN (nC g e) (2 * m+1)=gN g (2 * e+1):=by
 unfold nC
 rw [nh,List.length_set,if_neg (by omega),hg,show 2 * m+1 - 2 * m=1 by omega]; rfl
theorem zs {e m : Nat} (hg : g.length=2 * m) (he : e < m) : ∀ {f : List Int},(∀ d∈f,∃ k : Nat,d=(k : Int)∧k < 2 * m)→tsm (nC g e) (f.flatMap (sig e m))=tsm g f
 | [],_=>rfl
 | d :: f,h=>by
  rw [List.flatMap_cons,gI,bP,zs hg he fun x hx=>h x (by simp [hx])]
  congr 1
  obtain ⟨k,rfl,hk⟩:=h d (by simp)
  by_cases c1 : k=2 * e
  ·subst c1
   unfold sig
   rw [if_pos rfl]
   simp only [bP,dV,tn,Int.toNat_natCast,cK]
   rw [cY hg he (by omega),if_pos rfl,pQ hg]; omega
  ·by_cases c2 : k=2 * e+1
   ·subst c2
    unfold sig
    rw [if_neg (by omega),if_pos rfl]
    simp only [bP,dV,tn,Int.toNat_natCast,cJ]
    rw [qD hg,cY hg he (by omega),if_neg (by omega)]; omega
   ·unfold sig
    rw [if_neg (by omega),if_neg (by omega)]
    simp only [bP,dV,tn,Int.toNat_natCast]
    have : oth k≠2 * e+1:=fun e'=>c1 (ed (by rw [e',cK]))
    rw [cY hg he (bd hk),if_neg this]; omega
theorem zJ {e m o : Nat} (he : e < m) (ho : o < 2 * m) {f : List Int} (hf : ∀ d∈f,∃ k : Nat,d=(k : Int)∧k < 2 * m) : ((mvN e m o : Nat) : Int)∈f.flatMap (sig e m)↔(o : Int)∈f:=by
 rw [List.mem_flatMap]
 constructor
 ·rintro ⟨z,hz,h⟩
  obtain ⟨k,rfl,hk⟩:=hf z hz
  have : k=o:=by
   unfold sig mvN at h
   split at h <;> split at h <;> first | (split at h <;> simp at h <;> omega) | (simp at h <;> omega)
  subst this
  exact hz
 ·intro h
  refine ⟨_,h,?_⟩
  unfold sig mvN
  split <;> split <;> first | (split <;> simp <;> omega) | (simp <;> omega)
theorem Met.split {e x y : Nat} (h : Sys N E A nx ps) (hm : Met E A g o ps) (hs : SplitOK N E A e x y) : Met (cB E N e x y) (jk A e E.length y) (nC g e) (mvN e E.length o) (ps.map fun f=>f.flatMap (sig e E.length)):=by
 have he:=hs.he
 have hgl:=hm.glen
 have ho:=hm.o2
 have hlen : (cB E N e x y).length=E.length+1:=ew
 have hyl : y < A.length:=by have:=hs.al; have:=hs.yn; omega
 refine ⟨by unfold nC; simp [hgl,hlen]; omega,fun k hk=>?_,fun l hl hne=>?_,by rw [hlen]; unfold mvN; split <;> omega,fun f hf=>?_⟩
 ·rw [hlen] at hk
  rcases Nat.lt_or_ge k (2 * E.length) with c | c
  ·rw [cY hgl he c]
   split
   ·omega
   ·exact hm.ang k c
  ·rcases Nat.eq_or_lt_of_le c with c | c
   ·rw [← c,qD hgl]; omega
   ·have : k=2 * E.length+1:=by omega
    subst this
    rw [pQ hgl]
    exact hm.ang _ (by omega)
 ·obtain ⟨w,hw⟩:=List.mem_iff_getElem?.1 hl
  rw [eD hyl w] at hw
  have other : ∀ {w : Nat} {l : List Int},A[w]?=some l→w≠y→(l.map fun d=>gN (nC g e) d.toNat).sum=(l.map fun d=>gN g d.toNat).sum:=fun {w l} hw hwy=>by
   refine fW fun d hd=>?_
   obtain ⟨k,rfl,hk,ht⟩:=h.rot.dart w l hw d hd
   rw [Int.toNat_natCast,cY hgl he hk,if_neg]
   rintro rfl
   rw [hs.tl1] at ht
   omega
  by_cases c : w=y
  ·subst c
   rw [if_pos rfl] at hw
   cases hw
   have hAy:=List.getElem?_eq_getElem hyl
   have hsub:=bn hyl
   rw [hsub]
   have hne' : A[w]≠[]:=fun e'=>hne (by rw [hsub,e']; rfl)
   rw [← hm.vert A[w] (List.getElem_mem hyl) hne']
   unfold vg
   rw [List.map_map]
   refine fW fun d hd=>?_
   obtain ⟨k,rfl,hk,ht⟩:=h.rot.dart w _ hAy d hd
   simp only [Function.comp_apply]
   unfold eN
   by_cases c2 : k=2 * e+1
   ·subst c2
    rw [if_pos rfl,Int.toNat_natCast,pQ hgl,Int.toNat_natCast]
   ·rw [if_neg (by omega),Int.toNat_natCast,cY hgl he hk,if_neg c2]
  ·rw [if_neg c] at hw
   by_cases c2 : w=A.length
   ·rw [if_pos c2] at hw
    cases hw
    simp only [List.map_cons,List.map_nil,List.sum_cons,List.sum_nil,Int.toNat_natCast]
    rw [cY hgl he (by omega),if_pos rfl,qD hgl]; rfl
   ·rw [if_neg c2] at hw
    rw [other hw c]
    exact hm.vert l (List.mem_of_getElem? hw) hne
 ·obtain ⟨f0,hf0,rfl⟩:=List.mem_map.1 hf
  have hel:=(h.fs.elem f0 hf0).2
  rw [zs hgl he hel,hm.face f0 hf0]
  simp only [zJ he ho hel]
def kL (g : List Int) (a b : Nat) (α1 α2 β1 β2 : Int) : List Int:=(g.set (oth a) α1).set (oth b) β1++[α2,β2]
theorem wk {a b m k : Nat} {α1 α2 β1 β2 : Int} (hg : g.length=2 * m) (ha : a < 2 * m) (hb : b < 2 * m) (hk : k < 2 * m) : gN (kL g a b α1 α2 β1 β2) k=if k=oth b then β1 else if k=oth a then α1 else gN g k:=by
 have:=bd ha
 have:=bd hb
 unfold kL
 rw [nh,List.length_set,List.length_set,if_pos (by omega),yg (by rw [List.length_set]; omega),yg (by omega)]
theorem s7 {a b m : Nat} {α1 α2 β1 β2 : Int} (hg : g.length=2 * m) : gN (kL g a b α1 α2 β1 β2) (2 * m)=α2:=by
 unfold kL
 rw [nh,List.length_set,List.length_set,if_neg (by omega),hg,Nat.sub_self]; rfl
theorem s9 {a b m : Nat} {α1 α2 β1 β2 : Int} (hg : g.length=2 * m) : gN (kL g a b α1 α2 β1 β2) (2 * m+1)=β2:=by
 unfold kL
 rw [nh,List.length_set,List.length_set,if_neg (by omega),hg,show 2 * m+1 - 2 * m=1 by omega]; rfl
theorem Met.edge {a b : List (List Int)} {s1 s2 t1 t2 : List Int} {d f u v a' b' : Nat} {α1 α2 β1 β2 : Int} (h : Sys N E A nx (a++((d : Int) :: s1++(f : Int) :: s2) :: b)) (hm : Met E A g o (a++((d : Int) :: s1++(f : Int) :: s2) :: b)) (he : EdgeOK N E A d f u v)
  (e1 : (d : Int) :: s1=t1++[(b' : Int)]) (e2 : (f : Int) :: s2=t2++[(a' : Int)]) (ho : (o : Int)∉(d : Int) :: s1++(f : Int) :: s2)
  (hα : gN g (oth a')=α1+α2) (hβ : gN g (oth b')=β1+β2) (p1 : 1≤α1) (p2 : 1≤α2) (p3 : 1≤β1) (p4 : 1≤β2)
  (hX : tsm g ((d : Int) :: s1)+β2+(2 - α2)=4) (hY : tsm g ((f : Int) :: s2)+α2+(2 - β2)=4) :
  Met (E++[((u : Int),(v : Int),())]) (jS A u v E.length d f) (kL g a' b' α1 α2 β1 β2) o (((d : Int) :: s1++[((2 * E.length+1 : Nat) : Int)]) :: ((f : Int) :: s2++[((2 * E.length : Nat) : Int)]) :: (a++b)):=by
 have hgm : ((d : Int) :: s1++(f : Int) :: s2)∈a++((d : Int) :: s1++(f : Int) :: s2) :: b:=by simp
 have hgl:=hm.glen
 have hel:=(h.fs.elem _ hgm).2
 have hnd:=h.fs.face_nodup hgm
 have hcy:=h.cyc _ hgm
 have hb' : b' < 2 * E.length:=by
  obtain ⟨k,e,hk⟩:=hel (b' : Int) (by rw [e1]; simp)
  omega
 have ha' : a' < 2 * E.length:=by
  obtain ⟨k,e,hk⟩:=hel (a' : Int) (by rw [e2]; simp)
  omega
 have hna : nx[a']?=some (d : Int):=by
  have : (d : Int) :: s1++(f : Int) :: s2=(d : Int) :: (s1++t2)++[(a' : Int)]:=by rw [e2]; simp
  rw [this] at hcy
  simpa using CZ hcy
 have hnb : nx[b']?=some (f : Int):=by
  rw [e1,List.append_assoc] at hcy
  simpa using wc hcy
 have hta : tl E (oth a')=u:=by have:=(nO h.rot h.fol hna).2.2; rw [he.tu] at this; exact this.symm
 have htb : tl E (oth b')=v:=by have:=(nO h.rot h.fol hnb).2.2; rw [he.tv] at this; exact this.symm
 have hne:=he.ne
 have hoab : oth a'≠oth b':=fun e'=>by rw [e',htb] at hta; omega
 have hoa:=bd ha'
 have hob:=bd hb'
 have hlen : (E++[((u : Int),(v : Int),())]).length=E.length+1:=by simp
 have hal:=he.al
 have huA : u < A.length:=by rw [hal]; exact he.un
 have hvA : v < A.length:=by rw [hal]; exact he.vn
 have ga:=hm.ang (oth a') hoa
 have gb:=hm.ang (oth b') hob
 have old:=fun {k : Nat} (hk : k < 2 * E.length)=>wk (g:=g) (α1:=α1) (α2:=α2) (β1:=β1) (β2:=β2) hgl ha' hb' hk
 refine ⟨by unfold kL; simp [hgl]; omega,fun k hk=>?_,fun l hl hnl=>?_,by rw [hlen]; have:=hm.o2; omega,fun f0 hf0=>?_⟩
 ·rw [hlen] at hk
  rcases Nat.lt_or_ge k (2 * E.length) with c | c
  ·rw [old c]
   split
   ·omega
   ·split
    ·omega
    ·exact hm.ang k c
  ·rcases Nat.eq_or_lt_of_le c with c | c
   ·rw [← c,s7 hgl]; omega
   ·have : k=2 * E.length+1:=by omega
    subst this
    rw [s9 hgl]; omega
 ·obtain ⟨w,hw⟩:=List.mem_iff_getElem?.1 hl
  rw [dM he.ne huA hvA w] at hw
  by_cases c1 : w=v
  ·subst c1
   rw [if_pos rfl] at hw
   cases hw
   have hAw:=List.getElem?_eq_getElem hvA
   have hsub:=bn hvA
   have hin:=h.rot.around hob htb hAw
   rw [zz (he.nu he.vn) he.mv,Int.toNat_natCast,s9 hgl,hsub,
    uW (F:=fun d=>gN g d.toNat) (c:=((oth b' : Nat) : Int)) (h.rot.list_nodup (List.getElem_mem hvA)) hin (fun x hx hxc=>by
     obtain ⟨k,rfl,hk,ht⟩:=h.rot.dart w _ hAw x hx
     rw [Int.toNat_natCast,old hk,if_neg (by omega),if_neg]
     rintro rfl
     rw [hta] at ht
     omega),
    hm.vert _ (List.getElem_mem hvA) (fun e'=>by rw [e'] at hin; cases hin),Int.toNat_natCast,old hob,if_pos rfl]
   omega
  ·rw [if_neg c1] at hw
   by_cases c2 : w=u
   ·subst c2
    rw [if_pos rfl] at hw
    cases hw
    have hAw:=List.getElem?_eq_getElem huA
    have hsub:=bn huA
    have hin:=h.rot.around hoa hta hAw
    rw [zz (he.nu he.un) he.mu,Int.toNat_natCast,s7 hgl,hsub,
     uW (F:=fun d=>gN g d.toNat) (c:=((oth a' : Nat) : Int)) (h.rot.list_nodup (List.getElem_mem huA)) hin (fun x hx hxc=>by
      obtain ⟨k,rfl,hk,ht⟩:=h.rot.dart w _ hAw x hx
      rw [Int.toNat_natCast,old hk,if_neg,if_neg (by omega)]
      rintro rfl
      rw [htb] at ht
      omega),
     hm.vert _ (List.getElem_mem huA) (fun e'=>by rw [e'] at hin; cases hin),Int.toNat_natCast,old hoa,if_neg hoab,if_pos rfl]
    omega
   ·rw [if_neg c2] at hw
    have : (l.map fun d=>gN (kL g a' b' α1 α2 β1 β2) d.toNat).sum=(l.map fun d=>gN g d.toNat).sum:=fW fun x hx=>by
     obtain ⟨k,rfl,hk,ht⟩:=h.rot.dart w l hw x hx
     rw [Int.toNat_natCast,old hk,if_neg,if_neg]
     ·rintro rfl; rw [hta] at ht; omega
     ·rintro rfl; rw [htb] at ht; omega
    rw [this]
    exact hm.vert l (List.mem_of_getElem? hw) hnl
 ·have keep : ∀ {x : Int},(∃ k : Nat,x=(k : Int)∧k < 2 * E.length)→x≠(a' : Int)→x≠(b' : Int)→tn (kL g a' b' α1 α2 β1 β2) x=tn g x:=by
   rintro x ⟨k,rfl,hk⟩ x1 x2
   unfold tn
   rw [Int.toNat_natCast,old (bd hk),if_neg (fun e'=>x2 (by rw [ed e'])),if_neg (fun e'=>x1 (by rw [ed e']))]
  have tA : tn (kL g a' b' α1 α2 β1 β2) (a' : Int)=2 - α1:=by
   unfold tn
   rw [Int.toNat_natCast,old hoa,if_neg hoab,if_pos rfl]
  have tB : tn (kL g a' b' α1 α2 β1 β2) (b' : Int)=2 - β1:=by
   unfold tn
   rw [Int.toNat_natCast,old hob,if_pos rfl]
  have tA0 : tn g (a' : Int)=2 - (α1+α2):=by unfold tn; rw [Int.toNat_natCast,hα]
  have tB0 : tn g (b' : Int)=2 - (β1+β2):=by unfold tn; rw [Int.toNat_natCast,hβ]
  have t0 : tn (kL g a' b' α1 α2 β1 β2) ((2 * E.length : Nat) : Int)=2 - β2:=by unfold tn; rw [Int.toNat_natCast,cK,s9 hgl]
  have t1' : tn (kL g a' b' α1 α2 β1 β2) ((2 * E.length+1 : Nat) : Int)=2 - α2:=by unfold tn; rw [Int.toNat_natCast,cJ,s7 hgl]
  have hnd2 : (t1++[(b' : Int)]++(t2++[(a' : Int)])).Nodup:=by rw [← e1,← e2]; exact hnd
  have cnt:=List.nodup_iff_count.1 hnd2
  have ho2:=hm.o2
  have hel2 : ∀ x∈t1++[(b' : Int)]++(t2++[(a' : Int)]),∃ k : Nat,x=(k : Int)∧k < 2 * E.length:=by rw [← e1,← e2]; exact hel
  rcases List.mem_cons.1 hf0 with rfl | hf0
  ·have hno : (o : Int)∉(d : Int) :: s1++[((2 * E.length+1 : Nat) : Int)]:=by
    intro hh
    rcases List.mem_append.1 hh with hh | hh
    ·exact ho (List.mem_append.2 (.inl hh))
    ·rw [List.mem_singleton] at hh; omega
   rw [if_neg hno,gI,e1,gI,bP,dV,bP,dV,t1',tB,kr (g:=g) (f:=t1) (fun x hx=>keep (hel2 x (by simp [hx])) (fun e'=>?_) (fun e'=>?_))]
   ·rw [e1,gI,bP,dV,tB0] at hX
    omega
   ·subst e'
    have:=cnt (a' : Int)
    have h1:=List.count_pos_iff.2 hx
    simp only [List.count_append,List.count_cons_self,List.count_nil] at this
    omega
   ·subst e'
    have:=cnt (b' : Int)
    have h1:=List.count_pos_iff.2 hx
    simp only [List.count_append,List.count_cons_self,List.count_nil] at this
    omega
  ·rcases List.mem_cons.1 hf0 with rfl | hf0
   ·have hno : (o : Int)∉(f : Int) :: s2++[((2 * E.length : Nat) : Int)]:=by
     intro hh
     rcases List.mem_append.1 hh with hh | hh
     ·exact ho (List.mem_append.2 (.inr hh))
     ·rw [List.mem_singleton] at hh; omega
    rw [if_neg hno,gI,e2,gI,bP,dV,bP,dV,t0,tA,kr (g:=g) (f:=t2) (fun x hx=>keep (hel2 x (by simp [hx])) (fun e'=>?_) (fun e'=>?_))]
    ·rw [e2,gI,bP,dV,tA0] at hY
     omega
    ·subst e'
     have:=cnt (a' : Int)
     have h1:=List.count_pos_iff.2 hx
     simp only [List.count_append,List.count_cons_self,List.count_nil] at this
     omega
    ·subst e'
     have:=cnt (b' : Int)
     have h1:=List.count_pos_iff.2 hx
     simp only [List.count_append,List.count_cons_self,List.count_nil] at this
     omega
   ·have hmem : f0∈a++((d : Int) :: s1++(f : Int) :: s2) :: b:=by
     rcases List.mem_append.1 hf0 with hf0 | hf0 <;> simp [hf0]
    rw [← hm.face f0 hmem]
    have dis : ∀ x∈f0,x∉(d : Int) :: s1++(f : Int) :: s2:=fun x hx hx2=>by
     have h1:=List.nodup_iff_count.1 h.fs.nodup x
     rw [dv] at h1
     have h2:=List.count_pos_iff.2 hx2
     rcases List.mem_append.1 hf0 with hf0 | hf0
     ·have:=List.count_pos_iff.2 (List.mem_flatten.2 ⟨f0,hf0,hx⟩); omega
     ·have:=List.count_pos_iff.2 (List.mem_flatten.2 ⟨f0,hf0,hx⟩); omega
    refine kr fun x hx=>keep ((h.fs.elem f0 hmem).2 x hx) (fun e'=>?_) (fun e'=>?_)
    ·subst e'; exact dis _ hx (by rw [e2]; simp)
    ·subst e'; exact dis _ hx (by rw [e1]; simp)
end
end Go.Vm

/-
 A face is divided at a reflex corner: what comes of it is again a plain shape.
-/
namespace Go.Vm
open Go.Proofs
set_option maxRecDepth 100000
attribute [local irreducible] aa
def Out (g : List Int) (o : Nat) (ps : List (List Int)) : Prop:=∀ f∈ps,(o : Int)∈f→∀ x∈f,tn g x=0∨tn g x=-1
def ex1 (x : Int) : Nat:=(x - 2).toNat
def exc (g : List Int) : Nat:=(g.map ex1).sum
section
variable {N : Nat} {E : List Arc} {A : List (List Int)} {nx : List Int} {ps : List (List Int)} {g : List Int} {o : Nat}
structure ExtD (E : List Arc) (to d : Nat) (e fr bk on a' : Nat) : Prop where
 he : e=to / 2
 hf : fr=if to % 2=0 then 2 * e else 2 * E.length+1
 hb : bk=if to % 2=0 then 2 * e+1 else 2 * E.length
 ho : on=if to % 2=0 then 2 * E.length else 2 * e+1
 ha : a'=if d=2 * e then 2 * E.length else d
theorem Out.split {e : Nat} (h : Sys N E A nx ps) (hm : Met E A g o ps) (ho : Out g o ps) (he : e < E.length) : Out (nC g e) (mvN e E.length o) (ps.map fun f=>f.flatMap (sig e E.length)):=by
 intro f hf hof x hx
 obtain ⟨f0,hf0,rfl⟩:=List.mem_map.1 hf
 have hel:=(h.fs.elem f0 hf0).2
 rw [zJ he hm.o2 hel] at hof
 obtain ⟨z,hz,hxz⟩:=List.mem_flatMap.1 hx
 obtain ⟨k,rfl,hk⟩:=hel z hz
 have h0:=ho f0 hf0 hof _ hz
 have hgl:=hm.glen
 by_cases c1 : k=2 * e
 ·subst c1
  unfold sig at hxz
  rw [if_pos rfl] at hxz
  simp only [tn,Int.toNat_natCast,cK] at h0
  simp only [List.mem_cons,List.not_mem_nil,or_false] at hxz
  rcases hxz with rfl | rfl
  ·left; simp only [tn,Int.toNat_natCast,cK]; rw [cY hgl he (by omega),if_pos rfl]; rfl
  ·simp only [tn,Int.toNat_natCast,cK]; rw [pQ hgl]; exact h0
 ·by_cases c2 : k=2 * e+1
  ·subst c2
   unfold sig at hxz
   rw [if_neg (by omega),if_pos rfl] at hxz
   simp only [tn,Int.toNat_natCast,cJ] at h0
   simp only [List.mem_cons,List.not_mem_nil,or_false] at hxz
   rcases hxz with rfl | rfl
   ·left; simp only [tn,Int.toNat_natCast,cJ]; rw [qD hgl]; rfl
   ·simp only [tn,Int.toNat_natCast,cJ]; rw [cY hgl he (by omega),if_neg (by omega)]; exact h0
  ·unfold sig at hxz
   rw [if_neg (by omega),if_neg (by omega)] at hxz
   rw [List.mem_singleton] at hxz
   subst hxz
   have : oth k≠2 * e+1:=fun e'=>c1 (ed (by rw [e',cK]))
   simp only [tn,Int.toNat_natCast] at h0 ⊢
   rw [cY hgl he (bd hk),if_neg this]; exact h0
end
end Go.Vm

/-
 The program's extension.
-/
namespace Go.Vm
open Go.Proofs
set_option maxRecDepth 100000
attribute [local irreducible] aa
theorem wl {α : Type} {l : List α} {i : Nat} {v : α} (h : l[i]?=some v) : l.set i v=l:=by
 refine List.ext_getElem? fun k=>?_
 rw [List.getElem?_set]
 split
 ·rename_i e
  subst e
  have:=(List.getElem?_eq_some_iff.1 h).1
  rw [if_pos this,h]
 ·rfl
section
variable {N : Nat} {E : List Arc} {A : List (List Int)} {nx : List Int} {ps : List (List Int)} {g : List Int} {o : Nat}
end
end Go.Vm

/-
 The program's loop: faces are divided till no inner face has a reflex corner.
-/
namespace Go.Vm
open Go.Proofs
set_option maxRecDepth 100000
attribute [local irreducible] aa
section
variable {N : Nat} {E : List Arc} {A : List (List Int)} {nx : List Int} {ps : List (List Int)} {g : List Int} {o : Nat}
structure ExtF (N : Nat) (E : List Arc) (A : List (List Int)) (g : List Int) (o : Nat) (nx : List Int) (next to e fr bk on a' x y u d : Nat) : Prop where
 sys : Sys N E A nx (ab nx)
 met : Met E A g o (ab nx)
 w : 3≤gN g (oth d)
 way : ∃ p,dm nx (next : Int) ((next : Int) :: p) (to : Int)∧tsm g ((next : Int) :: p)=gN g (oth d) - 1
 nd : nx[d]?=some ((next : Nat) : Int)
 to2 : to < 2 * E.length
 d2 : d < 2 * E.length
 ext : ExtD E to d e fr bk on a'
 sp : SplitOK N E A e x y
 un : u < N
 tu : tl E next=(u : Int)
 eo : EdgeOK (N+1) (cB E N e x y) (jk A e E.length y) (mvN e E.length next) on u N
 oa : oth a'=mvN e E.length (oth d)
 ofr : oth fr=bk
def exE (N : Nat) (E : List Arc) (e x y u : Nat) : List Arc:=cB E N e x y++[((u : Int),((N : Nat) : Int),())]
def exA (N : Nat) (E : List Arc) (A : List (List Int)) (e y u next on : Nat) : List (List Int):=jS (jk A e E.length y) u N (E.length+1) (mvN e E.length next) on
def exG (g : List Int) (d e fr a' : Nat) : List Int:=kL (nC g e) a' fr 2 (gN g (oth d) - 2) 1 1
def HQ (I : Nat→List Arc→List (List Int)→List Int→Nat→Prop) : Prop:=∀ N E A g o nx next to e fr bk on a' x y u d nx',ExtF N E A g o nx next to e fr bk on a' x y u d→Sys (N+1) (exE N E e x y u) (exA N E A e y u next on) nx' (ab nx') →
 Met (exE N E e x y u) (exA N E A e y u next on) (exG g d e fr a') (mvN e E.length o) (ab nx')→I N E A g o→I (N+1) (exE N E e x y u) (exA N E A e y u next on) (exG g d e fr a') (mvN e E.length o)
def emB (E : List Arc) : List ByteArray:=List.replicate (2 * E.length) ByteArray.empty
end
end Go.Vm


/-
 Plain shapes; a face is divided; the loop of the program.
-/
import Derived.Test.YtnnbdielbgljaaaDoorKD
import Derived.Test.YtnnbdielbgljaaaDoorKE
import Derived.Test.YtnnbdielbgljaaaDoorKF
set_option linter.unusedVariables false
set_option linter.unusedSimpArgs false
/-
 Plain shapes: what they are, however their faces are listed; they are valid.
-/
namespace Go.Vm
open Go.Proofs
set_option maxRecDepth 100000
attribute [local irreducible] ab
structure Sys (N : Nat) (E : List Arc) (A : List (List Int)) (nx : List Int) (ps : List (List Int)) : Prop where
 rot : RotOK (N : Nat) E A
 fol : Fol oth E A nx
 pos : 0 < N
 conn : jN N E
 ne : 0 < E.length
 fs : FsOK (2 * E.length) ps
 cyc : ∀ f∈ps,Cyc nx f
 num : N+ps.length=E.length+2
def tn (g : List Int) (d : Int) : Int:=2 - gN g (oth d.toNat)
def tsm (g : List Int) (f : List Int) : Int:=(f.map (tn g)).sum
structure Met (E : List Arc) (A : List (List Int)) (g : List Int) (o : Nat) (ps : List (List Int)) : Prop where
 glen : g.length=2 * E.length
 ang : ∀ k,k < 2 * E.length→1≤gN g k∧gN g k≤4
 vert : ∀ l∈A,l≠[]→(l.map fun d=>gN g d.toNat).sum=4
 o2 : o < 2 * E.length
 face : ∀ f∈ps,tsm g f=if (o : Int)∈f then -4 else 4
theorem FsOK.face_nodup {L : Nat} {ps : List (List Int)} (h : FsOK L ps) {f : List Int} (hf : f∈ps) : f.Nodup:=h.nodup.sublist (List.sublist_flatten_of_mem hf)
theorem jf {L : Nat} {nx : List Int} {ps qs : List (List Int)} (hp : FsOK L ps) (hq : FsOK L qs) (cp : ∀ f∈ps,Cyc nx f) (cq : ∀ f∈qs,Cyc nx f) {f : List Int} (hf : f∈ps) : ∃ f'∈qs,f.Perm f':=by
 obtain ⟨h1,h2⟩:=hp.elem f hf
 cases f with
 | nil=>exact absurd rfl h1
 | cons x s =>
  obtain ⟨k,rfl,hk⟩:=h2 x (by simp)
  obtain ⟨f',hf',hx⟩:=List.mem_flatten.1 (hq.cover k hk)
  refine ⟨f',hf',(List.perm_ext_iff_of_nodup (hp.face_nodup hf) (hq.face_nodup hf')).2 fun y=>⟨?_,?_⟩⟩
  ·exact uG (cp _ hf) (cq _ hf') (hp.nat _ hf) (x:=(k : Int)) (by simp) hx y
  ·exact uG (cq _ hf') (cp _ hf) (hq.nat _ hf') hx (x:=(k : Int)) (by simp) y
theorem D7 {a b : List Int} (h : a.Perm b) : a.sum=b.sum:=by
 induction h with
 | nil=>rfl
 | cons x _ ih=>simp [ih]
 | swap x y l=>simp only [List.sum_cons]; omega
 | trans _ _ h1 h2=>rw [h1,h2]
theorem sg {g f f' : List Int} (h : f.Perm f') : tsm g f=tsm g f':=D7 (h.map _)
theorem Met.move {E : List Arc} {A : List (List Int)} {g : List Int} {o : Nat} {nx : List Int} {ps qs : List (List Int)} (h : Met E A g o ps) (hp : FsOK (2 * E.length) ps) (hq : FsOK (2 * E.length) qs) (cp : ∀ f∈ps,Cyc nx f) (cq : ∀ f∈qs,Cyc nx f) : Met E A g o qs:=by
 refine ⟨h.glen,h.ang,h.vert,h.o2,fun f hf=>?_⟩
 obtain ⟨f',hf',hperm⟩:=jf hq hp cq cp hf
 rw [sg hperm,h.face f' hf']
 simp only [hperm.mem_iff]
section
variable {N : Nat} {E : List Arc} {A : List (List Int)} {nx : List Int} {ps : List (List Int)} {g : List Int} {o : Nat}
theorem Sys.std (h : Sys N E A nx ps) : Sys N E A nx (aa nx):=by
 obtain ⟨h1,h2⟩:=bJ h.rot h.fol
 exact ⟨h.rot,h.fol,h.pos,h.conn,h.ne,h1,h2,by rw [qr h1 h.fs h2 h.cyc]; exact h.num⟩
theorem Met.std (h : Met E A g o ps) (hs : Sys N E A nx ps) : Met E A g o (aa nx):=h.move hs.fs hs.std.fs hs.cyc hs.std.cyc
theorem F8 {L : Nat} {a b : List (List Int)} {p q : List Int} (h : FsOK L (a++(p++q) :: b)) : FsOK L (a++(q++p) :: b):=by
 refine ⟨fun f hf=>?_,?_,fun k hk=>?_,?_⟩
 ·rcases List.mem_append.1 hf with hf | hf
  ·exact h.elem f (by simp [hf])
  ·rcases List.mem_cons.1 hf with rfl | hf
   ·obtain ⟨h1,h2⟩:=h.elem (p++q) (by simp)
    refine ⟨?_,fun d hd=>h2 d ?_⟩
    ·intro e
     have e':=List.append_eq_nil_iff.1 e
     exact h1 (List.append_eq_nil_iff.2 ⟨e'.2,e'.1⟩)
    ·rw [List.mem_append] at hd ⊢; exact hd.symm
   ·exact h.elem f (by simp [hf])
 ·have:=h.nodup
  rw [List.nodup_iff_count] at this ⊢
  intro x
  have:=this x
  simp only [List.flatten_append,List.flatten_cons,List.count_append] at this ⊢
  omega
 ·have:=h.cover k hk
  simp only [List.flatten_append,List.flatten_cons,List.mem_append] at this ⊢
  rcases this with h | (h | h) | h
  ·exact .inl h
  ·exact .inr (.inl (.inr h))
  ·exact .inr (.inl (.inl h))
  ·exact .inr (.inr h)
 ·have:=h.num; simpa using this
theorem Sys.rotate {a b : List (List Int)} {p q : List Int} (h : Sys N E A nx (a++(p++q) :: b)) : Sys N E A nx (a++(q++p) :: b):=by
 refine ⟨h.rot,h.fol,h.pos,h.conn,h.ne,F8 h.fs,fun f hf=>?_,by have:=h.num; simpa using this⟩
 rcases List.mem_append.1 hf with hf | hf
 ·exact h.cyc f (by simp [hf])
 ·rcases List.mem_cons.1 hf with rfl | hf
  ·exact dP (h.cyc (p++q) (by simp))
  ·exact h.cyc f (by simp [hf])
theorem Sys.has (h : Sys N E A nx ps) {v : Nat} (hv : v < N) : ∃ d,d < 2 * E.length∧tln E d=v:=vK h.rot h.conn h.ne hv
theorem yc (h : RotOK (N : Nat) E A) (hN : 0 < N) (hc : jN N E) : comps N E=1:=by
 have h1:=tg h hN hc
 rw [sV h] at h1
 simp at h1
 omega
theorem Sys.emp0 (h : Sys N E A nx ps) : emp A=0:=by
 unfold emp
 rw [List.countP_eq_zero]
 intro l hl
 obtain ⟨v,hv⟩:=List.mem_iff_getElem?.1 hl
 have hvl:=(List.getElem?_eq_some_iff.1 hv).1
 obtain ⟨d,hd,he⟩:=h.has (v:=v) (by have:=h.rot.al; omega)
 obtain ⟨l',q1,_,_,_,q2⟩:=nv h.rot (v:=v) (by have:=h.rot.al; omega)
 rw [hv] at q1
 cases q1
 have:=(q2 d hd).1 he
 cases l with
 | nil=>cases this
 | cons _ _=>simp
theorem Sys.genus (h : Sys N E A nx ps) : Zaw (((N : Int),E,A,()),())=some (0,()):=by
 rw [(Ay h.rot h.fol).1]
 have h1:=yc h.rot h.pos h.conn
 have h2:=h.emp0
 have h3:=h.std.num
 have hm:=h.rot.m1
 unfold uB
 rw [h1,h2]
 have e : (N : Int) - E.length+((aa nx).length+0 : Nat)=((2 : Nat) : Int):=by omega
 rw [e,Ap (by omega)]
 rfl
theorem lb (n k : Nat) : at0 (List.replicate n ByteArray.empty) k=ByteArray.empty:=by
 unfold at0
 rw [List.getD_eq_getElem?_getD,List.getElem?_replicate]
 split <;> rfl
theorem Met.good (hr : RotOK (N : Nat) E A) (h : Met E A g o ps) : ∀ k,k < 2 * E.length→∃ a,g[k]?=some a∧1≤a∧a≤4:=fun k hk=>by
 have:=h.ang k hk
 refine ⟨gN g k,?_,this.1,this.2⟩
 unfold gN
 rw [List.getD_eq_getElem?_getD,List.getElem?_eq_getElem (by rw [h.glen]; exact hk)]; rfl
theorem Met.turnOK (hr : RotOK (N : Nat) E A) (h : Met E A g o ps) : TurnOK g (List.replicate (2 * E.length) ByteArray.empty) (2 * E.length):=by
 have:=hr.m1
 refine ⟨by omega,h.glen,by simp,fun k hk=>ay hk,h.good hr,fun k _=>?_⟩
 rw [lb]; rfl
theorem xf (f : Int→Int) : ∀ l : List Int,vd f l=(l.map f).sum
 | []=>rfl
 | d :: l=>by simp [vd,xf f l]
theorem Sys.valid (h : Sys N E A nx ps) (hm : Met E A g o ps) : Zbt ((((N : Int),E,A,()),g,List.replicate (2 * E.length) ByteArray.empty,(o : Int),()),())=some (true,()):=by
 have hs:=h.std
 have hms:=hm.std h
 have hm1:=h.rot.m1
 have ho:=hm.o2
 have gl : ∀ l∈A,DO g l:=fun l hl d hd=>by
  obtain ⟨k,rfl,hk⟩:=h.rot.mem_of hl hd
  exact ⟨k,rfl,hm.good h.rot k hk⟩
 refine DV h.rot h.rot.lists h.pos h.conn h.genus (hm.turnOK h.rot) (by omega) (.inl (by omega)) ?_ ?_ (i0 h.rot h.fol).1 ?_ ?_
 ·refine zd g A 0 fun l hl j=>?_
  have hll:=h.rot.list_len hl
  rw [yo g l j (gl l hl) (by omega),xf]
  cases l with
  | nil=>rfl
  | cons d l =>
   have:=hm.vert (d :: l) hl (by simp)
   unfold gN at this
   rw [this,bn rfl,Bool.and_false]; rfl
 ·rw [eC]
  intro k _ _
  unfold gQ
  rw [lb,lb]
  have e1 : gL ByteArray.empty=true:=rfl
  have e2 : rev ByteArray.empty=ByteArray.empty:=rfl
  rw [e1,e2,Dw]; rfl
 ·refine ⟨by have:=hs.fs.num; omega,fun f hf=>⟨by have:=hs.fs.flen (by omega) f hf; omega,(hs.fs.elem f hf).2⟩⟩
 ·unfold cA
  rw [List.all_eq_true]
  intro f hf
  unfold fA
  rw [mW (L:=2 * E.length) (fun k _=>by rw [lb]; rfl) (hs.fs.elem f hf).2]
  have:=hms.face f hf
  unfold tsm tn at this
  rw [this]
  unfold inB
  by_cases c : (o : Int)∈f
  ·simp [c,eqI]
  ·simp [c,eqI]
theorem Sys.valids (h : Sys N E A nx ps) (hm : Met E A g o ps) : Zbq ((((N : Int),E,A,()),g,List.replicate (2 * E.length) ByteArray.empty,(o : Int),()),())=some (0,())∧Zt ((((N : Int),E,A,()),g,List.replicate (2 * E.length) ByteArray.empty,(o : Int),()),())=some (0,()):=by
 have hv:=h.valid hm
 obtain ⟨b,v1,v2,_⟩:=wA (N : Int) E A g (List.replicate (2 * E.length) ByteArray.empty) (o : Int) h.rot.lists
 rw [hv] at v1
 cases v1
 refine ⟨?_,v2⟩
 unfold Zbq
 simp only
 rw [hv]; rfl
theorem ShapeOK.sys {B : List ByteArray} {o : Int} (h : ShapeOK N E A g B o nx) (hE : 0 < E.length) (hb : ∀ k,k < 2 * E.length→(at0 B k).size=0) : Sys N E A nx (aa nx)∧Met E A g o.toNat (aa nx)∧o=(o.toNat : Int):=by
 obtain ⟨h1,h2⟩:=bJ h.rot h.folOK
 have h0:=h.out0
 have h3:=h.out1
 refine ⟨⟨h.rot,h.folOK,h.pos,h.conn,hE,h1,h2,pk h hE hb⟩,⟨h.turn.glen,nX h,fun l hl hne=>ot h hl hne,by omega,fun f hf=>?_⟩,by omega⟩
 have hc:=h.chk
 unfold cA at hc
 rw [List.all_eq_true] at hc
 have:=hc f hf
 unfold fA at this
 rw [mW (L:=2 * E.length) hb (h1.elem f hf).2] at this
 simp only [eqI,beq_iff_eq] at this
 unfold tsm tn
 rw [this]
 unfold inB
 rw [show ((o.toNat : Nat) : Int)=o by omega]
 by_cases c : o∈f
 ·simp [c]
 ·simp [c]
end
end Go.Vm

/-
 A new vertex on an edge, a new edge within a face: the faces' lists.
-/
namespace Go.Vm
open Go.Proofs
set_option maxRecDepth 100000
attribute [local irreducible] ab
theorem BR {L d f : Nat} {nx nx' : List Int} {a b : List (List Int)} {s1 s2 : List Int} (hf : FsOK L (a++((d : Int) :: s1++(f : Int) :: s2) :: b)) (cf : ∀ g∈a++((d : Int) :: s1++(f : Int) :: s2) :: b,Cyc nx g) (hinj : Inj nx)
  (na : nx'[L]?=some (f : Int)) (nb : nx'[L+1]?=some (d : Int))
  (old : ∀ k,k < L→(nx[k]?=some (d : Int)→nx'[k]?=some (L : Int))∧(nx[k]?=some (f : Int)→nx'[k]?=some ((L+1 : Nat) : Int))∧(nx[k]?≠some (d : Int)→nx[k]?≠some (f : Int)→nx'[k]?=nx[k]?)) :
  FsOK (L+2) (((d : Int) :: s1++[((L+1 : Nat) : Int)]) :: ((f : Int) :: s2++[(L : Int)]) :: (a++b))∧∀ h∈(((d : Int) :: s1++[((L+1 : Nat) : Int)]) :: ((f : Int) :: s2++[(L : Int)]) :: (a++b)),Cyc nx' h:=by
 have hgm : ((d : Int) :: s1++(f : Int) :: s2)∈a++((d : Int) :: s1++(f : Int) :: s2) :: b:=by simp
 have hd : (d : Int)∈(d : Int) :: s1++(f : Int) :: s2:=by simp
 have hfg : (f : Int)∈(d : Int) :: s1++(f : Int) :: s2:=by simp
 have hgel:=(hf.elem _ hgm).2
 have hgnd : ((d : Int) :: s1++(f : Int) :: s2).Nodup:=hf.nodup.sublist (List.sublist_flatten_of_mem hgm)
 have hc : Cyc nx ((d : Int) :: s1++(f : Int) :: s2):=cf _ hgm
 have hcount : ∀ x : Int,((d : Int) :: s1++(f : Int) :: s2).count x=((d : Int) :: s1).count x+((f : Int) :: s2).count x:=fun x=>List.count_append
 have hone : ∀ x : Int,((d : Int) :: s1).count x+((f : Int) :: s2).count x≤1:=fun x=>by
  rw [← hcount]; exact List.nodup_iff_count.1 hgnd x
 have hsub1 : ∀ x∈(d : Int) :: s1,x∈(d : Int) :: s1++(f : Int) :: s2:=fun x hx=>by
  have:=List.count_pos_iff.2 hx
  exact List.count_pos_iff.1 (by rw [hcount]; omega)
 have hsub2 : ∀ x∈(f : Int) :: s2,x∈(d : Int) :: s1++(f : Int) :: s2:=fun x hx=>by
  have:=List.count_pos_iff.2 hx
  exact List.count_pos_iff.1 (by rw [hcount]; omega)
 have hdis : ∀ x∈(d : Int) :: s1,x∉(f : Int) :: s2:=fun x h1 h2=>by
  have:=List.count_pos_iff.2 h1; have:=List.count_pos_iff.2 h2; have:=hone x; omega
 obtain ⟨y,h1,h2⟩:=cB (f:=(d : Int) :: s1) (g:=(f : Int) :: s2).1 (bK hc)
 have : (f : Int)=y:=h2.1
 subst this
 have nat1 : ∀ x∈(d : Int) :: s1,∃ k : Nat,x=(k : Int)∧k < L:=fun x hx=>hgel x (hsub1 x hx)
 have nat2 : ∀ x∈(f : Int) :: s2,∃ k : Nat,x=(k : Int)∧k < L:=fun x hx=>hgel x (hsub2 x hx)
 have inj : ∀ x y : Int,(∃ k : Nat,x=(k : Int)∧k < L)→(∃ k : Nat,y=(k : Int)∧k < L)→∀ z : Int,nx[x.toNat]?=some z→nx[y.toNat]?=some z→x=y:=by
  rintro x y ⟨k,rfl,_⟩ ⟨k',rfl,_⟩ z e1 e2
  have:=hinj _ _ _ e1 e2
  simp at this
  omega
 have last1:=iY h1 (by simp)
 have last2:=iY h2 (by simp)
 have t1 : dd nx' (d : Int) ((d : Int) :: s1) ((L+1 : Nat) : Int):=by
  refine gD h1 (by simp) (fun hm=>hdis _ (List.mem_of_mem_tail hm) (by simp)) fun y hy=>?_
  obtain ⟨k,rfl,hk⟩:=nat1 y hy
  rw [Int.toNat_natCast]
  refine ⟨(old k hk).2.1,fun hne=>(old k hk).2.2 (fun hd2=>?_) hne⟩
  obtain ⟨w,w1,w2⟩:=last2
  have:=inj (k : Int) w ⟨k,rfl,hk⟩ (nat2 w w1) _ (by simpa using hd2) w2
  subst this
  exact hdis _ hy w1
 have t2 : dd nx' (f : Int) ((f : Int) :: s2) (L : Int):=by
  refine gD h2 (by simp) (fun hm=>hdis _ (by simp) (List.mem_of_mem_tail hm)) fun y hy=>?_
  obtain ⟨k,rfl,hk⟩:=nat2 y hy
  rw [Int.toNat_natCast]
  refine ⟨(old k hk).1,fun hne=>(old k hk).2.2 hne (fun hd2=>?_)⟩
  obtain ⟨w,w1,w2⟩:=last1
  have:=inj (k : Int) w ⟨k,rfl,hk⟩ (nat1 w w1) _ (by simpa using hd2) w2
  subst this
  exact hdis _ w1 hy
 have c1 : Cyc nx' ((d : Int) :: s1++[((L+1 : Nat) : Int)]):=dn (x:=(d : Int)) (cB.2 ⟨_,t1,rfl,(d : Int),by simpa using nb,rfl⟩) (by simp)
 have c2 : Cyc nx' ((f : Int) :: s2++[(L : Int)]):=dn (x:=(f : Int)) (cB.2 ⟨_,t2,rfl,(f : Int),by simpa using na,rfl⟩) (by simp)
 have flat : ∀ x : Int,((((d : Int) :: s1++[((L+1 : Nat) : Int)]) :: ((f : Int) :: s2++[(L : Int)]) :: (a++b)).flatten).count x=(a++((d : Int) :: s1++(f : Int) :: s2) :: b).flatten.count x+[(L : Int),((L+1 : Nat) : Int)].count x:=by
  intro x
  rw [cP,hcount]
  simp only [List.flatten_cons,List.count_append,List.flatten_append,List.count_cons,List.count_nil]
  omega
 have small : ∀ x∈(a++((d : Int) :: s1++(f : Int) :: s2) :: b).flatten,∃ k : Nat,x=(k : Int)∧k < L:=fun x hx=>by
  obtain ⟨l,hl,hxl⟩:=List.mem_flatten.1 hx
  exact (hf.elem l hl).2 x hxl
 have other : ∀ h∈a++b,h∈a++((d : Int) :: s1++(f : Int) :: s2) :: b∧∀ x∈h,x∉(d : Int) :: s1++(f : Int) :: s2:=by
  intro h hh
  have hhm : h∈a++((d : Int) :: s1++(f : Int) :: s2) :: b:=by simp at hh ⊢; rcases hh with hh | hh <;> simp [hh]
  refine ⟨hhm,fun x hx hx2=>?_⟩
  have h1:=List.nodup_iff_count.1 hf.nodup x
  rw [cP] at h1
  have h2:=List.count_pos_iff.2 hx2
  rcases List.mem_append.1 hh with hh | hh
  ·have:=List.count_pos_iff.2 (List.mem_flatten.2 ⟨h,hh,hx⟩); omega
  ·have:=List.count_pos_iff.2 (List.mem_flatten.2 ⟨h,hh,hx⟩); omega
 refine ⟨⟨?_,?_,?_,?_⟩,?_⟩
 ·intro h hh
  rcases List.mem_cons.1 hh with rfl | hh
  ·refine ⟨by simp,fun x hx=>?_⟩
   rcases List.mem_append.1 hx with hx | hx
   ·obtain ⟨k,e,hk⟩:=nat1 x hx; exact ⟨k,e,by omega⟩
   ·rw [List.mem_singleton] at hx; exact ⟨L+1,hx,by omega⟩
  ·rcases List.mem_cons.1 hh with rfl | hh
   ·refine ⟨by simp,fun x hx=>?_⟩
    rcases List.mem_append.1 hx with hx | hx
    ·obtain ⟨k,e,hk⟩:=nat2 x hx; exact ⟨k,e,by omega⟩
    ·rw [List.mem_singleton] at hx; exact ⟨L,hx,by omega⟩
   ·obtain ⟨e1,e2⟩:=hf.elem h (other h hh).1
    exact ⟨e1,fun x hx=>by obtain ⟨k,e,hk⟩:=e2 x hx; exact ⟨k,e,by omega⟩⟩
 ·rw [List.nodup_iff_count]
  intro x
  rw [flat]
  have h1:=List.nodup_iff_count.1 hf.nodup x
  simp only [List.count_cons,List.count_nil,beq_iff_eq]
  by_cases hx : x∈(a++((d : Int) :: s1++(f : Int) :: s2) :: b).flatten
  ·obtain ⟨k,rfl,hk⟩:=small x hx
   rw [if_neg (by omega),if_neg (by omega)]; omega
  ·rw [List.count_eq_zero.2 hx]
   split <;> split <;> omega
 ·intro k hk
  have : 0 < ((((d : Int) :: s1++[((L+1 : Nat) : Int)]) :: ((f : Int) :: s2++[(L : Int)]) :: (a++b)).flatten).count (k : Int):=by
   rw [flat]
   rcases Nat.lt_or_ge k L with h | h
   ·have:=List.count_pos_iff.2 (hf.cover k h); omega
   ·have hin : (k : Int)∈[(L : Int),((L+1 : Nat) : Int)]:=by
     simp; omega
    have:=List.count_pos_iff.2 hin; omega
  exact List.count_pos_iff.1 this
 ·have:=hf.num
  simp only [List.length_cons,List.length_append] at this ⊢
  omega
 ·intro h hh
  rcases List.mem_cons.1 hh with rfl | hh
  ·exact c1
  ·rcases List.mem_cons.1 hh with rfl | hh
   ·exact c2
   ·obtain ⟨hm,hdj⟩:=other h hh
    have hcy:=cf h hm
    have hne:=hcy.1
    cases h with
    | nil=>exact absurd rfl hne
    | cons x h =>
     refine dn (kZ (bK hcy) fun y hy=>?_) (by simp)
     obtain ⟨k,rfl,hk⟩:=(hf.elem _ hm).2 y hy
     rw [Int.toNat_natCast]
     refine (old k hk).2.2 (fun e=>?_) (fun e=>?_)
     ·exact hdj _ (c9 hcy hy e) hd
     ·exact hdj _ (c9 hcy hy e) hfg
section
variable {N : Nat} {E : List Arc} {A : List (List Int)} {nx : List Int} {ps : List (List Int)} {g : List Int} {o : Nat}
theorem Sys.split {e x y : Nat} (h : Sys N E A nx ps) (hs : SplitOK N E A e x y) : ∃ nx',Sys (N+1) (bq E N e x y) (eI A e E.length y) nx' (ps.map fun f=>f.flatMap (sig e E.length)):=by
 have he:=hs.he
 have hr':=hs.rot'
 obtain ⟨nx',_,hn'⟩:=iJ hr' ()
 have hf:=h.fs
 have cf:=h.cyc
 have hlen : (bq E N e x y).length=E.length+1:=cD
 obtain ⟨n0,n1,n2,n3⟩:=hs.next h.fol hn'
 have hel : ∀ d∈ps.flatten,∃ k : Nat,d=(k : Int)∧k < 2 * E.length:=fun d hd=>by
  obtain ⟨l,hl,hdl⟩:=List.mem_flatten.1 hd
  exact (hf.elem l hl).2 d hdl
 obtain ⟨c1,c2,c3⟩:=ls he hel
 have hone:=List.nodup_iff_count.1 hf.nodup
 have hg : FsOK (2 * (E.length+1)) (ps.map fun f=>f.flatMap (sig e E.length)):=by
  refine ⟨?_,?_,?_,?_⟩
  ·intro g hg
   obtain ⟨f,hfm,rfl⟩:=List.mem_map.1 hg
   obtain ⟨q1,q2⟩:=hf.elem f hfm
   refine ⟨?_,fun d hd=>?_⟩
   ·cases f with
    | nil=>exact absurd rfl q1
    | cons a s =>
     rw [List.flatMap_cons]
     unfold sig
     split
     ·simp
     ·split <;> simp
   ·obtain ⟨k,e1,e2⟩:=ny he q2 d hd
    exact ⟨k,e1,by omega⟩
  ·rw [kg,List.nodup_iff_count]
   intro z
   by_cases hz : z∈ps.flatten.flatMap (sig e E.length)
   ·obtain ⟨k,rfl,hk⟩:=ny he hel z hz
    rcases Nat.lt_or_ge k (2 * E.length) with c | c
    ·rw [c1 k c]; exact hone _
    ·by_cases c4 : k=2 * E.length
     ·subst c4; rw [c2]; exact hone _
     ·have : k=2 * E.length+1:=by omega
      subst this; rw [c3]; exact hone _
   ·rw [List.count_eq_zero.2 hz]; omega
  ·intro k hk
   rw [kg]
   refine List.count_pos_iff.1 ?_
   rcases Nat.lt_or_ge k (2 * E.length) with c | c
   ·rw [c1 k c]; exact List.count_pos_iff.2 (hf.cover k c)
   ·by_cases c4 : k=2 * E.length
    ·subst c4; rw [c2]; exact List.count_pos_iff.2 (hf.cover _ (by omega))
    ·have : k=2 * E.length+1:=by omega
     subst this; rw [c3]; exact List.count_pos_iff.2 (hf.cover _ (by omega))
  ·have:=hf.num
   rw [List.length_map]; omega
 refine ⟨nx',hr',hn',by omega,?_,by rw [hlen]; omega,by rw [hlen]; exact hg,?_,by rw [List.length_map,hlen]; have:=h.num; omega⟩
 ·intro v hv
  have hx0 : Reach (bq E N e x y) 0 x:=(hs.reach h.pos hs.xn).2 (h.conn x hs.xn)
  by_cases c : v < N
  ·exact (hs.reach h.pos c).2 (h.conn v c)
  ·have : v=N:=by omega
   subst this
   exact hx0.trans hs.toN
 ·intro g hgm
  obtain ⟨f,hfm,rfl⟩:=List.mem_map.1 hgm
  have hc:=cf f hfm
  cases f with
  | nil=>exact absurd rfl hc.1
  | cons a s =>
   exact dn (rK n0 n1 n2 n3 he (hf.elem _ hfm).2 (bK hc)) ((hg.elem _ hgm).1)
theorem Sys.edgeOK {a b : List (List Int)} {s1 s2 : List Int} {d f u v : Nat} (h : Sys N E A nx (a++((d : Int) :: s1++(f : Int) :: s2) :: b)) (hu : tl E d=u) (hv : tl E f=v) (hne : u≠v) (hm : E.length < 32768) : EdgeOK N E A d f u v:=by
 have hgm : ((d : Int) :: s1++(f : Int) :: s2)∈a++((d : Int) :: s1++(f : Int) :: s2) :: b:=by simp
 have hd2 : d < 2 * E.length:=by
  obtain ⟨k,e,hk⟩:=(h.fs.elem _ hgm).2 (d : Int) (by simp)
  omega
 have hf2 : f < 2 * E.length:=by
  obtain ⟨k,e,hk⟩:=(h.fs.elem _ hgm).2 (f : Int) (by simp)
  omega
 have hs:=h.std
 obtain ⟨f',hf',hp⟩:=jf h.fs hs.fs h.cyc hs.cyc hgm
 obtain ⟨j,hj⟩:=List.mem_iff_getElem?.1 hf'
 obtain ⟨u',eu,hu'⟩:=h.rot.tl_lt hd2
 obtain ⟨v',ev,hv'⟩:=h.rot.tl_lt hf2
 rw [hu] at eu
 rw [hv] at ev
 exact ⟨h.rot,h.rot.validB,hd2,hf2,hu,hv,by omega,by omega,hne,hm,nx,h.fol,Fol.nxOK h.rot h.fol,hs.fs,(j : Int),jy hs.fs hj (hp.mem_iff.1 (by simp)),jy hs.fs hj (hp.mem_iff.1 (by simp))⟩
theorem Sys.edge {a b : List (List Int)} {s1 s2 : List Int} {d f u v : Nat} (h : Sys N E A nx (a++((d : Int) :: s1++(f : Int) :: s2) :: b)) (he : EdgeOK N E A d f u v) :
  ∃ nx',Sys N (E++[((u : Int),(v : Int),())]) (eY A u v E.length d f) nx' (((d : Int) :: s1++[((2 * E.length+1 : Nat) : Int)]) :: ((f : Int) :: s2++[((2 * E.length : Nat) : Int)]) :: (a++b)):=by
 have hr':=he.rot'
 obtain ⟨nx',_,hn'⟩:=iJ hr' ()
 have hN:=he.next h.fol hn'
 have hlen : (E++[((u : Int),(v : Int),())]).length=E.length+1:=by simp
 obtain ⟨q1,q2⟩:=BR h.fs h.cyc (iK h.rot h.fol) hN.a hN.b hN.old
 refine ⟨nx',hr',hn',h.pos,fun w hw=>ju (h.conn w hw),by rw [hlen]; omega,by rw [hlen]; exact q1,q2,?_⟩
 have:=h.num
 simp only [List.length_cons,List.length_append,List.length_nil] at this ⊢
 omega
end
end Go.Vm

/-
 A new vertex on an edge, a new edge within a face: the angles.
-/
namespace Go.Vm
open Go.Proofs
set_option maxRecDepth 100000
attribute [local irreducible] ab
theorem bZ {a b : Nat} (h : oth a=oth b) : a=b:=by rw [← bt a,h,bt]
theorem p9 {g : List Int} {i k : Nat} {v : Int} (hi : i < g.length) : gN (g.set i v) k=if k=i then v else gN g k:=by
 unfold gN
 rw [List.getD_eq_getElem?_getD,List.getD_eq_getElem?_getD,List.getElem?_set]
 by_cases h : i=k
 ·subst h; simp [hi]
 ·rw [if_neg h,if_neg (fun e=>h e.symm)]
theorem kL {g r : List Int} {k : Nat} : gN (g++r) k=if k < g.length then gN g k else gN r (k - g.length):=by
 unfold gN
 rw [List.getD_eq_getElem?_getD,List.getD_eq_getElem?_getD,List.getD_eq_getElem?_getD,List.getElem?_append]
 split <;> rfl
theorem dy {g : List Int} {p q : List Int} : tsm g (p++q)=tsm g p+tsm g q:=by simp [tsm]
theorem bd {g : List Int} {x : Int} {q : List Int} : tsm g (x :: q)=tn g x+tsm g q:=by simp [tsm]
theorem b8 {g : List Int} : tsm g []=0:=rfl
theorem gz {g g' : List Int} : ∀ {f : List Int},(∀ x∈f,tn g' x=tn g x)→tsm g' f=tsm g f
 | [],_=>rfl
 | x :: f,h=>by rw [bd,bd,h x (by simp),gz fun y hy=>h y (by simp [hy])]
theorem gB {F F' : Int→Int} : ∀ {l : List Int},(∀ x∈l,F' x=F x)→(l.map F').sum=(l.map F).sum
 | [],_=>rfl
 | x :: l,h=>by simp only [List.map_cons,List.sum_cons]; rw [h x (by simp),gB fun y hy=>h y (by simp [hy])]
theorem py {F F' : Int→Int} {c : Int} : ∀ {l : List Int},l.Nodup→c∈l→(∀ x∈l,x≠c→F' x=F x)→(l.map F').sum=(l.map F).sum+(F' c - F c)
 | [],_,h,_=>by cases h
 | x :: l,hn,hc,h=>by
  rw [List.nodup_cons] at hn
  simp only [List.map_cons,List.sum_cons]
  rcases List.mem_cons.1 hc with rfl | hc
  ·rw [gB (F:=F) (F':=F') fun y hy=>h y (by simp [hy]) (fun e=>hn.1 (e ▸ hy))]; omega
  ·rw [py hn.2 hc fun y hy=>h y (by simp [hy]),h x (by simp) (fun e=>hn.1 (e ▸ hc))]; omega
theorem ua {F : Int→Int} {l : List Int} {z f : Int} (hn : l.Nodup) (hf : f∈l) : ((bef l z f).map F).sum=(l.map F).sum+F z:=by
 obtain ⟨p,q,rfl⟩:=List.append_of_mem hf
 have hp : f∉p:=fun h=>by
  have:=List.nodup_append.1 hn
  exact this.2.2 f h f (by simp) rfl
 have hq : f∉q:=fun h=>by
  have:=(List.nodup_append.1 hn).2.1
  rw [List.nodup_cons] at this
  exact this.1 h
 rw [eE _ _ _ _ hp hq]
 simp only [List.map_append,List.map_cons,List.sum_append,List.sum_cons]
 omega
theorem cJ {nx : List Int} {p q : List Int} {z y : Int} (h : Cyc nx (p++z :: y :: q)) : nx[z.toNat]?=some y:=by
 have:=h.2 p.length (by simp)
 rw [List.getElem_append_right (Nat.le_refl _)] at this
 simp only [Nat.sub_self,List.getElem_cons_zero] at this
 rw [this]
 congr 1
 have hl : (p.length+1) % (p++z :: y :: q).length=p.length+1:=Nat.mod_eq_of_lt (by simp)
 rw [hl,List.getD_eq_getElem?_getD,List.getElem?_append_right (by omega),show p.length+1 - p.length=1 by omega]
 rfl
theorem gX {nx : List Int} {s : List Int} {x z : Int} (h : Cyc nx (x :: s++[z])) : nx[z.toNat]?=some x:=by
 have h' : Cyc nx ([z]++(x :: s)):=dP (p:=x :: s) (q:=[z]) h
 exact cJ (p:=[]) h'
section
variable {N : Nat} {E : List Arc} {A : List (List Int)} {nx : List Int} {ps : List (List Int)} {g : List Int} {o : Nat}
def bh (g : List Int) (e : Nat) : List Int:=g.set (2 * e+1) 2++[2,gN g (2 * e+1)]
def mvN (e m o : Nat) : Nat:=if o=2 * e+1 then 2 * m+1 else o
theorem bR {e m k : Nat} (hg : g.length=2 * m) (he : e < m) (hk : k < 2 * m) : gN (bh g e) k=if k=2 * e+1 then 2 else gN g k:=by
 unfold bh
 rw [kL,List.length_set,if_pos (by omega),p9 (by omega)]
theorem ku {e m : Nat} (hg : g.length=2 * m) : gN (bh g e) (2 * m)=2:=by
 unfold bh
 rw [kL,List.length_set,if_neg (by omega),hg,Nat.sub_self]; rfl
theorem jX {e m : Nat} (hg : g.length=2 * m) : gN (bh g e) (2 * m+1)=gN g (2 * e+1):=by
 unfold bh
 rw [kL,List.length_set,if_neg (by omega),hg,show 2 * m+1 - 2 * m=1 by omega]; rfl
theorem vh {e m : Nat} (hg : g.length=2 * m) (he : e < m) : ∀ {f : List Int},(∀ d∈f,∃ k : Nat,d=(k : Int)∧k < 2 * m)→tsm (bh g e) (f.flatMap (sig e m))=tsm g f
 | [],_=>rfl
 | d :: f,h=>by
  rw [List.flatMap_cons,dy,bd,vh hg he fun x hx=>h x (by simp [hx])]
  congr 1
  obtain ⟨k,rfl,hk⟩:=h d (by simp)
  by_cases c1 : k=2 * e
  ·subst c1
   unfold sig
   rw [if_pos rfl]
   simp only [bd,b8,tn,Int.toNat_natCast,dg]
   rw [bR hg he (by omega),if_pos rfl,jX hg]; omega
  ·by_cases c2 : k=2 * e+1
   ·subst c2
    unfold sig
    rw [if_neg (by omega),if_pos rfl]
    simp only [bd,b8,tn,Int.toNat_natCast,dw]
    rw [ku hg,bR hg he (by omega),if_neg (by omega)]; omega
   ·unfold sig
    rw [if_neg (by omega),if_neg (by omega)]
    simp only [bd,b8,tn,Int.toNat_natCast]
    have : oth k≠2 * e+1:=fun e'=>c1 (bZ (by rw [e',dg]))
    rw [bR hg he (ay hk),if_neg this]; omega
theorem uS {e m o : Nat} (he : e < m) (ho : o < 2 * m) {f : List Int} (hf : ∀ d∈f,∃ k : Nat,d=(k : Int)∧k < 2 * m) : ((mvN e m o : Nat) : Int)∈f.flatMap (sig e m)↔(o : Int)∈f:=by
 rw [List.mem_flatMap]
 constructor
 ·rintro ⟨z,hz,h⟩
  obtain ⟨k,rfl,hk⟩:=hf z hz
  have : k=o:=by
   unfold sig mvN at h
   split at h <;> split at h <;> first | (split at h <;> simp at h <;> omega) | (simp at h <;> omega)
  subst this
  exact hz
 ·intro h
  refine ⟨_,h,?_⟩
  unfold sig mvN
  split <;> split <;> first | (split <;> simp <;> omega) | (simp <;> omega)
theorem Met.split {e x y : Nat} (h : Sys N E A nx ps) (hm : Met E A g o ps) (hs : SplitOK N E A e x y) : Met (bq E N e x y) (eI A e E.length y) (bh g e) (mvN e E.length o) (ps.map fun f=>f.flatMap (sig e E.length)):=by
 have he:=hs.he
 have hgl:=hm.glen
 have ho:=hm.o2
 have hlen : (bq E N e x y).length=E.length+1:=cD
 have hyl : y < A.length:=by have:=hs.al; have:=hs.yn; omega
 refine ⟨by unfold bh; simp [hgl,hlen]; omega,fun k hk=>?_,fun l hl hne=>?_,by rw [hlen]; unfold mvN; split <;> omega,fun f hf=>?_⟩
 ·rw [hlen] at hk
  rcases Nat.lt_or_ge k (2 * E.length) with c | c
  ·rw [bR hgl he c]
   split
   ·omega
   ·exact hm.ang k c
  ·rcases Nat.eq_or_lt_of_le c with c | c
   ·rw [← c,ku hgl]; omega
   ·have : k=2 * E.length+1:=by omega
    subst this
    rw [jX hgl]
    exact hm.ang _ (by omega)
 ·obtain ⟨w,hw⟩:=List.mem_iff_getElem?.1 hl
  rw [eN hyl w] at hw
  have other : ∀ {w : Nat} {l : List Int},A[w]?=some l→w≠y→(l.map fun d=>gN (bh g e) d.toNat).sum=(l.map fun d=>gN g d.toNat).sum:=fun {w l} hw hwy=>by
   refine gB fun d hd=>?_
   obtain ⟨k,rfl,hk,ht⟩:=h.rot.dart w l hw d hd
   rw [Int.toNat_natCast,bR hgl he hk,if_neg]
   rintro rfl
   rw [hs.tl1] at ht
   omega
  by_cases c : w=y
  ·subst c
   rw [if_pos rfl] at hw
   cases hw
   have hAy:=List.getElem?_eq_getElem hyl
   have hsub:=aT hyl
   rw [hsub]
   have hne' : A[w]≠[]:=fun e'=>hne (by rw [hsub,e']; rfl)
   rw [← hm.vert A[w] (List.getElem_mem hyl) hne']
   unfold sC
   rw [List.map_map]
   refine gB fun d hd=>?_
   obtain ⟨k,rfl,hk,ht⟩:=h.rot.dart w _ hAy d hd
   simp only [Function.comp_apply]
   unfold du
   by_cases c2 : k=2 * e+1
   ·subst c2
    rw [if_pos rfl,Int.toNat_natCast,jX hgl,Int.toNat_natCast]
   ·rw [if_neg (by omega),Int.toNat_natCast,bR hgl he hk,if_neg c2]
  ·rw [if_neg c] at hw
   by_cases c2 : w=A.length
   ·rw [if_pos c2] at hw
    cases hw
    simp only [List.map_cons,List.map_nil,List.sum_cons,List.sum_nil,Int.toNat_natCast]
    rw [bR hgl he (by omega),if_pos rfl,ku hgl]; rfl
   ·rw [if_neg c2] at hw
    rw [other hw c]
    exact hm.vert l (List.mem_of_getElem? hw) hne
 ·obtain ⟨f0,hf0,rfl⟩:=List.mem_map.1 hf
  have hel:=(h.fs.elem f0 hf0).2
  rw [vh hgl he hel,hm.face f0 hf0]
  simp only [uS he ho hel]
def ey (g : List Int) (a b : Nat) (α1 α2 β1 β2 : Int) : List Int:=(g.set (oth a) α1).set (oth b) β1++[α2,β2]
theorem rN {a b m k : Nat} {α1 α2 β1 β2 : Int} (hg : g.length=2 * m) (ha : a < 2 * m) (hb : b < 2 * m) (hk : k < 2 * m) : gN (ey g a b α1 α2 β1 β2) k=if k=oth b then β1 else if k=oth a then α1 else gN g k:=by
 have:=ay ha
 have:=ay hb
 unfold ey
 rw [kL,List.length_set,List.length_set,if_pos (by omega),p9 (by rw [List.length_set]; omega),p9 (by omega)]
theorem uy {a b m : Nat} {α1 α2 β1 β2 : Int} (hg : g.length=2 * m) : gN (ey g a b α1 α2 β1 β2) (2 * m)=α2:=by
 unfold ey
 rw [kL,List.length_set,List.length_set,if_neg (by omega),hg,Nat.sub_self]; rfl
theorem uW {a b m : Nat} {α1 α2 β1 β2 : Int} (hg : g.length=2 * m) : gN (ey g a b α1 α2 β1 β2) (2 * m+1)=β2:=by
 unfold ey
 rw [kL,List.length_set,List.length_set,if_neg (by omega),hg,show 2 * m+1 - 2 * m=1 by omega]; rfl
theorem Met.edge {a b : List (List Int)} {s1 s2 t1 t2 : List Int} {d f u v a' b' : Nat} {α1 α2 β1 β2 : Int} (h : Sys N E A nx (a++((d : Int) :: s1++(f : Int) :: s2) :: b)) (hm : Met E A g o (a++((d : Int) :: s1++(f : Int) :: s2) :: b)) (he : EdgeOK N E A d f u v)
  (e1 : (d : Int) :: s1=t1++[(b' : Int)]) (e2 : (f : Int) :: s2=t2++[(a' : Int)]) (ho : (o : Int)∉(d : Int) :: s1++(f : Int) :: s2)
  (hα : gN g (oth a')=α1+α2) (hβ : gN g (oth b')=β1+β2) (p1 : 1≤α1) (p2 : 1≤α2) (p3 : 1≤β1) (p4 : 1≤β2)
  (hX : tsm g ((d : Int) :: s1)+β2+(2 - α2)=4) (hY : tsm g ((f : Int) :: s2)+α2+(2 - β2)=4) :
  Met (E++[((u : Int),(v : Int),())]) (eY A u v E.length d f) (ey g a' b' α1 α2 β1 β2) o (((d : Int) :: s1++[((2 * E.length+1 : Nat) : Int)]) :: ((f : Int) :: s2++[((2 * E.length : Nat) : Int)]) :: (a++b)):=by
 have hgm : ((d : Int) :: s1++(f : Int) :: s2)∈a++((d : Int) :: s1++(f : Int) :: s2) :: b:=by simp
 have hgl:=hm.glen
 have hel:=(h.fs.elem _ hgm).2
 have hnd:=h.fs.face_nodup hgm
 have hcy:=h.cyc _ hgm
 have hb' : b' < 2 * E.length:=by
  obtain ⟨k,e,hk⟩:=hel (b' : Int) (by rw [e1]; simp)
  omega
 have ha' : a' < 2 * E.length:=by
  obtain ⟨k,e,hk⟩:=hel (a' : Int) (by rw [e2]; simp)
  omega
 have hna : nx[a']?=some (d : Int):=by
  have : (d : Int) :: s1++(f : Int) :: s2=(d : Int) :: (s1++t2)++[(a' : Int)]:=by rw [e2]; simp
  rw [this] at hcy
  simpa using gX hcy
 have hnb : nx[b']?=some (f : Int):=by
  rw [e1,List.append_assoc] at hcy
  simpa using cJ hcy
 have hta : tl E (oth a')=u:=by have:=(fg h.rot h.fol hna).2.2; rw [he.tu] at this; exact this.symm
 have htb : tl E (oth b')=v:=by have:=(fg h.rot h.fol hnb).2.2; rw [he.tv] at this; exact this.symm
 have hne:=he.ne
 have hoab : oth a'≠oth b':=fun e'=>by rw [e',htb] at hta; omega
 have hoa:=ay ha'
 have hob:=ay hb'
 have hlen : (E++[((u : Int),(v : Int),())]).length=E.length+1:=by simp
 have hal:=he.al
 have huA : u < A.length:=by rw [hal]; exact he.un
 have hvA : v < A.length:=by rw [hal]; exact he.vn
 have ga:=hm.ang (oth a') hoa
 have gb:=hm.ang (oth b') hob
 have old:=fun {k : Nat} (hk : k < 2 * E.length)=>rN (g:=g) (α1:=α1) (α2:=α2) (β1:=β1) (β2:=β2) hgl ha' hb' hk
 refine ⟨by unfold ey; simp [hgl]; omega,fun k hk=>?_,fun l hl hnl=>?_,by rw [hlen]; have:=hm.o2; omega,fun f0 hf0=>?_⟩
 ·rw [hlen] at hk
  rcases Nat.lt_or_ge k (2 * E.length) with c | c
  ·rw [old c]
   split
   ·omega
   ·split
    ·omega
    ·exact hm.ang k c
  ·rcases Nat.eq_or_lt_of_le c with c | c
   ·rw [← c,uy hgl]; omega
   ·have : k=2 * E.length+1:=by omega
    subst this
    rw [uW hgl]; omega
 ·obtain ⟨w,hw⟩:=List.mem_iff_getElem?.1 hl
  rw [ec he.ne huA hvA w] at hw
  by_cases c1 : w=v
  ·subst c1
   rw [if_pos rfl] at hw
   cases hw
   have hAw:=List.getElem?_eq_getElem hvA
   have hsub:=aT hvA
   have hin:=h.rot.around hob htb hAw
   rw [ua (he.nu he.vn) he.mv,Int.toNat_natCast,uW hgl,hsub,
    py (F:=fun d=>gN g d.toNat) (c:=((oth b' : Nat) : Int)) (h.rot.list_nodup (List.getElem_mem hvA)) hin (fun x hx hxc=>by
     obtain ⟨k,rfl,hk,ht⟩:=h.rot.dart w _ hAw x hx
     rw [Int.toNat_natCast,old hk,if_neg (by omega),if_neg]
     rintro rfl
     rw [hta] at ht
     omega),
    hm.vert _ (List.getElem_mem hvA) (fun e'=>by rw [e'] at hin; cases hin),Int.toNat_natCast,old hob,if_pos rfl]
   omega
  ·rw [if_neg c1] at hw
   by_cases c2 : w=u
   ·subst c2
    rw [if_pos rfl] at hw
    cases hw
    have hAw:=List.getElem?_eq_getElem huA
    have hsub:=aT huA
    have hin:=h.rot.around hoa hta hAw
    rw [ua (he.nu he.un) he.mu,Int.toNat_natCast,uy hgl,hsub,
     py (F:=fun d=>gN g d.toNat) (c:=((oth a' : Nat) : Int)) (h.rot.list_nodup (List.getElem_mem huA)) hin (fun x hx hxc=>by
      obtain ⟨k,rfl,hk,ht⟩:=h.rot.dart w _ hAw x hx
      rw [Int.toNat_natCast,old hk,if_neg,if_neg (by omega)]
      rintro rfl
      rw [htb] at ht
      omega),
     hm.vert _ (List.getElem_mem huA) (fun e'=>by rw [e'] at hin; cases hin),Int.toNat_natCast,old hoa,if_neg hoab,if_pos rfl]
    omega
   ·rw [if_neg c2] at hw
    have : (l.map fun d=>gN (ey g a' b' α1 α2 β1 β2) d.toNat).sum=(l.map fun d=>gN g d.toNat).sum:=gB fun x hx=>by
     obtain ⟨k,rfl,hk,ht⟩:=h.rot.dart w l hw x hx
     rw [Int.toNat_natCast,old hk,if_neg,if_neg]
     ·rintro rfl; rw [hta] at ht; omega
     ·rintro rfl; rw [htb] at ht; omega
    rw [this]
    exact hm.vert l (List.mem_of_getElem? hw) hnl
 ·have keep : ∀ {x : Int},(∃ k : Nat,x=(k : Int)∧k < 2 * E.length)→x≠(a' : Int)→x≠(b' : Int)→tn (ey g a' b' α1 α2 β1 β2) x=tn g x:=by
   rintro x ⟨k,rfl,hk⟩ x1 x2
   unfold tn
   rw [Int.toNat_natCast,old (ay hk),if_neg (fun e'=>x2 (by rw [bZ e'])),if_neg (fun e'=>x1 (by rw [bZ e']))]
  have tA : tn (ey g a' b' α1 α2 β1 β2) (a' : Int)=2 - α1:=by
   unfold tn
   rw [Int.toNat_natCast,old hoa,if_neg hoab,if_pos rfl]
  have tB : tn (ey g a' b' α1 α2 β1 β2) (b' : Int)=2 - β1:=by
   unfold tn
   rw [Int.toNat_natCast,old hob,if_pos rfl]
  have tA0 : tn g (a' : Int)=2 - (α1+α2):=by unfold tn; rw [Int.toNat_natCast,hα]
  have tB0 : tn g (b' : Int)=2 - (β1+β2):=by unfold tn; rw [Int.toNat_natCast,hβ]
  have t0 : tn (ey g a' b' α1 α2 β1 β2) ((2 * E.length : Nat) : Int)=2 - β2:=by unfold tn; rw [Int.toNat_natCast,dg,uW hgl]
  have t1' : tn (ey g a' b' α1 α2 β1 β2) ((2 * E.length+1 : Nat) : Int)=2 - α2:=by unfold tn; rw [Int.toNat_natCast,dw,uy hgl]
  have hnd2 : (t1++[(b' : Int)]++(t2++[(a' : Int)])).Nodup:=by rw [← e1,← e2]; exact hnd
  have cnt:=List.nodup_iff_count.1 hnd2
  have ho2:=hm.o2
  have hel2 : ∀ x∈t1++[(b' : Int)]++(t2++[(a' : Int)]),∃ k : Nat,x=(k : Int)∧k < 2 * E.length:=by rw [← e1,← e2]; exact hel
  rcases List.mem_cons.1 hf0 with rfl | hf0
  ·have hno : (o : Int)∉(d : Int) :: s1++[((2 * E.length+1 : Nat) : Int)]:=by
    intro hh
    rcases List.mem_append.1 hh with hh | hh
    ·exact ho (List.mem_append.2 (.inl hh))
    ·rw [List.mem_singleton] at hh; omega
   rw [if_neg hno,dy,e1,dy,bd,b8,bd,b8,t1',tB,gz (g:=g) (f:=t1) (fun x hx=>keep (hel2 x (by simp [hx])) (fun e'=>?_) (fun e'=>?_))]
   ·rw [e1,dy,bd,b8,tB0] at hX
    omega
   ·subst e'
    have:=cnt (a' : Int)
    have h1:=List.count_pos_iff.2 hx
    simp only [List.count_append,List.count_cons_self,List.count_nil] at this
    omega
   ·subst e'
    have:=cnt (b' : Int)
    have h1:=List.count_pos_iff.2 hx
    simp only [List.count_append,List.count_cons_self,List.count_nil] at this
    omega
  ·rcases List.mem_cons.1 hf0 with rfl | hf0
   ·have hno : (o : Int)∉(f : Int) :: s2++[((2 * E.length : Nat) : Int)]:=by
     intro hh
     rcases List.mem_append.1 hh with hh | hh
     ·exact ho (List.mem_append.2 (.inr hh))
     ·rw [List.mem_singleton] at hh; omega
    rw [if_neg hno,dy,e2,dy,bd,b8,bd,b8,t0,tA,gz (g:=g) (f:=t2) (fun x hx=>keep (hel2 x (by simp [hx])) (fun e'=>?_) (fun e'=>?_))]
    ·rw [e2,dy,bd,b8,tA0] at hY
     omega
    ·subst e'
     have:=cnt (a' : Int)
     have h1:=List.count_pos_iff.2 hx
     simp only [List.count_append,List.count_cons_self,List.count_nil] at this
     omega
    ·subst e'
     have:=cnt (b' : Int)
     have h1:=List.count_pos_iff.2 hx
     simp only [List.count_append,List.count_cons_self,List.count_nil] at this
     omega
   ·have hmem : f0∈a++((d : Int) :: s1++(f : Int) :: s2) :: b:=by
     rcases List.mem_append.1 hf0 with hf0 | hf0 <;> simp [hf0]
    rw [← hm.face f0 hmem]
    have dis : ∀ x∈f0,x∉(d : Int) :: s1++(f : Int) :: s2:=fun x hx hx2=>by
     have h1:=List.nodup_iff_count.1 h.fs.nodup x
     rw [cP] at h1
     have h2:=List.count_pos_iff.2 hx2
     rcases List.mem_append.1 hf0 with hf0 | hf0
     ·have:=List.count_pos_iff.2 (List.mem_flatten.2 ⟨f0,hf0,hx⟩); omega
     ·have:=List.count_pos_iff.2 (List.mem_flatten.2 ⟨f0,hf0,hx⟩); omega
    refine gz fun x hx=>keep ((h.fs.elem f0 hmem).2 x hx) (fun e'=>?_) (fun e'=>?_)
    ·subst e'; exact dis _ hx (by rw [e2]; simp)
    ·subst e'; exact dis _ hx (by rw [e1]; simp)
end
end Go.Vm

/-
 A face is divided at a reflex corner: what comes of it is again a plain shape.
-/
namespace Go.Vm
open Go.Proofs
set_option maxRecDepth 100000
attribute [local irreducible] ab
def Out (g : List Int) (o : Nat) (ps : List (List Int)) : Prop:=∀ f∈ps,(o : Int)∈f→∀ x∈f,tn g x=0∨tn g x=-1
def ex1 (x : Int) : Nat:=(x - 2).toNat
def exc (g : List Int) : Nat:=(g.map ex1).sum
theorem uf {g r : List Int} : exc (g++r)=exc g+exc r:=by simp [exc]
theorem nk : ∀ {g : List Int} {i : Nat} {v : Int},i < g.length→exc (g.set i v)+ex1 (gN g i)=exc g+ex1 v
 | [],i,v,h=>by simp at h
 | x :: g,0,v,_=>by simp [exc,gN]; omega
 | x :: g,i+1,v,h=>by
  have ih:=nk (g:=g) (i:=i) (v:=v) (by simpa using h)
  have e : gN (x :: g) (i+1)=gN g i:=by simp [gN]
  rw [e]
  simp only [exc,List.set_cons_succ,List.map_cons,List.sum_cons] at ih ⊢
  omega
theorem DI (e m : Nat) (z : Int) : ∃ s,sig e m z=du (2 * e+1 : Nat) (2 * m+1 : Nat) z :: s:=by
 unfold sig du
 split
 ·rename_i h; subst h; rw [if_neg (by omega)]; exact ⟨_,rfl⟩
 ·split
  ·exact ⟨_,rfl⟩
  ·exact ⟨_,rfl⟩
section
variable {N : Nat} {E : List Arc} {A : List (List Int)} {nx : List Int} {ps : List (List Int)} {g : List Int} {o : Nat}
theorem RotOK.splitOK (h : RotOK (N : Nat) E A) {e : Nat} (he : e < E.length) (hn : N < 16384) (hm : E.length < 32768) : ∃ x y,SplitOK N E A e x y:=by
 have harc:=List.getElem?_eq_getElem he
 obtain ⟨a1,a2,a3,a4,a5⟩:=h.edge E[e] (List.getElem_mem he)
 obtain ⟨x,hx⟩ : ∃ x : Nat,E[e].1=(x : Int):=⟨E[e].1.toNat,(Int.toNat_of_nonneg a1).symm⟩
 obtain ⟨y,hy⟩ : ∃ y : Nat,E[e].2.1=(y : Int):=⟨E[e].2.1.toNat,(Int.toNat_of_nonneg a3).symm⟩
 have harc2 : E[e]=((x : Int),(y : Int),()):=by rw [← hx,← hy]
 exact ⟨x,y,h,h.validB,he,by rw [harc,harc2],by omega,by omega,by rw [hx,hy] at a5; omega,hm,hn⟩
structure ExtD (E : List Arc) (to d : Nat) (e fr bk on a' : Nat) : Prop where
 he : e=to / 2
 hf : fr=if to % 2=0 then 2 * e else 2 * E.length+1
 hb : bk=if to % 2=0 then 2 * e+1 else 2 * E.length
 ho : on=if to % 2=0 then 2 * E.length else 2 * e+1
 ha : a'=if d=2 * e then 2 * E.length else d
theorem Out.split {e : Nat} (h : Sys N E A nx ps) (hm : Met E A g o ps) (ho : Out g o ps) (he : e < E.length) : Out (bh g e) (mvN e E.length o) (ps.map fun f=>f.flatMap (sig e E.length)):=by
 intro f hf hof x hx
 obtain ⟨f0,hf0,rfl⟩:=List.mem_map.1 hf
 have hel:=(h.fs.elem f0 hf0).2
 rw [uS he hm.o2 hel] at hof
 obtain ⟨z,hz,hxz⟩:=List.mem_flatMap.1 hx
 obtain ⟨k,rfl,hk⟩:=hel z hz
 have h0:=ho f0 hf0 hof _ hz
 have hgl:=hm.glen
 by_cases c1 : k=2 * e
 ·subst c1
  unfold sig at hxz
  rw [if_pos rfl] at hxz
  simp only [tn,Int.toNat_natCast,dg] at h0
  simp only [List.mem_cons,List.not_mem_nil,or_false] at hxz
  rcases hxz with rfl | rfl
  ·left; simp only [tn,Int.toNat_natCast,dg]; rw [bR hgl he (by omega),if_pos rfl]; rfl
  ·simp only [tn,Int.toNat_natCast,dg]; rw [jX hgl]; exact h0
 ·by_cases c2 : k=2 * e+1
  ·subst c2
   unfold sig at hxz
   rw [if_neg (by omega),if_pos rfl] at hxz
   simp only [tn,Int.toNat_natCast,dw] at h0
   simp only [List.mem_cons,List.not_mem_nil,or_false] at hxz
   rcases hxz with rfl | rfl
   ·left; simp only [tn,Int.toNat_natCast,dw]; rw [ku hgl]; rfl
   ·simp only [tn,Int.toNat_natCast,dw]; rw [bR hgl he (by omega),if_neg (by omega)]; exact h0
  ·unfold sig at hxz
   rw [if_neg (by omega),if_neg (by omega)] at hxz
   rw [List.mem_singleton] at hxz
   subst hxz
   have : oth k≠2 * e+1:=fun e'=>c1 (bZ (by rw [e',dg]))
   simp only [tn,Int.toNat_natCast] at h0 ⊢
   rw [bR hgl he (ay hk),if_neg this]; exact h0
theorem Dz {a b : List (List Int)} {next to d : Nat} {p q : List Int} {e fr bk on a' : Nat}
  (h : Sys N E A nx (a++((next : Int) :: p++(to : Int) :: q++[(d : Int)]) :: b)) (hm : Met E A g o (a++((next : Int) :: p++(to : Int) :: q++[(d : Int)]) :: b)) (hO : Out g o (a++((next : Int) :: p++(to : Int) :: q++[(d : Int)]) :: b))
  (ho : (o : Int)∉(next : Int) :: p++(to : Int) :: q++[(d : Int)]) (hn : N < 16384) (hM : E.length+1 < 32768)
  (hw : 3≤gN g (oth d)) (hs : tsm g ((next : Int) :: p)=gN g (oth d) - 1) (hx : ExtD E to d e fr bk on a') :
  ∃ x y u nx',SplitOK N E A e x y∧u < N∧tl E next=(u : Int)∧EdgeOK (N+1) (bq E N e x y) (eI A e E.length y) (mvN e E.length next) on u N ∧
   oth a'=mvN e E.length (oth d)∧oth fr=bk ∧
   ∃ ps',Sys (N+1) (bq E N e x y++[((u : Int),((N : Nat) : Int),())]) (eY (eI A e E.length y) u N (E.length+1) (mvN e E.length next) on) nx' ps' ∧
    Met (bq E N e x y++[((u : Int),((N : Nat) : Int),())]) (eY (eI A e E.length y) u N (E.length+1) (mvN e E.length next) on) (ey (bh g e) a' fr 2 (gN g (oth d) - 2) 1 1) (mvN e E.length o) ps' ∧
    Out (ey (bh g e) a' fr 2 (gN g (oth d) - 2) 1 1) (mvN e E.length o) ps' ∧
    exc (ey (bh g e) a' fr 2 (gN g (oth d) - 2) 1 1) < exc g:=by
 have hgm : ((next : Int) :: p++(to : Int) :: q++[(d : Int)])∈a++((next : Int) :: p++(to : Int) :: q++[(d : Int)]) :: b:=by simp
 have hel:=(h.fs.elem _ hgm).2
 have hnd:=h.fs.face_nodup hgm
 have lt_of : ∀ k : Nat,(k : Int)∈(next : Int) :: p++(to : Int) :: q++[(d : Int)]→k < 2 * E.length:=fun k hk=>by
  obtain ⟨k',e',hk'⟩:=hel _ hk
  omega
 have hto:=lt_of to (by simp)
 have hd:=lt_of d (by simp)
 have hnx:=lt_of next (by simp)
 have hod:=ay hd
 have hwle:=(hm.ang _ hod).2
 have hgl:=hm.glen
 have hee:=hx.he
 have he : e < E.length:=by omega
 have hdto : d≠to:=by
  rintro rfl
  have:=List.nodup_iff_count.1 hnd (d : Int)
  simp only [List.count_append,List.count_cons,List.count_nil,beq_self_eq_true,if_true] at this
  omega
 obtain ⟨x,y,hsp⟩:=h.rot.splitOK he hn (by omega)
 obtain ⟨nx1,h1⟩:=h.split hsp
 have m1:=hm.split h hsp
 have o1:=hO.split h hm he
 have hlen : (bq E N e x y).length=E.length+1:=cD
 have hGl : (bh g e).length=2 * (E.length+1):=by unfold bh; simp [hgl]; omega
 -- the face,with the new vertex
 obtain ⟨sn,hsn⟩:=DI e E.length (next : Int)
 have hrep : du ((2 * e+1 : Nat) : Int) ((2 * E.length+1 : Nat) : Int) (next : Int)=((mvN e E.length next : Nat) : Int):=by
  unfold du mvN
  by_cases c : next=2 * e+1
  ·rw [if_pos (by omega),if_pos c]
  ·rw [if_neg (by omega),if_neg c]
 have hst : sig e E.length (to : Int)=[(fr : Int),(on : Int)]:=by
  rw [hx.hf,hx.ho]
  unfold sig
  by_cases c : to % 2=0
  ·rw [if_pos (by omega),if_pos c,if_pos c]
   have : to=2 * e:=by omega
   rw [this]
  ·rw [if_neg (by omega),if_pos (by omega),if_neg c,if_neg c]
   have : to=2 * e+1:=by omega
   rw [this]
 obtain ⟨sd,hsd⟩ : ∃ sd,sig e E.length (d : Int)=sd++[(a' : Int)]:=by
  rw [hx.ha]
  unfold sig
  by_cases c : d=2 * e
  ·rw [if_pos (by omega),if_pos c]; exact ⟨[(d : Int)],rfl⟩
  ·rw [if_neg (by omega),if_neg c]
   split
   ·exact ⟨[_],rfl⟩
   ·exact ⟨[],rfl⟩
 have hface : ((next : Int) :: p++(to : Int) :: q++[(d : Int)]).flatMap (sig e E.length)=((mvN e E.length next : Nat) : Int) :: (sn++p.flatMap (sig e E.length)++[(fr : Int)])++(on : Int) :: (q.flatMap (sig e E.length)++sd++[(a' : Int)]):=by
  simp only [List.flatMap_append,List.flatMap_cons,List.flatMap_nil,hsn,hst,hsd,hrep]
  simp
 have hfirst : ((next : Int) :: p).flatMap (sig e E.length)=((mvN e E.length next : Nat) : Int) :: (sn++p.flatMap (sig e E.length)):=by
  simp only [List.flatMap_cons,hsn,hrep]; simp
 have hps : (a++((next : Int) :: p++(to : Int) :: q++[(d : Int)]) :: b).map (fun f=>f.flatMap (sig e E.length))=(a.map fun f=>f.flatMap (sig e E.length))++(((mvN e E.length next : Nat) : Int) :: (sn++p.flatMap (sig e E.length)++[(fr : Int)])++(on : Int) :: (q.flatMap (sig e E.length)++sd++[(a' : Int)])) :: (b.map fun f=>f.flatMap (sig e E.length)):=by
  rw [List.map_append,List.map_cons,hface]
 rw [hps] at h1 m1 o1
 -- tails
 obtain ⟨t0,t1,t2,t3,t4⟩:=hsp.tails
 obtain ⟨u,hu,huN⟩:=h.rot.tl_lt hnx
 have tu : tl (bq E N e x y) (mvN e E.length next)=(u : Int):=by
  unfold mvN
  by_cases c : next=2 * e+1
  ·rw [if_pos c,t3,← hsp.tl1,← c]; exact hu
  ·rw [if_neg c,t4 _ hnx c]; exact hu
 have tv : tl (bq E N e x y) on=((N : Nat) : Int):=by
  rw [hx.ho]
  split
  ·exact t2
  ·exact t1
 have hEd:=h1.edgeOK tu tv (by omega) (by rw [hlen]; omega)
 -- angles
 have oa : oth a'=mvN e E.length (oth d):=by
  rw [hx.ha]
  unfold mvN
  by_cases c : d=2 * e
  ·rw [if_pos c,dg,c,dg,if_pos rfl]
  ·rw [if_neg c,if_neg (fun e'=>c (bZ (by rw [e',dg])))]
 have ofr : oth fr=bk:=by
  rw [hx.hf,hx.hb]
  split
  ·exact dg _
  ·exact dw _
 have ga : gN (bh g e) (oth a')=gN g (oth d):=by
  rw [oa]
  unfold mvN
  by_cases c : oth d=2 * e+1
  ·rw [if_pos c,jX hgl,c]
  ·rw [if_neg c,bR hgl he hod,if_neg c]
 have gb : gN (bh g e) (oth fr)=2:=by
  rw [ofr,hx.hb]
  split
  ·rw [bR hgl he (by omega),if_pos rfl]
  ·exact ku hgl
 have hno : ((mvN e E.length o : Nat) : Int)∉((mvN e E.length next : Nat) : Int) :: (sn++p.flatMap (sig e E.length)++[(fr : Int)])++(on : Int) :: (q.flatMap (sig e E.length)++sd++[(a' : Int)]):=by
  rw [← hface,uS he hm.o2 hel]
  exact ho
 have hsum:=m1.face _ (by simp : (((mvN e E.length next : Nat) : Int) :: (sn++p.flatMap (sig e E.length)++[(fr : Int)])++(on : Int) :: (q.flatMap (sig e E.length)++sd++[(a' : Int)]))∈_)
 rw [if_neg hno,dy] at hsum
 have hX : tsm (bh g e) (((mvN e E.length next : Nat) : Int) :: (sn++p.flatMap (sig e E.length)++[(fr : Int)]))=gN g (oth d) - 1:=by
  have : ((mvN e E.length next : Nat) : Int) :: (sn++p.flatMap (sig e E.length)++[(fr : Int)])=((next : Int) :: p).flatMap (sig e E.length)++[(fr : Int)]:=by rw [hfirst]; simp
  rw [this,dy,vh hgl he (fun z hz=>hel z (by rw [List.append_assoc]; exact List.mem_append.2 (.inl hz))),hs,bd,b8]
  unfold tn
  rw [Int.toNat_natCast,gb]; omega
 obtain ⟨nx',h2⟩:=h1.edge hEd
 have m2:=m1.edge (t1:=((mvN e E.length next : Nat) : Int) :: (sn++p.flatMap (sig e E.length))) (t2:=(on : Int) :: (q.flatMap (sig e E.length)++sd)) (a':=a') (b':=fr) (α1:=2) (α2:=gN g (oth d) - 2) (β1:=1) (β2:=1) h1 hEd (by simp) (by simp) hno (by rw [ga]; omega) (by rw [gb]; rfl) (by omega) (by omega) (by omega) (by omega) (by rw [hX]; omega) (by rw [hX] at hsum; omega)
 rw [hlen] at h2 m2
 refine ⟨x,y,u,nx',hsp,huN,hu,hEd,oa,ofr,_,h2,m2,?_,?_⟩
 ·-- the outer face
  have ha'l : a' < 2 * (E.length+1):=by rw [hx.ha]; split <;> omega
  have hfl : fr < 2 * (E.length+1):=by rw [hx.hf]; split <;> omega
  intro f hf hof z hz
  rcases List.mem_cons.1 hf with rfl | hf
  ·exfalso
   rcases List.mem_append.1 hof with hof | hof
   ·exact hno (List.mem_append.2 (.inl hof))
   ·rw [List.mem_singleton] at hof
    have:=m1.o2
    rw [hlen] at this
    omega
  ·rcases List.mem_cons.1 hf with rfl | hf
   ·exfalso
    rcases List.mem_append.1 hof with hof | hof
    ·exact hno (List.mem_append.2 (.inr hof))
    ·rw [List.mem_singleton] at hof
     have:=m1.o2
     rw [hlen] at this
     omega
   ·have hmem : f∈(a.map fun f=>f.flatMap (sig e E.length))++(((mvN e E.length next : Nat) : Int) :: (sn++p.flatMap (sig e E.length)++[(fr : Int)])++(on : Int) :: (q.flatMap (sig e E.length)++sd++[(a' : Int)])) :: (b.map fun f=>f.flatMap (sig e E.length)):=by
     rcases List.mem_append.1 hf with hf | hf
     ·exact List.mem_append.2 (.inl hf)
     ·exact List.mem_append.2 (.inr (List.mem_cons.2 (.inr hf)))
    have dis : ∀ w∈f,w∉((mvN e E.length next : Nat) : Int) :: (sn++p.flatMap (sig e E.length)++[(fr : Int)])++(on : Int) :: (q.flatMap (sig e E.length)++sd++[(a' : Int)]):=fun w hw1 hw2=>by
     have k1:=List.nodup_iff_count.1 h1.fs.nodup w
     rw [cP] at k1
     have k2:=List.count_pos_iff.2 hw2
     rcases List.mem_append.1 hf with hf | hf
     ·have:=List.count_pos_iff.2 (List.mem_flatten.2 ⟨f,hf,hw1⟩); omega
     ·have:=List.count_pos_iff.2 (List.mem_flatten.2 ⟨f,hf,hw1⟩); omega
    obtain ⟨k,rfl,hk⟩:=(h1.fs.elem f hmem).2 z hz
    rw [hlen] at hk
    have hok:=ay hk
    have : tn (ey (bh g e) a' fr 2 (gN g (oth d) - 2) 1 1) (k : Int)=tn (bh g e) (k : Int):=by
     unfold tn
     rw [Int.toNat_natCast,rN hGl ha'l hfl hok,if_neg,if_neg]
     ·intro e'
      have : k=a':=bZ e'
      subst this
      exact dis _ hz (by simp)
     ·intro e'
      have : k=fr:=bZ e'
      subst this
      exact dis _ hz (by simp)
    rw [this]
    exact o1 f hmem hof _ hz
 ·have hoa' : oth a' < (bh g e).length:=by
   rw [hGl]
   have : a' < 2 * (E.length+1):=by rw [hx.ha]; split <;> omega
   exact ay this
  have hofr : oth fr < (bh g e).length:=by
   rw [hGl]
   have : fr < 2 * (E.length+1):=by rw [hx.hf]; split <;> omega
   exact ay this
  have hne : oth fr≠oth a':=fun e'=>by rw [e',ga] at gb; omega
  have c1:=nk (g:=g) (i:=2 * e+1) (v:=2) (by omega)
  have c2:=nk (g:=bh g e) (i:=oth a') (v:=2) hoa'
  have c3:=nk (g:=(bh g e).set (oth a') 2) (i:=oth fr) (v:=1) (by rw [List.length_set]; exact hofr)
  rw [p9 hoa',if_neg hne,gb] at c3
  rw [ga] at c2
  have c4 : exc (bh g e)=exc (g.set (2 * e+1) 2)+ex1 (gN g (2 * e+1)):=by
   unfold bh
   rw [uf]
   simp [exc,ex1]
  unfold ey
  rw [uf]
  have c5 : exc [gN g (oth d) - 2,1]=ex1 (gN g (oth d) - 2):=by simp [exc,ex1]
  rw [c5]
  unfold ex1 at *
  omega
end
end Go.Vm

/-
 The program's extension.
-/
namespace Go.Vm
open Go.Proofs
set_option maxRecDepth 100000
attribute [local irreducible] ab
theorem Bo {S : Nat→Int} (h0 : S 0≤0) : ∀ n,1≤S n→(∀ s,s < n→S (s+1)≤S s+1)→∃ t,t≤n∧S t=1∧∀ s,s < t→S s≠1:=by
 have key : ∀ n,1≤S n→∃ t,t≤n∧1≤S t∧∀ s,s < t→S s < 1:=by
  intro n
  induction n using Nat.strongRecOn with
  | _ n ih =>
   intro hn
   by_cases c : ∃ s,s < n∧1≤S s
   ·obtain ⟨s,c1,c2⟩:=c
    obtain ⟨t,t1,t2,t3⟩:=ih s c1 c2
    exact ⟨t,by omega,t2,t3⟩
   ·exact ⟨n,Nat.le_refl _,hn,fun s hs=>by
     have h' : ¬ 1≤S s:=fun q=>c ⟨s,hs,q⟩
     omega⟩
 intro n hn hstep
 obtain ⟨t,t1,t2,t3⟩:=key n hn
 refine ⟨t,t1,?_,fun s hs=>by have:=t3 s hs; omega⟩
 cases t with
 | zero=>omega
 | succ t =>
  have:=t3 t (by omega)
  have:=hstep t (by omega)
  omega
theorem ul {f : List Int} {i s : Nat} (hi : i < f.length) (hs : s < f.length) : (f.drop i++f.take i)[s]?=f[(i+s) % f.length]?:=by
 rw [List.getElem?_append,List.length_drop]
 by_cases c : s < f.length - i
 ·rw [if_pos c,List.getElem?_drop,Nat.mod_eq_of_lt (by omega)]
 ·rw [if_neg c,List.getElem?_take,if_pos (by omega)]
  congr 1
  rw [Nat.mod_eq_sub_mod (by omega),Nat.mod_eq_of_lt (by omega)]
  omega
theorem Dr {α : Type} {l : List α} {i : Nat} {v : α} (h : l[i]?=some v) : l.set i v=l:=by
 refine List.ext_getElem? fun k=>?_
 rw [List.getElem?_set]
 split
 ·rename_i e
  subst e
  have:=(List.getElem?_eq_some_iff.1 h).1
  rw [if_pos this,h]
 ·rfl
theorem yq {g G : List Int} {m e at' bk on : Nat} {v w : Int} (hg : g.length=2 * m) (he : e < m) (hG : G=bh g e) (hat : at' < 2 * m+2) (hbk : bk < 2 * m+2) (hon : on < 2 * m+2) (hne : on≠bk) (hv : gN G on=2) (hw : w=gN g (2 * e+1)) :
  (g++[2,w,0,0]).set (2 * e+1) 2=G++[0,0]∧(((((G++[0,0]).set at' 2).set (2 * m+2) v).set bk 1).set (2 * m+3) 1).set on 2=(G.set at' 2).set bk 1++[v,1]:=by
 have hGl : G.length=2 * m+2:=by rw [hG]; unfold bh; simp [hg]
 constructor
 ·rw [hG]
  unfold bh
  rw [List.set_append,if_pos (by omega),hw]
  simp
 ·have a1 : (G++[0,0]).set at' 2=G.set at' 2++[0,0]:=by rw [List.set_append,if_pos (by omega)]
  have a2 : (G.set at' 2++[0,0]).set (2 * m+2) v=G.set at' 2++[v,0]:=by rw [List.set_append,List.length_set,if_neg (by omega),hGl,Nat.sub_self]; rfl
  have a3 : (G.set at' 2++[v,0]).set bk 1=(G.set at' 2).set bk 1++[v,0]:=by rw [List.set_append,List.length_set,if_pos (by omega)]
  have a4 : ((G.set at' 2).set bk 1++[v,0]).set (2 * m+3) 1=(G.set at' 2).set bk 1++[v,1]:=by rw [List.set_append,List.length_set,List.length_set,if_neg (by omega),hGl,show 2 * m+3 - (2 * m+2)=1 by omega]; rfl
  have a5 : ((G.set at' 2).set bk 1++[v,1]).set on 2=(G.set at' 2).set bk 1++[v,1]:=by
   rw [List.set_append,List.length_set,List.length_set,if_pos (by omega),Dr]
   rw [List.getElem?_set,if_neg (fun e'=>hne e'.symm),List.getElem?_set]
   by_cases c : at'=on
   ·rw [if_pos c,if_pos (by omega)]
   ·rw [if_neg c,List.getElem?_eq_getElem (by omega)]
    congr 1
    unfold gN at hv
    rw [List.getD_eq_getElem?_getD,List.getElem?_eq_getElem (by omega)] at hv
    exact hv
  rw [a1,a2,a3,a4,a5]
theorem qG {e m x : Nat} (he : e≤1000000) (hm : m≤1000000) : Zam ((x : Int),(e : Int),((2 * m : Nat) : Int),())=some (((mvN e m x : Nat) : Int),()):=by
 unfold Zam mvN
 simp only
 rw [Eb (by omega),a9 (a:=2 * e) (by omega)]
 by_cases c : x=2 * e+1
 ·rw [cv (by omega),cond_true,if_pos c,a9 (by omega)]
 ·rw [bw (by omega),cond_false,if_neg c]
section
variable {N : Nat} {E : List Arc} {A : List (List Int)} {nx : List Int} {ps : List (List Int)} {g : List Int} {o : Nat}
theorem wW (B : List ByteArray) (oo : Int) (hg : ∀ k,k < 2 * E.length→∃ a,g[k]?=some a∧1≤a∧a≤4) (hgl : g.length=2 * E.length) (hM : E.length≤32768) {f : List Int} (hf : ∀ d∈f,∃ k : Nat,d=(k : Int)∧k < 2 * E.length) (hfl : f.length≤65536) {i : Nat} (hi : i < f.length) {t : Nat} (ht : t < f.length)
  (hS1 : tsm g ((f.drop i++f.take i).take t)=1) (hS : ∀ s,s < t→tsm g ((f.drop i++f.take i).take s)≠1) :
  ∀ (k s : Nat),s+k=t→-2 * (s : Int)≤tsm g ((f.drop i++f.take i).take s)→tsm g ((f.drop i++f.take i).take s)≤s →
   uv ((N : Int),E,A,g,B,oo,0,0,f,(i : Int),(f.length : Nat),((i+s : Nat) : Int),tsm g ((f.drop i++f.take i).take s),()) =
    some (.inr (.inl ((N : Int),E,A,g,B,oo,0,0,f,(i : Int),(f.length : Nat),((i+t : Nat) : Int),())))
 | 0,s,h,_,_=>by
  have : s=t:=by omega
  subst this
  refine ac ?_
  unfold vw
  simp only
  rw [hS1,bn rfl,cond_false]
 | k+1,s,h,hl,hu=>by
  have hsl : s < f.length:=by omega
  have hgs:=ul hi hsl
  have hRl : (f.drop i++f.take i).length=f.length:=by simp; omega
  obtain ⟨d,hd⟩ : ∃ d,(f.drop i++f.take i)[s]?=some d:=⟨_,List.getElem?_eq_getElem (by omega)⟩
  have hdf : d∈f:=by
   have:=List.mem_of_getElem? hd
   rcases List.mem_append.1 this with h | h
   ·exact List.mem_of_mem_drop h
   ·exact List.mem_of_mem_take h
  obtain ⟨x,rfl,hx⟩:=hf d hdf
  obtain ⟨c,hc,c1,c2⟩:=hg (oth x) (ay hx)
  have hgc : gN g (oth x)=c:=by unfold gN; rw [List.getD_eq_getElem?_getD,hc]; rfl
  have hnext : tsm g ((f.drop i++f.take i).take (s+1))=tsm g ((f.drop i++f.take i).take s)+(2 - c):=by
   rw [List.take_add_one,hd,dy]
   simp only [Option.toList,bd,b8,tn,Int.toNat_natCast,hgc]
   omega
  have ih:=wW B oo hg hgl hM hf hfl hi ht hS1 hS k (s+1) (by omega) (by rw [hnext]; omega) (by rw [hnext]; omega)
  refine (ao (t:=((N : Int),E,A,g,B,oo,0,0,f,(i : Int),((f.length : Nat) : Int),((i+(s+1) : Nat) : Int),tsm g ((f.drop i++f.take i).take (s+1)),())) ?_).trans ih
  unfold vw
  simp only
  rw [dZ (hS s (by omega)),cond_true,bw (by omega),cond_false,xH,af,← hgs,hd,Option.bind_some,mC (by omega),af,hc,Option.bind_some,a9 (by omega),cu (by omega) (by omega),c7 (by omega),cond_false,gY (by omega) (by omega),cu (by omega) (by omega),hnext]
  rfl
theorem Bb {B : List ByteArray} (h : Sys N E A nx (aa nx)) (hm : Met E A g o (aa nx)) (hO : Out g o (aa nx)) (hn : N < 16384) (hM : E.length+1 < 32768) {f : List Int} (hf : f∈aa nx) (ho : (o : Int)∉f) {i : Nat} {d : Nat} (hd : f[i]?=some (d : Int)) (hw : 3≤gN g (oth d)) :
  ∃ (next to e fr bk on a' x y u : Nat) (nx' : List Int),(∃ p,dd nx (next : Int) ((next : Int) :: p) (to : Int)∧tsm g ((next : Int) :: p)=gN g (oth d) - 1)∧nx[d]?=some ((next : Nat) : Int)∧to < 2 * E.length∧d < 2 * E.length∧ExtD E to d e fr bk on a'∧SplitOK N E A e x y∧u < N∧tl E next=(u : Int)∧EdgeOK (N+1) (bq E N e x y) (eI A e E.length y) (mvN e E.length next) on u N∧oth a'=mvN e E.length (oth d)∧oth fr=bk ∧
   Zaz (((((N : Nat) : Int),E,A,()),g,B,(o : Int),()),f,(i : Int),())=some (((((N+1 : Nat) : Int),bq E N e x y++[((u : Int),((N : Nat) : Int),())],eY (eI A e E.length y) u N (E.length+1) (mvN e E.length next) on,()),ey (bh g e) a' fr 2 (gN g (oth d) - 2) 1 1,List.replicate (2 * (E.length+2)) ByteArray.empty,((mvN e E.length o : Nat) : Int),()),0,()) ∧
   Sys (N+1) (bq E N e x y++[((u : Int),((N : Nat) : Int),())]) (eY (eI A e E.length y) u N (E.length+1) (mvN e E.length next) on) nx' (aa nx') ∧
   Met (bq E N e x y++[((u : Int),((N : Nat) : Int),())]) (eY (eI A e E.length y) u N (E.length+1) (mvN e E.length next) on) (ey (bh g e) a' fr 2 (gN g (oth d) - 2) 1 1) (mvN e E.length o) (aa nx') ∧
   Out (ey (bh g e) a' fr 2 (gN g (oth d) - 2) 1 1) (mvN e E.length o) (aa nx')∧exc (ey (bh g e) a' fr 2 (gN g (oth d) - 2) 1 1) < exc g:=by
 have hi:=(List.getElem?_eq_some_iff.1 hd).1
 have hel:=(h.fs.elem f hf).2
 have hm1:=h.rot.m1
 have hfl : f.length≤65536:=by have:=h.fs.flen (by omega) f hf; omega
 have hgl:=hm.glen
 have hgood:=hm.good h.rot
 have hsum:=hm.face f hf
 rw [if_neg ho] at hsum
 have hRl : (f.drop i++f.take i).length=f.length:=by simp; omega
 have hperm : (f.drop i++f.take i).Perm f:=by
  have:=List.perm_append_comm (l₁:=f.drop i) (l₂:=f.take i)
  rw [List.take_append_drop] at this
  exact this
 have hdd : f.drop i=(d : Int) :: f.drop (i+1):=by
  rw [List.drop_eq_getElem_cons hi]
  congr 1
  rw [List.getElem?_eq_getElem hi] at hd
  exact Option.some.inj hd
 have hstep : ∀ s,s < f.length→tsm g ((f.drop i++f.take i).take (s+1))≤tsm g ((f.drop i++f.take i).take s)+1:=fun s hs=>by
  obtain ⟨z,hz⟩ : ∃ z,(f.drop i++f.take i)[s]?=some z:=⟨_,List.getElem?_eq_getElem (by omega)⟩
  rw [List.take_add_one,hz,dy]
  obtain ⟨k,rfl,hk⟩:=hel z (hperm.mem_iff.1 (List.mem_of_getElem? hz))
  have:=hm.ang (oth k) (ay hk)
  simp only [Option.toList,bd,b8,tn,Int.toNat_natCast]
  omega
 obtain ⟨t,t1,t2,t3⟩:=Bo (S:=fun s=>tsm g ((f.drop i++f.take i).take s)) (by simp [tsm]) f.length (by
  show 1≤tsm g ((f.drop i++f.take i).take f.length)
  rw [← hRl,List.take_length,sg hperm,hsum]; omega) hstep
 have htl : t < f.length:=by
  rcases Nat.eq_or_lt_of_le t1 with e | e
  ·rw [e,← hRl,List.take_length,sg hperm,hsum] at t2; omega
  ·exact e
 have hR : f.drop i++f.take i=(d : Int) :: (f.drop (i+1)++f.take i):=by rw [hdd]; rfl
 have ht2 : 2≤t:=by
  rcases Nat.lt_or_ge t 2 with c | c
  ·have : t=0∨t=1:=by omega
   rcases this with rfl | rfl
   ·simp [tsm] at t2
   ·rw [hR] at t2
    simp only [List.take_succ_cons,List.take_zero,bd,b8,tn,Int.toNat_natCast] at t2
    omega
  ·exact c
 obtain ⟨R',hR'⟩ : ∃ R',R'=f.drop (i+1)++f.take i:=⟨_,rfl⟩
 rw [← hR'] at hR
 have hR'l : R'.length+1=f.length:=by rw [← hRl,hR]; simp
 obtain ⟨next0,hn0⟩ : ∃ z,R'[0]?=some z:=⟨_,List.getElem?_eq_getElem (by omega)⟩
 obtain ⟨to0,ht0⟩ : ∃ z,R'[t - 1]?=some z:=⟨_,List.getElem?_eq_getElem (by omega)⟩
 have memR : ∀ z∈R',z∈f:=fun z hz=>hperm.mem_iff.1 (by rw [hR]; simp [hz])
 obtain ⟨next,rfl,hnx⟩:=hel next0 (memR _ (List.mem_of_getElem? hn0))
 obtain ⟨to,rfl,hto⟩:=hel to0 (memR _ (List.mem_of_getElem? ht0))
 have hdl : d < 2 * E.length:=by
  obtain ⟨k,e',hk⟩:=hel (d : Int) (List.mem_of_getElem? hd)
  omega
 have hsplit : ∃ p q,R'=(next : Int) :: p++(to : Int) :: q∧p.length+2=t:=by
  have e1:=List.take_append_drop (t - 1) R'
  have hlt:=(List.getElem?_eq_some_iff.1 ht0).1
  rw [List.drop_eq_getElem_cons hlt] at e1
  have e2 : R'[t - 1]=(to : Int):=(List.getElem?_eq_some_iff.1 ht0).2
  rw [e2] at e1
  have e3 : (R'.take (t - 1))[0]?=some (next : Int):=by rw [List.getElem?_take,if_pos (by omega),hn0]
  cases hT : R'.take (t - 1) with
  | nil=>rw [hT] at e3; simp at e3
  | cons z p =>
   rw [hT] at e3 e1
   simp only [List.getElem?_cons_zero,Option.some.injEq] at e3
   subst e3
   refine ⟨p,_,e1.symm,?_⟩
   have:=congrArg List.length hT
   simp at this
   omega
 obtain ⟨p,q,hpq,hpl⟩:=hsplit
 have hSp : tsm g ((next : Int) :: p)=gN g (oth d) - 1:=by
  have : (f.drop i++f.take i).take t=(d : Int) :: ((next : Int) :: p):=by
   rw [hR,hpq,← hpl]
   simp
  rw [this,bd] at t2
  unfold tn at t2
  rw [Int.toNat_natCast] at t2
  omega
 -- the face begins behind d
 obtain ⟨a,b,hab⟩:=List.append_of_mem hf
 have hfr : f=(f.take i++[(d : Int)])++f.drop (i+1):=by
  conv=>lhs; rw [← List.take_append_drop i f,hdd]
  simp
 have hrot : f.drop (i+1)++(f.take i++[(d : Int)])=(next : Int) :: p++(to : Int) :: q++[(d : Int)]:=by
  rw [← List.append_assoc,← hR',hpq]
 have h1 : Sys N E A nx (a++((next : Int) :: p++(to : Int) :: q++[(d : Int)]) :: b):=by
  have:=h
  rw [hab,hfr] at this
  rw [← hrot]
  exact this.rotate
 have m1 : Met E A g o (a++((next : Int) :: p++(to : Int) :: q++[(d : Int)]) :: b):=hm.move h.fs h1.fs h.cyc h1.cyc
 have hperm1 : ((next : Int) :: p++(to : Int) :: q++[(d : Int)]).Perm f:=by
  rw [← hrot]
  conv=>rhs; rw [hfr]
  exact List.perm_append_comm
 have o1 : Out g o (a++((next : Int) :: p++(to : Int) :: q++[(d : Int)]) :: b):=by
  intro f0 hf0 ho0 z hz
  rcases List.mem_append.1 hf0 with hf0 | hf0
  ·exact hO f0 (by rw [hab]; simp [hf0]) ho0 z hz
  ·rcases List.mem_cons.1 hf0 with rfl | hf0
   ·exact absurd (hperm1.mem_iff.1 ho0) ho
   ·exact hO f0 (by rw [hab]; simp [hf0]) ho0 z hz
 have hno : (o : Int)∉(next : Int) :: p++(to : Int) :: q++[(d : Int)]:=fun hh=>ho (hperm1.mem_iff.1 hh)
 obtain ⟨e,fr,bk,on,a',hx⟩ : ∃ e fr bk on a',ExtD E to d e fr bk on a':=⟨_,_,_,_,_,rfl,rfl,rfl,rfl,rfl⟩
 obtain ⟨x,y,u,nx',sp,huN,hu,hEd,oa,ofr,ps',h2,m2,o2,hex⟩:=Dz h1 m1 o1 hno hn hM hw hSp hx
 have hnd : nx[d]?=some ((next : Nat) : Int):=by
  have:=h1.cyc _ (by simp : ((next : Int) :: p++(to : Int) :: q++[(d : Int)])∈_)
  have:=gX (x:=(next : Int)) (s:=p++(to : Int) :: q) (z:=(d : Int)) (by simpa using this)
  simpa using this
 have o2s : Out (ey (bh g e) a' fr 2 (gN g (oth d) - 2) 1 1) (mvN e E.length o) (aa nx'):=by
  intro f0 hf0 ho0 z hz
  obtain ⟨f1,hf1,hp1⟩:=jf h2.std.fs h2.fs h2.std.cyc h2.cyc hf0
  exact o2 f1 hf1 (hp1.mem_iff.1 ho0) z (hp1.mem_iff.1 hz)
 have hway : dd nx (next : Int) ((next : Int) :: p) (to : Int):=by
  have hc:=h1.cyc _ (by simp : ((next : Int) :: p++(to : Int) :: q++[(d : Int)])∈_)
  rw [List.append_assoc] at hc
  obtain ⟨y',h1',h2'⟩:=(cB (f:=(next : Int) :: p) (g:=(to : Int) :: q++[(d : Int)])).1 (bK hc)
  have : (to : Int)=y':=h2'.1
  rw [this]; exact h1'
 refine ⟨next,to,e,fr,bk,on,a',x,y,u,nx',⟨p,hway,hSp⟩,hnd,hto,hdl,hx,sp,huN,hu,hEd,oa,ofr,?_,h2.std,m2.std h2,o2s,hex⟩
 -- the program
 have hee:=hx.he
 have he : e < E.length:=by omega
 have hloop:=wW (N:=N) (A:=A) B (o : Int) hgood hgl hm1 hel hfl hi htl t2 t3 t 0 (by omega) (by simp [tsm]) (by simp [tsm])
 have r1 : f[(i+1) % f.length]?=some (next : Int):=by rw [← ul hi (by omega),hR,List.getElem?_cons_succ,hn0]
 have rt : f[(i+t) % f.length]?=some (to : Int):=by rw [← ul hi htl,hR,show t=(t - 1)+1 by omega,List.getElem?_cons_succ,ht0]
 have ho2:=hm.o2
 have hlen : (bq E N e x y).length=E.length+1:=cD
 have hgs : g[2 * e+1]?=some (gN g (2 * e+1)):=by unfold gN; rw [List.getD_eq_getElem?_getD,List.getElem?_eq_getElem (by omega)]; rfl
 have hGl : (bh g e).length=2 * E.length+2:=by unfold bh; simp [hgl]
 have hodl:=ay hdl
 have hat : mvN e E.length (oth d) < 2 * E.length+2:=by unfold mvN; split <;> omega
 have hatv : (bh g e++[0,0])[mvN e E.length (oth d)]?=some (gN g (oth d)):=by
  rw [List.getElem?_append_left (by omega),List.getElem?_eq_getElem (by omega)]
  congr 1
  have : gN (bh g e) (mvN e E.length (oth d))=gN g (oth d):=by
   unfold mvN
   by_cases c : oth d=2 * e+1
   ·rw [if_pos c,jX hgl,c]
   ·rw [if_neg c,bR hgl he hodl,if_neg c]
  unfold gN at this ⊢
  rw [List.getD_eq_getElem?_getD,List.getElem?_eq_getElem (by omega)] at this
  exact this
 have hwle:=(hm.ang _ hodl).2
 have hbkl : bk < 2 * E.length+2:=by rw [hx.hb]; split <;> omega
 have honl : on < 2 * E.length+2:=by rw [hx.ho]; split <;> omega
 have hobk : on≠bk:=by rw [hx.hb,hx.ho]; split <;> omega
 have hGon : gN (bh g e) on=2:=by
  rw [hx.ho]
  split
  ·exact ku hgl
  ·rw [bR hgl he (by omega),if_pos rfl]
 obtain ⟨w1,w2⟩:=yq (v:=gN g (oth d) - 2) hgl he rfl hat hbkl honl hobk hGon rfl
 have hfin : ((bh g e).set (mvN e E.length (oth d)) 2).set bk 1++[gN g (oth d) - 2,1]=ey (bh g e) a' fr 2 (gN g (oth d) - 2) 1 1:=by
  unfold ey; rw [oa,ofr]
 unfold Zaz
 simp only
 rw [show uv (((N : Nat) : Int),E,A,g,B,(o : Int),0,0,f,(i : Int),((f.length : Nat) : Int),(i : Int),0,())=_ from hloop]
 simp only [Option.bind_some,Sum.elim_inl,Sum.elim_inr]
 rw [af,hd,Option.bind_some,bw (by omega),cond_false,a9 (a:=i) (by omega),xH,af,r1,Option.bind_some,cond_false,xH,af,rt,Option.bind_some,Ap (by omega),← hee,Dx sp,Option.bind_some]
 simp only
 rw [bn rfl,cond_false,lm g (by omega),Option.bind_some,Eb (n:=e) (by omega),a9 (a:=2 * e) (by omega),af,hgs,Option.bind_some,cm (by simp; omega),Option.bind_some,ap (by simp; omega),Option.bind_some]
 have hga : (g++[2,gN g (2 * e+1),0,0])[2 * e+1]?=some (gN g (2 * e+1)):=by rw [List.getElem?_append_left (by omega),hgs]
 rw [hga,Option.bind_some,w1,Eb (n:=E.length) (by omega),mC (by omega),qG (by omega) (by omega),qG (by omega) (by omega),qG (by omega) (by omega)]
 have lG : (bh g e++[0,0]).length=2 * E.length+4:=by simp [hGl]
 have i2 : ae .i64 ((2 * E.length : Nat) : Int) 2=((2 * E.length+2 : Nat) : Int):=EU (b:=2) (by omega)
 have i3 : ae .i64 ((2 * E.length : Nat) : Int) 3=((2 * E.length+3 : Nat) : Int):=EU (b:=3) (by omega)
 have sw : bf .i64 (gN g (oth d)) 2=gN g (oth d) - 2:=gY (by omega) (by omega)
 have any : ∀ (l : List Int) (k : Nat),k < l.length→∃ z,l[k]?=some z:=fun l k hk=>⟨_,List.getElem?_eq_getElem hk⟩
 have hed:=EO hEd
 rw [hlen] at hed
 simp only [Option.bind_some]
 have tail : ∀ (bk' on' : Nat),bk'=bk→on'=on →
   ((aI (bh g e++[0,0]).length ((mvN e E.length (oth d) : Nat) : Int)).bind fun j14=>((bh g e++[0,0])[j14]?).bind fun y15 =>
    (Zbo ((((N+1 : Nat) : Int),bq E N e x y,eI A e E.length y,()),((mvN e E.length next : Nat) : Int),(on' : Int),())).bind fun r17=>cond (neI r17.2.1 0) (some (((0,[],[],()),[],[],0,()),r17.2.1,()))
    ((aI (bh g e++[0,0]).length ((mvN e E.length (oth d) : Nat) : Int)).bind fun j18=>((bh g e++[0,0])[j18]?).bind fun y19 =>
    (aI ((bh g e++[0,0]).set j18 2).length (ae .i64 ((2 * E.length : Nat) : Int) 2)).bind fun j20=>(((bh g e++[0,0]).set j18 2)[j20]?).bind fun y21 =>
    (aI (((bh g e++[0,0]).set j18 2).set j20 (bf .i64 y15 2)).length (bk' : Int)).bind fun j22=>((((bh g e++[0,0]).set j18 2).set j20 (bf .i64 y15 2))[j22]?).bind fun y23 =>
    (aI ((((bh g e++[0,0]).set j18 2).set j20 (bf .i64 y15 2)).set j22 1).length (ae .i64 ((2 * E.length : Nat) : Int) 3)).bind fun j24=>(((((bh g e++[0,0]).set j18 2).set j20 (bf .i64 y15 2)).set j22 1)[j24]?).bind fun y25 =>
    (aI (((((bh g e++[0,0]).set j18 2).set j20 (bf .i64 y15 2)).set j22 1).set j24 1).length (on' : Int)).bind fun j26=>((((((bh g e++[0,0]).set j18 2).set j20 (bf .i64 y15 2)).set j22 1).set j24 1)[j26]?).bind fun y27 =>
    (dF .str (((((((bh g e++[0,0]).set j18 2).set j20 (bf .i64 y15 2)).set j22 1).set j24 1).set j26 2).length : Nat) (((((((bh g e++[0,0]).set j18 2).set j20 (bf .i64 y15 2)).set j22 1).set j24 1).set j26 2).length : Nat)).bind fun m28 =>
    some (((r17.1.1,r17.1.2.1,r17.1.2.2.1,()),((((((bh g e++[0,0]).set j18 2).set j20 (bf .i64 y15 2)).set j22 1).set j24 1).set j26 2),m28,((mvN e E.length o : Nat) : Int),()),0,()))) =
   some (((((N+1 : Nat) : Int),bq E N e x y++[((u : Int),((N : Nat) : Int),())],eY (eI A e E.length y) u N (E.length+1) (mvN e E.length next) on,()),ey (bh g e) a' fr 2 (gN g (oth d) - 2) 1 1,List.replicate (2 * (E.length+2)) ByteArray.empty,((mvN e E.length o : Nat) : Int),()),(0 : Int),()):=by
  rintro bk' on' rfl rfl
  rw [ap (by omega),Option.bind_some,hatv,Option.bind_some,hed,Option.bind_some]
  simp only
  rw [bn rfl,cond_false,Option.bind_some,hatv,Option.bind_some,i2,i3,sw]
  rw [ap (by rw [List.length_set]; omega),Option.bind_some]
  obtain ⟨z1,hz1⟩:=any ((bh g e++[0,0]).set (mvN e E.length (oth d)) 2) (2 * E.length+2) (by rw [List.length_set]; omega)
  rw [hz1,Option.bind_some,ap (by simp only [List.length_set]; omega),Option.bind_some]
  obtain ⟨z2,hz2⟩:=any (((bh g e++[0,0]).set (mvN e E.length (oth d)) 2).set (2 * E.length+2) (gN g (oth d) - 2)) bk' (by simp only [List.length_set]; omega)
  rw [hz2,Option.bind_some,ap (by simp only [List.length_set]; omega),Option.bind_some]
  obtain ⟨z3,hz3⟩:=any ((((bh g e++[0,0]).set (mvN e E.length (oth d)) 2).set (2 * E.length+2) (gN g (oth d) - 2)).set bk' 1) (2 * E.length+3) (by simp only [List.length_set]; omega)
  rw [hz3,Option.bind_some,ap (by simp only [List.length_set]; omega),Option.bind_some]
  obtain ⟨z4,hz4⟩:=any (((((bh g e++[0,0]).set (mvN e E.length (oth d)) 2).set (2 * E.length+2) (gN g (oth d) - 2)).set bk' 1).set (2 * E.length+3) 1) on' (by simp only [List.length_set]; omega)
  rw [hz4,Option.bind_some,w2,cI (Nat.le_refl _) (by simp; omega),Option.bind_some,hfin]
  have : (ey (bh g e) a' fr 2 (gN g (oth d) - 2) 1 1).length=2 * (E.length+2):=by unfold ey; simp [hGl]; omega
  rw [this]
  rfl
 by_cases c : to % 2=1
 ·rw [Av,cv (by omega),cond_true]
  exact tail (2 * E.length) (2 * e+1) (by rw [hx.hb,if_neg (by omega)]) (by rw [hx.ho,if_neg (by omega)])
 ·rw [Av,bw (by omega),cond_false]
  exact tail (2 * e+1) (2 * E.length) (by rw [hx.hb,if_pos (by omega)]) (by rw [hx.ho,if_pos (by omega)])
end
end Go.Vm

/-
 The program's loop: faces are divided till no inner face has a reflex corner.
-/
namespace Go.Vm
open Go.Proofs
set_option maxRecDepth 100000
attribute [local irreducible] ab
section
variable {N : Nat} {E : List Arc} {A : List (List Int)} {nx : List Int} {ps : List (List Int)} {g : List Int} {o : Nat}
theorem BA (B : List ByteArray) (oo : Int) (hg : ∀ k,k < 2 * E.length→∃ a,g[k]?=some a∧1≤a∧a≤4) (hM : E.length≤32768) {f : List Int} (hf : ∀ d∈f,∃ k : Nat,d=(k : Int)∧k < 2 * E.length) (hfl : f.length≤65536) :
  (Zax ((((N : Int),E,A,()),g,B,oo,()),f,())=some (-1,())∧∀ d : Nat,(d : Int)∈f→gN g (oth d)≤2) ∨
  ∃ (i d : Nat),f[i]?=some (d : Int)∧3≤gN g (oth d)∧Zax ((((N : Int),E,A,()),g,B,oo,()),f,())=some ((i : Int),()):=by
 have one : ∀ k,k < 2 * E.length→Zal ((k : Int),(((N : Int),E,A,()),g,B,oo,()),())=some (gtI (gN g (oth k)) 2,()):=fun k hk=>by
  obtain ⟨c,hc,_,_⟩:=hg (oth k) (ay hk)
  have hgc : gN g (oth k)=c:=by unfold gN; rw [List.getD_eq_getElem?_getD,hc]; rfl
  unfold Zal
  simp only
  rw [mC (by omega),af,hc,Option.bind_some,hgc]
 have key : ∀ (q p : List Int),p++q=f→(∀ d : Nat,(d : Int)∈p→gN g (oth d)≤2) →
   (sO (f,((((N : Int),E,A,()),g,B,oo,()),()),(f.length : Nat),(p.length : Nat),())=some (.inr (.inl ()))∧∀ d : Nat,(d : Int)∈f→gN g (oth d)≤2) ∨
   ∃ (i d : Nat),f[i]?=some (d : Int)∧3≤gN g (oth d)∧sO (f,((((N : Int),E,A,()),g,B,oo,()),()),(f.length : Nat),(p.length : Nat),())=some (.inl ((i : Int),())):=by
  intro q
  induction q with
  | nil =>
   intro p h hp
   rw [List.append_nil] at h
   subst h
   refine .inl ⟨ac ?_,hp⟩
   unfold qc
   simp only
   rw [aA (by omega),cond_false]
  | cons z q ih =>
   intro p h hp
   have hz : f[p.length]?=some z:=by rw [← h,List.getElem?_append_right (Nat.le_refl _),Nat.sub_self]; rfl
   have hpl:=(List.getElem?_eq_some_iff.1 hz).1
   obtain ⟨k,rfl,hk⟩:=hf z (List.mem_of_getElem? hz)
   by_cases c : gN g (oth k)≤2
   ·have hs : ab qc (f,((((N : Int),E,A,()),g,B,oo,()),()),(f.length : Nat),(p.length : Nat),())=ab qc (f,((((N : Int),E,A,()),g,B,oo,()),()),(f.length : Nat),(((p++[(k : Int)]).length : Nat) : Int),()):=ao (by
     unfold qc
     simp only
     rw [aB (by omega),cond_true,af,hz,Option.bind_some,one k hk,Option.bind_some,c7 c,cond_false,a9 (by omega)]
     simp)
    rcases ih (p++[(k : Int)]) (by simpa using h) (fun d hd=>by
     rcases List.mem_append.1 hd with hd | hd
     ·exact hp d hd
     ·rw [List.mem_singleton] at hd
      have : d=k:=by omega
      subst this; exact c) with ⟨h1,h2⟩ | ⟨i,d,h1,h2,h3⟩
    ·exact .inl ⟨hs.trans h1,h2⟩
    ·exact .inr ⟨i,d,h1,h2,hs.trans h3⟩
   ·refine .inr ⟨p.length,k,hz,by omega,ac ?_⟩
    unfold qc
    simp only
    rw [aB (by omega),cond_true,af,hz,Option.bind_some,one k hk,Option.bind_some,d7 (by omega),cond_true]
 unfold Zax Za
 simp only
 rcases key f [] rfl (fun d hd=>by cases hd) with ⟨h1,h2⟩ | ⟨i,d,h1,h2,h3⟩
 ·left
  rw [show sO (f,((((N : Int),E,A,()),g,B,oo,()),()),((f.length : Nat) : Int),0,())=_ from h1]
  exact ⟨rfl,h2⟩
 ·right
  rw [show sO (f,((((N : Int),E,A,()),g,B,oo,()),()),((f.length : Nat) : Int),0,())=_ from h3]
  exact ⟨i,d,h1,h2,rfl⟩
structure ExtF (N : Nat) (E : List Arc) (A : List (List Int)) (g : List Int) (o : Nat) (nx : List Int) (next to e fr bk on a' x y u d : Nat) : Prop where
 sys : Sys N E A nx (aa nx)
 met : Met E A g o (aa nx)
 w : 3≤gN g (oth d)
 way : ∃ p,dd nx (next : Int) ((next : Int) :: p) (to : Int)∧tsm g ((next : Int) :: p)=gN g (oth d) - 1
 nd : nx[d]?=some ((next : Nat) : Int)
 to2 : to < 2 * E.length
 d2 : d < 2 * E.length
 ext : ExtD E to d e fr bk on a'
 sp : SplitOK N E A e x y
 un : u < N
 tu : tl E next=(u : Int)
 eo : EdgeOK (N+1) (bq E N e x y) (eI A e E.length y) (mvN e E.length next) on u N
 oa : oth a'=mvN e E.length (oth d)
 ofr : oth fr=bk
def exE (N : Nat) (E : List Arc) (e x y u : Nat) : List Arc:=bq E N e x y++[((u : Int),((N : Nat) : Int),())]
def exA (N : Nat) (E : List Arc) (A : List (List Int)) (e y u next on : Nat) : List (List Int):=eY (eI A e E.length y) u N (E.length+1) (mvN e E.length next) on
def exG (g : List Int) (d e fr a' : Nat) : List Int:=ey (bh g e) a' fr 2 (gN g (oth d) - 2) 1 1
def zM (I : Nat→List Arc→List (List Int)→List Int→Nat→Prop) : Prop:=∀ N E A g o nx next to e fr bk on a' x y u d nx',ExtF N E A g o nx next to e fr bk on a' x y u d→Sys (N+1) (exE N E e x y u) (exA N E A e y u next on) nx' (aa nx') →
 Met (exE N E e x y u) (exA N E A e y u next on) (exG g d e fr a') (mvN e E.length o) (aa nx')→I N E A g o→I (N+1) (exE N E e x y u) (exA N E A e y u next on) (exG g d e fr a') (mvN e E.length o)
def emB (E : List Arc) : List ByteArray:=List.replicate (2 * E.length) ByteArray.empty
theorem EJ {e x y u : Nat} : (exE N E e x y u).length=E.length+2:=by unfold exE; simp [cD]
theorem mU {I : Nat→List Arc→List (List Int)→List Int→Nat→Prop} (hI : zM I) (h : Sys N E A nx (aa nx)) (hm : Met E A g o (aa nx)) (hO : Out g o (aa nx)) (hn : N < 16384) (hM : E.length+1 < 32768) (h0 : I N E A g o) :
  ∀ (q p : List (List Int)),p++q=aa nx→(∀ f∈p,(o : Int)∉f→∀ d : Nat,(d : Int)∈f→gN g (oth d)≤2) →
   (ib ((N : Int),E,A,g,emB E,(o : Int),0,0,aa nx,false,((aa nx).length : Nat),(p.length : Nat),())=some (.inr (.inl ((N : Int),E,A,g,emB E,(o : Int),0,0,false,())))∧∀ f∈aa nx,(o : Int)∉f→∀ d : Nat,(d : Int)∈f→gN g (oth d)≤2) ∨
   ∃ E' A' g' o' nx',ib ((N : Int),E,A,g,emB E,(o : Int),0,0,aa nx,false,((aa nx).length : Nat),(p.length : Nat),())=some (.inr (.inl (((N+1 : Nat) : Int),E',A',g',emB E',((o' : Nat) : Int),0,0,true,()))) ∧
    Sys (N+1) E' A' nx' (aa nx')∧Met E' A' g' o' (aa nx')∧Out g' o' (aa nx')∧exc g' < exc g∧E'.length=E.length+2∧I (N+1) E' A' g' o'
 | [],p,hpq,hp=>by
  rw [List.append_nil] at hpq
  subst hpq
  refine .inl ⟨ac ?_,hp⟩
  unfold jj
  simp only
  rw [aA (by omega),cond_false]
 | f :: q,p,hpq,hp=>by
  have hm1:=h.rot.m1
  have hnum:=h.fs.num
  have hx : (aa nx)[p.length]?=some f:=by rw [← hpq,List.getElem?_append_right (Nat.le_refl _),Nat.sub_self]; rfl
  have hpl:=(List.getElem?_eq_some_iff.1 hx).1
  have hf:=List.mem_of_getElem? hx
  have hel:=(h.fs.elem f hf).2
  have hfl : f.length≤65536:=by have:=h.fs.flen (by omega) f hf; omega
  have next (hfine : (o : Int)∉f→∀ d : Nat,(d : Int)∈f→gN g (oth d)≤2)
    (hs : jj ((N : Int),E,A,g,emB E,(o : Int),0,0,aa nx,false,((aa nx).length : Nat),(p.length : Nat),())=some (.inl ((N : Int),E,A,g,emB E,(o : Int),0,0,aa nx,false,((aa nx).length : Nat),((p.length+1 : Nat) : Int),()))):=by
   have ih:=mU hI h hm hO hn hM h0 q (p++[f]) (by simpa using hpq) (fun f' hf'=>by
    rcases List.mem_append.1 hf' with hf' | hf'
    ·exact hp f' hf'
    ·rw [List.mem_singleton] at hf'; subst hf'; exact hfine)
   rw [show (p++[f]).length=p.length+1 by simp] at ih
   have hs' : ib ((N : Int),E,A,g,emB E,(o : Int),0,0,aa nx,false,((aa nx).length : Nat),(p.length : Nat),())=ib ((N : Int),E,A,g,emB E,(o : Int),0,0,aa nx,false,((aa nx).length : Nat),((p.length+1 : Nat) : Int),()):=ao hs
   rw [← hs'] at ih
   exact ih
  by_cases co : (o : Int)∈f
  ·refine next (fun hh=>absurd co hh) ?_
   unfold jj
   simp only
   rw [aB (by omega),cond_true,ap hpl,Option.bind_some,hx,Option.bind_some,fR f (o : Int) (by omega),Option.bind_some]
   simp only [inB,co,decide_true,cond_true]
   rw [a9 (by omega)]
  ·rcases BA (N:=N) (A:=A) (emB E) (o : Int) (hm.good h.rot) hm1 hel hfl with ⟨r1,r2⟩ | ⟨i,d,r1,r2,r3⟩
   ·refine next (fun _=>r2) ?_
    unfold jj
    simp only
    rw [aB (by omega),cond_true,ap hpl,Option.bind_some,hx,Option.bind_some,fR f (o : Int) (by omega),Option.bind_some]
    simp only [inB,co,decide_false,cond_false]
    rw [r1,Option.bind_some]
    simp only
    rw [aB (by omega),cond_true,a9 (by omega)]
   ·right
    obtain ⟨nt,to,e,fr,bk,on,a',x,y,u,nx',k0,k1,k2,k3,k4,k5,k6,k7,k8,k9,k10,k11,k12,k13,k14,k15⟩:=Bb (B:=emB E) h hm hO hn hM hf co r1 r2
    have hlen : (exE N E e x y u).length=E.length+2:=EJ
    refine ⟨exE N E e x y u,exA N E A e y u nt on,exG g d e fr a',mvN e E.length o,nx',ac ?_,k12,k13,k14,k15,hlen,hI N E A g o nx nt to e fr bk on a' x y u d nx' ⟨h,hm,r2,k0,k1,k2,k3,k4,k5,k6,k7,k8,k9,k10⟩ k12 k13 h0⟩
    unfold jj
    simp only
    rw [aB (by omega),cond_true,ap hpl,Option.bind_some,hx,Option.bind_some,fR f (o : Int) (by omega),Option.bind_some]
    simp only [inB,co,decide_false,cond_false]
    rw [r3,Option.bind_some]
    simp only
    rw [aA (by omega),cond_false,k11,Option.bind_some]
    simp only
    rw [bn rfl,cond_false]
    unfold emB
    rw [hlen]
    rfl
end
theorem oS {I : Nat→List Arc→List (List Int)→List Int→Nat→Prop} (hI : zM I) : ∀ (n : Nat) (N : Nat) (E : List Arc) (A : List (List Int)) (g : List Int) (o : Nat) (nx : List Int),exc g < n→Sys N E A nx (aa nx)→Met E A g o (aa nx)→Out g o (aa nx)→N+exc g < 16384→E.length+2 * exc g+1 < 32768→I N E A g o →
  ∃ N' E' A' g' o' nx',yy ((N : Int),E,A,g,emB E,(o : Int),0,0,true,())=some (.inr (.inl (((N' : Nat) : Int),E',A',g',emB E',((o' : Nat) : Int),0,0,()))) ∧
   Sys N' E' A' nx' (aa nx')∧Met E' A' g' o' (aa nx')∧Out g' o' (aa nx')∧(∀ f∈aa nx',(o' : Int)∉f→∀ d : Nat,(d : Int)∈f→gN g' (oth d)≤2)∧N'≤N+exc g∧E'.length+2 * N=E.length+2 * N'∧I N' E' A' g' o'
 | 0,N,E,A,g,o,nx,hn,_,_,_,_,_,_=>by omega
 | n+1,N,E,A,g,o,nx,hn,h,hm,hO,hb1,hb2,h0=>by
  rcases mU hI h hm hO (by omega) (by omega) h0 (aa nx) [] rfl (fun f hf=>by cases hf) with ⟨h1,h2⟩ | ⟨E',A',g',o',nx',h1,h2,h3,h4,h5,h6,h7⟩
  ·refine ⟨N,E,A,g,o,nx,?_,h,hm,hO,h2,by omega,rfl,h0⟩
   refine (ao (t:=((N : Int),E,A,g,emB E,(o : Int),0,0,false,())) ?_).trans (ac ?_)
   ·unfold qK
    simp only [cond_true]
    rw [(i0 h.rot h.fol).1,Option.bind_some]
    simp only
    rw [show ib ((N : Int),E,A,g,emB E,(o : Int),0,0,aa nx,false,((aa nx).length : Int),0,())=_ from h1]
    rfl
   ·unfold qK
    rfl
  ·obtain ⟨N2,E2,A2,g2,o2,nx2,j1,j2,j3,j4,j5,j6,j7,j8⟩:=oS hI n (N+1) E' A' g' o' nx' (by omega) h2 h3 h4 (by omega) (by omega) h7
   refine ⟨N2,E2,A2,g2,o2,nx2,?_,j2,j3,j4,j5,by omega,by omega,j8⟩
   refine (ao (t:=(((N+1 : Nat) : Int),E',A',g',emB E',(o' : Int),0,0,true,())) ?_).trans j1
   unfold qK
   simp only [cond_true]
   rw [(i0 h.rot h.fol).1,Option.bind_some]
   simp only
   rw [show ib ((N : Int),E,A,g,emB E,(o : Int),0,0,aa nx,false,((aa nx).length : Int),0,())=_ from h1]
   rfl
end Go.Vm


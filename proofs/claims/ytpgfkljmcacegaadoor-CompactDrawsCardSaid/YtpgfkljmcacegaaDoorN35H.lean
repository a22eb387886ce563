/-
 Faces and vertices hang together.
-/
import Derived.Test.YtpgfkljmcacegaaDoorN33P
import Derived.Test.YtpgfkljmcacegaaDoorN42B
set_option linter.unusedVariables false
set_option linter.unusedSimpArgs false
namespace Go.Vm
open Go.Proofs
set_option maxRecDepth 100000
attribute [local irreducible] loopFix
section
variable {V F M : Nat} {t h l r : Nat→Nat}
end
section
variable {N : Nat} {E : List Arc} {A : List (List Int)} {nx fw : List Int}
noncomputable def fcn (E : List Arc) (nx : List Int) (k : Nat) : Nat:=((marksOf (2 * E.length) (facesOf nx)).getD k 0).toNat
def tln (E : List Arc) (k : Nat) : Nat:=(tl E k).toNat
def nxN (nx : List Int) (k : Nat) : Nat:=(nx.getD k 0).toNat
theorem tln_eq (h : RotOK (N : Nat) E A) {k : Nat} (hk : k < 2 * E.length) : tl E k=(tln E k : Int)∧tln E k < N:=by
 obtain ⟨v,e,hv⟩:=h.tl_lt hk
 unfold tln
 rw [e]
 exact ⟨rfl,hv⟩
theorem nxN_eq {L : Nat} (h : NxOK nx L) {k : Nat} (hk : k < L) : nx[k]?=some ((nxN nx k : Nat) : Int)∧nxN nx k < L:=by
 obtain ⟨y,hy,e⟩:=h.2 k hk
 unfold nxN
 rw [List.getD_eq_getElem?_getD,e]
 exact ⟨rfl,hy⟩
theorem fcn_face (h : RotOK (N : Nat) E A) (hn : Fol oth E A nx) {k : Nat} (hk : k < 2 * E.length) : ∃ f,(facesOf nx)[fcn E nx k]?=some f∧(k : Int)∈f∧fcn E nx k < (facesOf nx).length:=by
 obtain ⟨j,j1,j2,f,j3,j4⟩:=marksOf_some (facesOf_fs h hn).1 hk
 have : fcn E nx k=j:=by unfold fcn; rw [List.getD_eq_getElem?_getD,j2]; rfl
 rw [this]
 exact ⟨f,j3,j4,j1⟩
theorem fcn_of (h : RotOK (N : Nat) E A) (hn : Fol oth E A nx) {j k : Nat} {f : List Int} (hj : (facesOf nx)[j]?=some f) (hk : (k : Int)∈f) : fcn E nx k=j:=by
 have:=marksOf_at (facesOf_fs h hn).1 hj hk
 unfold fcn
 rw [List.getD_eq_getElem?_getD,this]; rfl
theorem fcn_next (h : RotOK (N : Nat) E A) (hn : Fol oth E A nx) {k y : Nat} (hy : nx[k]?=some (y : Int)) : fcn E nx y=fcn E nx k:=by
 obtain ⟨hk,_,_⟩:=next_tail h hn hy
 obtain ⟨f,f1,f2,_⟩:=fcn_face h hn hk
 exact fcn_of h hn f1 (cyc_closed ((facesOf_fs h hn).2 f (List.mem_of_getElem? f1)) f2 hy)
theorem fw_next (h : RotOK (N : Nat) E A) (hn : Fol oth E A nx) (ff : Fol id E A fw) {k : Nat} (hk : k < 2 * E.length) : ∃ y : Nat,y < 2 * E.length∧fw[k]?=some (y : Int)∧nx[oth k]?=some (y : Int)∧tl E y=tl E k∧fcn E nx y=fcn E nx (oth k):=by
 obtain ⟨y,y1,y2,y3⟩:=fol_both h hn ff (oth_lt hk)
 rw [oth_oth] at y3
 refine ⟨y,y1,y3,y2,?_,fcn_next h hn y2⟩
 obtain ⟨_,_,q⟩:=next_tail h hn y2
 rw [q]; unfold hd; rw [oth_oth]
theorem fw_ok (h : RotOK (N : Nat) E A) (hn : Fol oth E A nx) (ff : Fol id E A fw) : NxOK fw (2 * E.length):=⟨ff.len,fun k hk=>by
 obtain ⟨y,y1,y2,_⟩:=fw_next h hn ff hk; exact ⟨y,y1,y2⟩⟩
theorem fw_inj (h : RotOK (N : Nat) E A) (hn : Fol oth E A nx) (ff : Fol id E A fw) {a b : Nat} (ha : a < 2 * E.length) (hb : b < 2 * E.length) (e : nxN fw a=nxN fw b) : a=b:=by
 obtain ⟨y,y1,y2,y3,_⟩:=fw_next h hn ff ha
 obtain ⟨z,z1,z2,z3,_⟩:=fw_next h hn ff hb
 have h1:=(nxN_eq (fw_ok h hn ff) ha).1
 have h2:=(nxN_eq (fw_ok h hn ff) hb).1
 rw [y2] at h1
 rw [z2] at h2
 have e1:=Option.some.inj h1
 have e2:=Option.some.inj h2
 have : y=z:=by omega
 subst this
 have:=fol_inj32 h hn _ _ _ y3 z3
 rw [← oth_oth a,this,oth_oth]
theorem path_all {P : Int→Prop} {z : Int} : ∀ {s : List Int} {x : Int},Path fw x s z→P x→(∀ y∈s,P y→∀ w,fw[y.toNat]?=some w→w≠z→P w)→z∉s→∀ y∈s,P y
 | [],_,_,_,_,_,y,hy=>by simp at hy
 | a :: s,x,⟨e1,w,w1,w2⟩,hP,hs,hz,y,hy=>by
  rcases List.mem_cons.1 hy with rfl | hy2
  ·rw [e1]; exact hP
  ·cases s with
   | nil=>simp at hy2
   | cons b s =>
    have e2 : b=w:=w2.1
    subst e2
    refine path_all w2 (hs a (by simp) (by rw [e1]; exact hP) b (by rw [e1]; exact w1) (fun e=>hz (by simp [← e]))) (fun y hy=>hs y (by simp at hy ⊢; exact .inr hy)) (fun hm=>hz (by simp at hm ⊢; exact .inr hm)) y hy2
theorem cyc_rest {l : List Int} {x : Int} (hc : Cyc fw l) (hx : x∈l) : ∃ s,Path fw x (x :: s) x∧(∀ y,y∈l↔y∈x :: s)∧(l.Nodup→x∉s):=by
 obtain ⟨p,q,rfl⟩:=List.append_of_mem hx
 refine ⟨q++p,cyc_path (cyc_rot hc),fun y=>?_,fun hn=>?_⟩
 ·simp only [List.mem_append,List.mem_cons]
  constructor
  ·rintro (h | h | h)
   ·exact .inr (.inr h)
   ·exact .inl h
   ·exact .inr (.inl h)
  ·rintro (h | h | h)
   ·exact .inr (.inl h)
   ·exact .inr (.inr h)
   ·exact .inl h
 ·rw [List.nodup_append,List.nodup_cons] at hn
  rw [List.mem_append]
  rintro (h | h)
  ·exact hn.2.1.1 h
  ·exact hn.2.2 x h x (by simp) rfl
theorem faces_hang (h : RotOK (N : Nat) E A) (hn : Fol oth E A nx) (ff : Fol id E A fw) (hc : Conn N E) (L : Nat→Nat) (hL : ∀ d,d < 2 * E.length→L (fcn E nx d)=L (fcn E nx (oth d))) :
  ∀ k,k < 2 * E.length→∀ k',k' < 2 * E.length→L (fcn E nx k)=L (fcn E nx k'):=by
 have same : ∀ (k k' : Nat),k < 2 * E.length→k' < 2 * E.length→tl E k=tl E k'→L (fcn E nx k)=L (fcn E nx k'):=by
  intro k k' hk hk' e
  obtain ⟨v,hv,vn⟩:=h.tl_lt hk
  have hvl : v < A.length:=by have:=h.al; omega
  have g:=List.getElem?_eq_getElem hvl
  have m1:=h.around hk hv g
  have m2:=h.around hk' (by rw [← e]; exact hv) g
  have hcy:=ff.cyc (List.getElem_mem hvl) (fun e=>by rw [e] at m1; simp at m1)
  obtain ⟨s,s1,s2,s3⟩:=cyc_rest hcy m1
  have hns:=s3 (h.list_nodup (List.getElem_mem hvl))
  obtain ⟨_,w,w1,w2⟩:=s1
  rw [Int.toNat_natCast] at w1
  have step : ∀ j : Nat,j < 2 * E.length→∀ w : Nat,fw[j]?=some (w : Int)→L (fcn E nx w)=L (fcn E nx j):=by
   intro j hj w hw
   obtain ⟨y,_,y2,_,_,y5⟩:=fw_next h hn ff hj
   rw [y2] at hw
   have:=Option.some.inj hw
   have : y=w:=by omega
   subst this
   rw [y5]; exact (hL j hj).symm
  have hel : ∀ y∈(k : Int) :: s,∃ j : Nat,y=(j : Int)∧j < 2 * E.length:=fun y hy=>h.mem_of (List.getElem_mem hvl) ((s2 y).2 hy)
  rcases List.mem_cons.1 ((s2 _).1 m2) with e1 | e1
  ·have : k=k':=by omega
   rw [this]
  ·have hwn : ∃ w' : Nat,w=(w' : Int)∧w' < 2 * E.length:=by
    obtain ⟨y,y1,y2,_⟩:=fw_next h hn ff hk
    rw [y2] at w1
    exact ⟨y,(Option.some.inj w1).symm,y1⟩
   obtain ⟨w',rfl,hw'⟩:=hwn
   have:=path_all (P:=fun y=>L (fcn E nx y.toNat)=L (fcn E nx k)) w2 (by rw [Int.toNat_natCast]; exact step k hk w' w1) (fun y hy hP w hw _=>by
    obtain ⟨j,rfl,hj⟩:=hel y (by simp [hy])
    rw [Int.toNat_natCast] at hP hw
    obtain ⟨z,z1,z2,_⟩:=fw_next h hn ff hj
    rw [z2] at hw
    have hwz:=Option.some.inj hw
    subst hwz
    rw [Int.toNat_natCast,step j hj z z2]; exact hP) hns _ e1
   rw [Int.toNat_natCast] at this
   exact this.symm
 have reach : ∀ u v,Reach E u v→∀ k k',k < 2 * E.length→k' < 2 * E.length→tl E k=u→tl E k'=v→L (fcn E nx k)=L (fcn E nx k'):=by
  intro u v hr
  induction hr with
  | refl=>intro k k' hk hk' e e'; exact same k k' hk hk' (by rw [e,e'])
  | @step v w j _ hj e1 e2 ih =>
   intro k k' hk hk' e e'
   rw [ih k j hk hj e e1,hL j hj]
   exact same _ _ (oth_lt hj) hk' (by unfold hd at e2; rw [e2,e'])
 intro k hk k' hk'
 obtain ⟨u,hu,un⟩:=h.tl_lt hk
 obtain ⟨v,hv,vn⟩:=h.tl_lt hk'
 exact reach u v ((hc u un).symm.trans (hc v vn)) k k' hk hk' hu hv
theorem verts_hang (h : RotOK (N : Nat) E A) (hc : Conn N E) (L : Nat→Nat) (hL : ∀ d,d < 2 * E.length→L (tln E d)=L (tln E (oth d))) : ∀ x,x < N→L x=L 0:=by
 intro x hx
 have key : ∀ {u v : Nat},Reach E u v→L v=L u:=by
  intro u v hr
  induction hr with
  | refl=>rfl
  | @step v w j _ hj e1 e2 ih =>
   rw [← ih]
   have:=hL j hj
   unfold tln at this
   unfold hd at e2
   rw [e1,e2] at this
   simpa using this.symm
 exact key (hc x hx)
end
end Go.Vm

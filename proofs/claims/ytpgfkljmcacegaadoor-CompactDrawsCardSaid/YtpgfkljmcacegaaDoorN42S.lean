/-
 A rectangular shape at its places is drawn: points and edges.
-/
import Derived.Test.YtpgfkljmcacegaaDoorN42R
import Derived.Test.YtpgfkljmcacegaaDoorN42I
set_option linter.unusedVariables false
set_option linter.unusedSimpArgs false
namespace Go.Vm
open Go.Proofs
set_option maxRecDepth 100000
attribute [local irreducible] loopFix
theorem touch_no (N' : Int) (E : List Arc) (A : List (List Int)) (P : List Pt) (i j : Nat) (x y : Arc) (hx : E[i]?=some x) (hy : E[j]?=some y) {p1 p2 p3 p4 : Pt} (g1 : getI P x.1=some p1) (g2 : getI P x.2.1=some p2) (g3 : getI P y.1=some p3) (g4 : getI P y.2.1=some p4)
  (v1 : vP p1=true) (v2 : vP p2=true) (v3 : vP p3=true) (v4 : vP p4=true) (hx2 : x.1≠x.2.1) (hy2 : y.1≠y.2.1) (H0 : ¬ (x.1=y.1∧x.2.1=y.2.1)) (H0' : ¬ (x.1=y.2.1∧x.2.1=y.1))
  (Hm : x.1≠y.1→x.1≠y.2.1→x.2.1≠y.1→x.2.1≠y.2.1→meetB p1 p2 p3 p4=false) (H1 : x.1≠y.1→x.1≠y.2.1→onB p1 p3 p4=false) (H2 : x.2.1≠y.1→x.2.1≠y.2.1→onB p2 p3 p4=false)
  (H3 : x.1≠y.1→x.2.1≠y.1→onB p3 p1 p2=false) (H4 : x.1≠y.2.1→x.2.1≠y.2.1→onB p4 p1 p2=false) : Zak ((N',E,A,()),P,(i : Int),(j : Int),())=some (false,()):=by
 unfold Zak
 simp only [getI_of,hx,hy,g1,g2,g3,g4,Option.bind_some]
 rw [show Zbj ((p1.1,p1.2.1,()),((p3.1,p3.2.1,()),(p4.1,p4.2.1,()),()),())=_ from ron_eq v3 v4 v1,show Zbj ((p2.1,p2.2.1,()),((p3.1,p3.2.1,()),(p4.1,p4.2.1,()),()),())=_ from ron_eq v3 v4 v2,
  show Zbj ((p3.1,p3.2.1,()),((p1.1,p1.2.1,()),(p2.1,p2.2.1,()),()),())=_ from ron_eq v1 v2 v3,show Zbj ((p4.1,p4.2.1,()),((p1.1,p1.2.1,()),(p2.1,p2.2.1,()),()),())=_ from ron_eq v1 v2 v4,
  show Zaw (((p1.1,p1.2.1,()),(p2.1,p2.2.1,()),()),((p3.1,p3.2.1,()),(p4.1,p4.2.1,()),()),())=_ from rmeet_eq v1 v2 v3 v4]
 simp only [Option.bind_some]
 by_cases c1 : x.1=y.1
 ·have n1 : x.1≠y.2.1:=fun e=>hy2 (by rw [← c1,e])
  have n2 : x.2.1≠y.1:=fun e=>hx2 (by rw [e,c1])
  have n3 : x.2.1≠y.2.1:=fun e=>H0 ⟨c1,e⟩
  rw [eqI_t c1,eqI_f n2,eqI_f n3,neI_f c1,neI_t n1,neI_t n2,neI_f c1.symm,neI_t (Ne.symm n1),neI_t n3,neI_t (Ne.symm n3),H2 n2 n3,H4 n1 n3]
  rfl
 ·by_cases c2 : x.1=y.2.1
  ·have n2 : x.2.1≠y.2.1:=fun e=>hx2 (by rw [e,c2])
   have n3 : x.2.1≠y.1:=fun e=>H0' ⟨c2,e⟩
   rw [eqI_f c1,eqI_t c2,eqI_f n2,eqI_f n3,neI_t c1,neI_f c2,neI_t n2,neI_t n3,neI_t (Ne.symm c1),neI_f c2.symm,neI_t (Ne.symm n3),H2 n3 n2,H3 c1 n3]
   rfl
  ·rw [eqI_f c1,eqI_f c2,neI_t c1,neI_t c2,neI_t (Ne.symm c1),neI_t (Ne.symm c2),H1 c1 c2]
   by_cases c3 : x.2.1=y.1
   ·have n3 : x.2.1≠y.2.1:=fun e=>hy2 (by rw [← c3,e])
    rw [neI_f c3,neI_f c3.symm,neI_t (Ne.symm n3),H4 c2 n3]
    rfl
   ·by_cases c4 : x.2.1=y.2.1
    ·rw [neI_t c3,neI_t (Ne.symm c3),neI_f c4,neI_f c4.symm,H3 c1 c3]
     rfl
    ·rw [neI_t c3,neI_t c4,Hm c1 c2 c3 c4]
     rfl
theorem sgZ_pos {n : Int} : sgZ n=1↔0 < n:=by
 unfold sgZ
 split
 ·omega
 ·split <;> omega
theorem sgZ_neg {n : Int} : sgZ n=-1↔n < 0:=by
 unfold sgZ
 split
 ·omega
 ·split <;> omega
theorem sgZ_val (n : Int) : sgZ n=1∨sgZ n=-1∨sgZ n=0:=by
 unfold sgZ
 split
 ·exact .inl rfl
 ·split
  ·exact .inr (.inl rfl)
  ·exact .inr (.inr rfl)
theorem parts_signs {a b c d : Pt} (h : partsB a b c d=true) : (0 < detP a b c∧detP a b d < 0)∨(detP a b c < 0∧0 < detP a b d):=by
 unfold partsB at h
 rcases sgZ_val (detP a b c) with e1 | e1 | e1 <;> rcases sgZ_val (detP a b d) with e2 | e2 | e2 <;> rw [e1,e2] at h
 ·exact absurd h (by decide)
 ·exact .inl ⟨sgZ_pos.1 e1,sgZ_neg.1 e2⟩
 ·exact absurd h (by decide)
 ·exact .inr ⟨sgZ_neg.1 e1,sgZ_pos.1 e2⟩
 ·exact absurd h (by decide)
 ·exact absurd h (by decide)
 ·exact absurd h (by decide)
 ·exact absurd h (by decide)
 ·exact absurd h (by decide)
theorem mul_pos_cases {u v : Int} (h : 0 < u * v) : (0 < u∧0 < v)∨(u < 0∧v < 0):=by
 rcases Int.lt_trichotomy u 0 with hu | hu | hu
 ·rcases Int.lt_trichotomy v 0 with hv | hv | hv
  ·exact .inr ⟨hu,hv⟩
  ·rw [hv,Int.mul_zero] at h; omega
  ·have:=Int.mul_neg_of_neg_of_pos hu hv; omega
 ·rw [hu,Int.zero_mul] at h; omega
 ·rcases Int.lt_trichotomy v 0 with hv | hv | hv
  ·have:=Int.mul_neg_of_pos_of_neg hu hv; omega
  ·rw [hv,Int.mul_zero] at h; omega
  ·exact .inl ⟨hu,hv⟩
theorem mul_neg_cases {u v : Int} (h : u * v < 0) : (0 < u∧v < 0)∨(u < 0∧0 < v):=by
 rcases Int.lt_trichotomy u 0 with hu | hu | hu
 ·rcases Int.lt_trichotomy v 0 with hv | hv | hv
  ·have:=Int.mul_pos_of_neg_of_neg hu hv; omega
  ·rw [hv,Int.mul_zero] at h; omega
  ·exact .inr ⟨hu,hv⟩
 ·rw [hu,Int.zero_mul] at h; omega
 ·rcases Int.lt_trichotomy v 0 with hv | hv | hv
  ·exact .inl ⟨hu,hv⟩
  ·rw [hv,Int.mul_zero] at h; omega
  ·have:=Int.mul_pos hu hv; omega
def Sm (p : Pt) : Prop:=0≤p.1∧p.1≤16384∧0≤p.2.1∧p.2.1≤16384
theorem mul_small {u v : Int} (hu : -16384≤u∧u≤16384) (hv : -16384≤v∧v≤16384) : -268435456≤u * v∧u * v≤268435456:=by
 have h1 : (u.natAbs * v.natAbs : Nat)≤16384 * 16384:=Nat.mul_le_mul (by omega) (by omega)
 have h2 : (u * v).natAbs=u.natAbs * v.natAbs:=Int.natAbs_mul u v
 omega
theorem det_val {a b p : Pt} (ha : Sm a) (hb : Sm b) (hp : Sm p) : detP a b p=(b.1 - a.1) * (p.2.1 - a.2.1) - (b.2.1 - a.2.1) * (p.1 - a.1):=by
 unfold Sm at ha hb hp
 have m1:=mul_small (u:=b.1 - a.1) (v:=p.2.1 - a.2.1) (by omega) (by omega)
 have m2:=mul_small (u:=b.2.1 - a.2.1) (v:=p.1 - a.1) (by omega) (by omega)
 unfold detP
 rw [subI64 (a:=b.1) (by omega) (by omega),subI64 (a:=p.2.1) (by omega) (by omega),subI64 (a:=b.2.1) (by omega) (by omega),subI64 (a:=p.1) (by omega) (by omega),mulI64 (by omega) (by omega),mulI64 (by omega) (by omega),subI64 (by omega) (by omega)]
theorem cross_point {a b c d : Pt} (ha : Sm a) (hb : Sm b) (hc : Sm c) (hd : Sm d) (h1 : partsB a b c d=true) (h2 : partsB c d a b=true) (hab : a.2.1=b.2.1) (hcd : c.1=d.1∨c.2.1=d.2.1) :
  c.1=d.1∧((a.1 < c.1∧c.1 < b.1)∨(b.1 < c.1∧c.1 < a.1))∧((c.2.1 < a.2.1∧a.2.1 < d.2.1)∨(d.2.1 < a.2.1∧a.2.1 < c.2.1)):=by
 have s1:=parts_signs h1
 have s2:=parts_signs h2
 rw [det_val ha hb hc,det_val ha hb hd,show b.2.1 - a.2.1=0 by omega,Int.zero_mul,Int.zero_mul,Int.sub_zero,Int.sub_zero] at s1
 rcases hcd with e | e
 ·rw [det_val hc hd ha,det_val hc hd hb,show d.1 - c.1=0 by omega,Int.zero_mul,Int.zero_mul,Int.zero_sub,Int.zero_sub] at s2
  refine ⟨e,?_,?_⟩
  ·rcases s2 with ⟨q1,q2⟩ | ⟨q1,q2⟩
   ·have r1:=mul_neg_cases (u:=d.2.1 - c.2.1) (v:=a.1 - c.1) (by omega)
    have r2:=mul_pos_cases (u:=d.2.1 - c.2.1) (v:=b.1 - c.1) (by omega)
    omega
   ·have r1:=mul_pos_cases (u:=d.2.1 - c.2.1) (v:=a.1 - c.1) (by omega)
    have r2:=mul_neg_cases (u:=d.2.1 - c.2.1) (v:=b.1 - c.1) (by omega)
    omega
  ·rcases s1 with ⟨q1,q2⟩ | ⟨q1,q2⟩
   ·have r1:=mul_pos_cases q1
    have r2:=mul_neg_cases q2
    omega
   ·have r1:=mul_neg_cases q1
    have r2:=mul_pos_cases q2
    omega
 ·exfalso
  rw [← e] at s1
  omega
theorem span_iff {a b p : Pt} : spanB a b p=true↔(min a.1 b.1≤p.1∧p.1≤max a.1 b.1)∧min a.2.1 b.2.1≤p.2.1∧p.2.1≤max a.2.1 b.2.1:=by
 unfold spanB geI leI minI maxI
 simp only [Bool.and_eq_true,decide_eq_true_eq]
 constructor
 ·rintro ⟨h1,h2,h3,h4⟩
  split at h1 <;> split at h2 <;> split at h3 <;> split at h4 <;> omega
 ·rintro ⟨⟨h1,h2⟩,h3,h4⟩
  refine ⟨?_,?_,?_,?_⟩
  ·split <;> omega
  ·split <;> omega
  ·split <;> omega
  ·split <;> omega
section
variable {N : Nat} {E : List Arc} {A : List (List Int)} {nx fw g : List Int} {k X Y : Nat→Int} {F out : Nat} {xl xr yt yb : Nat→Int}
def ptV (X Y : Nat→Int) (v : Nat) : Pt:=(X v,Y v,())
theorem DrwOK.span_on (D : DrwOK N E nx fw g k X Y F out xl xr yt yb) {d : Nat} (hd : d < 2 * E.length) {p : Pt} (h : spanB (ptV X Y (tln E d)) (ptV X Y (tln E (oth d))) p=true) : OnD E k X Y d p.1 p.2.1:=by
 obtain ⟨a1,a2,a3,a4,a5⟩:=D.opp hd
 have h:=span_iff.1 h
 unfold ptV at h
 simp only at h
 unfold OnD
 rcases (by omega : k d=0∨k d=1∨k d=2∨k d=3) with c | c | c | c
 ·have hc:=D.hC.u d hd c
  rw [thr0 c,thr2 (show k (oth d)=2 by omega),oth_two]
  omega
 ·have hc:=D.hC.r d hd c
  rw [thr1 c,thr3 (show k (oth d)=3 by omega),oth_two]
  omega
 ·have hc:=D.hC.dn d hd c
  rw [thr2 c,thr0 (show k (oth d)=0 by omega),oth_two]
  omega
 ·have hc:=D.hC.l d hd c
  rw [thr3 c,thr1 (show k (oth d)=1 by omega),oth_two]
  omega
theorem onB_span {p a b : Pt} (h : onB p a b=true) : spanB a b p=true:=by
 unfold onB at h
 exact (Bool.and_eq_true _ _ ▸ h).1
theorem DrwOK.on_tail (D : DrwOK N E nx fw g k X Y F out xl xr yt yb) {d : Nat} (hd : d < 2 * E.length) : OnD E k X Y d (X (tln E d)) (Y (tln E d)):=.inl (D.at_tail hd)
theorem DrwOK.on_head (D : DrwOK N E nx fw g k X Y F out xl xr yt yb) {d : Nat} (hd : d < 2 * E.length) : OnD E k X Y d (X (tln E (oth d))) (Y (tln E (oth d))):=.inr (D.at_tail (oth_lt2 hd))
theorem DrwOK.end_on (D : DrwOK N E nx fw g k X Y F out xl xr yt yb) {d e : Nat} (hd : d < 2 * E.length) (he : e < 2 * E.length) (hne : d / 2≠e / 2) {u : Nat} (hu : u=d∨u=oth d) (h : spanB (ptV X Y (tln E e)) (ptV X Y (tln E (oth e))) (ptV X Y (tln E u))=true) : tln E u=tln E e∨tln E u=tln E (oth e):=by
 have h2:=D.span_on he h
 have hul : u < 2 * E.length:=by rcases hu with rfl | rfl; exact hd; exact oth_lt2 hd
 have h1 : OnD E k X Y d (X (tln E u)) (Y (tln E u)):=by
  rcases hu with rfl | rfl
  ·exact D.on_tail hd
  ·exact D.on_head hd
 obtain ⟨a,b,a1,b1,e1,e2,e3⟩:=D.common hd he hne h1 h2
 have hal : a < 2 * E.length:=by rcases a1 with rfl | rfl; exact hd; exact oth_lt2 hd
 have:=D.points hul hal e2 e3
 rw [this,e1]
 rcases b1 with rfl | rfl
 ·exact .inl rfl
 ·exact .inr rfl
theorem DrwOK.level (D : DrwOK N E nx fw g k X Y F out xl xr yt yb) {d : Nat} (hd : d < 2 * E.length) : (Y (tln E d)=Y (tln E (oth d))∧(k d=1∨k d=3))∨(X (tln E d)=X (tln E (oth d))∧(k d=0∨k d=2)):=by
 obtain ⟨a1,a2,_⟩:=D.opp hd
 rcases (by omega : k d=0∨k d=1∨k d=2∨k d=3) with c | c | c | c
 ·exact .inr ⟨(D.hC.u d hd c).2.symm,.inl c⟩
 ·exact .inl ⟨(D.hC.r d hd c).2.symm,.inl c⟩
 ·exact .inr ⟨(D.hC.dn d hd c).2.symm,.inr c⟩
 ·exact .inl ⟨(D.hC.l d hd c).2.symm,.inr c⟩
theorem DrwOK.no_meet (D : DrwOK N E nx fw g k X Y F out xl xr yt yb) (hS : ∀ v,v < N→0≤X v∧X v≤16384∧0≤Y v∧Y v≤16384) {d e : Nat} (hd : d < 2 * E.length) (he : e < 2 * E.length) (hne : d / 2≠e / 2)
  (n1 : tln E d≠tln E e) (n2 : tln E d≠tln E (oth e)) (n3 : tln E (oth d)≠tln E e) (n4 : tln E (oth d)≠tln E (oth e)) : meetB (ptV X Y (tln E d)) (ptV X Y (tln E (oth d))) (ptV X Y (tln E e)) (ptV X Y (tln E (oth e)))=false:=by
 have hod:=oth_lt2 hd
 have hoe:=oth_lt2 he
 have sm : ∀ x,x < 2 * E.length→Sm (ptV X Y (tln E x)):=fun x hx=>by
  have:=hS _ (D.p.tlt x hx)
  unfold Sm ptV
  exact this
 cases hm : meetB (ptV X Y (tln E d)) (ptV X Y (tln E (oth d))) (ptV X Y (tln E e)) (ptV X Y (tln E (oth e))) with
 | false=>rfl
 | true =>
  exfalso
  unfold meetB at hm
  simp only [Bool.or_eq_true,Bool.and_eq_true] at hm
  -- a point of both is an end of both
  have fin : ∀ p q,OnD E k X Y d p q→OnD E k X Y e p q→False:=by
   intro p q h1 h2
   obtain ⟨u,v,u1,v1,e1,_⟩:=D.common hd he hne h1 h2
   rcases u1 with rfl | rfl <;> rcases v1 with rfl | rfl
   ·exact n1 e1
   ·exact n2 e1
   ·exact n3 e1
   ·exact n4 e1
  rcases hm with ⟨q1,q2⟩ | q | q | q | q
  ·rcases D.level hd with ⟨l1,l2⟩ | ⟨l1,l2⟩
   ·have hcd : (ptV X Y (tln E e)).1=(ptV X Y (tln E (oth e))).1∨(ptV X Y (tln E e)).2.1=(ptV X Y (tln E (oth e))).2.1:=by
     rcases D.level he with ⟨m,_⟩ | ⟨m,_⟩
     ·exact .inr m
     ·exact .inl m
    obtain ⟨r1,r2,r3⟩:=cross_point (sm d hd) (sm _ hod) (sm e he) (sm _ hoe) q1 q2 l1 hcd
    unfold ptV at r1 r2 r3
    simp only at r1 r2 r3
    exact fin (X (tln E e)) (Y (tln E d)) (D.span_on hd (p:=(X (tln E e),Y (tln E d),())) (span_iff.2 (by unfold ptV; simp only; omega))) (D.span_on he (p:=(X (tln E e),Y (tln E d),())) (span_iff.2 (by unfold ptV; simp only; omega)))
   ·rcases D.level he with ⟨m1,m2⟩ | ⟨m1,m2⟩
    ·obtain ⟨r1,r2,r3⟩:=cross_point (sm e he) (sm _ hoe) (sm d hd) (sm _ hod) q2 q1 m1 (.inl l1)
     unfold ptV at r1 r2 r3
     simp only at r1 r2 r3
     exact fin (X (tln E d)) (Y (tln E e)) (D.span_on hd (p:=(X (tln E d),Y (tln E e),())) (span_iff.2 (by unfold ptV; simp only; omega))) (D.span_on he (p:=(X (tln E d),Y (tln E e),())) (span_iff.2 (by unfold ptV; simp only; omega)))
    ·-- both upright
     have s1:=parts_signs q1
     rw [det_val (sm d hd) (sm _ hod) (sm e he),det_val (sm d hd) (sm _ hod) (sm _ hoe)] at s1
     unfold ptV at s1
     simp only at s1
     rw [l1,m1,Int.sub_self,Int.zero_mul,Int.zero_mul] at s1
     omega
  ·exact fin _ _ (D.span_on hd (onB_span q)) (D.on_tail he)
  ·exact fin _ _ (D.span_on hd (onB_span q)) (D.on_head he)
  ·exact fin _ _ (D.on_tail hd) (D.span_on he (onB_span q))
  ·exact fin _ _ (D.on_head hd) (D.span_on he (onB_span q))
theorem DrwOK.ends_one (D : DrwOK N E nx fw g k X Y F out xl xr yt yb) {d e : Nat} (hd : d < 2 * E.length) (he : e < 2 * E.length) (h1 : tln E d=tln E e) (h2 : tln E (oth d)=tln E (oth e)) : d=e:=by
 have hk : k d=k e:=by
  obtain ⟨a1,a2,_⟩:=D.opp hd
  obtain ⟨b1,b2,_⟩:=D.opp he
  rcases (by omega : k d=0∨k d=1∨k d=2∨k d=3) with c | c | c | c <;> rcases (by omega : k e=0∨k e=1∨k e=2∨k e=3) with c' | c' | c' | c' <;> first
   | (rw [c,c']; done)
   | (exfalso
      have q1:=D.hC.u d hd
      have q2:=D.hC.r d hd
      have q3:=D.hC.dn d hd
      have q4:=D.hC.l d hd
      have r1:=D.hC.u e he
      have r2:=D.hC.r e he
      have r3:=D.hC.dn e he
      have r4:=D.hC.l e he
      rw [h1,h2] at q1 q2 q3 q4
      omega)
 have s1:=D.at_tail hd
 have s2:=D.at_tail he
 rw [← h1] at s2
 exact D.step_one hd he hk s1 s2
theorem DrwOK.no_touch (D : DrwOK N E nx fw g k X Y F out xl xr yt yb) (h : RotOK (N : Nat) E A) (hS : ∀ v,v < N→0≤X v∧X v≤16384∧0≤Y v∧Y v≤16384) {P : List Pt} (hP : ∀ v,v < N→P[v]?=some (ptV X Y v)) (i j : Nat) (hij : i≠j) (hi : i < E.length) (hj : j < E.length) : tB (N : Int) E A P i j=false:=by
 have gx:=List.getElem?_eq_getElem hi
 have gy:=List.getElem?_eq_getElem hj
 obtain ⟨_,_,_,_,a5⟩:=h.edge _ (List.getElem_mem hi)
 obtain ⟨_,_,_,_,b5⟩:=h.edge _ (List.getElem_mem hj)
 have ends : ∀ m (hm : m < E.length),(E[m]).1=(tln E (2 * m) : Int)∧(E[m]).2.1=(tln E (oth (2 * m)) : Int):=fun m hm=>by
  have t0:=(tln_eq h (k:=2 * m) (by omega)).1
  have t1:=(tln_eq h (k:=2 * m+1) (by omega)).1
  have g:=List.getElem?_eq_getElem hm
  rw [oth_ev]
  unfold tl at t0 t1
  rw [show 2 * m / 2=m by omega,g] at t0
  rw [show (2 * m+1) / 2=m by omega,g] at t1
  simp only at t0 t1
  rw [if_pos (by omega)] at t0
  rw [if_neg (by omega)] at t1
  exact ⟨t0,t1⟩
 obtain ⟨x1,x2⟩:=ends i hi
 obtain ⟨y1,y2⟩:=ends j hj
 have di : 2 * i < 2 * E.length:=by omega
 have dj : 2 * j < 2 * E.length:=by omega
 have hne : 2 * i / 2≠2 * j / 2:=by omega
 have get : ∀ d,d < 2 * E.length→getI P (tln E d : Int)=some (ptV X Y (tln E d))∧vP (ptV X Y (tln E d))=true:=fun d hd=>by
  have hv:=D.p.tlt d hd
  have:=hS _ hv
  refine ⟨by rw [getI_of]; exact hP _ hv,?_⟩
  unfold vP ptV
  simp only
  rw [geI_t (by omega),leI_t (by omega),geI_t (by omega),leI_t (by omega)]
  rfl
 have oi:=oth_lt2 di
 have oj:=oth_lt2 dj
 obtain ⟨g1,v1⟩:=get _ di
 obtain ⟨g2,v2⟩:=get _ oi
 obtain ⟨g3,v3⟩:=get _ dj
 obtain ⟨g4,v4⟩:=get _ oj
 have key:=touch_no (N : Int) E A P i j _ _ gx gy (p1:=ptV X Y (tln E (2 * i))) (p2:=ptV X Y (tln E (oth (2 * i)))) (p3:=ptV X Y (tln E (2 * j))) (p4:=ptV X Y (tln E (oth (2 * j)))) (by rw [x1]; exact g1) (by rw [x2]; exact g2) (by rw [y1]; exact g3) (by rw [y2]; exact g4) v1 v2 v3 v4 a5 b5
  (fun ⟨e1,e2⟩=>by
   rw [x1,y1] at e1; rw [x2,y2] at e2
   have:=D.ends_one di dj (by omega) (by omega)
   omega)
  (fun ⟨e1,e2⟩=>by
   rw [x1,y2] at e1; rw [x2,y1] at e2
   have:=D.ends_one di oj (by omega) (by rw [oth_two]; omega)
   rw [oth_ev] at this
   omega)
  (fun m1 m2 m3 m4=>by
   rw [x1,y1] at m1; rw [x1,y2] at m2; rw [x2,y1] at m3; rw [x2,y2] at m4
   exact D.no_meet hS di dj hne (by omega) (by omega) (by omega) (by omega))
  (fun m1 m2=>by
   rw [x1,y1] at m1; rw [x1,y2] at m2
   cases ho : onB (ptV X Y (tln E (2 * i))) (ptV X Y (tln E (2 * j))) (ptV X Y (tln E (oth (2 * j)))) with
   | false=>rfl
   | true =>
    have:=D.end_on di dj hne (.inl rfl) (onB_span ho)
    omega)
  (fun m1 m2=>by
   rw [x2,y1] at m1; rw [x2,y2] at m2
   cases ho : onB (ptV X Y (tln E (oth (2 * i)))) (ptV X Y (tln E (2 * j))) (ptV X Y (tln E (oth (2 * j)))) with
   | false=>rfl
   | true =>
    have:=D.end_on di dj hne (.inr rfl) (onB_span ho)
    omega)
  (fun m1 m2=>by
   rw [x1,y1] at m1; rw [x2,y1] at m2
   cases ho : onB (ptV X Y (tln E (2 * j))) (ptV X Y (tln E (2 * i))) (ptV X Y (tln E (oth (2 * i)))) with
   | false=>rfl
   | true =>
    have:=D.end_on dj di (Ne.symm hne) (.inl rfl) (onB_span ho)
    omega)
  (fun m1 m2=>by
   rw [x1,y2] at m1; rw [x2,y2] at m2
   cases ho : onB (ptV X Y (tln E (oth (2 * j)))) (ptV X Y (tln E (2 * i))) (ptV X Y (tln E (oth (2 * i)))) with
   | false=>rfl
   | true =>
    have:=D.end_on dj di (Ne.symm hne) (.inr rfl) (onB_span ho)
    omega)
 unfold tB
 rw [key]
end
end Go.Vm

/-
 A rectangular shape at its places: no two of its edges have a point in common but a common end.
-/
import Derived.Test.YtpgfkljmcacegaaDoorN42Q
set_option linter.unusedVariables false
set_option linter.unusedSimpArgs false
namespace Go.Vm
open Go.Proofs
set_option maxRecDepth 100000
attribute [local irreducible] loopFix
structure DrwOK (N : Nat) (E : List Arc) (nx fw g : List Int) (k X Y : Nat→Int) (F out : Nat) (xl xr yt yb : Nat→Int) : Prop where
 p : Plane N F E.length (tln E) (fcn E nx) (nxN fw)
 hk : Dirs E.length (nxN fw) (gN g) k
 hC : Coord E k X Y
 outL : out < F
 rect : ∀ c,c < F→RectF E k X Y (fun d=>d < 2 * E.length∧fcn E nx d=c) (if c=out then -1 else 1) (xl c) (xr c) (yt c) (yb c)
 ang : ∀ d,d < 2 * E.length→(fcn E nx (oth d)=out→gN g d=2∨gN g d=3)∧(fcn E nx (oth d)≠out→gN g d=1∨gN g d=2)
 edges : 0 < E.length
def ins (xl xr yt yb : Nat→Int) (c : Nat) (i j : Int) : Bool:=decide (xl c≤i∧i < xr c∧yt c≤j∧j < yb c)
def OwnC (out : Nat) (xl xr yt yb : Nat→Int) (c : Nat) (i j : Int) : Prop:=(c=out∧ins xl xr yt yb c i j=false)∨(c≠out∧ins xl xr yt yb c i j=true)
def crU (E : List Arc) (k X Y : Nat→Int) (i j : Int) (d : Nat) : Int:=if k d=0∧i < X (tln E d)∧Y (tln E (oth d))≤j∧j < Y (tln E d) then 1 else 0
def crD (E : List Arc) (k X Y : Nat→Int) (i j : Int) (d : Nat) : Int:=if k d=2∧i < X (tln E d)∧Y (tln E d)≤j∧j < Y (tln E (oth d)) then 1 else 0
def qx (m p : Int) : Int:=if m % 4=0∨m % 4=1 then p else p - 1
def qy (m q : Int) : Int:=if m % 4=1∨m % 4=2 then q else q - 1
section
variable {N : Nat} {E : List Arc} {nx fw g : List Int} {k X Y : Nat→Int} {F out : Nat} {xl xr yt yb : Nat→Int}
theorem DrwOK.opp (D : DrwOK N E nx fw g k X Y F out xl xr yt yb) {d : Nat} (hd : d < 2 * E.length) : 0≤k d∧k d < 4∧0≤k (oth d)∧k (oth d) < 4∧(4 : Int)∣k (oth d) - k d - 2:=by
 have a:=D.hk.nn d hd
 have b:=D.hk.nn _ (oth_lt2 hd)
 exact ⟨a.1,a.2,b.1,b.2,D.hk.oth d hd⟩
theorem DrwOK.wind (D : DrwOK N E nx fw g k X Y F out xl xr yt yb) (i j : Int) : sumTo F (fun c=>(if c=out then -1 else 1) * bi (ins xl xr yt yb c i j))=0:=by
 have hUW : ∀ d,d < 2 * E.length→crD E k X Y i j d=crU E k X Y i j (oth d):=by
  intro d hd
  obtain ⟨a1,a2,a3,a4,a5⟩:=D.opp hd
  unfold crD crU
  rw [oth_two]
  by_cases c : k d=2
  ·have hx:=(D.hC.dn d hd c).2
   have c2 : k (oth d)=0:=by omega
   rw [hx]
   by_cases q : i < X (tln E d)∧Y (tln E d)≤j∧j < Y (tln E (oth d))
   ·rw [if_pos ⟨c,q⟩,if_pos ⟨c2,q⟩]
   ·rw [if_neg (fun h=>q h.2),if_neg (fun h=>q h.2)]
  ·rw [if_neg (fun h=>c h.1),if_neg (fun h=>by omega)]
 have htot : sumTo (2 * E.length) (fun d=>crU E k X Y i j d - crD E k X Y i j d)=0:=by
  rw [sumTo_sub,sumTo_congr (f:=fun d=>crD E k X Y i j d) (g:=fun d=>crU E k X Y i j (oth d)) hUW,sumTo_perm (π:=oth) (fun d hd=>oth_lt2 hd) (fun a b _ _ e=>by rw [← oth_two a,e,oth_two]) (crU E k X Y i j)]
  omega
 have hfib:=sum_fibre (n:=2 * E.length) (F:=F) (fc:=fcn E nx) D.p.fct (fun _=>1) (fun d=>crU E k X Y i j d - crD E k X Y i j d)
 simp only [Int.one_mul] at hfib
 rw [htot] at hfib
 rw [hfib]
 refine sumTo_congr fun c hc=>?_
 have R:=D.rect c hc
 have hsplit : sumTo (2 * E.length) (fun d=>if fcn E nx d=c then crU E k X Y i j d - crD E k X Y i j d else 0)=sumTo (2 * E.length) (fun d=>if fcn E nx d=c then crU E k X Y i j d else 0) - sumTo (2 * E.length) (fun d=>if fcn E nx d=c then crD E k X Y i j d else 0):=by
  rw [← sumTo_sub]
  exact sumTo_congr fun d _=>by split <;> simp
 rw [hsplit]
 by_cases hj : yt c≤j∧j < yb c
 ·obtain ⟨d0,⟨i1,i2⟩,i3,i4,i5⟩:=R.cu j hj.1 hj.2
  obtain ⟨d1,⟨e1,e2⟩,e3,e4,e5⟩:=R.cd j hj.1 hj.2
  have s0 : sumTo (2 * E.length) (fun d=>if fcn E nx d=c then crU E k X Y i j d else 0)=if i < X (tln E d0) then 1 else 0:=by
   rw [sumTo_one i1 (fun d hd hne=>by
    by_cases q : fcn E nx d=c
    ·rw [if_pos q]
     unfold crU
     rw [if_neg]
     rintro ⟨h1,_,h3,h4⟩
     have x0:=(R.u d0 ⟨i1,i2⟩ i3).1
     have x1:=(R.u d ⟨hd,q⟩ h1).1
     exact hne (R.uq d d0 (X (tln E d0)) (j+1) ⟨hd,q⟩ ⟨i1,i2⟩ (by omega) (.inr (.inr (.inr ⟨h1,by omega,by omega,by omega⟩))) (.inr (.inr (.inr ⟨i3,rfl,by omega,by omega⟩))))
    ·rw [if_neg q]),if_pos i2]
   unfold crU
   by_cases q : i < X (tln E d0)
   ·rw [if_pos q,if_pos ⟨i3,q,i4,i5⟩]
   ·rw [if_neg q,if_neg (fun h=>q h.2.1)]
  have s1 : sumTo (2 * E.length) (fun d=>if fcn E nx d=c then crD E k X Y i j d else 0)=if i < X (tln E d1) then 1 else 0:=by
   rw [sumTo_one e1 (fun d hd hne=>by
    by_cases q : fcn E nx d=c
    ·rw [if_pos q]
     unfold crD
     rw [if_neg]
     rintro ⟨h1,_,h3,h4⟩
     have x0:=(R.dn d1 ⟨e1,e2⟩ e3).1
     have x1:=(R.dn d ⟨hd,q⟩ h1).1
     exact hne (R.uq d d1 (X (tln E d1)) j ⟨hd,q⟩ ⟨e1,e2⟩ (by omega) (.inr (.inr (.inl ⟨h1,by omega,h3,h4⟩))) (.inr (.inr (.inl ⟨e3,rfl,e4,e5⟩))))
    ·rw [if_neg q]),if_pos e2]
   unfold crD
   by_cases q : i < X (tln E d1)
   ·rw [if_pos q,if_pos ⟨e3,q,e4,e5⟩]
   ·rw [if_neg q,if_neg (fun h=>q h.2.1)]
  rw [s0,s1]
  have x0:=(R.u d0 ⟨i1,i2⟩ i3).1
  have x1:=(R.dn d1 ⟨e1,e2⟩ e3).1
  have hx:=R.hx
  unfold ins
  by_cases hc0 : c=out
  ·rw [if_pos hc0,if_neg (by decide)] at x0 x1
   rw [if_pos hc0,x0,x1]
   by_cases q1 : i < xl c
   ·rw [if_pos q1,if_pos (by omega),bi_f (by simp; omega)]; rfl
   ·by_cases q2 : i < xr c
    ·rw [if_neg q1,if_pos q2,bi_t (by simp; omega)]; rfl
    ·rw [if_neg q1,if_neg q2,bi_f (by simp; omega)]; rfl
  ·rw [if_neg hc0,if_pos rfl] at x0 x1
   rw [if_neg hc0,x0,x1]
   by_cases q1 : i < xl c
   ·rw [if_pos (show i < xr c by omega),if_pos q1,bi_f (by simp; omega)]; rfl
   ·by_cases q2 : i < xr c
    ·rw [if_pos q2,if_neg q1,bi_t (by simp; omega)]; rfl
    ·rw [if_neg q2,if_neg q1,bi_f (by simp; omega)]; rfl
 ·rw [sumTo_zero (fun d hd=>by
   by_cases q : fcn E nx d=c
   ·rw [if_pos q]
    unfold crU
    rw [if_neg]
    rintro ⟨h1,_,h3,h4⟩
    have:=(R.u d ⟨hd,q⟩ h1).2
    omega
   ·rw [if_neg q]),sumTo_zero (fun d hd=>by
   by_cases q : fcn E nx d=c
   ·rw [if_pos q]
    unfold crD
    rw [if_neg]
    rintro ⟨h1,_,h3,h4⟩
    have:=(R.dn d ⟨hd,q⟩ h1).2
    omega
   ·rw [if_neg q])]
  rw [bi_f (by unfold ins; simp; omega)]
  simp
theorem DrwOK.own_one (D : DrwOK N E nx fw g k X Y F out xl xr yt yb) {c c' : Nat} (hc : c < F) (hc' : c' < F) {i j : Int} (h1 : OwnC out xl xr yt yb c i j) (h2 : OwnC out xl xr yt yb c' i j) : c=c':=by
 apply Classical.byContradiction
 intro hne
 have hw:=D.wind i j
 have e1 : sumTo F (fun c=>(if c=out then -1 else 1) * bi (ins xl xr yt yb c i j))=sumTo F (fun c=>if c=out then 0 else bi (ins xl xr yt yb c i j)) - bi (ins xl xr yt yb out i j):=by
  have : sumTo F (fun c=>if c=out then bi (ins xl xr yt yb out i j) else 0)=bi (ins xl xr yt yb out i j):=by
   rw [sumTo_one D.outL (fun i _ hne=>by rw [if_neg hne]),if_pos rfl]
  rw [← this,← sumTo_sub]
  refine sumTo_congr fun c _=>?_
  by_cases q : c=out
  ·subst q; simp
  ·simp [q]
 rw [e1] at hw
 have nn : ∀ c,c < F→0≤(if c=out then 0 else bi (ins xl xr yt yb c i j)):=fun c _=>by
  split
  ·omega
  ·exact bi_nn _
 have hle:=bi_le (ins xl xr yt yb out i j)
 rcases h1 with ⟨a1,a2⟩ | ⟨a1,a2⟩
 ·rcases h2 with ⟨b1,b2⟩ | ⟨b1,b2⟩
  ·exact hne (by rw [a1,b1])
  ·have:=sumTo_ge nn hc'
   rw [if_neg b1,bi_t b2] at this
   rw [← a1,bi_f a2] at hw
   rw [← a1] at this
   omega
 ·rcases h2 with ⟨b1,b2⟩ | ⟨b1,b2⟩
  ·have:=sumTo_ge nn hc
   rw [if_neg a1,bi_t a2] at this
   rw [← b1,bi_f b2] at hw
   rw [← b1] at this
   omega
  ·have : sumTo F (fun x=>(if x=c then (1 : Int) else 0)+(if x=c' then 1 else 0))≤sumTo F (fun c=>if c=out then 0 else bi (ins xl xr yt yb c i j)):=sumTo_le fun x hx=>by
    by_cases q1 : x=c
    ·subst q1
     rw [if_pos rfl,if_neg hne,if_neg a1,bi_t a2]; decide
    ·rw [if_neg q1]
     by_cases q2 : x=c'
     ·subst q2
      rw [if_pos rfl,if_neg b1,bi_t b2]; decide
     ·rw [if_neg q2]
      exact nn x hx
   rw [sumTo_add,sumTo_one hc (fun i _ hne=>by rw [if_neg hne]),sumTo_one hc' (fun i _ hne=>by rw [if_neg hne]),if_pos rfl,if_pos rfl] at this
   omega
theorem DrwOK.left (D : DrwOK N E nx fw g k X Y F out xl xr yt yb) {d : Nat} (hd : d < 2 * E.length) {p q : Int} (ht : ThruD E k X Y d p q) : OwnC out xl xr yt yb (fcn E nx d) (qx (k d - 1) p) (qy (k d - 1) q):=by
 have R:=D.rect _ (D.p.fct d hd)
 have hx:=R.hx
 have hy:=R.hy
 have hin : d < 2 * E.length∧fcn E nx d=fcn E nx d:=⟨hd,rfl⟩
 unfold OwnC ins qx qy
 by_cases hc : fcn E nx d=out
 ·left
  refine ⟨hc,?_⟩
  rw [decide_eq_false_iff_not]
  rcases ht with t | t | t | t
  ·have a:=R.r d hin t.1
   rw [if_pos hc,if_neg (by decide)] at a
   rw [t.1]
   simp
   omega
  ·have a:=R.l d hin t.1
   rw [if_pos hc,if_neg (by decide)] at a
   rw [t.1]
   simp
   omega
  ·have a:=R.dn d hin t.1
   rw [if_pos hc,if_neg (by decide)] at a
   rw [t.1]
   simp
   omega
  ·have a:=R.u d hin t.1
   rw [if_pos hc,if_neg (by decide)] at a
   rw [t.1]
   simp
   omega
 ·right
  refine ⟨hc,?_⟩
  rw [decide_eq_true_iff]
  rcases ht with t | t | t | t
  ·have a:=R.r d hin t.1
   rw [if_neg hc,if_pos rfl] at a
   rw [t.1]
   simp
   omega
  ·have a:=R.l d hin t.1
   rw [if_neg hc,if_pos rfl] at a
   rw [t.1]
   simp
   omega
  ·have a:=R.dn d hin t.1
   rw [if_neg hc,if_pos rfl] at a
   rw [t.1]
   simp
   omega
  ·have a:=R.u d hin t.1
   rw [if_neg hc,if_pos rfl] at a
   rw [t.1]
   simp
   omega
theorem DrwOK.right (D : DrwOK N E nx fw g k X Y F out xl xr yt yb) {d : Nat} (hd : d < 2 * E.length) {p q : Int} (ht : ThruD E k X Y d p q) : OwnC out xl xr yt yb (fcn E nx (oth d)) (qx (k d) p) (qy (k d) q):=by
 have hod:=oth_lt2 hd
 obtain ⟨a1,a2,a3,a4,a5⟩:=D.opp hd
 rcases ht with t | t | t | t
 ·have hc:=D.hC.r d hd t.1
  have ko : k (oth d)=3:=by omega
  have:=D.left hod (p:=p+1) (q:=q) (.inr (.inl ⟨ko,by omega,by rw [oth_two]; omega,by omega⟩))
  rw [ko] at this
  rw [t.1]
  simp [qx,qy] at this ⊢
  exact this
 ·have hc:=D.hC.l d hd t.1
  have ko : k (oth d)=1:=by omega
  have:=D.left hod (p:=p - 1) (q:=q) (.inl ⟨ko,by omega,by omega,by rw [oth_two]; omega⟩)
  rw [ko] at this
  rw [t.1]
  simp [qx,qy] at this ⊢
  exact this
 ·have hc:=D.hC.dn d hd t.1
  have ko : k (oth d)=0:=by omega
  have:=D.left hod (p:=p) (q:=q+1) (.inr (.inr (.inr ⟨ko,by omega,by rw [oth_two]; omega,by omega⟩)))
  rw [ko] at this
  rw [t.1]
  simp [qx,qy] at this ⊢
  exact this
 ·have hc:=D.hC.u d hd t.1
  have ko : k (oth d)=2:=by omega
  have:=D.left hod (p:=p) (q:=q - 1) (.inr (.inr (.inl ⟨ko,by omega,by omega,by rw [oth_two]; omega⟩)))
  rw [ko] at this
  rw [t.1]
  simp [qx,qy] at this ⊢
  exact this
theorem DrwOK.sides (D : DrwOK N E nx fw g k X Y F out xl xr yt yb) {d : Nat} (hd : d < 2 * E.length) : fcn E nx d≠fcn E nx (oth d):=by
 intro he
 have hod:=oth_lt2 hd
 obtain ⟨a1,a2,a3,a4,a5⟩:=D.opp hd
 have R:=D.rect _ (D.p.fct d hd)
 have hx:=R.hx
 have hy:=R.hy
 have h1 : d < 2 * E.length∧fcn E nx d=fcn E nx d:=⟨hd,rfl⟩
 have h2 : oth d < 2 * E.length∧fcn E nx (oth d)=fcn E nx d:=⟨hod,he.symm⟩
 rcases (by omega : k d=0∨k d=1∨k d=2∨k d=3) with q | q | q | q
 ·have a:=(R.u d h1 q).1
  have b:=(R.dn _ h2 (by omega)).1
  have c:=(D.hC.u d hd q).2
  by_cases ho : fcn E nx d=out
  ·rw [if_pos ho,if_neg (by decide)] at a b; omega
  ·rw [if_neg ho,if_pos rfl] at a b; omega
 ·have a:=(R.r d h1 q).1
  have b:=(R.l _ h2 (by omega)).1
  have c:=(D.hC.r d hd q).2
  by_cases ho : fcn E nx d=out
  ·rw [if_pos ho,if_neg (by decide)] at a b; omega
  ·rw [if_neg ho,if_pos rfl] at a b; omega
 ·have a:=(R.dn d h1 q).1
  have b:=(R.u _ h2 (by omega)).1
  have c:=(D.hC.dn d hd q).2
  by_cases ho : fcn E nx d=out
  ·rw [if_pos ho,if_neg (by decide)] at a b; omega
  ·rw [if_neg ho,if_pos rfl] at a b; omega
 ·have a:=(R.l d h1 q).1
  have b:=(R.r _ h2 (by omega)).1
  have c:=(D.hC.l d hd q).2
  by_cases ho : fcn E nx d=out
  ·rw [if_pos ho,if_neg (by decide)] at a b; omega
  ·rw [if_neg ho,if_pos rfl] at a b; omega
theorem DrwOK.step_one (D : DrwOK N E nx fw g k X Y F out xl xr yt yb) {d e : Nat} (hd : d < 2 * E.length) (he : e < 2 * E.length) (hk : k d=k e) {p q : Int} (h1 : ThruD E k X Y d p q) (h2 : ThruD E k X Y e p q) : d=e:=by
 have a:=D.left hd h1
 have b:=D.left he h2
 rw [← hk] at b
 have hf:=D.own_one (D.p.fct d hd) (D.p.fct e he) a b
 exact (D.rect _ (D.p.fct d hd)).uq d e p q ⟨hd,rfl⟩ ⟨he,hf.symm⟩ hk h1 h2
theorem DrwOK.at_tail (D : DrwOK N E nx fw g k X Y F out xl xr yt yb) {d : Nat} (hd : d < 2 * E.length) : ThruD E k X Y d (X (tln E d)) (Y (tln E d)):=by
 obtain ⟨a1,a2,_⟩:=D.opp hd
 rcases (by omega : k d=0∨k d=1∨k d=2∨k d=3) with q | q | q | q
 ·have:=D.hC.u d hd q
  exact .inr (.inr (.inr ⟨q,rfl,by omega,by omega⟩))
 ·have:=D.hC.r d hd q
  exact .inl ⟨q,rfl,by omega,by omega⟩
 ·have:=D.hC.dn d hd q
  exact .inr (.inr (.inl ⟨q,rfl,by omega,by omega⟩))
 ·have:=D.hC.l d hd q
  exact .inr (.inl ⟨q,rfl,by omega,by omega⟩)
theorem qx_mod {m m' p : Int} (h : (4 : Int)∣m - m') : qx m p=qx m' p:=by
 unfold qx
 rw [show m % 4=m' % 4 by omega]
theorem qy_mod {m m' q : Int} (h : (4 : Int)∣m - m') : qy m q=qy m' q:=by
 unfold qy
 rw [show m % 4=m' % 4 by omega]
theorem DrwOK.turn (D : DrwOK N E nx fw g k X Y F out xl xr yt yb) {d : Nat} (hd : d < 2 * E.length) : nxN fw d < 2 * E.length∧tln E (nxN fw d)=tln E d∧fcn E nx (nxN fw d)=fcn E nx (oth d)∧(4 : Int)∣k (nxN fw d) - k d - gN g d∧0≤k (nxN fw d)∧k (nxN fw d) < 4∧(gN g d=1∨gN g d=2∨gN g d=3):=by
 have h1:=D.p.fwt d hd
 have a:=D.hk.nn _ h1
 have b:=D.ang d hd
 refine ⟨h1,D.p.tlf d hd,D.p.fcf d hd,D.hk.fw d hd,a.1,a.2,?_⟩
 by_cases c : fcn E nx (oth d)=out
 ·have:=b.1 c; omega
 ·have:=b.2 c; omega
theorem DrwOK.no_straight (D : DrwOK N E nx fw g k X Y F out xl xr yt yb) {d e : Nat} (hd : d < 2 * E.length) (he : e < 2 * E.length) (hg : gN g d=2) (hX : X (tln E d)=X (tln E e)) (hY : Y (tln E d)=Y (tln E e)) (hk : (4 : Int)∣k e - k d - 1) : False:=by
 obtain ⟨t1,t2,t3,t4,t5,t6,_⟩:=D.turn hd
 have a1:=D.right hd (D.at_tail hd)
 have a2:=D.left t1 (D.at_tail t1)
 have b1:=D.left he (D.at_tail he)
 have b2:=D.right he (D.at_tail he)
 rw [t2,t3,qx_mod (m':=k e) (by omega),qy_mod (m':=k e) (by omega),hX,hY] at a2
 rw [qx_mod (m':=k e - 1) (by omega),qy_mod (m':=k e - 1) (by omega),hX,hY] at a1
 have hod:=D.p.fct _ (oth_lt2 hd)
 have e1:=D.own_one hod (D.p.fct e he) a1 b1
 have e2:=D.own_one hod (D.p.fct _ (oth_lt2 he)) a2 b2
 exact D.sides he (by rw [← e1,e2])
theorem opp1 {a a' b b' : Int} (ha : 0≤a∧a < 4) (ha' : 0≤a'∧a' < 4) (hb : 0≤b∧b < 4) (hb' : 0≤b'∧b' < 4) (h : (4 : Int)∣a' - a - 2) (h1 : a≠b) (h2 : a≠b') (h3 : a'≠b) (h4 : a'≠b') (h5 : b≠b') (h6 : ¬ (4 : Int)∣b - a - 1) : (4 : Int)∣b' - a - 1:=by
 have e1 : b=a+3∨b=a - 1:=by omega
 clear h1 h3 h6
 omega
theorem turn3 {a a' a'' g g' b b' : Int} (ha : 0≤a∧a < 4) (ha' : 0≤a'∧a' < 4) (ha'' : 0≤a''∧a'' < 4) (h : (4 : Int)∣a' - a - g) (h' : (4 : Int)∣a'' - a' - g') (hg : g=1∨g=2∨g=3) (hg' : g'=1∨g'=2∨g'=3) (g2 : ¬ g=2) (g3 : ¬ g=3)
  (m1 : a''≠b) (m2 : a''≠b') (n1 : a≠b) (n2 : a≠b') (n3 : a'≠b) (n4 : a'≠b') (hb : 0≤b∧b < 4) (hb' : 0≤b'∧b' < 4) (nb : b≠b') : g'=3:=by
 have g1 : g=1:=by omega
 subst g1
 have e1 : a'=a+1∨a'=a - 3:=by omega
 have e2 : b=a+2∨b=a+3∨b=a - 1∨b=a - 2:=by clear h' m1 m2 n2 n4 nb; omega
 have e3 : b'=a+2∨b'=a+3∨b'=a - 1∨b'=a - 2:=by clear h' m1 m2 n1 n3 nb e2; omega
 clear h n1 n2 n3 n4 g2 g3 hg
 have e4 : a''=a∨a''=a':=by clear h'; omega
 clear m1 m2 nb e2 e3
 omega
theorem opp2 {a a' b b' : Int} (ha : 0≤a∧a < 4) (ha' : 0≤a'∧a' < 4) (hb : 0≤b∧b < 4) (hb' : 0≤b'∧b' < 4) (h : (4 : Int)∣a' - a - 3) (h' : (4 : Int)∣b' - b - 3) (h1 : a≠b) (h2 : a≠b') (h3 : a'≠b) : (4 : Int)∣b' - a' - 2:=by
 have e1 : a'=a+3∨a'=a - 1:=by omega
 have e2 : b'=b+3∨b'=b - 1:=by omega
 clear h h'
 omega
theorem DrwOK.points (D : DrwOK N E nx fw g k X Y F out xl xr yt yb) {d e : Nat} (hd : d < 2 * E.length) (he : e < 2 * E.length) (hX : X (tln E d)=X (tln E e)) (hY : Y (tln E d)=Y (tln E e)) : tln E d=tln E e:=by
 apply Classical.byContradiction
 intro hne
 have diff : ∀ {d' e'},d' < 2 * E.length→e' < 2 * E.length→tln E d'=tln E d→tln E e'=tln E e→k d'≠k e':=by
  intro d' e' h1 h2 h3 h4 hk
  have s1:=D.at_tail h1
  have s2:=D.at_tail h2
  rw [h4,← hX,← hY,← h3] at s2
  have:=D.step_one h1 h2 hk s1 s2
  subst this
  exact hne (by rw [← h3,h4])
 obtain ⟨d1,d2,d3,d4,d5,d6,d7⟩:=D.turn hd
 obtain ⟨e1,e2,e3,e4,e5,e6,e7⟩:=D.turn he
 obtain ⟨dd1,dd2,dd3,dd4,dd5,dd6,dd7⟩:=D.turn d1
 obtain ⟨ee1,ee2,ee3,ee4,ee5,ee6,ee7⟩:=D.turn e1
 have kd:=D.hk.nn d hd
 have ke:=D.hk.nn e he
 have nd : k d≠k (nxN fw d):=by clear diff; omega
 have ne : k e≠k (nxN fw e):=by clear diff; omega
 have n1:=diff hd he rfl rfl
 have n2:=diff hd e1 rfl e2
 have n3:=diff d1 he d2 rfl
 have n4:=diff d1 e1 d2 e2
 have hXd : X (tln E (nxN fw d))=X (tln E e)∧Y (tln E (nxN fw d))=Y (tln E e):=by rw [d2]; exact ⟨hX,hY⟩
 have hXe : X (tln E d)=X (tln E (nxN fw e))∧Y (tln E d)=Y (tln E (nxN fw e)):=by rw [e2]; exact ⟨hX,hY⟩
 by_cases g2 : gN g d=2
 ·by_cases c : (4 : Int)∣k e - k d - 1
  ·exact D.no_straight hd he g2 hX hY c
  ·exact D.no_straight hd e1 g2 hXe.1 hXe.2 (opp1 kd ⟨d5,d6⟩ ke ⟨e5,e6⟩ (by rw [g2] at d4; exact d4) n1 n2 n3 n4 ne c)
 ·by_cases g2' : gN g e=2
  ·by_cases c : (4 : Int)∣k d - k e - 1
   ·exact D.no_straight he hd g2' hX.symm hY.symm c
   ·exact D.no_straight he d1 g2' hXd.1.symm hXd.2.symm (opp1 ke ⟨e5,e6⟩ kd ⟨d5,d6⟩ (by rw [g2'] at e4; exact e4) (Ne.symm n1) (Ne.symm n3) (Ne.symm n2) (Ne.symm n4) nd c)
  ·-- two corners,opposite to one another
   obtain ⟨x,x1,x2,x3,x4,x5⟩ : ∃ x,x < 2 * E.length∧tln E x=tln E d∧gN g x=3∧fcn E nx (nxN fw x)=fcn E nx (oth x)∧(k x=k d∨k x=k (nxN fw d)):=by
    by_cases c : gN g d=3
    ·exact ⟨d,hd,rfl,c,d3,.inl rfl⟩
    ·exact ⟨_,d1,d2,turn3 kd ⟨d5,d6⟩ ⟨dd5,dd6⟩ d4 dd4 d7 dd7 g2 c (diff dd1 he (by rw [dd2,d2]) rfl) (diff dd1 e1 (by rw [dd2,d2]) e2) n1 n2 n3 n4 ke ⟨e5,e6⟩ ne,dd3,.inr rfl⟩
   obtain ⟨y,y1,y2,y3,y4,y5⟩ : ∃ y,y < 2 * E.length∧tln E y=tln E e∧gN g y=3∧fcn E nx (nxN fw y)=fcn E nx (oth y)∧(k y=k e∨k y=k (nxN fw e)):=by
    by_cases c : gN g e=3
    ·exact ⟨e,he,rfl,c,e3,.inl rfl⟩
    ·exact ⟨_,e1,e2,turn3 ke ⟨e5,e6⟩ ⟨ee5,ee6⟩ e4 ee4 e7 ee7 g2' c (Ne.symm (diff hd ee1 rfl (by rw [ee2,e2]))) (Ne.symm (diff d1 ee1 d2 (by rw [ee2,e2]))) (Ne.symm n1) (Ne.symm n3) (Ne.symm n2) (Ne.symm n4) kd ⟨d5,d6⟩ nd,ee3,.inr rfl⟩
   obtain ⟨u1,u2,u3,u4,u5,u6,_⟩:=D.turn x1
   obtain ⟨v1,v2,v3,v4,v5,v6,_⟩:=D.turn y1
   have m1:=diff x1 y1 x2 y2
   have m2:=diff u1 y1 (by rw [u2,x2]) y2
   have m3:=diff x1 v1 x2 (by rw [v2,y2])
   have kx:=D.hk.nn x x1
   have ky:=D.hk.nn y y1
   clear n1 n2 n3 n4 nd ne
   have ox : fcn E nx (oth x)=out:=by
    apply Classical.byContradiction
    intro c
    have:=(D.ang x x1).2 c
    omega
   have oy : fcn E nx (oth y)=out:=by
    apply Classical.byContradiction
    intro c
    have:=(D.ang y y1).2 c
    omega
   have R:=D.rect out D.outL
   have hx:=R.hx
   have hy:=R.hy
   simp only [if_true] at R
   have hu : nxN fw x < 2 * E.length∧fcn E nx (nxN fw x)=out:=⟨u1,by rw [u3,ox]⟩
   have hv : nxN fw y < 2 * E.length∧fcn E nx (nxN fw y)=out:=⟨v1,by rw [v3,oy]⟩
   have pX : X (tln E (nxN fw x))=X (tln E (nxN fw y)):=by rw [u2,x2,v2,y2,hX]
   have pY : Y (tln E (nxN fw x))=Y (tln E (nxN fw y)):=by rw [u2,x2,v2,y2,hY]
   have hop : (4 : Int)∣k (nxN fw y) - k (nxN fw x) - 2:=opp2 kx ⟨u5,u6⟩ ky ⟨v5,v6⟩ (by rw [x3] at u4; exact u4) (by rw [y3] at v4; exact v4) m1 m3 m2
   have nn : ¬ (-1 : Int)=1:=by decide
   have hopd : k (nxN fw y)=k (nxN fw x)+2∨k (nxN fw y)=k (nxN fw x) - 2:=by clear diff m1 m2 m3 x5 y5; omega
   clear diff m1 m2 m3 x5 y5 hop d4 d7 e4 e7 dd4 dd7 ee4 ee7 g2 g2' u4 v4
   rcases (by omega : k (nxN fw x)=0∨k (nxN fw x)=1∨k (nxN fw x)=2∨k (nxN fw x)=3) with q | q | q | q
   ·have a:=(R.u _ hu q).1
    have b:=(R.dn _ hv (by omega)).1
    rw [if_neg nn] at a b; omega
   ·have a:=(R.r _ hu q).1
    have b:=(R.l _ hv (by omega)).1
    rw [if_neg nn] at a b; omega
   ·have a:=(R.dn _ hu q).1
    have b:=(R.u _ hv (by omega)).1
    rw [if_neg nn] at a b; omega
   ·have a:=(R.l _ hu q).1
    have b:=(R.r _ hv (by omega)).1
    rw [if_neg nn] at a b; omega
theorem DrwOK.inside (D : DrwOK N E nx fw g k X Y F out xl xr yt yb) {d e : Nat} (hd : d < 2 * E.length) (he : e < 2 * E.length) {p q : Int} (h1 : ThruD E k X Y d p q) (h2 : ThruD E k X Y (oth d) p q) (h3 : ThruD E k X Y e p q) : e=d∨e=oth d:=by
 have hod:=oth_lt2 hd
 obtain ⟨a1,a2,a3,a4,a5⟩:=D.opp hd
 have ke:=D.hk.nn e he
 by_cases c1 : k e=k d
 ·exact .inl (D.step_one he hd c1 h3 h1)
 by_cases c2 : k e=k (oth d)
 ·exact .inr (D.step_one he hod c2 h3 h2)
 exfalso
 have b1:=D.left he h3
 have b2:=D.right he h3
 by_cases c3 : (4 : Int)∣k e - k d - 1
 ·have r1:=D.right hd h1
  have r2:=D.left hod h2
  rw [qx_mod (m':=k e - 1) (by omega),qy_mod (m':=k e - 1) (by omega)] at r1
  rw [qx_mod (m':=k e) (by omega),qy_mod (m':=k e) (by omega)] at r2
  have e1:=D.own_one (D.p.fct _ hod) (D.p.fct e he) r1 b1
  have e2:=D.own_one (D.p.fct _ hod) (D.p.fct _ (oth_lt2 he)) r2 b2
  exact D.sides he (by rw [← e1,e2])
 ·have r1:=D.left hd h1
  have r2:=D.right hod h2
  rw [oth_two] at r2
  rw [qx_mod (m':=k e) (by omega),qy_mod (m':=k e) (by omega)] at r1
  rw [qx_mod (m':=k e - 1) (by omega),qy_mod (m':=k e - 1) (by omega)] at r2
  have e1:=D.own_one (D.p.fct _ hd) (D.p.fct _ (oth_lt2 he)) r1 b2
  have e2:=D.own_one (D.p.fct _ hd) (D.p.fct e he) r2 b1
  exact D.sides he (by rw [← e1,e2])
def OnD (E : List Arc) (k X Y : Nat→Int) (d : Nat) (p q : Int) : Prop:=ThruD E k X Y d p q∨ThruD E k X Y (oth d) p q
theorem thr0 {E : List Arc} {d : Nat} {p q : Int} (c : k d=0) : ThruD E k X Y d p q↔p=X (tln E d)∧Y (tln E (oth d)) < q∧q≤Y (tln E d):=by
 unfold ThruD; rw [c]; simp
theorem thr1 {E : List Arc} {d : Nat} {p q : Int} (c : k d=1) : ThruD E k X Y d p q↔q=Y (tln E d)∧X (tln E d)≤p∧p < X (tln E (oth d)):=by
 unfold ThruD; rw [c]; simp
theorem thr2 {E : List Arc} {d : Nat} {p q : Int} (c : k d=2) : ThruD E k X Y d p q↔p=X (tln E d)∧Y (tln E d)≤q∧q < Y (tln E (oth d)):=by
 unfold ThruD; rw [c]; simp
theorem thr3 {E : List Arc} {d : Nat} {p q : Int} (c : k d=3) : ThruD E k X Y d p q↔q=Y (tln E d)∧X (tln E (oth d)) < p∧p≤X (tln E d):=by
 unfold ThruD; rw [c]; simp
theorem DrwOK.ends (D : DrwOK N E nx fw g k X Y F out xl xr yt yb) {d : Nat} (hd : d < 2 * E.length) {p q : Int} (h : OnD E k X Y d p q) : (ThruD E k X Y d p q∧ThruD E k X Y (oth d) p q)∨(p=X (tln E d)∧q=Y (tln E d))∨(p=X (tln E (oth d))∧q=Y (tln E (oth d))):=by
 obtain ⟨a1,a2,a3,a4,a5⟩:=D.opp hd
 unfold OnD at h
 rcases (by omega : k d=0∨k d=1∨k d=2∨k d=3) with c | c | c | c
 ·have hc:=D.hC.u d hd c
  rw [thr0 c,thr2 (show k (oth d)=2 by omega),oth_two] at *
  omega
 ·have hc:=D.hC.r d hd c
  rw [thr1 c,thr3 (show k (oth d)=3 by omega),oth_two] at *
  omega
 ·have hc:=D.hC.dn d hd c
  rw [thr2 c,thr0 (show k (oth d)=0 by omega),oth_two] at *
  omega
 ·have hc:=D.hC.l d hd c
  rw [thr3 c,thr1 (show k (oth d)=1 by omega),oth_two] at *
  omega
theorem DrwOK.common (D : DrwOK N E nx fw g k X Y F out xl xr yt yb) {d e : Nat} (hd : d < 2 * E.length) (he : e < 2 * E.length) (hne : d / 2≠e / 2) {p q : Int} (h1 : OnD E k X Y d p q) (h2 : OnD E k X Y e p q) :
  ∃ u v,(u=d∨u=oth d)∧(v=e∨v=oth e)∧tln E u=tln E v∧p=X (tln E u)∧q=Y (tln E u):=by
 have hod:=oth_lt2 hd
 have hoe:=oth_lt2 he
 have within : ∀ {a b : Nat},a < 2 * E.length→b < 2 * E.length→a / 2≠b / 2→ThruD E k X Y a p q→ThruD E k X Y (oth a) p q→OnD E k X Y b p q→False:=by
  intro a b ha hb hab t1 t2 t3
  rcases t3 with t3 | t3
  ·rcases D.inside ha hb t1 t2 t3 with e | e
   ·exact hab (by rw [e])
   ·exact hab (by rw [e,oth_div])
  ·rcases D.inside ha (oth_lt2 hb) t1 t2 t3 with e | e
   ·exact hab (by rw [← e,oth_div])
   ·exact hab (by rw [← oth_div b,e,oth_div])
 have one : ∃ u,(u=d∨u=oth d)∧u < 2 * E.length∧p=X (tln E u)∧q=Y (tln E u):=by
  rcases D.ends hd h1 with ⟨t1,t2⟩ | c | c
  ·exact absurd h2 fun h=>within hd he hne t1 t2 h
  ·exact ⟨d,.inl rfl,hd,c.1,c.2⟩
  ·exact ⟨oth d,.inr rfl,hod,c.1,c.2⟩
 have two : ∃ v,(v=e∨v=oth e)∧v < 2 * E.length∧p=X (tln E v)∧q=Y (tln E v):=by
  rcases D.ends he h2 with ⟨t1,t2⟩ | c | c
  ·exact absurd h1 fun h=>within he hd (Ne.symm hne) t1 t2 h
  ·exact ⟨e,.inl rfl,he,c.1,c.2⟩
  ·exact ⟨oth e,.inr rfl,hoe,c.1,c.2⟩
 obtain ⟨u,u1,u2,u3,u4⟩:=one
 obtain ⟨v,v1,v2,v3,v4⟩:=two
 exact ⟨u,v,u1,v1,D.points u2 v2 (by rw [← u3,v3]) (by rw [← u4,v4]),u3,u4⟩
end
end Go.Vm

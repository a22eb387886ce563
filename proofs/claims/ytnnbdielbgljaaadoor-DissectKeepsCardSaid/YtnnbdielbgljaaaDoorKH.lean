/-
 A rectangle around a shape; rectangular shapes; the law.
-/
import Derived.Test.YtnnbdielbgljaaaDoorKG
import Derived.Test.YtnnbdielbgljaaaDoorKD
import Derived.Test.YtnnbdielbgljaaaDoorKF
set_option linter.unusedVariables false
set_option linter.unusedSimpArgs false
/-
 A new vertex at the end of a new edge; lists that begin elsewhere.
-/
namespace Go.Vm
open Go.Proofs
set_option maxRecDepth 100000
attribute [local irreducible] aa
section
variable {N : Nat} {E : List Arc} {A : List (List Int)} {nx : List Int} {ps : List (List Int)} {f u : Nat}
def pnA (A : List (List Int)) (u m f : Nat) : List (List Int):=A.set u (bef (de A u) ((2 * m : Nat) : Int) (f : Int))++[[((2 * m+1 : Nat) : Int)]]
theorem gP {m : Nat} (hu : u < A.length) (w : Nat) : (pnA A u m f)[w]?=if w=u then some (bef (de A u) ((2 * m : Nat) : Int) (f : Int)) else if w=A.length then some [((2 * m+1 : Nat) : Int)] else A[w]?:=by
 unfold pnA
 by_cases c1 : w=u
 ·subst c1
  rw [if_pos rfl,List.getElem?_append_left (by simpa using hu),List.getElem?_set,if_pos rfl,if_pos hu]
 ·rw [if_neg c1]
  by_cases c2 : w=A.length
  ·rw [if_pos c2,c2,List.getElem?_append_right (by simp)]; simp
  ·rw [if_neg c2]
   rcases Nat.lt_or_ge w A.length with c3 | c3
   ·rw [List.getElem?_append_left (by simpa using c3),List.getElem?_set,if_neg (fun e=>c1 e.symm)]
   ·rw [List.getElem?_eq_none (by simp; omega),List.getElem?_eq_none (by omega)]
theorem vq (h : RotOK (N : Nat) E A) (hf : f < 2 * E.length) (hu : tl E f=(u : Int)) (huN : u < N) (hn : N < 16384) (hM : E.length < 32768) : RotOK ((N+1 : Nat) : Nat) (E++[((u : Int),((N : Nat) : Int),())]) (pnA A u E.length f):=by
 have hal:=h.al
 have huA : u < A.length:=by omega
 have hlen : (E++[((u : Int),((N : Nat) : Int),())]).length=E.length+1:=by simp
 have old : ∀ {w : Nat} {l : List Int},A[w]?=some l→∀ x∈l,∃ k : Nat,x=(k : Int)∧k < 2 * (E++[((u : Int),((N : Nat) : Int),())]).length∧tl (E++[((u : Int),((N : Nat) : Int),())]) k=w:=by
  intro w l hl x hx
  obtain ⟨k,e1,e2,e3⟩:=h.dart w l hl x hx
  exact ⟨k,e1,by rw [hlen]; omega,by rw [nW e2]; exact e3⟩
 obtain ⟨p,q,k1,k2,k3,k4⟩:=h.split hf hu huN
 refine me (by omega) (by omega) (by unfold pnA; simp; omega) ?_ ?_ ?_ ?_
 ·intro a ha
  rcases List.mem_append.1 ha with ha | ha
  ·obtain ⟨a1,a2,a3,a4,a5⟩:=h.edge a ha
   exact ⟨a1,by omega,a3,by omega,a5⟩
  ·rw [List.mem_singleton] at ha
   subst ha
   refine ⟨by show (0 : Int)≤u; omega,by show (u : Int) < _; omega,by show (0 : Int)≤(N : Nat); omega,by show ((N : Nat) : Int) < _; omega,?_⟩
   show (u : Int)≠(N : Nat)
   omega
 ·intro l hl
  obtain ⟨w,hw⟩:=List.mem_iff_getElem?.1 hl
  rw [gP huA] at hw
  split at hw
  ·cases hw
   rw [k2,fZ _ _ _ _ k3 k4]
   have hn:=h.list_nodup (List.mem_of_getElem? k1)
   have hno : ((2 * E.length : Nat) : Int)∉p++(f : Int) :: q:=fun hm=>by
    obtain ⟨y,e1,e2,_⟩:=h.dart u _ k1 _ hm
    omega
   rw [List.nodup_append] at hn ⊢
   refine ⟨hn.1,List.nodup_cons.2 ⟨fun hm=>hno (List.mem_append.2 (.inr hm)),hn.2.1⟩,?_⟩
   intro a ha b hb e
   rcases List.mem_cons.1 hb with rfl | hb
   ·subst e; exact hno (List.mem_append.2 (.inl ha))
   ·exact hn.2.2 a ha b hb e
  ·split at hw
   ·cases hw; simp
   ·exact h.list_nodup (List.mem_of_getElem? hw)
 ·intro w l hw x hx
  rw [gP huA] at hw
  split at hw
  ·rename_i e
   cases hw
   subst e
   rcases eU.1 hx with hx | ⟨rfl,_⟩
   ·exact old (by rw [List.getElem?_eq_getElem huA,← bn huA]) x hx
   ·exact ⟨2 * E.length,rfl,by rw [hlen]; omega,by rw [lV]⟩
  ·split at hw
   ·rename_i e
    cases hw
    rw [List.mem_singleton] at hx
    exact ⟨2 * E.length+1,hx,by rw [hlen]; omega,by rw [mp,e,hal]⟩
   ·exact old hw x hx
 ·intro k hk
  rw [hlen] at hk
  have into : ∀ w l,(pnA A u E.length f)[w]?=some l→(k : Int)∈l→∃ l∈pnA A u E.length f,(k : Int)∈l:=fun w l h1 h2=>⟨l,List.mem_of_getElem? h1,h2⟩
  have gu:=gP (m:=E.length) (f:=f) huA u
  have gn:=gP (m:=E.length) (f:=f) huA A.length
  rw [if_pos rfl] at gu
  rw [if_neg (by omega),if_pos rfl] at gn
  rcases Nat.lt_or_ge k (2 * E.length) with hk2 | hk2
  ·obtain ⟨w,hw,hwN⟩:=h.tl_lt hk2
   have hwA : w < A.length:=by omega
   have hm:=h.around hk2 hw (List.getElem?_eq_getElem hwA)
   have gw:=gP (m:=E.length) (f:=f) huA w
   by_cases e2 : w=u
   ·subst e2
    exact into _ _ gu (eU.2 (.inl (by rw [bn hwA]; exact hm)))
   ·rw [if_neg e2,if_neg (by omega),List.getElem?_eq_getElem hwA] at gw
    exact into _ _ gw hm
  ·by_cases e : k=2 * E.length
   ·subst e; exact into _ _ gu (eU.2 (.inr ⟨rfl,by rw [k2]; simp⟩))
   ·have : k=2 * E.length+1:=by omega
    subst this; exact into _ _ gn (by simp)
theorem AQ (h : RotOK (N : Nat) E A) (hf : f < 2 * E.length) (hu : tl E f=(u : Int)) (huN : u < N) (hn : N < 16384) (hM : E.length < 32768) {nx' : List Int} (hnx : Fol oth E A nx) (hnx' : Fol oth (E++[((u : Int),((N : Nat) : Int),())]) (pnA A u E.length f) nx') :
  nx'[2 * E.length]?=some ((2 * E.length+1 : Nat) : Int)∧nx'[2 * E.length+1]?=some (f : Int)∧∀ k,k < 2 * E.length→(nx[k]?=some (f : Int)→nx'[k]?=some ((2 * E.length : Nat) : Int))∧(nx[k]?≠some (f : Int)→nx'[k]?=nx[k]?):=by
 have hr':=vq h hf hu huN hn hM
 have hal:=h.al
 have huA : u < A.length:=by omega
 have hlen : (E++[((u : Int),((N : Nat) : Int),())]).length=E.length+1:=by simp
 obtain ⟨fw,_,ff⟩:=cU h ()
 obtain ⟨fw',_,ff'⟩:=cU hr' ()
 have gu:=gP (m:=E.length) (f:=f) huA u
 have gn:=gP (m:=E.length) (f:=f) huA A.length
 rw [if_pos rfl] at gu
 rw [if_neg (by omega),if_pos rfl] at gn
 obtain ⟨pu,qu,su1,su2,su3,su4⟩:=h.split hf hu huN
 rw [su2,fZ _ _ _ _ su3 su4] at gu
 obtain ⟨tu1,tu2⟩:=nY (ff.cyc (List.mem_of_getElem? su1) (by simp)) (ff'.cyc (List.mem_of_getElem? gu) (by simp)) su3 su4
 have conv : ∀ k,k < 2 * E.length→nx[k]?=fw[oth k]?:=fun k hk=>by
  obtain ⟨y,_,h1,h2⟩:=dq h hnx ff hk; rw [h1,h2]
 have conv' : ∀ k,k < 2 * E.length+2→nx'[k]?=fw'[oth k]?:=fun k hk=>by
  obtain ⟨y,_,h1,h2⟩:=dq hr' hnx' ff' (k:=k) (by rw [hlen]; omega); rw [h1,h2]
 refine ⟨?_,?_,fun k hk=>?_⟩
 ·rw [conv' _ (by omega),cK]
  have t:=ff'.get [((2 * E.length+1 : Nat) : Int)] (List.mem_of_getElem? gn) 0 (by simp)
  rw [show ([((2 * E.length+1 : Nat) : Int)] : List Int).getD ((0+1) % ([((2 * E.length+1 : Nat) : Int)] : List Int).length) 0=((2 * E.length+1 : Nat) : Int) from by simp] at t
  simp only [id,List.getElem_cons_zero,Int.toNat_natCast] at t
  exact t
 ·rw [conv' _ (by omega),cJ]; rwa [Int.toNat_natCast] at tu1
 ·rw [conv k hk,conv' k (by omega)]
  have hok:=bd hk
  obtain ⟨w,hw,hwN⟩:=h.tl_lt hok
  have hwA : w < A.length:=by omega
  have hm:=h.around hok hw (List.getElem?_eq_getElem hwA)
  have closed : ∀ {x : Nat} {t : Nat},x < 2 * E.length→fw[oth k]?=some (x : Int)→tl E x=t→t=w:=by
   intro x t hx h1 h2
   have hc:=ff.cyc (List.getElem_mem hwA) (fun e=>by rw [e] at hm; simp at hm)
   have:=dy hc hm h1
   obtain ⟨y,e1,_,e3⟩:=h.dart w _ (List.getElem?_eq_getElem hwA) _ this
   have : y=x:=by omega
   subst this
   omega
  by_cases e1 : w=u
  ·subst e1
   have hm2 : ((oth k : Nat) : Int)∈pu++(f : Int) :: qu:=by
    rw [List.getElem?_eq_getElem hwA] at su1; rw [← Option.some.inj su1]; exact hm
   have:=tu2 _ hm2
   rw [Int.toNat_natCast] at this
   exact this
  ·refine ⟨fun hd=>absurd (closed hf hd hu).symm e1,fun _=>?_⟩
   have gw:=gP (m:=E.length) (f:=f) huA w
   rw [if_neg e1,if_neg (by omega),List.getElem?_eq_getElem hwA] at gw
   obtain ⟨i,hi,e⟩:=List.getElem_of_mem hm
   have q1:=ff.get _ (List.getElem_mem hwA) i hi
   have q2:=ff'.get _ (List.mem_of_getElem? gw) i hi
   rw [e] at q1 q2
   simp only [id,Int.toNat_natCast] at q1 q2
   rw [q1,q2]
theorem Sys.pend {a b : List (List Int)} {s : List Int} (h : Sys N E A nx (a++((f : Int) :: s) :: b)) (hu : tl E f=(u : Int)) (hn : N < 16384) (hM : E.length < 32768) :
  ∃ nx',Sys (N+1) (E++[((u : Int),((N : Nat) : Int),())]) (pnA A u E.length f) nx' (a++(((2 * E.length : Nat) : Int) :: ((2 * E.length+1 : Nat) : Int) :: (f : Int) :: s) :: b):=by
 have hgm : ((f : Int) :: s)∈a++((f : Int) :: s) :: b:=by simp
 have hf2 : f < 2 * E.length:=by
  obtain ⟨k,e,hk⟩:=(h.fs.elem _ hgm).2 (f : Int) (by simp)
  omega
 obtain ⟨u',eu,huN'⟩:=h.rot.tl_lt hf2
 have huN : u < N:=by rw [hu] at eu; omega
 have hr':=vq h.rot hf2 hu huN hn hM
 obtain ⟨nx',_,hn'⟩:=iu hr' ()
 obtain ⟨n0,n1,n2⟩:=AQ h.rot hf2 hu huN hn hM h.fol hn'
 have hlen : (E++[((u : Int),((N : Nat) : Int),())]).length=E.length+1:=by simp
 have hel:=(h.fs.elem _ hgm).2
 have hnd:=h.fs.face_nodup hgm
 have small : ∀ x∈(a++((f : Int) :: s) :: b).flatten,∃ k : Nat,x=(k : Int)∧k < 2 * E.length:=fun x hx=>by
  obtain ⟨l,hl,hxl⟩:=List.mem_flatten.1 hx
  exact (h.fs.elem l hl).2 x hxl
 have flat : ∀ x : Int,(a++(((2 * E.length : Nat) : Int) :: ((2 * E.length+1 : Nat) : Int) :: (f : Int) :: s) :: b).flatten.count x=(a++((f : Int) :: s) :: b).flatten.count x+[((2 * E.length : Nat) : Int),((2 * E.length+1 : Nat) : Int)].count x:=by
  intro x
  rw [dv,dv]
  simp only [List.count_cons,List.count_nil]
  omega
 have hone:=List.nodup_iff_count.1 h.fs.nodup
 refine ⟨nx',hr',hn',by omega,?_,by rw [hlen]; omega,⟨?_,?_,?_,?_⟩,?_,by rw [hlen]; have:=h.num; simp at this ⊢; omega⟩
 ·intro v hv
  by_cases c : v < N
  ·exact iW (h.conn v c)
  ·have : v=N:=by omega
   subst this
   refine .step (k:=2 * E.length) (iW (h.conn u huN)) (by rw [hlen]; omega) lV ?_
   unfold hd
   rw [cK,mp]
 ·intro g hg
  rw [hlen]
  rcases List.mem_append.1 hg with hg | hg
  ·obtain ⟨q1,q2⟩:=h.fs.elem g (by simp [hg])
   exact ⟨q1,fun d hd=>by obtain ⟨k,e,hk⟩:=q2 d hd; exact ⟨k,e,by omega⟩⟩
  ·rcases List.mem_cons.1 hg with rfl | hg
   ·refine ⟨by simp,fun d hd=>?_⟩
    rcases List.mem_cons.1 hd with rfl | hd
    ·exact ⟨_,rfl,by omega⟩
    ·rcases List.mem_cons.1 hd with rfl | hd
     ·exact ⟨_,rfl,by omega⟩
     ·obtain ⟨k,e,hk⟩:=hel d hd; exact ⟨k,e,by omega⟩
   ·obtain ⟨q1,q2⟩:=h.fs.elem g (by simp [hg])
    exact ⟨q1,fun d hd=>by obtain ⟨k,e,hk⟩:=q2 d hd; exact ⟨k,e,by omega⟩⟩
 ·rw [List.nodup_iff_count]
  intro x
  rw [flat]
  have h1:=hone x
  simp only [List.count_cons,List.count_nil,beq_iff_eq]
  by_cases hx : x∈(a++((f : Int) :: s) :: b).flatten
  ·obtain ⟨k,rfl,hk⟩:=small x hx
   rw [if_neg (by omega),if_neg (by omega)]; omega
  ·rw [List.count_eq_zero.2 hx]
   split <;> split <;> omega
 ·intro k hk
  rw [hlen] at hk
  refine List.count_pos_iff.1 ?_
  rw [flat]
  rcases Nat.lt_or_ge k (2 * E.length) with c | c
  ·have:=List.count_pos_iff.2 (h.fs.cover k c); omega
  ·have hin : (k : Int)∈[((2 * E.length : Nat) : Int),((2 * E.length+1 : Nat) : Int)]:=by
    simp; omega
   have:=List.count_pos_iff.2 hin; omega
 ·have:=h.fs.num
  rw [hlen]; simp at this ⊢; omega
 ·intro g hg
  have keep : ∀ g,g∈a++b→Cyc nx' g:=fun g hg=>by
   have hmem : g∈a++((f : Int) :: s) :: b:=by rcases List.mem_append.1 hg with hg | hg <;> simp [hg]
   have hcy:=h.cyc g hmem
   have hne:=hcy.1
   cases g with
   | nil=>exact absurd rfl hne
   | cons x g =>
    refine cL (kF (bS hcy) fun y hy=>?_) (by simp)
    obtain ⟨k,rfl,hk⟩:=(h.fs.elem _ hmem).2 y hy
    rw [Int.toNat_natCast]
    refine (n2 k hk).2 fun e=>?_
    have hfin:=dy hcy hy e
    have k1:=hone (f : Int)
    rw [dv] at k1
    have : 0 < ((f : Int) :: s).count (f : Int):=List.count_pos_iff.2 (by simp)
    rcases List.mem_append.1 hg with hg | hg
    ·have:=List.count_pos_iff.2 (List.mem_flatten.2 ⟨_,hg,hfin⟩); omega
    ·have:=List.count_pos_iff.2 (List.mem_flatten.2 ⟨_,hg,hfin⟩); omega
  rcases List.mem_append.1 hg with hg | hg
  ·exact keep g (by simp [hg])
  ·rcases List.mem_cons.1 hg with rfl | hg
   ·have hp:=bS (h.cyc _ hgm)
    have hp' : dm nx' (f : Int) ((f : Int) :: s) ((2 * E.length : Nat) : Int):=by
     refine fY hp (by simp) (fun hm=>?_) fun y hy=>?_
     ·rw [List.nodup_cons] at hnd; exact hnd.1 hm
     ·obtain ⟨k,rfl,hk⟩:=hel y hy
      rw [Int.toNat_natCast]
      exact n2 k hk
    exact cL (x:=((2 * E.length : Nat) : Int)) ⟨rfl,_,by rw [Int.toNat_natCast]; exact n0,rfl,_,by rw [Int.toNat_natCast]; exact n1,hp'⟩ (by simp)
   ·exact keep g (by simp [hg])
def HR (A A' : List (List Int)) : Prop:=A'.length=A.length∧∀ (v : Nat) (l : List Int),A[v]?=some l→∃ p q,l=p++q∧A'[v]?=some (q++p)
end
end Go.Vm

/-
 A shape within a rectangle is a plain shape.
-/
namespace Go.Vm
open Go.Proofs
set_option maxRecDepth 100000
attribute [local irreducible] aa
section
variable {N : Nat} {E : List Arc} {A : List (List Int)} {nx : List Int} {ps : List (List Int)} {g : List Int} {o : Nat}
theorem EX {d f : Int} : bef [f] d f=[d,f]:=by simp [bef]
theorem CS {B0 : List (List Int)} {n m c : Nat} (hn : B0.length=n) : pnA (B0++[[(c : Int)]]) n m c=B0++[[((2 * m : Nat) : Int),(c : Int)]]++[[((2 * m+1 : Nat) : Int)]]:=by
 unfold pnA
 have h1 : de (B0++[[(c : Int)]]) n=[(c : Int)]:=by
  unfold de
  rw [List.getElem?_append_right (by omega),hn,Nat.sub_self]; rfl
 rw [h1,EX,List.set_append,if_neg (by omega),hn,Nat.sub_self]
 rfl
theorem Sys.tail {a b B0 : List (List Int)} {s : List Int} {n c m : Nat} (h : Sys (n+1) E (B0++[[(c : Int)]]) nx (a++((c : Int) :: s) :: b)) (hn : B0.length=n) (hc : tl E c=(n : Int)) (hE : E.length=m) (h1 : n+1 < 16384) (h2 : m < 32768) :
  ∃ nx',Sys (n+1+1) (E++[((n : Int),((n+1 : Nat) : Int),())]) ((B0++[[((2 * m : Nat) : Int),(c : Int)]])++[[((2 * m+1 : Nat) : Int)]]) nx' (a++(((2 * m+1 : Nat) : Int) :: ((c : Int) :: s++[((2 * m : Nat) : Int)])) :: b):=by
 subst hE
 obtain ⟨nx',q⟩:=h.pend hc h1 h2
 rw [CS hn] at q
 exact ⟨nx',q.rotate (p:=[((2 * E.length : Nat) : Int)]) (q:=((2 * E.length+1 : Nat) : Int) :: (c : Int) :: s)⟩
def Gd (E : List Arc) (N u : Nat) : List Arc:=E++[((u : Int),(N : Int),()),((N : Int),((N+1 : Nat) : Int),()),(((N+1 : Nat) : Int),((N+2 : Nat) : Int),()),(((N+2 : Nat) : Int),((N+3 : Nat) : Int),()),(((N+3 : Nat) : Int),((N+4 : Nat) : Int),()),(((N+4 : Nat) : Int),(N : Int),())]
def Gr (A : List (List Int)) (u m f : Nat) : List (List Int):=A.set u (bef (de A u) ((2 * m : Nat) : Int) (f : Int))++[[((2 * m+2 : Nat) : Int),((2 * m+11 : Nat) : Int),((2 * m+1 : Nat) : Int)],[((2 * m+3 : Nat) : Int),((2 * m+4 : Nat) : Int)],[((2 * m+5 : Nat) : Int),((2 * m+6 : Nat) : Int)],[((2 * m+7 : Nat) : Int),((2 * m+8 : Nat) : Int)],[((2 * m+9 : Nat) : Int),((2 * m+10 : Nat) : Int)]]
def HW (a b : List (List Int)) (s : List Int) (m f : Nat) : List (List Int) :=
 [((2 * m+9 : Nat) : Int),((2 * m+7 : Nat) : Int),((2 * m+5 : Nat) : Int),((2 * m+3 : Nat) : Int),((2 * m+11 : Nat) : Int)] ::
 (((2 * m+1 : Nat) : Int) :: ((f : Int) :: s)++[((2 * m : Nat) : Int),((2 * m+2 : Nat) : Int),((2 * m+4 : Nat) : Int),((2 * m+6 : Nat) : Int),((2 * m+8 : Nat) : Int),((2 * m+10 : Nat) : Int)]) :: (a++b)
def Gz (g : List Int) (d : Nat) : List Int:=g.set (oth d) 2++[gN g (oth d) - 2,1,2,1,3,1,3,1,3,1,3,1]
end
end Go.Vm

/-
 The program puts a rectangle around a shape.
-/
namespace Go.Vm
open Go.Proofs
set_option maxRecDepth 100000
attribute [local irreducible] aa
section
variable {N : Nat} {E : List Arc} {A : List (List Int)} {nx fw : List Int} {g : List Int} {o : Nat}
end
end Go.Vm

/-
 Rectangular, in the program and in the reference.
-/
namespace Go.Vm
open Go.Proofs
set_option maxRecDepth 100000
attribute [local irreducible] aa
theorem Bb {b : ByteArray} (h : b.size=0) : b=ByteArray.mk #[]:=by
 cases b with
 | mk d =>
  have : d.size=0:=h
  rw [Array.size_eq_zero_iff.1 this]
theorem wT (b : ByteArray) : neS b (ByteArray.mk #[])=!decide (b.size=0):=by
 have e : neS b (ByteArray.mk #[])=!eqS b (ByteArray.mk #[]):=rfl
 rw [e]
 congr 1
 by_cases c : b.size=0
 ·rw [decide_eq_true c,mE]; exact Bb c
 ·rw [decide_eq_false c]
  cases e : eqS b (ByteArray.mk #[]) with
  | false=>rfl
  | true=>rw [mE] at e; subst e; exact absurd rfl c
theorem qR (N : Int) (E : List Arc) (A : List (List Int)) (g : List Int) (B : List ByteArray) (o : Int) (hB : B.length≤1000000) : ∀ (q p : List ByteArray),p++q=B→zl (N,E,A,g,B,o,(p.length : Nat),())=some (cond (q.all fun b=>decide (b.size=0)) (.inr (.inl ())) (.inl (false,())))
 | [],p,h=>by
  subst h
  refine ai ?_
  unfold wz
  simp only
  rw [aA (by simp)]; rfl
 | b :: q,p,h=>by
  have hx : B[p.length]?=some b:=by rw [← h,List.getElem?_append_right (Nat.le_refl _),Nat.sub_self]; rfl
  have hp : p.length < B.length:=(List.getElem?_eq_some_iff.1 hx).1
  by_cases c : b.size=0
  ·have ih:=qR N E A g B o hB q (p++[b]) (by simpa using h)
   refine (ap (t:=(N,E,A,g,B,o,(((p++[b]).length : Nat) : Int),())) ?_).trans (ih.trans ?_)
   ·unfold wz
    simp only
    rw [aG (by omega),cond_true,ae,hx,Option.bind_some,wT,decide_eq_true c,Bool.not_true,cond_false,aU (by omega)]
    simp
   ·rw [List.all_cons,decide_eq_true c,Bool.true_and]
  ·refine ai ?_
   unfold wz
   simp only
   rw [aG (by omega),cond_true,ae,hx,Option.bind_some,wT,List.all_cons,decide_eq_false c,Bool.not_false,cond_true,Bool.false_and,cond_false]
theorem vA (N : Int) (E : List Arc) (A : List (List Int)) (g : List Int) (B : List ByteArray) (o : Int) (hB : B.length≤1000000) : Zw (((N,E,A,()),g,B,o,()),())=some (B.all fun b=>decide (b.size=0),()):=by
 unfold Zw
 simp only
 rw [show zl (N,E,A,g,B,o,0,())=_ from qR N E A g B o hB B [] rfl]
 cases B.all fun b=>decide (b.size=0) <;> rfl
theorem yo (N : Int) (E : List Arc) (A : List (List Int)) (g : List Int) (B : List ByteArray) (o : Int) (m : Nat) (hB : B.length=2 * m) (hm : m≤32768) (hs : ∀ k,k < 2 * m→(at0 B k).size=0) : ∀ (k j : Nat),j+k=m →
  qi (N,E,A,g,B,o,0,((2 * j : Nat) : Int),())=some (.inl (0,()))∧lm (N,E,A,g,B,o,0,((2 * j : Nat) : Int),())=some (.inl (0,())):=by
 intro k
 induction k with
 | zero =>
  intro j hj
  refine ⟨ai ?_,ai ?_⟩
  ·simp only [n5]
   rw [aA (by omega)]; rfl
  ·simp only [jY]
   rw [aA (by omega)]; rfl
 | succ k ih =>
  intro j hj
  have h0 : B[2 * j]?=some (at0 B (2 * j)):=fI (by omega)
  have hz:=hs (2 * j) (by omega)
  have ea : ah .i64 ((2 * j : Nat) : Int) 2=((2 * (j+1) : Nat) : Int):=by rw [dw (by omega) (by omega)]; omega
  have eb : ah .i64 0 ((at0 B (2 * j)).size : Nat)=0:=by rw [hz]; decide
  obtain ⟨h1,h2⟩:=ih (j+1) (by omega)
  refine ⟨(ap ?_).trans h1,(ap ?_).trans h2⟩
  ·simp only [n5]
   rw [aG (by omega),cond_true,ae,h0,Option.bind_some,ea,eb]
  ·simp only [jY]
   rw [aG (by omega),cond_true,ae,h0,Option.bind_some,ea,eb]
theorem pB (N0 : Int) (E : List Arc) (A : List (List Int)) (g : List Int) (B : List ByteArray) (o : Int) (hA : ∀ l∈A,l.length≤9223372036854775807) :
  (Zbu (((N0,E,A,()),g,B,o,()),())=some (13,())∧Zac (((N0,E,A,()),g,B,o,()),())=some (13,())) ∨
  ∃ (N : Nat) (nx : List Int) (v : Int) (b : Bool),N0=(N : Int)∧ShapeOK N E A g B o nx∧Zbu (((N0,E,A,()),g,B,o,()),())=some (0,())∧Zac (((N0,E,A,()),g,B,o,()),())=some (0,()) ∧
   Zbt (((N0,E,A,()),g,B,o,()),())=some (v,())∧Zab (((N0,E,A,()),g,B,o,()),())=some (v,())∧Zw (((N0,E,A,()),g,B,o,()),())=some (b,())∧(v=0↔b=true)∧(b=true↔∀ k,k < 2 * E.length→(at0 B k).size=0):=by
 obtain ⟨bv,v1,v2,v3⟩:=mz N0 E A g B o hA
 have hV : Zbu (((N0,E,A,()),g,B,o,()),())=some (cond bv 0 13,()):=by
  unfold Zbu
  simp only
  rw [v1,Option.bind_some]
  cases bv <;> rfl
 cases bv with
 | false=>exact .inl ⟨hV,v2⟩
 | true =>
  right
  obtain ⟨N,rfl,nx,h⟩:=v3 rfl
  have hB:=h.turn.blen
  have hm1:=h.rot.m1
  have h64 : ∀ k,k < 2 * E.length→(at0 B k).size≤64:=fun k hk=>(h.turn.bound hk).2.2
  obtain ⟨v,_,hv64,b1,b2,b3⟩:=AJ (N : Int) E A g B o E.length hB hm1 h64 E.length 0 0 (by omega) (by omega)
  have s1 : Zbt ((((N : Int),E,A,()),g,B,o,()),())=some ((v : Int),()):=by
   unfold Zbt
   simp only
   rw [v1,Option.bind_some]
   simp only [Bool.not_true,cond_false]
   rw [show qi ((N : Int),E,A,g,B,o,0,0,())=_ from b1]; rfl
  have s2 : Zab ((((N : Int),E,A,()),g,B,o,()),())=some ((v : Int),()):=by
   unfold Zab
   simp only
   rw [v2,Option.bind_some]
   simp only [cond_true]
   rw [bx rfl,cond_false]
   rw [show lm ((N : Int),E,A,g,B,o,0,0,())=_ from b2]; rfl
  have hall : (∀ k,k < 2 * E.length→(at0 B k).size=0)→v=0:=fun hz=>by
   have:=(yo (N : Int) E A g B o E.length hB hm1 hz E.length 0 (by omega)).1
   have e:=b1.symm.trans this
   simp at e
   omega
  have hback : v=0→∀ k,k < 2 * E.length→(at0 B k).size=0:=fun hv0 k hk=>by
   have hev:=b3 hv0
   have hbe:=dz.1 h.bend
   rcases Nat.mod_two_eq_zero_or_one k with e | e
   ·have:=hev (k / 2) (by omega) (by omega)
    rwa [show 2 * (k / 2)=k by omega] at this
   ·have h1:=hbe (oth k) (by omega) (by have:=bd hk; omega)
    unfold fL at h1
    rw [Bool.and_eq_true,mE,cv] at h1
    rw [h1.2,vX]
    have:=hev (k / 2) (by omega) (by omega)
    have o' : oth k=2 * (k / 2):=by unfold oth; rw [if_neg (by omega)]; omega
    rw [o']; exact this
  have hb : (B.all fun b=>decide (b.size=0))=true↔∀ k,k < 2 * E.length→(at0 B k).size=0:=by
   rw [List.all_eq_true]
   constructor
   ·intro hh k hk
    have:=hh (at0 B k) (List.mem_of_getElem? (fI (by omega)))
    simpa using this
   ·intro hh b hb
    obtain ⟨k,hk⟩:=List.mem_iff_getElem?.1 hb
    have hkl:=(List.getElem?_eq_some_iff.1 hk).1
    have:=hh k (by omega)
    rw [fI (by omega : k < B.length)] at hk
    rw [← Option.some.inj hk]
    simpa using this
  refine ⟨N,nx,(v : Int),_,rfl,h,hV,v2,s1,s2,vA _ _ _ _ _ _ (by omega),?_,hb⟩
  rw [hb]
  constructor
  ·intro e; exact hback (by omega)
  ·intro e; have:=hall e; omega
def Gx (g : List Int) (t : Int) : List Int→Nat→Option Nat
 | [],n=>some n
 | d :: f,n=>if tn g d=t then Gx g t f (n+1) else if tn g d=0 then Gx g t f n else none
def Hy (g : List Int) (t : Int) (f : List Int) : Bool:=decide (Gx g t f 0=some 4)
def Hv (o : Int) (f : List Int) : Int:=if o∈f then -1 else 1
def HP (g : List Int) (o : Int) (fs : List (List Int)) : Bool:=fs.all fun f=>Hy g (Hv o f) f
section
variable {N : Int} {E : List Arc} {A : List (List Int)} {g : List Int} {B : List ByteArray} {o : Int} {L : Nat}
end
theorem Cr {L : Nat} {fs : List (List Int)} (h : FsOK L fs) {i j : Nat} {f f' : List Int} (hi : fs[i]?=some f) (hj : fs[j]?=some f') {x : Int} (hx : x∈f) (hx' : x∈f') : i=j:=by
 have key : ∀ {i j : Nat} {f f' : List Int},i < j→fs[i]?=some f→fs[j]?=some f'→x∈f→x∈f'→False:=by
  intro i j f f' hij hi hj hx hx'
  have hil:=(List.getElem?_eq_some_iff.1 hi).1
  have hn:=List.nodup_iff_count.1 h.nodup x
  have e1:=List.take_append_drop j fs
  rw [← e1,List.flatten_append,List.count_append] at hn
  have k1 : 0 < (fs.take j).flatten.count x:=List.count_pos_iff.2 (List.mem_flatten.2 ⟨f,List.mem_of_getElem? (i:=i) (by rw [List.getElem?_take,if_pos hij]; exact hi),hx⟩)
  have k2 : 0 < (fs.drop j).flatten.count x:=List.count_pos_iff.2 (List.mem_flatten.2 ⟨f',List.mem_of_getElem? (i:=0) (by rw [List.getElem?_drop]; exact hj),hx'⟩)
  omega
 rcases Nat.lt_trichotomy i j with c | c | c
 ·exact (key c hi hj hx hx').elim
 ·exact c
 ·exact (key c hj hi hx' hx).elim
end Go.Vm

/-
 Refine, in the program: what it returns is a plain shape whose faces are rectangles.
-/
namespace Go.Vm
open Go.Proofs
set_option maxRecDepth 100000
attribute [local irreducible] aa
section
variable {N : Nat} {E : List Arc} {A : List (List Int)} {nx : List Int} {ps : List (List Int)} {g : List Int} {o : Nat}
def HV (I : Nat→List Arc→List (List Int)→List Int→Nat→Prop) (N : Nat) (E : List Arc) (A : List (List Int)) (g : List Int) (nx : List Int) : Prop:=∀ d f u nx',d < 2 * E.length→nx[d]?=some ((f : Nat) : Int)→f < 2 * E.length→tl E f=((u : Nat) : Int)→u < N→3≤gN g (oth d) →
 Sys (N+5) (Gd E N u) (Gr A u E.length f) nx' (ab nx')→Met (Gd E N u) (Gr A u E.length f) (Gz g d) (2 * E.length+3) (ab nx')→I (N+5) (Gd E N u) (Gr A u E.length f) (Gz g d) (2 * E.length+3)
theorem Gb (E : List Arc) (k : Nat) : (at0 (emB E) k).size=0:=by
 unfold emB
 rw [mC]; rfl
end
end Go.Vm


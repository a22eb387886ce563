/-
 A rectangle around a shape; rectangular shapes; the law.
-/
import Derived.Test.YtnnbdielbgljaaaDoorKG
import Derived.Test.YtnnbdielbgljaaaDoorKD
import Derived.Test.YtnnbdielbgljaaaDoorKF
set_option linter.unusedVariables false
set_option linter.unusedSimpArgs false
/-
 A new vertex at the end of a new edge; lists that begin elsewhere.
-/
namespace Go.Vm
open Go.Proofs
set_option maxRecDepth 100000
attribute [local irreducible] ab
section
variable {N : Nat} {E : List Arc} {A : List (List Int)} {nx : List Int} {ps : List (List Int)} {f u : Nat}
def pnA (A : List (List Int)) (u m f : Nat) : List (List Int):=A.set u (bef (cz A u) ((2 * m : Nat) : Int) (f : Int))++[[((2 * m+1 : Nat) : Int)]]
theorem ij {m : Nat} (hu : u < A.length) (w : Nat) : (pnA A u m f)[w]?=if w=u then some (bef (cz A u) ((2 * m : Nat) : Int) (f : Int)) else if w=A.length then some [((2 * m+1 : Nat) : Int)] else A[w]?:=by
 unfold pnA
 by_cases c1 : w=u
 ·subst c1
  rw [if_pos rfl,List.getElem?_append_left (by simpa using hu),List.getElem?_set,if_pos rfl,if_pos hu]
 ·rw [if_neg c1]
  by_cases c2 : w=A.length
  ·rw [if_pos c2,c2,List.getElem?_append_right (by simp)]; simp
  ·rw [if_neg c2]
   rcases Nat.lt_or_ge w A.length with c3 | c3
   ·rw [List.getElem?_append_left (by simpa using c3),List.getElem?_set,if_neg (fun e=>c1 e.symm)]
   ·rw [List.getElem?_eq_none (by simp; omega),List.getElem?_eq_none (by omega)]
theorem vV (h : RotOK (N : Nat) E A) (hf : f < 2 * E.length) (hu : tl E f=(u : Int)) (huN : u < N) (hn : N < 16384) (hM : E.length < 32768) : RotOK ((N+1 : Nat) : Nat) (E++[((u : Int),((N : Nat) : Int),())]) (pnA A u E.length f):=by
 have hal:=h.al
 have huA : u < A.length:=by omega
 have hlen : (E++[((u : Int),((N : Nat) : Int),())]).length=E.length+1:=by simp
 have old : ∀ {w : Nat} {l : List Int},A[w]?=some l→∀ x∈l,∃ k : Nat,x=(k : Int)∧k < 2 * (E++[((u : Int),((N : Nat) : Int),())]).length∧tl (E++[((u : Int),((N : Nat) : Int),())]) k=w:=by
  intro w l hl x hx
  obtain ⟨k,e1,e2,e3⟩:=h.dart w l hl x hx
  exact ⟨k,e1,by rw [hlen]; omega,by rw [iw e2]; exact e3⟩
 obtain ⟨p,q,k1,k2,k3,k4⟩:=h.split hf hu huN
 refine nf (by omega) (by omega) (by unfold pnA; simp; omega) ?_ ?_ ?_ ?_
 ·intro a ha
  rcases List.mem_append.1 ha with ha | ha
  ·obtain ⟨a1,a2,a3,a4,a5⟩:=h.edge a ha
   exact ⟨a1,by omega,a3,by omega,a5⟩
  ·rw [List.mem_singleton] at ha
   subst ha
   refine ⟨by show (0 : Int)≤u; omega,by show (u : Int) < _; omega,by show (0 : Int)≤(N : Nat); omega,by show ((N : Nat) : Int) < _; omega,?_⟩
   show (u : Int)≠(N : Nat)
   omega
 ·intro l hl
  obtain ⟨w,hw⟩:=List.mem_iff_getElem?.1 hl
  rw [ij huA] at hw
  split at hw
  ·cases hw
   rw [k2,eE _ _ _ _ k3 k4]
   have hn:=h.list_nodup (List.mem_of_getElem? k1)
   have hno : ((2 * E.length : Nat) : Int)∉p++(f : Int) :: q:=fun hm=>by
    obtain ⟨y,e1,e2,_⟩:=h.dart u _ k1 _ hm
    omega
   rw [List.nodup_append] at hn ⊢
   refine ⟨hn.1,List.nodup_cons.2 ⟨fun hm=>hno (List.mem_append.2 (.inr hm)),hn.2.1⟩,?_⟩
   intro a ha b hb e
   rcases List.mem_cons.1 hb with rfl | hb
   ·subst e; exact hno (List.mem_append.2 (.inl ha))
   ·exact hn.2.2 a ha b hb e
  ·split at hw
   ·cases hw; simp
   ·exact h.list_nodup (List.mem_of_getElem? hw)
 ·intro w l hw x hx
  rw [ij huA] at hw
  split at hw
  ·rename_i e
   cases hw
   subst e
   rcases fB.1 hx with hx | ⟨rfl,_⟩
   ·exact old (by rw [List.getElem?_eq_getElem huA,← aT huA]) x hx
   ·exact ⟨2 * E.length,rfl,by rw [hlen]; omega,by rw [nD]⟩
  ·split at hw
   ·rename_i e
    cases hw
    rw [List.mem_singleton] at hx
    exact ⟨2 * E.length+1,hx,by rw [hlen]; omega,by rw [gp,e,hal]⟩
   ·exact old hw x hx
 ·intro k hk
  rw [hlen] at hk
  have into : ∀ w l,(pnA A u E.length f)[w]?=some l→(k : Int)∈l→∃ l∈pnA A u E.length f,(k : Int)∈l:=fun w l h1 h2=>⟨l,List.mem_of_getElem? h1,h2⟩
  have gu:=ij (m:=E.length) (f:=f) huA u
  have gn:=ij (m:=E.length) (f:=f) huA A.length
  rw [if_pos rfl] at gu
  rw [if_neg (by omega),if_pos rfl] at gn
  rcases Nat.lt_or_ge k (2 * E.length) with hk2 | hk2
  ·obtain ⟨w,hw,hwN⟩:=h.tl_lt hk2
   have hwA : w < A.length:=by omega
   have hm:=h.around hk2 hw (List.getElem?_eq_getElem hwA)
   have gw:=ij (m:=E.length) (f:=f) huA w
   by_cases e2 : w=u
   ·subst e2
    exact into _ _ gu (fB.2 (.inl (by rw [aT hwA]; exact hm)))
   ·rw [if_neg e2,if_neg (by omega),List.getElem?_eq_getElem hwA] at gw
    exact into _ _ gw hm
  ·by_cases e : k=2 * E.length
   ·subst e; exact into _ _ gu (fB.2 (.inr ⟨rfl,by rw [k2]; simp⟩))
   ·have : k=2 * E.length+1:=by omega
    subst this; exact into _ _ gn (by simp)
theorem Bu (h : RotOK (N : Nat) E A) (hf : f < 2 * E.length) (hu : tl E f=(u : Int)) (huN : u < N) (hn : N < 16384) (hM : E.length < 32768) {nx' : List Int} (hnx : Fol oth E A nx) (hnx' : Fol oth (E++[((u : Int),((N : Nat) : Int),())]) (pnA A u E.length f) nx') :
  nx'[2 * E.length]?=some ((2 * E.length+1 : Nat) : Int)∧nx'[2 * E.length+1]?=some (f : Int)∧∀ k,k < 2 * E.length→(nx[k]?=some (f : Int)→nx'[k]?=some ((2 * E.length : Nat) : Int))∧(nx[k]?≠some (f : Int)→nx'[k]?=nx[k]?):=by
 have hr':=vV h hf hu huN hn hM
 have hal:=h.al
 have huA : u < A.length:=by omega
 have hlen : (E++[((u : Int),((N : Nat) : Int),())]).length=E.length+1:=by simp
 obtain ⟨fw,_,ff⟩:=bE h ()
 obtain ⟨fw',_,ff'⟩:=bE hr' ()
 have gu:=ij (m:=E.length) (f:=f) huA u
 have gn:=ij (m:=E.length) (f:=f) huA A.length
 rw [if_pos rfl] at gu
 rw [if_neg (by omega),if_pos rfl] at gn
 obtain ⟨pu,qu,su1,su2,su3,su4⟩:=h.split hf hu huN
 rw [su2,eE _ _ _ _ su3 su4] at gu
 obtain ⟨tu1,tu2⟩:=nR (ff.cyc (List.mem_of_getElem? su1) (by simp)) (ff'.cyc (List.mem_of_getElem? gu) (by simp)) su3 su4
 have conv : ∀ k,k < 2 * E.length→nx[k]?=fw[oth k]?:=fun k hk=>by
  obtain ⟨y,_,h1,h2⟩:=bM h hnx ff hk; rw [h1,h2]
 have conv' : ∀ k,k < 2 * E.length+2→nx'[k]?=fw'[oth k]?:=fun k hk=>by
  obtain ⟨y,_,h1,h2⟩:=bM hr' hnx' ff' (k:=k) (by rw [hlen]; omega); rw [h1,h2]
 refine ⟨?_,?_,fun k hk=>?_⟩
 ·rw [conv' _ (by omega),dg]
  have t:=ff'.get [((2 * E.length+1 : Nat) : Int)] (List.mem_of_getElem? gn) 0 (by simp)
  rw [show ([((2 * E.length+1 : Nat) : Int)] : List Int).getD ((0+1) % ([((2 * E.length+1 : Nat) : Int)] : List Int).length) 0=((2 * E.length+1 : Nat) : Int) from by simp] at t
  simp only [id,List.getElem_cons_zero,Int.toNat_natCast] at t
  exact t
 ·rw [conv' _ (by omega),dw]; rwa [Int.toNat_natCast] at tu1
 ·rw [conv k hk,conv' k (by omega)]
  have hok:=ay hk
  obtain ⟨w,hw,hwN⟩:=h.tl_lt hok
  have hwA : w < A.length:=by omega
  have hm:=h.around hok hw (List.getElem?_eq_getElem hwA)
  have closed : ∀ {x : Nat} {t : Nat},x < 2 * E.length→fw[oth k]?=some (x : Int)→tl E x=t→t=w:=by
   intro x t hx h1 h2
   have hc:=ff.cyc (List.getElem_mem hwA) (fun e=>by rw [e] at hm; simp at hm)
   have:=c9 hc hm h1
   obtain ⟨y,e1,_,e3⟩:=h.dart w _ (List.getElem?_eq_getElem hwA) _ this
   have : y=x:=by omega
   subst this
   omega
  by_cases e1 : w=u
  ·subst e1
   have hm2 : ((oth k : Nat) : Int)∈pu++(f : Int) :: qu:=by
    rw [List.getElem?_eq_getElem hwA] at su1; rw [← Option.some.inj su1]; exact hm
   have:=tu2 _ hm2
   rw [Int.toNat_natCast] at this
   exact this
  ·refine ⟨fun hd=>absurd (closed hf hd hu).symm e1,fun _=>?_⟩
   have gw:=ij (m:=E.length) (f:=f) huA w
   rw [if_neg e1,if_neg (by omega),List.getElem?_eq_getElem hwA] at gw
   obtain ⟨i,hi,e⟩:=List.getElem_of_mem hm
   have q1:=ff.get _ (List.getElem_mem hwA) i hi
   have q2:=ff'.get _ (List.mem_of_getElem? gw) i hi
   rw [e] at q1 q2
   simp only [id,Int.toNat_natCast] at q1 q2
   rw [q1,q2]
theorem Sys.pend {a b : List (List Int)} {s : List Int} (h : Sys N E A nx (a++((f : Int) :: s) :: b)) (hu : tl E f=(u : Int)) (hn : N < 16384) (hM : E.length < 32768) :
  ∃ nx',Sys (N+1) (E++[((u : Int),((N : Nat) : Int),())]) (pnA A u E.length f) nx' (a++(((2 * E.length : Nat) : Int) :: ((2 * E.length+1 : Nat) : Int) :: (f : Int) :: s) :: b):=by
 have hgm : ((f : Int) :: s)∈a++((f : Int) :: s) :: b:=by simp
 have hf2 : f < 2 * E.length:=by
  obtain ⟨k,e,hk⟩:=(h.fs.elem _ hgm).2 (f : Int) (by simp)
  omega
 obtain ⟨u',eu,huN'⟩:=h.rot.tl_lt hf2
 have huN : u < N:=by rw [hu] at eu; omega
 have hr':=vV h.rot hf2 hu huN hn hM
 obtain ⟨nx',_,hn'⟩:=iJ hr' ()
 obtain ⟨n0,n1,n2⟩:=Bu h.rot hf2 hu huN hn hM h.fol hn'
 have hlen : (E++[((u : Int),((N : Nat) : Int),())]).length=E.length+1:=by simp
 have hel:=(h.fs.elem _ hgm).2
 have hnd:=h.fs.face_nodup hgm
 have small : ∀ x∈(a++((f : Int) :: s) :: b).flatten,∃ k : Nat,x=(k : Int)∧k < 2 * E.length:=fun x hx=>by
  obtain ⟨l,hl,hxl⟩:=List.mem_flatten.1 hx
  exact (h.fs.elem l hl).2 x hxl
 have flat : ∀ x : Int,(a++(((2 * E.length : Nat) : Int) :: ((2 * E.length+1 : Nat) : Int) :: (f : Int) :: s) :: b).flatten.count x=(a++((f : Int) :: s) :: b).flatten.count x+[((2 * E.length : Nat) : Int),((2 * E.length+1 : Nat) : Int)].count x:=by
  intro x
  rw [cP,cP]
  simp only [List.count_cons,List.count_nil]
  omega
 have hone:=List.nodup_iff_count.1 h.fs.nodup
 refine ⟨nx',hr',hn',by omega,?_,by rw [hlen]; omega,⟨?_,?_,?_,?_⟩,?_,by rw [hlen]; have:=h.num; simp at this ⊢; omega⟩
 ·intro v hv
  by_cases c : v < N
  ·exact ju (h.conn v c)
  ·have : v=N:=by omega
   subst this
   refine .step (k:=2 * E.length) (ju (h.conn u huN)) (by rw [hlen]; omega) nD ?_
   unfold hd
   rw [dg,gp]
 ·intro g hg
  rw [hlen]
  rcases List.mem_append.1 hg with hg | hg
  ·obtain ⟨q1,q2⟩:=h.fs.elem g (by simp [hg])
   exact ⟨q1,fun d hd=>by obtain ⟨k,e,hk⟩:=q2 d hd; exact ⟨k,e,by omega⟩⟩
  ·rcases List.mem_cons.1 hg with rfl | hg
   ·refine ⟨by simp,fun d hd=>?_⟩
    rcases List.mem_cons.1 hd with rfl | hd
    ·exact ⟨_,rfl,by omega⟩
    ·rcases List.mem_cons.1 hd with rfl | hd
     ·exact ⟨_,rfl,by omega⟩
     ·obtain ⟨k,e,hk⟩:=hel d hd; exact ⟨k,e,by omega⟩
   ·obtain ⟨q1,q2⟩:=h.fs.elem g (by simp [hg])
    exact ⟨q1,fun d hd=>by obtain ⟨k,e,hk⟩:=q2 d hd; exact ⟨k,e,by omega⟩⟩
 ·rw [List.nodup_iff_count]
  intro x
  rw [flat]
  have h1:=hone x
  simp only [List.count_cons,List.count_nil,beq_iff_eq]
  by_cases hx : x∈(a++((f : Int) :: s) :: b).flatten
  ·obtain ⟨k,rfl,hk⟩:=small x hx
   rw [if_neg (by omega),if_neg (by omega)]; omega
  ·rw [List.count_eq_zero.2 hx]
   split <;> split <;> omega
 ·intro k hk
  rw [hlen] at hk
  refine List.count_pos_iff.1 ?_
  rw [flat]
  rcases Nat.lt_or_ge k (2 * E.length) with c | c
  ·have:=List.count_pos_iff.2 (h.fs.cover k c); omega
  ·have hin : (k : Int)∈[((2 * E.length : Nat) : Int),((2 * E.length+1 : Nat) : Int)]:=by
    simp; omega
   have:=List.count_pos_iff.2 hin; omega
 ·have:=h.fs.num
  rw [hlen]; simp at this ⊢; omega
 ·intro g hg
  have keep : ∀ g,g∈a++b→Cyc nx' g:=fun g hg=>by
   have hmem : g∈a++((f : Int) :: s) :: b:=by rcases List.mem_append.1 hg with hg | hg <;> simp [hg]
   have hcy:=h.cyc g hmem
   have hne:=hcy.1
   cases g with
   | nil=>exact absurd rfl hne
   | cons x g =>
    refine dn (kZ (bK hcy) fun y hy=>?_) (by simp)
    obtain ⟨k,rfl,hk⟩:=(h.fs.elem _ hmem).2 y hy
    rw [Int.toNat_natCast]
    refine (n2 k hk).2 fun e=>?_
    have hfin:=c9 hcy hy e
    have k1:=hone (f : Int)
    rw [cP] at k1
    have : 0 < ((f : Int) :: s).count (f : Int):=List.count_pos_iff.2 (by simp)
    rcases List.mem_append.1 hg with hg | hg
    ·have:=List.count_pos_iff.2 (List.mem_flatten.2 ⟨_,hg,hfin⟩); omega
    ·have:=List.count_pos_iff.2 (List.mem_flatten.2 ⟨_,hg,hfin⟩); omega
  rcases List.mem_append.1 hg with hg | hg
  ·exact keep g (by simp [hg])
  ·rcases List.mem_cons.1 hg with rfl | hg
   ·have hp:=bK (h.cyc _ hgm)
    have hp' : dd nx' (f : Int) ((f : Int) :: s) ((2 * E.length : Nat) : Int):=by
     refine gD hp (by simp) (fun hm=>?_) fun y hy=>?_
     ·rw [List.nodup_cons] at hnd; exact hnd.1 hm
     ·obtain ⟨k,rfl,hk⟩:=hel y hy
      rw [Int.toNat_natCast]
      exact n2 k hk
    exact dn (x:=((2 * E.length : Nat) : Int)) ⟨rfl,_,by rw [Int.toNat_natCast]; exact n0,rfl,_,by rw [Int.toNat_natCast]; exact n1,hp'⟩ (by simp)
   ·exact keep g (by simp [hg])
def G7 (A A' : List (List Int)) : Prop:=A'.length=A.length∧∀ (v : Nat) (l : List Int),A[v]?=some l→∃ p q,l=p++q∧A'[v]?=some (q++p)
theorem Sys.rots {A' : List (List Int)} (h : Sys N E A nx ps) (hr : G7 A A') : Sys N E A' nx ps:=by
 have hal:=h.rot.al
 have back : ∀ (v : Nat) (l : List Int),A'[v]?=some l→∃ p q,l=q++p∧A[v]?=some (p++q):=by
  intro v l hv
  have hvl:=(List.getElem?_eq_some_iff.1 hv).1
  obtain ⟨p,q,e1,e2⟩:=hr.2 v _ (List.getElem?_eq_getElem (by rw [← hr.1]; exact hvl))
  rw [hv] at e2
  cases e2
  exact ⟨p,q,rfl,by rw [← e1]; exact List.getElem?_eq_getElem _⟩
 have hrot' : RotOK (N : Nat) E A':=by
  refine nf h.rot.n16 h.rot.m1 (by rw [hr.1]; exact hal) h.rot.edge ?_ ?_ ?_
  ·intro l hl
   obtain ⟨v,hv⟩:=List.mem_iff_getElem?.1 hl
   obtain ⟨p,q,rfl,e⟩:=back v l hv
   exact (List.perm_append_comm.nodup_iff).1 (h.rot.list_nodup (List.mem_of_getElem? e))
  ·intro v l hv d hd
   obtain ⟨p,q,rfl,e⟩:=back v l hv
   exact h.rot.dart v _ e d (by rw [List.mem_append] at hd ⊢; exact hd.symm)
  ·intro k hk
   obtain ⟨l,hl,hkl⟩:=List.mem_flatten.1 (h.rot.mem hk)
   obtain ⟨v,hv⟩:=List.mem_iff_getElem?.1 hl
   obtain ⟨p,q,rfl,e⟩:=hr.2 v l hv
   exact ⟨_,List.mem_of_getElem? e,by rw [List.mem_append] at hkl ⊢; exact hkl.symm⟩
 obtain ⟨fw,_,ff⟩:=bE h.rot ()
 have ff' : Fol id E A' fw:=by
  refine ⟨ff.len,fun l hl i hi=>?_⟩
  obtain ⟨v,hv⟩:=List.mem_iff_getElem?.1 hl
  obtain ⟨p,q,rfl,e⟩:=back v l hv
  have hne : p++q≠[]:=fun e'=>by
   have e2:=List.append_eq_nil_iff.1 e'
   rw [e2.1,e2.2] at hi
   simp at hi
  exact (dP (ff.cyc (List.mem_of_getElem? e) hne)).2 i hi
 obtain ⟨nx',_,hn'⟩:=iJ hrot' ()
 have : nx'=nx:=by
  refine List.ext_getElem? fun k=>?_
  by_cases hk : k < 2 * E.length
  ·obtain ⟨y,_,h1,h2⟩:=bM h.rot h.fol ff hk
   obtain ⟨y',_,h1',h2'⟩:=bM hrot' hn' ff' hk
   rw [h2] at h2'
   rw [h1,h1',h2']
  ·rw [List.getElem?_eq_none (by rw [hn'.len]; omega),List.getElem?_eq_none (by rw [h.fol.len]; omega)]
 subst this
 exact ⟨hrot',hn',h.pos,h.conn,h.ne,h.fs,h.cyc,h.num⟩
end
end Go.Vm

/-
 A shape within a rectangle is a plain shape.
-/
namespace Go.Vm
open Go.Proofs
set_option maxRecDepth 100000
attribute [local irreducible] ab
section
variable {N : Nat} {E : List Arc} {A : List (List Int)} {nx : List Int} {ps : List (List Int)} {g : List Int} {o : Nat}
theorem zb {d f : Int} : bef [f] d f=[d,f]:=by simp [bef]
theorem DQ {B0 : List (List Int)} {n m c : Nat} (hn : B0.length=n) : pnA (B0++[[(c : Int)]]) n m c=B0++[[((2 * m : Nat) : Int),(c : Int)]]++[[((2 * m+1 : Nat) : Int)]]:=by
 unfold pnA
 have h1 : cz (B0++[[(c : Int)]]) n=[(c : Int)]:=by
  unfold cz
  rw [List.getElem?_append_right (by omega),hn,Nat.sub_self]; rfl
 rw [h1,zb,List.set_append,if_neg (by omega),hn,Nat.sub_self]
 rfl
theorem Sys.tail {a b B0 : List (List Int)} {s : List Int} {n c m : Nat} (h : Sys (n+1) E (B0++[[(c : Int)]]) nx (a++((c : Int) :: s) :: b)) (hn : B0.length=n) (hc : tl E c=(n : Int)) (hE : E.length=m) (h1 : n+1 < 16384) (h2 : m < 32768) :
  ∃ nx',Sys (n+1+1) (E++[((n : Int),((n+1 : Nat) : Int),())]) ((B0++[[((2 * m : Nat) : Int),(c : Int)]])++[[((2 * m+1 : Nat) : Int)]]) nx' (a++(((2 * m+1 : Nat) : Int) :: ((c : Int) :: s++[((2 * m : Nat) : Int)])) :: b):=by
 subst hE
 obtain ⟨nx',q⟩:=h.pend hc h1 h2
 rw [DQ hn] at q
 exact ⟨nx',q.rotate (p:=[((2 * E.length : Nat) : Int)]) (q:=((2 * E.length+1 : Nat) : Int) :: (c : Int) :: s)⟩
def iT (E : List Arc) (N u : Nat) : List Arc:=E++[((u : Int),(N : Int),()),((N : Int),((N+1 : Nat) : Int),()),(((N+1 : Nat) : Int),((N+2 : Nat) : Int),()),(((N+2 : Nat) : Int),((N+3 : Nat) : Int),()),(((N+3 : Nat) : Int),((N+4 : Nat) : Int),()),(((N+4 : Nat) : Int),(N : Int),())]
def mn (A : List (List Int)) (u m f : Nat) : List (List Int):=A.set u (bef (cz A u) ((2 * m : Nat) : Int) (f : Int))++[[((2 * m+2 : Nat) : Int),((2 * m+11 : Nat) : Int),((2 * m+1 : Nat) : Int)],[((2 * m+3 : Nat) : Int),((2 * m+4 : Nat) : Int)],[((2 * m+5 : Nat) : Int),((2 * m+6 : Nat) : Int)],[((2 * m+7 : Nat) : Int),((2 * m+8 : Nat) : Int)],[((2 * m+9 : Nat) : Int),((2 * m+10 : Nat) : Int)]]
def yi (a b : List (List Int)) (s : List Int) (m f : Nat) : List (List Int) :=
 [((2 * m+9 : Nat) : Int),((2 * m+7 : Nat) : Int),((2 * m+5 : Nat) : Int),((2 * m+3 : Nat) : Int),((2 * m+11 : Nat) : Int)] ::
 (((2 * m+1 : Nat) : Int) :: ((f : Int) :: s)++[((2 * m : Nat) : Int),((2 * m+2 : Nat) : Int),((2 * m+4 : Nat) : Int),((2 * m+6 : Nat) : Int),((2 * m+8 : Nat) : Int),((2 * m+10 : Nat) : Int)]) :: (a++b)
theorem Sys.enclose {a b : List (List Int)} {s : List Int} {f u : Nat} (h : Sys N E A nx (a++((f : Int) :: s) :: b)) (hu : tl E f=(u : Int)) (hn : N+5≤16384) (hM : E.length+6≤32768) :
  ∃ nx',Sys (N+5) (iT E N u) (mn A u E.length f) nx' (yi a b s E.length f):=by
 obtain ⟨m,hm⟩ : ∃ m,m=E.length:=⟨_,rfl⟩
 have hal:=h.rot.al
 obtain ⟨nx1,h1⟩:=h.pend hu (by omega) (by omega)
 have h1:=h1.rotate (p:=[((2 * E.length : Nat) : Int)]) (q:=((2 * E.length+1 : Nat) : Int) :: (f : Int) :: s)
 have hl0 : (A.set u (bef (cz A u) ((2 * m : Nat) : Int) (f : Int))).length=N:=by rw [List.length_set]; exact hal
 unfold pnA at h1
 rw [← hm] at h1
 obtain ⟨nx2,h2⟩:=h1.tail (m:=m+1) hl0 (by rw [hm]; exact gp) (by simp [hm]) (by omega) (by omega)
 have e1 : 2 * (m+1)=2 * m+2:=by omega
 rw [e1] at h2
 obtain ⟨nx3,h3⟩:=h2.tail (m:=m+2) (by simp [hal]) (by
  have : 2 * m+2+1=2 * (E++[((u : Int),((N : Nat) : Int),())]).length+1:=by simp [hm]; omega
  rw [this]; exact gp) (by simp [hm]) (by omega) (by omega)
 have e2 : 2 * (m+2)=2 * m+4:=by omega
 rw [e2] at h3
 obtain ⟨nx4,h4⟩:=h3.tail (m:=m+3) (by simp [hal]) (by
  have : 2 * m+4+1=2 * ((E++[((u : Int),((N : Nat) : Int),())])++[((N : Int),((N+1 : Nat) : Int),())]).length+1:=by simp [hm]; omega
  rw [this]; exact gp) (by simp [hm]) (by omega) (by omega)
 have e3 : 2 * (m+3)=2 * m+6:=by omega
 rw [e3] at h4
 obtain ⟨nx5,h5⟩:=h4.tail (m:=m+4) (by simp [hal]) (by
  have : 2 * m+6+1=2 * (((E++[((u : Int),((N : Nat) : Int),())])++[((N : Int),((N+1 : Nat) : Int),())])++[(((N+1 : Nat) : Int),((N+1+1 : Nat) : Int),())]).length+1:=by simp [hm]; omega
  rw [this]; exact gp) (by simp [hm]) (by omega) (by omega)
 have e4 : 2 * (m+4)=2 * m+8:=by omega
 rw [e4] at h5
 -- the last edge
 obtain ⟨E5,hE5d⟩ : ∃ E5,E5=E++[((u : Int),(N : Int),()),((N : Int),((N+1 : Nat) : Int),()),(((N+1 : Nat) : Int),((N+2 : Nat) : Int),()),(((N+2 : Nat) : Int),((N+3 : Nat) : Int),()),(((N+3 : Nat) : Int),((N+4 : Nat) : Int),())]:=⟨_,rfl⟩
 have hE5l : E5.length=m+5:=by rw [hE5d]; simp [hm]
 have tw : tl E5 (2 * m+1)=(N : Int):=by
  rw [hE5d]
  unfold tl
  rw [show (2 * m+1) / 2=m by omega,List.getElem?_append_right (by omega),hm,Nat.sub_self]
  simp only [List.getElem?_cons_zero]
  rw [if_neg (by omega)]
 have tv : tl E5 (2 * m+8+1)=((N+4 : Nat) : Int):=by
  rw [hE5d]
  unfold tl
  rw [show (2 * m+8+1) / 2=m+4 by omega,List.getElem?_append_right (by omega),hm,show E.length+4 - E.length=4 by omega]
  simp only [List.getElem?_cons_succ,List.getElem?_cons_zero]
  rw [if_neg (by omega)]
 have h5' : Sys (N+1+1+1+1+1) E5 (A.set u (bef (cz A u) ((2 * m : Nat) : Int) (f : Int))++[[((2 * m+2 : Nat) : Int),((2 * m+1 : Nat) : Int)],[((2 * m+4 : Nat) : Int),((2 * m+2+1 : Nat) : Int)],[((2 * m+6 : Nat) : Int),((2 * m+4+1 : Nat) : Int)],[((2 * m+8 : Nat) : Int),((2 * m+6+1 : Nat) : Int)],[((2 * m+8+1 : Nat) : Int)]]) nx5
   (a++(((2 * m+8+1 : Nat) : Int) :: [((2 * m+6+1 : Nat) : Int),((2 * m+4+1 : Nat) : Int),((2 * m+2+1 : Nat) : Int)]++((2 * m+1 : Nat) : Int) :: ((f : Int) :: s++[((2 * m : Nat) : Int),((2 * m+2 : Nat) : Int),((2 * m+4 : Nat) : Int),((2 * m+6 : Nat) : Int),((2 * m+8 : Nat) : Int)])) :: b):=by
  rw [hE5d]
  simpa [Nat.add_assoc] using h5
 have hEd:=h5'.edgeOK tv tw (by omega) (by omega)
 obtain ⟨nx6,h6⟩:=h5'.edge hEd
 rw [hE5l] at h6
 have hA6 : eY (A.set u (bef (cz A u) ((2 * m : Nat) : Int) (f : Int))++[[((2 * m+2 : Nat) : Int),((2 * m+1 : Nat) : Int)],[((2 * m+4 : Nat) : Int),((2 * m+2+1 : Nat) : Int)],[((2 * m+6 : Nat) : Int),((2 * m+4+1 : Nat) : Int)],[((2 * m+8 : Nat) : Int),((2 * m+6+1 : Nat) : Int)],[((2 * m+8+1 : Nat) : Int)]]) (N+4) N (m+5) ((2 * m+8+1 : Nat) : Int) ((2 * m+1 : Nat) : Int) =
   A.set u (bef (cz A u) ((2 * m : Nat) : Int) (f : Int))++[[((2 * m+2 : Nat) : Int),((2 * (m+5)+1 : Nat) : Int),((2 * m+1 : Nat) : Int)],[((2 * m+4 : Nat) : Int),((2 * m+2+1 : Nat) : Int)],[((2 * m+6 : Nat) : Int),((2 * m+4+1 : Nat) : Int)],[((2 * m+8 : Nat) : Int),((2 * m+6+1 : Nat) : Int)],[((2 * (m+5) : Nat) : Int),((2 * m+8+1 : Nat) : Int)]]:=by
  generalize A.set u (bef (cz A u) ((2 * m : Nat) : Int) (f : Int))=A0 at hl0
  unfold eY
  have q1 : cz (A0++[[((2 * m+2 : Nat) : Int),((2 * m+1 : Nat) : Int)],[((2 * m+4 : Nat) : Int),((2 * m+2+1 : Nat) : Int)],[((2 * m+6 : Nat) : Int),((2 * m+4+1 : Nat) : Int)],[((2 * m+8 : Nat) : Int),((2 * m+6+1 : Nat) : Int)],[((2 * m+8+1 : Nat) : Int)]]) (N+4)=[((2 * m+8+1 : Nat) : Int)]:=by
   unfold cz
   rw [List.getElem?_append_right (by omega),hl0,show N+4 - N=4 by omega]; rfl
  have q2 : cz (A0++[[((2 * m+2 : Nat) : Int),((2 * m+1 : Nat) : Int)],[((2 * m+4 : Nat) : Int),((2 * m+2+1 : Nat) : Int)],[((2 * m+6 : Nat) : Int),((2 * m+4+1 : Nat) : Int)],[((2 * m+8 : Nat) : Int),((2 * m+6+1 : Nat) : Int)],[((2 * m+8+1 : Nat) : Int)]]) N=[((2 * m+2 : Nat) : Int),((2 * m+1 : Nat) : Int)]:=by
   unfold cz
   rw [List.getElem?_append_right (by omega),hl0,Nat.sub_self]; rfl
  have q3 : bef [((2 * m+2 : Nat) : Int),((2 * m+1 : Nat) : Int)] ((2 * (m+5)+1 : Nat) : Int) ((2 * m+1 : Nat) : Int)=[((2 * m+2 : Nat) : Int),((2 * (m+5)+1 : Nat) : Int),((2 * m+1 : Nat) : Int)] :=
   eE _ _ [((2 * m+2 : Nat) : Int)] [] (by simp) (by simp)
  rw [q1,q2,zb,q3,List.set_append,if_neg (by omega),hl0,List.set_append,if_neg (by omega),hl0,show N+4 - N=4 by omega,Nat.sub_self]
  rfl
 have h7:=h6.rots (A':=mn A u m f) (by
  rw [hA6]
  unfold mn
  constructor
  ·simp
  ·intro v l hv
   rcases Nat.lt_or_ge v N with c | c
   ·rw [List.getElem?_append_left (by omega)] at hv
    exact ⟨l,[],by simp,by rw [List.getElem?_append_left (by omega)]; simpa using hv⟩
   ·rw [List.getElem?_append_right (by omega),hl0] at hv
    rw [List.getElem?_append_right (by omega),hl0]
    obtain ⟨j,hj⟩ : ∃ j,j=v - N:=⟨_,rfl⟩
    rw [← hj] at hv ⊢
    have hj5 : j < 5:=by
     have:=(List.getElem?_eq_some_iff.1 hv).1
     simpa using this
    have : j=0∨j=1∨j=2∨j=3∨j=4:=by omega
    rcases this with rfl | rfl | rfl | rfl | rfl
    ·cases hv; exact ⟨_,[],(List.append_nil _).symm,rfl⟩
    ·cases hv; exact ⟨[_],[_],rfl,rfl⟩
    ·cases hv; exact ⟨[_],[_],rfl,rfl⟩
    ·cases hv; exact ⟨[_],[_],rfl,rfl⟩
    ·cases hv; exact ⟨[_],[_],rfl,rfl⟩)
 refine ⟨nx6,?_⟩
 rw [← hm]
 have hEe : iT E N u=E5++[(((N+4 : Nat) : Int),((N : Nat) : Int),())]:=by unfold iT; rw [hE5d]; simp
 rw [hEe]
 have hPe : yi a b s m f=((((2 * m+8+1 : Nat) : Int) :: [((2 * m+6+1 : Nat) : Int),((2 * m+4+1 : Nat) : Int),((2 * m+2+1 : Nat) : Int)]++[((2 * (m+5)+1 : Nat) : Int)]) :: (((2 * m+1 : Nat) : Int) :: ((f : Int) :: s++[((2 * m : Nat) : Int),((2 * m+2 : Nat) : Int),((2 * m+4 : Nat) : Int),((2 * m+6 : Nat) : Int),((2 * m+8 : Nat) : Int)])++[((2 * (m+5) : Nat) : Int)]) :: (a++b)):=by
  unfold yi
  simp
  omega
 rw [hPe]
 exact h7
def bQ (g : List Int) (d : Nat) : List Int:=g.set (oth d) 2++[gN g (oth d) - 2,1,2,1,3,1,3,1,3,1,3,1]
theorem sr {d m k : Nat} (hg : g.length=2 * m) (hd : d < 2 * m) (hk : k < 2 * m) : gN (bQ g d) k=if k=oth d then 2 else gN g k:=by
 unfold bQ
 rw [kL,List.length_set,if_pos (by omega),p9 (by have:=ay hd; omega)]
theorem wv {d m j : Nat} (hg : g.length=2 * m) : gN (bQ g d) (2 * m+j)=gN [gN g (oth d) - 2,1,2,1,3,1,3,1,3,1,3,1] j:=by
 unfold bQ
 rw [kL,List.length_set,if_neg (by omega),hg,show 2 * m+j - 2 * m=j by omega]
theorem Met.enclose {a b : List (List Int)} {s t : List Int} {f u d : Nat} (h : Sys N E A nx (a++((f : Int) :: s) :: b)) (hm : Met E A g o (a++((f : Int) :: s) :: b)) (hu : tl E f=(u : Int)) (ho : (o : Int)∈(f : Int) :: s) (hst : (f : Int) :: s=t++[(d : Int)]) (hw : 3≤gN g (oth d)) :
  Met (iT E N u) (mn A u E.length f) (bQ g d) (2 * E.length+3) (yi a b s E.length f)∧Out (bQ g d) (2 * E.length+3) (yi a b s E.length f)∧exc (bQ g d)≤exc g+4:=by
 obtain ⟨m,hm'⟩ : ∃ m,m=E.length:=⟨_,rfl⟩
 have hgm : ((f : Int) :: s)∈a++((f : Int) :: s) :: b:=by simp
 have hel:=(h.fs.elem _ hgm).2
 have hnd:=h.fs.face_nodup hgm
 have hcy:=h.cyc _ hgm
 have hgl:=hm.glen
 rw [← hm'] at hgl
 have hd : d < 2 * m:=by
  obtain ⟨k,e,hk⟩:=hel (d : Int) (by rw [hst]; simp)
  omega
 have hf : f < 2 * m:=by
  obtain ⟨k,e,hk⟩:=hel (f : Int) (by simp)
  omega
 have hod:=ay hd
 have hwle:=(hm.ang _ (by omega : oth d < 2 * E.length)).2
 have hnx : nx[d]?=some (f : Int):=by
  cases t with
  | nil =>
   have h1 : d=f:=by simp at hst; omega
   have:=hcy.2 0 (by simp)
   rw [h1]
   have hs : s=[]:=by simp at hst; exact hst.2
   subst hs
   simpa using this
  | cons z t =>
   have h1 : z=(f : Int):=by simp at hst; exact hst.1.symm
   subst h1
   rw [hst] at hcy
   simpa using gX hcy
 have htd : tl E (oth d)=(u : Int):=by have:=(fg h.rot h.fol hnx).2.2; rw [hu] at this; exact this.symm
 obtain ⟨u',eu,huN'⟩:=h.rot.tl_lt (by omega : f < 2 * E.length)
 have huN : u < N:=by rw [hu] at eu; omega
 have hal:=h.rot.al
 have huA : u < A.length:=by omega
 have old:=fun {k : Nat} (hk : k < 2 * m)=>sr (g:=g) hgl hd hk
 have n:=fun (j : Nat)=>wv (g:=g) (d:=d) (j:=j) hgl
 have v0 : gN (bQ g d) (2 * m)=gN g (oth d) - 2:=n 0
 have v1 : gN (bQ g d) (2 * m+1)=1:=n 1
 have v2 : gN (bQ g d) (2 * m+2)=2:=n 2
 have v3 : gN (bQ g d) (2 * m+3)=1:=n 3
 have v4 : gN (bQ g d) (2 * m+4)=3:=n 4
 have v5 : gN (bQ g d) (2 * m+5)=1:=n 5
 have v6 : gN (bQ g d) (2 * m+6)=3:=n 6
 have v7 : gN (bQ g d) (2 * m+7)=1:=n 7
 have v8 : gN (bQ g d) (2 * m+8)=3:=n 8
 have v9 : gN (bQ g d) (2 * m+9)=1:=n 9
 have v10 : gN (bQ g d) (2 * m+10)=3:=n 10
 have v11 : gN (bQ g d) (2 * m+11)=1:=n 11
 have hEl : (iT E N u).length=m+6:=by unfold iT; simp [hm']
 have oe : ∀ j,oth (2 * m+2 * j)=2 * m+2 * j+1:=fun j=>by rw [show 2 * m+2 * j=2 * (m+j) by omega,dg]
 have oo : ∀ j,oth (2 * m+2 * j+1)=2 * m+2 * j:=fun j=>by rw [show 2 * m+2 * j=2 * (m+j) by omega,dw]
 have x0 : oth (2 * m)=2 * m+1:=oe 0
 have x1 : oth (2 * m+1)=2 * m:=oo 0
 have x2 : oth (2 * m+2)=2 * m+3:=oe 1
 have x3 : oth (2 * m+3)=2 * m+2:=oo 1
 have x4 : oth (2 * m+4)=2 * m+5:=oe 2
 have x5 : oth (2 * m+5)=2 * m+4:=oo 2
 have x6 : oth (2 * m+6)=2 * m+7:=oe 3
 have x7 : oth (2 * m+7)=2 * m+6:=oo 3
 have x8 : oth (2 * m+8)=2 * m+9:=oe 4
 have x9 : oth (2 * m+9)=2 * m+8:=oo 4
 have x10 : oth (2 * m+10)=2 * m+11:=oe 5
 have x11 : oth (2 * m+11)=2 * m+10:=oo 5
 have keep : ∀ {x : Int},(∃ k : Nat,x=(k : Int)∧k < 2 * m)→x≠(d : Int)→tn (bQ g d) x=tn g x:=by
  rintro x ⟨k,rfl,hk⟩ hx
  unfold tn
  rw [Int.toNat_natCast,old (ay hk),if_neg (fun e'=>hx (by rw [bZ e']))]
 have td : tn (bQ g d) (d : Int)=0:=by unfold tn; rw [Int.toNat_natCast,old hod,if_pos rfl]; rfl
 have td0 : tn g (d : Int)=2 - gN g (oth d):=by unfold tn; rw [Int.toNat_natCast]
 have o9 : tn (bQ g d) ((2 * m+9 : Nat) : Int)=-1:=by unfold tn; rw [Int.toNat_natCast,x9,v8]; rfl
 have o7 : tn (bQ g d) ((2 * m+7 : Nat) : Int)=-1:=by unfold tn; rw [Int.toNat_natCast,x7,v6]; rfl
 have o5 : tn (bQ g d) ((2 * m+5 : Nat) : Int)=-1:=by unfold tn; rw [Int.toNat_natCast,x5,v4]; rfl
 have o3 : tn (bQ g d) ((2 * m+3 : Nat) : Int)=0:=by unfold tn; rw [Int.toNat_natCast,x3,v2]; rfl
 have o11 : tn (bQ g d) ((2 * m+11 : Nat) : Int)=-1:=by unfold tn; rw [Int.toNat_natCast,x11,v10]; rfl
 have p0 : tn (bQ g d) ((2 * m : Nat) : Int)=1:=by unfold tn; rw [Int.toNat_natCast,x0,v1]; rfl
 have p1 : tn (bQ g d) ((2 * m+1 : Nat) : Int)=4 - gN g (oth d):=by unfold tn; rw [Int.toNat_natCast,x1,v0]; omega
 have p2 : tn (bQ g d) ((2 * m+2 : Nat) : Int)=1:=by unfold tn; rw [Int.toNat_natCast,x2,v3]; rfl
 have p4 : tn (bQ g d) ((2 * m+4 : Nat) : Int)=1:=by unfold tn; rw [Int.toNat_natCast,x4,v5]; rfl
 have p6 : tn (bQ g d) ((2 * m+6 : Nat) : Int)=1:=by unfold tn; rw [Int.toNat_natCast,x6,v7]; rfl
 have p8 : tn (bQ g d) ((2 * m+8 : Nat) : Int)=1:=by unfold tn; rw [Int.toNat_natCast,x8,v9]; rfl
 have p10 : tn (bQ g d) ((2 * m+10 : Nat) : Int)=1:=by unfold tn; rw [Int.toNat_natCast,x10,v11]; rfl
 have hdt : (d : Int)∉t:=by
  rw [hst] at hnd
  intro hh
  exact (List.nodup_append.1 hnd).2.2 _ hh _ (by simp) rfl
 have oldface : tsm (bQ g d) ((f : Int) :: s)=-4+(gN g (oth d) - 2):=by
  have h0:=hm.face _ hgm
  rw [if_pos ho,hst,dy,bd,b8,td0] at h0
  rw [hst,dy,bd,b8,td,gz (g:=g) (f:=t) (fun x hx=>keep (by rw [hm']; exact hel x (by rw [hst]; simp [hx])) (fun e=>hdt (e ▸ hx)))]
  omega
 have hmem : ∀ {f0 : List Int},f0∈a++b→f0∈a++((f : Int) :: s) :: b:=fun {f0} hf0=>by
  rcases List.mem_append.1 hf0 with hf0 | hf0 <;> simp [hf0]
 have dis : ∀ {f0 : List Int},f0∈a++b→∀ x∈f0,x∉(f : Int) :: s:=fun {f0} hf0 x hx hx2=>by
  have k1:=List.nodup_iff_count.1 h.fs.nodup x
  rw [cP] at k1
  have k2:=List.count_pos_iff.2 hx2
  rcases List.mem_append.1 hf0 with hf0 | hf0
  ·have:=List.count_pos_iff.2 (List.mem_flatten.2 ⟨f0,hf0,hx⟩); omega
  ·have:=List.count_pos_iff.2 (List.mem_flatten.2 ⟨f0,hf0,hx⟩); omega
 have noB : ((2 * m+3 : Nat) : Int)∉((2 * m+1 : Nat) : Int) :: ((f : Int) :: s)++[((2 * m : Nat) : Int),((2 * m+2 : Nat) : Int),((2 * m+4 : Nat) : Int),((2 * m+6 : Nat) : Int),((2 * m+8 : Nat) : Int),((2 * m+10 : Nat) : Int)]:=by
  intro hh
  rcases List.mem_append.1 hh with hh | hh
  ·rcases List.mem_cons.1 hh with hh | hh
   ·omega
   ·obtain ⟨k,e,hk⟩:=hel _ hh; omega
  ·simp only [List.mem_cons,List.not_mem_nil,or_false] at hh
   omega
 have noO : ∀ {f0 : List Int},f0∈a++b→((2 * m+3 : Nat) : Int)∉f0:=fun {f0} hf0 hh=>by
  obtain ⟨k,e,hk⟩:=(h.fs.elem f0 (hmem hf0)).2 _ hh; omega
 rw [← hm']
 refine ⟨⟨?_,fun k hk=>?_,fun l hl hnl=>?_,by rw [hEl]; omega,fun f0 hf0=>?_⟩,fun f0 hf0 hof x hx=>?_,?_⟩
 ·rw [hEl]; unfold bQ; simp [hgl]; omega
 ·rw [hEl] at hk
  rcases Nat.lt_or_ge k (2 * m) with c | c
  ·rw [old c]
   split
   ·omega
   ·exact hm.ang k (by omega)
  ·obtain ⟨j,rfl⟩ : ∃ j,k=2 * m+j:=⟨k - 2 * m,by omega⟩
   have hj : j < 12:=by omega
   have : j=0∨j=1∨j=2∨j=3∨j=4∨j=5∨j=6∨j=7∨j=8∨j=9∨j=10∨j=11:=by omega
   rcases this with rfl | rfl | rfl | rfl | rfl | rfl | rfl | rfl | rfl | rfl | rfl | rfl
   ·rw [Nat.add_zero,v0]; omega
   ·rw [v1]; omega
   ·rw [v2]; omega
   ·rw [v3]; omega
   ·rw [v4]; omega
   ·rw [v5]; omega
   ·rw [v6]; omega
   ·rw [v7]; omega
   ·rw [v8]; omega
   ·rw [v9]; omega
   ·rw [v10]; omega
   ·rw [v11]; omega
 ·unfold mn at hl
  rcases List.mem_append.1 hl with hl | hl
  ·obtain ⟨w,hw⟩:=List.mem_iff_getElem?.1 hl
   rw [List.getElem?_set] at hw
   by_cases c : u=w
   ·subst c
    rw [if_pos rfl,if_pos huA] at hw
    cases hw
    have hAw:=List.getElem?_eq_getElem huA
    have hsub:=aT huA
    have hin:=h.rot.around (by omega : oth d < 2 * E.length) htd hAw
    have hfin:=h.rot.around (by omega : f < 2 * E.length) hu hAw
    rw [hsub,ua (h.rot.list_nodup (List.getElem_mem huA)) hfin,Int.toNat_natCast,v0,
     py (F:=fun d=>gN g d.toNat) (c:=((oth d : Nat) : Int)) (h.rot.list_nodup (List.getElem_mem huA)) hin (fun x hx hxc=>by
      obtain ⟨k,rfl,hk,ht⟩:=h.rot.dart u _ hAw x hx
      rw [Int.toNat_natCast,old (by omega),if_neg (by omega)]),
     hm.vert _ (List.getElem_mem huA) (fun e'=>by rw [e'] at hin; cases hin),Int.toNat_natCast,old hod,if_pos rfl]
    omega
   ·rw [if_neg c] at hw
    have : (l.map fun x=>gN (bQ g d) x.toNat).sum=(l.map fun x=>gN g x.toNat).sum:=gB fun x hx=>by
     obtain ⟨k,rfl,hk,ht⟩:=h.rot.dart w l hw x hx
     rw [Int.toNat_natCast,old (by omega),if_neg]
     rintro rfl
     rw [htd] at ht; omega
    rw [this]
    exact hm.vert l (List.mem_of_getElem? hw) hnl
  ·simp only [List.mem_cons,List.not_mem_nil,or_false] at hl
   rcases hl with rfl | rfl | rfl | rfl | rfl
   ·simp only [List.map_cons,List.map_nil,List.sum_cons,List.sum_nil,Int.toNat_natCast,v2,v11,v1]; rfl
   ·simp only [List.map_cons,List.map_nil,List.sum_cons,List.sum_nil,Int.toNat_natCast,v3,v4]; rfl
   ·simp only [List.map_cons,List.map_nil,List.sum_cons,List.sum_nil,Int.toNat_natCast,v5,v6]; rfl
   ·simp only [List.map_cons,List.map_nil,List.sum_cons,List.sum_nil,Int.toNat_natCast,v7,v8]; rfl
   ·simp only [List.map_cons,List.map_nil,List.sum_cons,List.sum_nil,Int.toNat_natCast,v9,v10]; rfl
 ·rcases List.mem_cons.1 hf0 with rfl | hf0
  ·rw [if_pos (by simp)]
   simp only [bd,b8,o9,o7,o5,o3,o11]; rfl
  ·rcases List.mem_cons.1 hf0 with rfl | hf0
   ·rw [if_neg noB,dy,bd,oldface,p1]
    simp only [bd,b8,p0,p2,p4,p6,p8,p10]
    omega
   ·rw [if_neg (noO hf0)]
    have hno : (o : Int)∉f0:=fun hh=>dis hf0 _ hh ho
    have:=hm.face f0 (hmem hf0)
    rw [if_neg hno] at this
    rw [← this]
    exact gz fun x hx=>keep (by rw [hm']; exact (h.fs.elem f0 (hmem hf0)).2 x hx) (fun e=>dis hf0 x hx (by rw [e,hst]; simp))
 ·rcases List.mem_cons.1 hf0 with rfl | hf0
  ·simp only [List.mem_cons,List.not_mem_nil,or_false] at hx
   rcases hx with rfl | rfl | rfl | rfl | rfl
   ·exact .inr o9
   ·exact .inr o7
   ·exact .inr o5
   ·exact .inl o3
   ·exact .inr o11
  ·rcases List.mem_cons.1 hf0 with rfl | hf0
   ·exact absurd hof noB
   ·exact absurd hof (noO hf0)
 ·have c1:=nk (g:=g) (i:=oth d) (v:=2) (by omega)
  unfold bQ
  rw [uf]
  have c5 : exc [gN g (oth d) - 2,1,2,1,3,1,3,1,3,1,3,1]=ex1 (gN g (oth d) - 2)+4:=by simp [exc,ex1]
  rw [c5]
  unfold ex1 at *
  omega
end
end Go.Vm

/-
 The program puts a rectangle around a shape.
-/
namespace Go.Vm
open Go.Proofs
set_option maxRecDepth 100000
attribute [local irreducible] ab
theorem FV (l : List Int) (d f : Int) (hn : l.Nodup) (hf : f∈l) (hl : l.length≤1000000) : Zbs (l,d,f,())=some (bef l d f,()):=by
 rw [← n8 l d f hn hf hl]
 unfold Zbs Zbi
 simp only
 rw [lm _ (by omega),Option.bind_some]
theorem wP (A : List (List Int)) (hl : A.length≤68719476736) : Zf (A,())=some (A,()):=by
 unfold Zf
 simp only
 rw [cm (by simpa using hl)]
 cases A <;> simp [kb]
section
variable {N : Nat} {E : List Arc} {A : List (List Int)} {nx fw : List Int} {g : List Int} {o : Nat}
theorem uV (h : RotOK (N : Nat) E A) (hn : Fol oth E A nx) {d y : Nat} (hd : d < 2 * E.length) (hy : nx[d]?=some (y : Int)) : Zbf (((N : Int),E,A,()),(d : Int),())=some ((y : Int),()):=by
 obtain ⟨fw,_,ff⟩:=bE h ()
 have:=Dm h hn ff (ay hd)
 rw [bt] at this
 rw [this]
 obtain ⟨z,_,z1,z2⟩:=bM h hn ff hd
 have q:=(fh (jK h hn ff) (ay hd)).1
 rw [z2] at q
 rw [hy] at z1
 rw [← Option.some.inj q,← Option.some.inj z1]
theorem tq (h : RotOK (N : Nat) E A) (hn : Fol oth E A nx) {d : Nat} {s : List Int} (hc : Cyc nx ((d : Int) :: s)) (hel : ∀ x∈(d : Int) :: s,∃ k : Nat,x=(k : Int)∧k < 2 * E.length) (hnd : ((d : Int) :: s).Nodup) (f : Int) :
  ∀ (q p : List Int) (x : Nat),p++(x : Int) :: q=(d : Int) :: s→yW ((N : Int),E,A,(d : Int),f,(x : Int),())=some (.inl (decide (f∈(x : Int) :: q),()))
 | [],p,x,he=>by
  have hx:=hel (x : Int) (by rw [← he]; simp)
  obtain ⟨k,e,hk⟩:=hx
  have : k=x:=by omega
  subst this
  by_cases c : (k : Int)=f
  ·refine ac ?_
   unfold mi
   simp only
   rw [cv c,cond_true]
   simp [c]
  ·have hnx : nx[k]?=some (d : Int):=by
    rw [← he] at hc
    cases p with
    | nil =>
     have h1 : k=d:=by simp at he; omega
     have:=hc.2 0 (by simp)
     rw [← h1]
     simpa using this
    | cons z p =>
     have h1 : z=(d : Int):=by simp at he; exact he.1
     subst h1
     simpa using gX hc
   refine ac ?_
   unfold mi
   simp only
   rw [bw c,cond_false,uV h hn hk hnx,Option.bind_some]
   simp only
   rw [cv rfl,cond_true]
   simp [Ne.symm c]
 | y :: q,p,x,he=>by
  have hx:=hel (x : Int) (by rw [← he]; simp)
  obtain ⟨k,e,hk⟩:=hx
  have : k=x:=by omega
  subst this
  by_cases c : (k : Int)=f
  ·refine ac ?_
   unfold mi
   simp only
   rw [cv c,cond_true]
   simp [c]
  ·obtain ⟨z,rfl,hz⟩:=hel y (by rw [← he]; simp)
   have hnx : nx[k]?=some (z : Int):=by
    rw [← he] at hc
    simpa using cJ hc
   have hzd : (z : Int)≠(d : Int):=fun e'=>by
    rw [← he] at hnd
    have h1 : (d : Int)∈p++[(k : Int)]:=by
     cases p with
     | nil=>simp at he ⊢; omega
     | cons w p=>simp at he; simp [he.1]
    have h2 : p++(k : Int) :: (z : Int) :: q=(p++[(k : Int)])++(z : Int) :: q:=by simp
    rw [h2] at hnd
    exact (List.nodup_append.1 hnd).2.2 _ h1 _ (by simp) e'.symm
   refine (ao (t:=((N : Int),E,A,(d : Int),f,(z : Int),())) ?_).trans ?_
   ·unfold mi
    simp only
    rw [bw c,cond_false,uV h hn hk hnx,Option.bind_some]
    simp only
    rw [bw hzd,cond_false]
   ·have ih:=tq h hn hc hel hnd f q (p++[(k : Int)]) z (by rw [← he]; simp)
    rw [show ab mi ((N : Int),E,A,(d : Int),f,(z : Int),())=_ from ih]
    have : (f∈(k : Int) :: (z : Int) :: q)↔(f∈(z : Int) :: q):=by
     rw [List.mem_cons]
     exact ⟨fun h=>h.resolve_left (Ne.symm c),.inr⟩
    simp only [this]
theorem ta {ps : List (List Int)} (h : Sys N E A nx ps) {F : List Int} (hF : F∈ps) {d : Nat} (hd : (d : Int)∈F) (f : Int) : Zaj (((N : Int),E,A,()),(d : Int),f,())=some (decide (f∈F),()):=by
 obtain ⟨p,q,rfl⟩:=List.append_of_mem hd
 have hc:=dP (h.cyc _ hF)
 have hperm : ((d : Int) :: q++p).Perm (p++(d : Int) :: q):=List.perm_append_comm
 have:=tq h.rot h.fol (d:=d) (s:=q++p) hc (fun x hx=>(h.fs.elem _ hF).2 x (hperm.mem_iff.1 hx)) (hperm.nodup_iff.2 (h.fs.face_nodup hF)) f (q++p) [] d rfl
 unfold Zaj
 simp only
 rw [this]
 simp only [Option.bind_some,Sum.elim_inl]
 have : (f∈(d : Int) :: (q++p))↔f∈p++(d : Int) :: q:=hperm.mem_iff
 simp only [this]
theorem yh (B : List ByteArray) {ps : List (List Int)} (h : Sys N E A nx ps) (hm : Met E A g o ps) {w : Nat} (hw : w < 2 * E.length) (hq : 3≤gN g (oth w)) {F : List Int} (hF : F∈ps) (hwF : (w : Int)∈F) (hoF : (o : Int)∈F) :
  ∀ (k j : Nat),j+k=w→∃ d F',d < 2 * E.length∧3≤gN g (oth d)∧F'∈ps∧(d : Int)∈F'∧(o : Int)∈F'∧rT ((N : Int),E,A,g,B,(o : Int),0,0,-1,(g.length : Nat),(j : Nat),())=some (.inl ((N : Int),E,A,g,B,(o : Int),0,0,(d : Int),())):=by
 intro k
 have hm1:=h.rot.m1
 have hgl:=hm.glen
 have val : ∀ d,d < 2 * E.length→g[oth d]?=some (gN g (oth d)):=fun d hd=>by
  unfold gN
  rw [List.getD_eq_getElem?_getD,List.getElem?_eq_getElem (by have:=ay hd; omega)]; rfl
 have hit : ∀ (d : Nat) (F' : List Int),d < 2 * E.length→3≤gN g (oth d)→F'∈ps→(d : Int)∈F'→(o : Int)∈F'→rT ((N : Int),E,A,g,B,(o : Int),0,0,-1,(g.length : Nat),(d : Nat),())=some (.inl ((N : Int),E,A,g,B,(o : Int),0,0,(d : Int),())):=by
  intro d F' hd h3 hF' hdF ho
  refine ac ?_
  unfold ub
  simp only
  rw [aB (by omega),cond_true,mC (by omega),af,val d hd,Option.bind_some,d7 (by omega),cond_true,ta h hF' hdF,Option.bind_some]
  simp only [ho,decide_true,cond_true]
 induction k with
 | zero =>
  intro j hj
  have : j=w:=by omega
  subst this
  exact ⟨j,F,hw,hq,hF,hwF,hoF,hit j F hw hq hF hwF hoF⟩
 | succ k ih =>
  intro j hj
  have hjl : j < 2 * E.length:=by omega
  obtain ⟨F',hF',hjF⟩:=List.mem_flatten.1 (h.fs.cover j hjl)
  by_cases c : 3≤gN g (oth j)∧(o : Int)∈F'
  ·exact ⟨j,F',hjl,c.1,hF',hjF,c.2,hit j F' hjl c.1 hF' hjF c.2⟩
  ·obtain ⟨d,F2,d1,d2,d3,d4,d5,d6⟩:=ih (j+1) (by omega)
   refine ⟨d,F2,d1,d2,d3,d4,d5,(ao ?_).trans d6⟩
   unfold ub
   simp only
   rw [aB (by omega),cond_true,mC (by omega),af,val j hjl,Option.bind_some]
   by_cases c1 : 3≤gN g (oth j)
   ·have c2 : (o : Int)∉F':=fun q=>c ⟨c1,q⟩
    rw [d7 (by omega),cond_true,ta h hF' hjF,Option.bind_some]
    simp only [c2,decide_false,cond_false]
    rw [a9 (by omega)]
   ·rw [c7 (by omega),cond_false,a9 (by omega)]
theorem zp {F : Int→Int} : ∀ {l : List Int},(l.map F).sum < 0→∃ x∈l,F x < 0
 | [],h=>by simp at h
 | x :: l,h=>by
  simp only [List.map_cons,List.sum_cons] at h
  by_cases c : F x < 0
  ·exact ⟨x,by simp,c⟩
  ·obtain ⟨y,y1,y2⟩:=zp (F:=F) (l:=l) (by omega)
   exact ⟨y,by simp [y1],y2⟩
theorem ym {B : List ByteArray} (h : Sys N E A nx (aa nx)) (hm : Met E A g o (aa nx)) (hn : N+5≤16384) (hM : E.length+6≤32768) :
  ∃ d f u nx',d < 2 * E.length∧nx[d]?=some ((f : Nat) : Int)∧f < 2 * E.length∧tl E f=((u : Nat) : Int)∧u < N∧3≤gN g (oth d) ∧
   Zaq (((((N : Nat) : Int),E,A,()),g,B,(o : Int),()),())=some (((((N+5 : Nat) : Int),iT E N u,mn A u E.length f,()),bQ g d,List.replicate (2 * (E.length+6)) ByteArray.empty,((2 * E.length+3 : Nat) : Int),()),()) ∧
   Sys (N+5) (iT E N u) (mn A u E.length f) nx' (aa nx')∧Met (iT E N u) (mn A u E.length f) (bQ g d) (2 * E.length+3) (aa nx')∧Out (bQ g d) (2 * E.length+3) (aa nx')∧exc (bQ g d)≤exc g+4:=by
 have hm1:=h.rot.m1
 have hgl:=hm.glen
 obtain ⟨F0,hF0,hoF0⟩:=List.mem_flatten.1 (h.fs.cover o hm.o2)
 obtain ⟨w,hwF,hw0⟩ : ∃ x∈F0,tn g x < 0:=by
  refine zp ?_
  have:=hm.face F0 hF0
  rw [if_pos hoF0] at this
  unfold tsm at this
  rw [this]; decide
 obtain ⟨w,rfl,hwl⟩:=(h.fs.elem F0 hF0).2 w hwF
 unfold tn at hw0
 rw [Int.toNat_natCast] at hw0
 obtain ⟨d,F,hd,hd3,hF,hdF,hoF,hloop⟩:=yh B h hm hwl (by omega) hF0 hwF hoF0 w 0 (by omega)
 -- the face,behind d
 obtain ⟨a,b,hab⟩:=List.append_of_mem hF
 obtain ⟨p,q,hpq⟩:=List.append_of_mem hdF
 have hpq' : F=(p++[(d : Int)])++q:=by rw [hpq]; simp
 obtain ⟨L,hL⟩ : ∃ L,L=q++p:=⟨_,rfl⟩
 have hrot : q++(p++[(d : Int)])=L++[(d : Int)]:=by rw [hL]; simp
 have h1 : Sys N E A nx (a++(L++[(d : Int)]) :: b):=by
  have:=h
  rw [hab,hpq'] at this
  rw [← hrot]
  exact this.rotate
 have hperm1 : (L++[(d : Int)]).Perm F:=by
  rw [← hrot,hpq']
  exact List.perm_append_comm
 have m1 : Met E A g o (a++(L++[(d : Int)]) :: b):=hm.move h.fs h1.fs h.cyc h1.cyc
 obtain ⟨f0,s,hfs⟩ : ∃ f0 s,L++[(d : Int)]=f0 :: s:=by
  cases L with
  | nil=>exact ⟨_,_,rfl⟩
  | cons x L=>exact ⟨_,_,rfl⟩
 obtain ⟨f,rfl,hf⟩:=(h.fs.elem F hF).2 f0 (hperm1.mem_iff.1 (by rw [hfs]; simp))
 have hnx : nx[d]?=some (f : Int):=by
  have hc:=h1.cyc _ (by simp : (L++[(d : Int)])∈_)
  cases L with
  | nil =>
   have h1 : d=f:=by simp at hfs; omega
   have:=hc.2 0 (by simp)
   rw [← h1]
   simpa using this
  | cons z t =>
   have h1 : z=(f : Int):=by simp at hfs; exact hfs.1
   subst h1
   simpa using gX hc
 obtain ⟨u,hu,huN⟩:=h.rot.tl_lt hf
 rw [hfs] at h1 m1
 have hoL : (o : Int)∈(f : Int) :: s:=by rw [← hfs]; exact hperm1.mem_iff.2 hoF
 obtain ⟨nx',h2⟩:=h1.enclose hu hn hM
 obtain ⟨m2,o2,x2⟩:=m1.enclose h1 hu hoL hfs.symm hd3
 have o2s : Out (bQ g d) (2 * E.length+3) (aa nx'):=by
  intro f0 hf0 ho0 z hz
  obtain ⟨f1,hf1,hp1⟩:=jf h2.std.fs h2.fs h2.std.cyc h2.cyc hf0
  exact o2 f1 hf1 (hp1.mem_iff.1 ho0) z (hp1.mem_iff.1 hz)
 refine ⟨d,f,u,nx',hd,hnx,hf,hu,huN,hd3,?_,h2.std,m2.std h2,o2s,x2⟩
 -- the program
 have hal:=h.rot.al
 have hn16:=h.rot.n16
 have huA : u < A.length:=by omega
 have hAu:=List.getElem?_eq_getElem huA
 have hod:=ay hd
 have hgd : g[oth d]?=some (gN g (oth d)):=by
  unfold gN
  rw [List.getD_eq_getElem?_getD,List.getElem?_eq_getElem (by omega)]; rfl
 have hfin:=h.rot.around hf hu hAu
 have hll:=h.rot.list_len (List.getElem_mem huA)
 have hw4:=(hm.ang _ hod).2
 have htail : Zbj (((N : Int),E,A,()),(f : Int),())=some ((u : Int),()):=by rw [pN h.rot h.rot.validB h.rot.lists hf,hu]
 have c1 : ∀ j : Nat,j≤100→ae .i64 (N : Int) (j : Nat)=((N+j : Nat) : Int):=fun j hj=>EU (by omega)
 have c2 : ∀ j : Nat,j≤100→ae .i64 ((2 * E.length : Nat) : Int) (j : Nat)=((2 * E.length+j : Nat) : Int):=fun j hj=>EU (by omega)
 unfold Zaq
 simp only
 rw [show rT ((N : Int),E,A,g,B,(o : Int),0,0,-1,(g.length : Nat),0,())=_ from hloop]
 simp only [Option.bind_some,Sum.elim_inl]
 rw [uV h.rot h.fol hd hnx,Option.bind_some]
 simp only
 rw [htail,Option.bind_some,tR _ (by omega),Option.bind_some,wP _ (by omega),Option.bind_some,lm _ (by omega),Option.bind_some]
 simp only
 have k2 : aQ .i64 2 (E.length : Nat)=((2 * E.length : Nat) : Int):=Eb (by omega)
 have n1 : ae .i64 (N : Int) 1=((N+1 : Nat) : Int):=c1 1 (by omega)
 have n2 : ae .i64 (N : Int) 2=((N+2 : Nat) : Int):=c1 2 (by omega)
 have n3 : ae .i64 (N : Int) 3=((N+3 : Nat) : Int):=c1 3 (by omega)
 have n4 : ae .i64 (N : Int) 4=((N+4 : Nat) : Int):=c1 4 (by omega)
 have n5 : ae .i64 (N : Int) 5=((N+5 : Nat) : Int):=c1 5 (by omega)
 have e1 : ae .i64 ((2 * E.length : Nat) : Int) 1=((2 * E.length+1 : Nat) : Int):=c2 1 (by omega)
 have e2 : ae .i64 ((2 * E.length : Nat) : Int) 2=((2 * E.length+2 : Nat) : Int):=c2 2 (by omega)
 have e3 : ae .i64 ((2 * E.length : Nat) : Int) 3=((2 * E.length+3 : Nat) : Int):=c2 3 (by omega)
 have e4 : ae .i64 ((2 * E.length : Nat) : Int) 4=((2 * E.length+4 : Nat) : Int):=c2 4 (by omega)
 have e5 : ae .i64 ((2 * E.length : Nat) : Int) 5=((2 * E.length+5 : Nat) : Int):=c2 5 (by omega)
 have e6 : ae .i64 ((2 * E.length : Nat) : Int) 6=((2 * E.length+6 : Nat) : Int):=c2 6 (by omega)
 have e7 : ae .i64 ((2 * E.length : Nat) : Int) 7=((2 * E.length+7 : Nat) : Int):=c2 7 (by omega)
 have e8 : ae .i64 ((2 * E.length : Nat) : Int) 8=((2 * E.length+8 : Nat) : Int):=c2 8 (by omega)
 have e9 : ae .i64 ((2 * E.length : Nat) : Int) 9=((2 * E.length+9 : Nat) : Int):=c2 9 (by omega)
 have e10 : ae .i64 ((2 * E.length : Nat) : Int) 10=((2 * E.length+10 : Nat) : Int):=c2 10 (by omega)
 have e11 : ae .i64 ((2 * E.length : Nat) : Int) 11=((2 * E.length+11 : Nat) : Int):=c2 11 (by omega)
 simp only [k2,n1,n2,n3,n4,n5,e1,e2,e3,e4,e5,e6,e7,e8,e9,e10,e11]
 have hxo : iB .i64 (d : Int) 1=((oth d : Nat) : Int):=mC (by omega)
 simp only [hxo]
 rw [cm (by simp; omega),Option.bind_some,af,hAu,Option.bind_some,FV _ _ _ (h.rot.list_nodup (List.getElem_mem huA)) hfin (by omega),Option.bind_some,ap huA,Option.bind_some,hAu,Option.bind_some,af,hgd,Option.bind_some,ap (by omega),Option.bind_some,hgd,Option.bind_some,cm (by simp; omega),Option.bind_some,cm (by simp; omega),Option.bind_some]
 have hs : bf .i64 (gN g (oth d)) 2=gN g (oth d) - 2:=gY (by omega) (by omega)
 rw [hs]
 have hsub:=aT huA
 have hA' : A.set u (bef A[u] ((2 * E.length : Nat) : Int) (f : Int))++[[((2 * E.length+2 : Nat) : Int),((2 * E.length+11 : Nat) : Int),((2 * E.length+1 : Nat) : Int)],[((2 * E.length+3 : Nat) : Int),((2 * E.length+4 : Nat) : Int)],[((2 * E.length+5 : Nat) : Int),((2 * E.length+6 : Nat) : Int)],[((2 * E.length+7 : Nat) : Int),((2 * E.length+8 : Nat) : Int)],[((2 * E.length+9 : Nat) : Int),((2 * E.length+10 : Nat) : Int)]]=mn A u E.length f:=by
  unfold mn
  rw [hsub]
 have hG : g.set (oth d) 2++[gN g (oth d) - 2,1,2,1,3,1,3,1,3,1,3,1]=bQ g d:=rfl
 have hgl2 : (bQ g d).length=2 * (E.length+6):=by unfold bQ; simp [hgl]; omega
 rw [hA',hG,hgl2,cI (Nat.le_refl _) (by omega),Option.bind_some]
 rfl
end
end Go.Vm

/-
 Rectangular, in the program and in the reference.
-/
namespace Go.Vm
open Go.Proofs
set_option maxRecDepth 100000
attribute [local irreducible] ab
theorem Bx {b : ByteArray} (h : b.size=0) : b=ByteArray.mk #[]:=by
 cases b with
 | mk d =>
  have : d.size=0:=h
  rw [Array.size_eq_zero_iff.1 this]
theorem wm (b : ByteArray) : neS b (ByteArray.mk #[])=!decide (b.size=0):=by
 have e : neS b (ByteArray.mk #[])=!eqS b (ByteArray.mk #[]):=rfl
 rw [e]
 congr 1
 by_cases c : b.size=0
 ·rw [decide_eq_true c,pz]; exact Bx c
 ·rw [decide_eq_false c]
  cases e : eqS b (ByteArray.mk #[]) with
  | false=>rfl
  | true=>rw [pz] at e; subst e; exact absurd rfl c
theorem pZ (N : Int) (E : List Arc) (A : List (List Int)) (g : List Int) (B : List ByteArray) (o : Int) (hB : B.length≤1000000) : ∀ (q p : List ByteArray),p++q=B→zE (N,E,A,g,B,o,(p.length : Nat),())=some (cond (q.all fun b=>decide (b.size=0)) (.inr (.inl ())) (.inl (false,())))
 | [],p,h=>by
  subst h
  refine ac ?_
  unfold vM
  simp only
  rw [aA (by simp)]; rfl
 | b :: q,p,h=>by
  have hx : B[p.length]?=some b:=by rw [← h,List.getElem?_append_right (Nat.le_refl _),Nat.sub_self]; rfl
  have hp : p.length < B.length:=(List.getElem?_eq_some_iff.1 hx).1
  by_cases c : b.size=0
  ·have ih:=pZ N E A g B o hB q (p++[b]) (by simpa using h)
   refine (ao (t:=(N,E,A,g,B,o,(((p++[b]).length : Nat) : Int),())) ?_).trans (ih.trans ?_)
   ·unfold vM
    simp only
    rw [aB (by omega),cond_true,af,hx,Option.bind_some,wm,decide_eq_true c,Bool.not_true,cond_false,a9 (by omega)]
    simp
   ·rw [List.all_cons,decide_eq_true c,Bool.true_and]
  ·refine ac ?_
   unfold vM
   simp only
   rw [aB (by omega),cond_true,af,hx,Option.bind_some,wm,List.all_cons,decide_eq_false c,Bool.not_false,cond_true,Bool.false_and,cond_false]
theorem BX (N : Int) (E : List Arc) (A : List (List Int)) (g : List Int) (B : List ByteArray) (o : Int) (hB : B.length≤1000000) : Zx (((N,E,A,()),g,B,o,()),())=some (B.all fun b=>decide (b.size=0),()):=by
 unfold Zx
 simp only
 rw [show zE (N,E,A,g,B,o,0,())=_ from pZ N E A g B o hB B [] rfl]
 cases B.all fun b=>decide (b.size=0) <;> rfl
theorem xM (N : Int) (E : List Arc) (A : List (List Int)) (g : List Int) (B : List ByteArray) (o : Int) (m : Nat) (hB : B.length=2 * m) (hm : m≤32768) (hs : ∀ k,k < 2 * m→(at0 B k).size=0) : ∀ (k j : Nat),j+k=m →
  qd (N,E,A,g,B,o,0,((2 * j : Nat) : Int),())=some (.inl (0,()))∧sa (N,E,A,g,B,o,0,((2 * j : Nat) : Int),())=some (.inl (0,())):=by
 intro k
 induction k with
 | zero =>
  intro j hj
  refine ⟨ac ?_,ac ?_⟩
  ·simp only [n7]
   rw [aA (by omega)]; rfl
  ·simp only [nH]
   rw [aA (by omega)]; rfl
 | succ k ih =>
  intro j hj
  have h0 : B[2 * j]?=some (at0 B (2 * j)):=ir (by omega)
  have hz:=hs (2 * j) (by omega)
  have ea : ae .i64 ((2 * j : Nat) : Int) 2=((2 * (j+1) : Nat) : Int):=by rw [cu (by omega) (by omega)]; omega
  have eb : ae .i64 0 ((at0 B (2 * j)).size : Nat)=0:=by rw [hz]; decide
  obtain ⟨h1,h2⟩:=ih (j+1) (by omega)
  refine ⟨(ao ?_).trans h1,(ao ?_).trans h2⟩
  ·simp only [n7]
   rw [aB (by omega),cond_true,af,h0,Option.bind_some,ea,eb]
  ·simp only [nH]
   rw [aB (by omega),cond_true,af,h0,Option.bind_some,ea,eb]
theorem gO (N0 : Int) (E : List Arc) (A : List (List Int)) (g : List Int) (B : List ByteArray) (o : Int) (hA : ∀ l∈A,l.length≤9223372036854775807) :
  (Zbq (((N0,E,A,()),g,B,o,()),())=some (13,())∧Zt (((N0,E,A,()),g,B,o,()),())=some (13,())) ∨
  ∃ (N : Nat) (nx : List Int) (v : Int) (b : Bool),N0=(N : Int)∧ShapeOK N E A g B o nx∧Zbq (((N0,E,A,()),g,B,o,()),())=some (0,())∧Zt (((N0,E,A,()),g,B,o,()),())=some (0,()) ∧
   Zbp (((N0,E,A,()),g,B,o,()),())=some (v,())∧Zae (((N0,E,A,()),g,B,o,()),())=some (v,())∧Zx (((N0,E,A,()),g,B,o,()),())=some (b,())∧(v=0↔b=true)∧(b=true↔∀ k,k < 2 * E.length→(at0 B k).size=0):=by
 obtain ⟨bv,v1,v2,v3⟩:=wA N0 E A g B o hA
 have hV : Zbq (((N0,E,A,()),g,B,o,()),())=some (cond bv 0 13,()):=by
  unfold Zbq
  simp only
  rw [v1,Option.bind_some]
  cases bv <;> rfl
 cases bv with
 | false=>exact .inl ⟨hV,v2⟩
 | true =>
  right
  obtain ⟨N,rfl,nx,h⟩:=v3 rfl
  have hB:=h.turn.blen
  have hm1:=h.rot.m1
  have h64 : ∀ k,k < 2 * E.length→(at0 B k).size≤64:=fun k hk=>(h.turn.bound hk).2.2
  obtain ⟨v,_,hv64,b1,b2,b3⟩:=AM (N : Int) E A g B o E.length hB hm1 h64 E.length 0 0 (by omega) (by omega)
  have s1 : Zbp ((((N : Int),E,A,()),g,B,o,()),())=some ((v : Int),()):=by
   unfold Zbp
   simp only
   rw [v1,Option.bind_some]
   simp only [Bool.not_true,cond_false]
   rw [show qd ((N : Int),E,A,g,B,o,0,0,())=_ from b1]; rfl
  have s2 : Zae ((((N : Int),E,A,()),g,B,o,()),())=some ((v : Int),()):=by
   unfold Zae
   simp only
   rw [v2,Option.bind_some]
   simp only [cond_true]
   rw [bn rfl,cond_false]
   rw [show sa ((N : Int),E,A,g,B,o,0,0,())=_ from b2]; rfl
  have hall : (∀ k,k < 2 * E.length→(at0 B k).size=0)→v=0:=fun hz=>by
   have:=(xM (N : Int) E A g B o E.length hB hm1 hz E.length 0 (by omega)).1
   have e:=b1.symm.trans this
   simp at e
   omega
  have hback : v=0→∀ k,k < 2 * E.length→(at0 B k).size=0:=fun hv0 k hk=>by
   have hev:=b3 hv0
   have hbe:=eC.1 h.bend
   rcases Nat.mod_two_eq_zero_or_one k with e | e
   ·have:=hev (k / 2) (by omega) (by omega)
    rwa [show 2 * (k / 2)=k by omega] at this
   ·have h1:=hbe (oth k) (by omega) (by have:=ay hk; omega)
    unfold gQ at h1
    rw [Bool.and_eq_true,pz,bt] at h1
    rw [h1.2,wS]
    have:=hev (k / 2) (by omega) (by omega)
    have o' : oth k=2 * (k / 2):=by unfold oth; rw [if_neg (by omega)]; omega
    rw [o']; exact this
  have hb : (B.all fun b=>decide (b.size=0))=true↔∀ k,k < 2 * E.length→(at0 B k).size=0:=by
   rw [List.all_eq_true]
   constructor
   ·intro hh k hk
    have:=hh (at0 B k) (List.mem_of_getElem? (ir (by omega)))
    simpa using this
   ·intro hh b hb
    obtain ⟨k,hk⟩:=List.mem_iff_getElem?.1 hb
    have hkl:=(List.getElem?_eq_some_iff.1 hk).1
    have:=hh k (by omega)
    rw [ir (by omega : k < B.length)] at hk
    rw [← Option.some.inj hk]
    simpa using this
  refine ⟨N,nx,(v : Int),_,rfl,h,hV,v2,s1,s2,BX _ _ _ _ _ _ (by omega),?_,hb⟩
  rw [hb]
  constructor
  ·intro e; exact hback (by omega)
  ·intro e; have:=hall e; omega
def lW (g : List Int) (t : Int) : List Int→Nat→Option Nat
 | [],n=>some n
 | d :: f,n=>if tn g d=t then lW g t f (n+1) else if tn g d=0 then lW g t f n else none
def pm (g : List Int) (t : Int) (f : List Int) : Bool:=decide (lW g t f 0=some 4)
def wI (o : Int) (f : List Int) : Int:=if o∈f then -1 else 1
def kp (g : List Int) (o : Int) (fs : List (List Int)) : Bool:=fs.all fun f=>pm g (wI o f) f
section
variable {N : Int} {E : List Arc} {A : List (List Int)} {g : List Int} {B : List ByteArray} {o : Int} {L : Nat}
theorem mm (hL : L≤65536) (hg : ∀ k,k < L→∃ a,g[oth k]?=some a∧1≤a∧a≤4) (fs : List (List Int)) (t len idx : Int) (f : List Int) (hf : ∀ d∈f,∃ k : Nat,d=(k : Int)∧k < L) (hfl : f.length≤65536) : ∀ (q p : List Int) (n : Nat),p++q=f→n≤p.length →
  n6 (N,E,A,g,B,o,fs,t,(n : Int),len,idx,f,(f.length : Nat),(p.length : Nat),())=some (match lW g t q n with | some m=>.inr (.inl (N,E,A,g,B,o,fs,(m : Int),len,idx,())) | none=>.inl (false,()))
 | [],p,n,h,hn=>by
  rw [List.append_nil] at h
  subst h
  refine ac ?_
  unfold rQ
  simp only
  rw [aA (by omega),cond_false]; rfl
 | z :: q,p,n,h,hn=>by
  have hx : f[p.length]?=some z:=by rw [← h,List.getElem?_append_right (Nat.le_refl _),Nat.sub_self]; rfl
  have hp : p.length < f.length:=(List.getElem?_eq_some_iff.1 hx).1
  obtain ⟨k,rfl,hk⟩:=hf z (List.mem_of_getElem? hx)
  obtain ⟨a,ha,a1,a2⟩:=hg k hk
  have htn : tn g (k : Int)=2 - a:=by
   unfold tn gN
   rw [Int.toNat_natCast,List.getD_eq_getElem?_getD,ha]; rfl
  have hb : rQ (N,E,A,g,B,o,fs,t,(n : Int),len,idx,f,(f.length : Nat),(p.length : Nat),())=cond (eqI (2 - a) t) (some (.inl (N,E,A,g,B,o,fs,t,((n+1 : Nat) : Int),len,idx,f,((f.length : Nat) : Int),((p.length+1 : Nat) : Int),()))) (cond (eqI (2 - a) 0) (some (.inl (N,E,A,g,B,o,fs,t,(n : Int),len,idx,f,((f.length : Nat) : Int),((p.length+1 : Nat) : Int),()))) (some (.inr (.inl (false,()))))):=by
   unfold rQ
   simp only
   rw [aB (by omega),cond_true,af,hx,Option.bind_some,mC (by omega),af,ha,Option.bind_some,gY (by omega) (by omega),a9 (by omega),a9 (by omega)]
  have e : (p++[(k : Int)]).length=p.length+1:=by simp
  by_cases c1 : 2 - a=t
  ·have ih:=mm hL hg fs t len idx f hf hfl q (p++[(k : Int)]) (n+1) (by simpa using h) (by omega)
   rw [e] at ih
   rw [cv c1,cond_true] at hb
   refine (ao hb).trans (ih.trans ?_)
   simp only [lW,htn,c1,if_true]
  ·rw [bw c1,cond_false] at hb
   by_cases c2 : 2 - a=0
   ·have ih:=mm hL hg fs t len idx f hf hfl q (p++[(k : Int)]) n (by simpa using h) (by omega)
    rw [e] at ih
    rw [cv c2,cond_true] at hb
    refine (ao hb).trans (ih.trans ?_)
    simp only [lW,htn,c1,c2,if_true,if_false]
    rw [if_neg (by omega)]
   ·rw [bw c2,cond_false] at hb
    refine (ac hb).trans ?_
    simp only [lW,htn,c1,c2,if_false]
theorem qI (hL : L≤65536) (hg : ∀ k,k < L→∃ a,g[oth k]?=some a∧1≤a∧a≤4) (fs : List (List Int)) (hfs : ∀ f∈fs,(∀ d∈f,∃ k : Nat,d=(k : Int)∧k < L)∧f.length≤65536) (hl : fs.length≤65536) : ∀ (q p : List (List Int)),p++q=fs →
  zi (N,E,A,g,B,o,fs,(fs.length : Nat),(p.length : Nat),())=some (cond (kp g o q) (.inr (.inl ())) (.inl (false,())))
 | [],p,h=>by
  rw [List.append_nil] at h
  subst h
  refine ac ?_
  unfold wz
  simp only
  rw [aA (by omega),cond_false]; rfl
 | f :: q,p,h=>by
  have hx : fs[p.length]?=some f:=by rw [← h,List.getElem?_append_right (Nat.le_refl _),Nat.sub_self]; rfl
  have hp : p.length < fs.length:=(List.getElem?_eq_some_iff.1 hx).1
  obtain ⟨h1,h2⟩:=hfs f (List.mem_of_getElem? hx)
  have ih:=qI hL hg fs hfs hl q (p++[f]) (by simpa using h)
  rw [show (p++[f]).length=p.length+1 by simp] at ih
  have hin:=fun t=>mm (N:=N) (E:=E) (A:=A) (B:=B) (o:=o) hL hg fs t (fs.length : Nat) (p.length : Nat) f h1 h2 f [] 0 rfl (Nat.le_refl _)
  have hb : wz (N,E,A,g,B,o,fs,(fs.length : Nat),(p.length : Nat),())=some (cond (pm g (wI o f) f) (.inl (N,E,A,g,B,o,fs,((fs.length : Nat) : Int),((p.length+1 : Nat) : Int),())) (.inr (.inl (false,())))):=by
   have fin : ∀ t : Int,(n6 (N,E,A,g,B,o,fs,t,0,((fs.length : Nat) : Int),((p.length : Nat) : Int),f,((f.length : Nat) : Int),0,())).bind (Sum.elim (fun z5=>(some (.inr (.inl (z5.1,()))) : Option ((Int×List Arc×List (List Int)×List Int×List ByteArray×Int×List (List Int)×Int×Int×Unit)⊕((Bool×Unit)⊕(Unit⊕Empty))))) (Sum.elim (fun (a_6,b_6,c_6,d_6,e_6,f_6,g_6,h_6,i_6,k_6,_)=>cond (neI h_6 4) (some (.inr (.inl (false,())))) (some (.inl (a_6,b_6,c_6,d_6,e_6,f_6,g_6,i_6,(ae .i64 k_6 1),())))) (fun _=>none)))=some (cond (pm g t f) (.inl (N,E,A,g,B,o,fs,((fs.length : Nat) : Int),((p.length+1 : Nat) : Int),())) (.inr (.inl (false,())))):=by
    intro t
    rw [show n6 (N,E,A,g,B,o,fs,t,0,((fs.length : Nat) : Int),((p.length : Nat) : Int),f,((f.length : Nat) : Int),0,())=_ from hin t]
    unfold pm
    cases hbx : lW g t f 0 with
    | none=>simp
    | some m =>
     simp only [Option.bind_some,Sum.elim_inr,Sum.elim_inl,Option.some.injEq]
     by_cases c : m=4
     ·subst c
      rw [bn (by omega),cond_false,a9 (by omega)]; simp
     ·rw [dZ (by omega),cond_true]; simp [c]
   unfold wz
   simp only
   rw [aB (by omega),cond_true,ap hp,Option.bind_some,hx,Option.bind_some,fR f o (by omega),Option.bind_some]
   simp only
   unfold wI
   by_cases c : o∈f
   ·simp only [inB,c,decide_true,cond_true,if_true]
    exact fin (-1)
   ·simp only [inB,c,decide_false,cond_false,if_false]
    exact fin 1
  unfold kp at ih ⊢
  rw [List.all_cons]
  cases hbx : pm g (wI o f) f with
  | false =>
   rw [hbx] at hb
   exact ac hb
  | true =>
   rw [hbx] at hb
   exact (ao hb).trans ih
theorem oH (hL : L≤65536) (hg : ∀ k,k < L→∃ a,g[oth k]?=some a∧1≤a∧a≤4) (t : Int) (ht : -10≤t∧t≤10) (f : List Int) (hf : ∀ d∈f,∃ k : Nat,d=(k : Int)∧k < L) (hfl : f.length≤65536) : ∀ (q p : List Int) (n : Nat),p++q=f→n≤p.length →
  uN (N,E,A,g,B,o,f,2 - t,(n : Int),(p.length : Nat),())=some (match lW g t q n with | some m=>.inr (.inl ((m : Int),())) | none=>.inl (false,()))
 | [],p,n,h,hn=>by
  rw [List.append_nil] at h
  subst h
  refine ac ?_
  unfold pX
  simp only
  rw [aA (by omega),cond_false]; rfl
 | z :: q,p,n,h,hn=>by
  have hx : f[p.length]?=some z:=by rw [← h,List.getElem?_append_right (Nat.le_refl _),Nat.sub_self]; rfl
  have hp : p.length < f.length:=(List.getElem?_eq_some_iff.1 hx).1
  obtain ⟨k,rfl,hk⟩:=hf z (List.mem_of_getElem? hx)
  obtain ⟨a,ha,a1,a2⟩:=hg k hk
  have htn : tn g (k : Int)=2 - a:=by
   unfold tn gN
   rw [Int.toNat_natCast,List.getD_eq_getElem?_getD,ha]; rfl
  have hb : pX (N,E,A,g,B,o,f,2 - t,(n : Int),(p.length : Nat),())=cond (eqI a (2 - t)) (some (.inl (N,E,A,g,B,o,f,2 - t,((n+1 : Nat) : Int),((p.length+1 : Nat) : Int),()))) (cond (neI a 2) (some (.inr (.inl (false,())))) (some (.inl (N,E,A,g,B,o,f,2 - t,(n : Int),((p.length+1 : Nat) : Int),())))):=by
   unfold pX
   simp only
   rw [aB (by omega),cond_true,af,hx,Option.bind_some,kI k (by omega),Option.bind_some]
   simp only
   rw [af,ha,Option.bind_some,a9 (by omega),a9 (by omega)]
  have e : (p++[(k : Int)]).length=p.length+1:=by simp
  by_cases c1 : 2 - a=t
  ·have ih:=oH hL hg t ht f hf hfl q (p++[(k : Int)]) (n+1) (by simpa using h) (by omega)
   rw [e] at ih
   rw [cv (by omega),cond_true] at hb
   refine (ao hb).trans (ih.trans ?_)
   simp only [lW,htn,c1,if_true]
  ·rw [bw (by omega),cond_false] at hb
   by_cases c2 : 2 - a=0
   ·have ih:=oH hL hg t ht f hf hfl q (p++[(k : Int)]) n (by simpa using h) (by omega)
    rw [e] at ih
    rw [bn (by omega),cond_false] at hb
    refine (ao hb).trans (ih.trans ?_)
    simp only [lW,htn,c1,c2,if_true,if_false]
    rw [if_neg (by omega)]
   ·rw [dZ (by omega),cond_true] at hb
    refine (ac hb).trans ?_
    simp only [lW,htn,c1,c2,if_false]
theorem DA (hL : L≤65536) (hg : ∀ k,k < L→∃ a,g[oth k]?=some a∧1≤a∧a≤4) (t : Int) (ht : -10≤t∧t≤10) (f : List Int) (hf : ∀ d∈f,∃ k : Nat,d=(k : Int)∧k < L) (hfl : f.length≤65536) : Zas (((N,E,A,()),g,B,o,()),f,2 - t,())=some (pm g t f,()):=by
 unfold Zas
 simp only
 rw [show uN (N,E,A,g,B,o,f,2 - t,0,0,())=_ from oH (N:=N) (E:=E) (A:=A) (B:=B) (o:=o) hL hg t ht f hf hfl f [] 0 rfl (Nat.le_refl _)]
 unfold pm
 cases hbx : lW g t f 0 with
 | none=>simp
 | some m =>
  simp only [Option.bind_some,Sum.elim_inr,Sum.elim_inl,Option.some.injEq]
  by_cases c : m=4
  ·subst c; rw [cv (by omega)]; simp
  ·rw [bw (by omega)]; simp [c]
theorem me (fs : List (List Int)) {i : Nat} {f : List Int} (hi : fs[i]?=some f) (hfl : f.length≤65536) : ∀ (q p : List Int),p++q=f →
  wR (N,E,A,g,B,o,fs,(i : Int),(p.length : Nat),())=some (cond (decide (o∈q)) (.inl (fs,(i : Int),())) (.inr (.inl (N,E,A,g,B,o,fs,(i : Int),()))))
 | [],p,h=>by
  rw [List.append_nil] at h
  subst h
  have hil:=(List.getElem?_eq_some_iff.1 hi).1
  refine ac ?_
  unfold wy
  simp only
  rw [ap hil,Option.bind_some,hi,Option.bind_some,aA (by omega),cond_false]; simp
 | z :: q,p,h=>by
  have hil:=(List.getElem?_eq_some_iff.1 hi).1
  have hx : f[p.length]?=some z:=by rw [← h,List.getElem?_append_right (Nat.le_refl _),Nat.sub_self]; rfl
  have hp : p.length < f.length:=(List.getElem?_eq_some_iff.1 hx).1
  have hb : wy (N,E,A,g,B,o,fs,(i : Int),(p.length : Nat),())=cond (eqI z o) (some (.inr (.inl (fs,(i : Int),())))) (some (.inl (N,E,A,g,B,o,fs,(i : Int),((p.length+1 : Nat) : Int),()))):=by
   unfold wy
   simp only [ap hil,Option.bind_some,hi,af,hx]
   rw [aB (by omega),cond_true,a9 (by omega)]
  by_cases c : z=o
  ·rw [cv c,cond_true] at hb
   refine (ac hb).trans ?_
   simp [c]
  ·have ih:=me fs hi hfl q (p++[z]) (by simpa using h)
   rw [show (p++[z]).length=p.length+1 by simp] at ih
   rw [bw c,cond_false] at hb
   refine (ao hb).trans (ih.trans ?_)
   have : (o∈z :: q)↔o∈q:=by
    rw [List.mem_cons]
    exact ⟨fun h=>h.resolve_left (Ne.symm c),.inr⟩
   simp only [this]
theorem ry (fs : List (List Int)) (hfl : ∀ f∈fs,f.length≤65536) (hl : fs.length≤65536) {w : Nat} {fw : List Int} (hw : fs[w]?=some fw) (ho : o∈fw) (hone : ∀ i f,fs[i]?=some f→o∈f→i=w) : ∀ (k i : Nat),i+k=w→zG (N,E,A,g,B,o,fs,(i : Nat),())=some (.inl (fs,(w : Int),()))
 | 0,i,h=>by
  have : i=w:=by omega
  subst this
  have hil:=(List.getElem?_eq_some_iff.1 hw).1
  refine ac ?_
  unfold zz
  simp only
  rw [aB (by omega),cond_true,show wR (N,E,A,g,B,o,fs,(i : Int),0,())=_ from me fs hw (hfl _ (List.mem_of_getElem? hw)) fw [] rfl]
  simp only [ho,decide_true,cond_true,Option.bind_some,Sum.elim_inl]
 | k+1,i,h=>by
  have hwl:=(List.getElem?_eq_some_iff.1 hw).1
  have hil : i < fs.length:=by omega
  have hi:=List.getElem?_eq_getElem hil
  have hno : o∉fs[i]:=fun q=>by have:=hone i _ hi q; omega
  have ih:=ry fs hfl hl hw ho hone k (i+1) (by omega)
  refine (ao ?_).trans ih
  unfold zz
  simp only
  rw [aB (by omega),cond_true,show wR (N,E,A,g,B,o,fs,(i : Int),0,())=_ from me fs hi (hfl _ (List.getElem_mem hil)) fs[i] [] rfl]
  simp only [hno,decide_false,cond_false,Option.bind_some,Sum.elim_inr,Sum.elim_inl]
  rw [a9 (by omega)]
theorem pd (hL : L≤65536) (hg : ∀ k,k < L→∃ a,g[oth k]?=some a∧1≤a∧a≤4) (fs : List (List Int)) (hfs : ∀ f∈fs,(∀ d∈f,∃ k : Nat,d=(k : Int)∧k < L)∧f.length≤65536) (hl : fs.length≤65536) {w : Nat} {fw : List Int} (hw : fs[w]?=some fw) (ho : o∈fw) (hone : ∀ i f,fs[i]?=some f→o∈f→i=w) : ∀ (q p : List (List Int)),p++q=fs →
  zo (N,E,A,g,B,o,fs,(w : Int),(p.length : Nat),())=some (cond (kp g o q) (.inr (.inl ())) (.inl (false,())))
 | [],p,h=>by
  rw [List.append_nil] at h
  subst h
  refine ac ?_
  unfold wH
  simp only
  rw [aA (by omega),cond_false]; rfl
 | f :: q,p,h=>by
  have hx : fs[p.length]?=some f:=by rw [← h,List.getElem?_append_right (Nat.le_refl _),Nat.sub_self]; rfl
  have hp : p.length < fs.length:=(List.getElem?_eq_some_iff.1 hx).1
  obtain ⟨h1,h2⟩:=hfs f (List.mem_of_getElem? hx)
  have ih:=pd hL hg fs hfs hl hw ho hone q (p++[f]) (by simpa using h)
  rw [show (p++[f]).length=p.length+1 by simp] at ih
  have hb : wH (N,E,A,g,B,o,fs,(w : Int),(p.length : Nat),())=some (cond (pm g (wI o f) f) (.inl (N,E,A,g,B,o,fs,(w : Int),((p.length+1 : Nat) : Int),())) (.inr (.inl (false,())))):=by
   unfold wH wI
   simp only
   rw [aB (by omega),cond_true]
   by_cases c : o∈f
   ·have : p.length=w:=hone _ _ hx c
    rw [cv (by omega),cond_true,ap hp,Option.bind_some,hx,Option.bind_some,if_pos c,show Zas (((N,E,A,()),g,B,o,()),f,3,())=_ from DA hL hg (-1) (by omega) f h1 h2,Option.bind_some,a9 (by omega)]
    cases pm g (-1) f <;> rfl
   ·have : p.length≠w:=fun e=>c (by rw [← e,hx] at hw; rw [Option.some.inj hw]; exact ho)
    rw [bw (by omega),cond_false,ap hp,Option.bind_some,hx,Option.bind_some,if_neg c,show Zas (((N,E,A,()),g,B,o,()),f,1,())=_ from DA hL hg 1 (by omega) f h1 h2,Option.bind_some,a9 (by omega)]
    cases pm g 1 f <;> rfl
  unfold kp at ih ⊢
  rw [List.all_cons]
  cases hbx : pm g (wI o f) f with
  | false =>
   rw [hbx] at hb
   exact ac hb
  | true =>
   rw [hbx] at hb
   exact (ao hb).trans ih
end
theorem BW {L : Nat} {fs : List (List Int)} (h : FsOK L fs) {i j : Nat} {f f' : List Int} (hi : fs[i]?=some f) (hj : fs[j]?=some f') {x : Int} (hx : x∈f) (hx' : x∈f') : i=j:=by
 have key : ∀ {i j : Nat} {f f' : List Int},i < j→fs[i]?=some f→fs[j]?=some f'→x∈f→x∈f'→False:=by
  intro i j f f' hij hi hj hx hx'
  have hil:=(List.getElem?_eq_some_iff.1 hi).1
  have hn:=List.nodup_iff_count.1 h.nodup x
  have e1:=List.take_append_drop j fs
  rw [← e1,List.flatten_append,List.count_append] at hn
  have k1 : 0 < (fs.take j).flatten.count x:=List.count_pos_iff.2 (List.mem_flatten.2 ⟨f,List.mem_of_getElem? (i:=i) (by rw [List.getElem?_take,if_pos hij]; exact hi),hx⟩)
  have k2 : 0 < (fs.drop j).flatten.count x:=List.count_pos_iff.2 (List.mem_flatten.2 ⟨f',List.mem_of_getElem? (i:=0) (by rw [List.getElem?_drop]; exact hj),hx'⟩)
  omega
 rcases Nat.lt_trichotomy i j with c | c | c
 ·exact (key c hi hj hx hx').elim
 ·exact c
 ·exact (key c hj hi hx' hx).elim
theorem Bp (N0 : Int) (E : List Arc) (A : List (List Int)) (g : List Int) (B : List ByteArray) (o : Int) (hA : ∀ l∈A,l.length≤9223372036854775807) :
  ∃ b,Zj (((N0,E,A,()),g,B,o,()),())=some (b,())∧Zc (((N0,E,A,()),g,B,o,()),())=some (b,()) ∧
   ∀ (N : Nat) nx,N0=(N : Int)→Zbq (((N0,E,A,()),g,B,o,()),())=some (0,())→ShapeOK N E A g B o nx→(∀ k,k < 2 * E.length→(at0 B k).size=0)→0 < E.length→b=kp g o (aa nx):=by
 rcases gO N0 E A g B o hA with ⟨h1,h2⟩ | ⟨N,nx,v,bp,rfl,h,h1,h2,h3,_,h4,h5,h6⟩
 ·refine ⟨false,?_,?_,fun N nx e h0 h _ _=>?_⟩
  ·unfold Zj
   simp only
   rw [h1,Option.bind_some]; rfl
  ·unfold Zc
   simp only
   rw [h2,Option.bind_some]; rfl
  ·rw [h0] at h1
   simp at h1
 ·have hm1:=h.rot.m1
  by_cases c1 : bp=true
  ·have hv:=h5.2 c1
   subst hv
   by_cases c2 : 0 < E.length
   ·have hg : ∀ k,k < 2 * E.length→∃ a,g[oth k]?=some a∧1≤a∧a≤4:=fun k hk=>h.turn.ang _ (ay hk)
    obtain ⟨hfs,hcy⟩:=bJ h.rot h.folOK
    have hfl : ∀ f∈aa nx,(∀ d∈f,∃ k : Nat,d=(k : Int)∧k < 2 * E.length)∧f.length≤65536:=fun f hf=>⟨(hfs.elem f hf).2,by have:=hfs.flen (by omega) f hf; omega⟩
    have hnum:=hfs.num
    have ho0:=h.out0
    obtain ⟨q,rfl⟩ : ∃ q : Nat,o=(q : Int):=⟨o.toNat,by omega⟩
    have hq : q < 2 * E.length:=by rcases h.out1 with h | h <;> omega
    obtain ⟨fw,hfw,hofw⟩:=List.mem_flatten.1 (hfs.cover q hq)
    obtain ⟨w,hw⟩:=List.mem_iff_getElem?.1 hfw
    refine ⟨kp g (q : Int) (aa nx),?_,?_,fun N' nx' e _ h' _ _=>?_⟩
    ·unfold Zj
     simp only
     rw [h1,Option.bind_some]
     simp only
     rw [bn rfl,cond_false,h3,Option.bind_some]
     simp only
     rw [bn rfl,cond_false,bw (by omega),cond_false,h.faces,Option.bind_some]
     simp only
     rw [show zi ((N : Int),E,A,g,B,(q : Int),aa nx,((aa nx).length : Int),0,())=_ from qI (by omega) hg (aa nx) hfl (by omega) (aa nx) [] rfl]
     cases kp g (q : Int) (aa nx) <;> rfl
    ·unfold Zc
     simp only
     rw [h2,Option.bind_some]
     simp only
     rw [bn rfl,cond_false,h4,Option.bind_some]
     simp only [c1,Bool.not_true,cond_false]
     rw [bw (by omega),cond_false]
     have hfaces : Zu ((((N : Int),E,A,()),g,B,(q : Int),()),())=some (aa nx,(w : Int),()):=by
      unfold Zu
      simp only
      rw [h.rfaces,Option.bind_some]
      simp only
      rw [show zG ((N : Int),E,A,g,B,(q : Int),aa nx,0,())=_ from ry (aa nx) (fun f hf=>(hfl f hf).2) (by omega) hw hofw (fun i f hi hof=>BW hfs hi hw hof hofw) w 0 (by omega)]
      rfl
     rw [hfaces,Option.bind_some]
     simp only
     rw [show zo ((N : Int),E,A,g,B,(q : Int),aa nx,(w : Int),0,())=_ from pd (by omega) hg (aa nx) hfl (by omega) hw hofw (fun i f hi hof=>BW hfs hi hw hof hofw) (aa nx) [] rfl]
     cases kp g (q : Int) (aa nx) <;> rfl
    ·have : N'=N:=by omega
     subst this
     rw [jb h.rot h.folOK h'.folOK]
   ·refine ⟨false,?_,?_,fun _ _ _ _ _ _ h0=>absurd h0 c2⟩
    ·unfold Zj
     simp only
     rw [h1,Option.bind_some]
     simp only
     rw [bn rfl,cond_false,h3,Option.bind_some]
     simp only
     rw [bn rfl,cond_false,cv (by omega),cond_true]
    ·unfold Zc
     simp only
     rw [h2,Option.bind_some]
     simp only
     rw [bn rfl,cond_false,h4,Option.bind_some]
     simp only [c1,Bool.not_true,cond_false]
     rw [cv (by omega),cond_true]
  ·have hv : v≠0:=fun e=>c1 (h5.1 e)
   have hbp : bp=false:=by simpa using c1
   refine ⟨false,?_,?_,fun _ _ _ _ _ hz _=>absurd (h6.2 hz) c1⟩
   ·unfold Zj
    simp only
    rw [h1,Option.bind_some]
    simp only
    rw [bn rfl,cond_false,h3,Option.bind_some]
    simp only
    rw [dZ hv,cond_true]
   ·unfold Zc
    simp only
    rw [h2,Option.bind_some]
    simp only
    rw [bn rfl,cond_false,h4,Option.bind_some]
    simp only [hbp,Bool.not_false,cond_true]
end Go.Vm

/-
 Refine, in the program: what it returns is a plain shape whose faces are rectangles.
-/
namespace Go.Vm
open Go.Proofs
set_option maxRecDepth 100000
attribute [local irreducible] ab
theorem exc_le : ∀ {g : List Int},(∀ a∈g,1≤a∧a≤4)→exc g≤2 * g.length
 | [],_=>by simp [exc]
 | a :: g,h=>by
  have ih:=exc_le (g:=g) (fun b hb=>h b (by simp [hb]))
  have:=h a (by simp)
  simp only [exc,List.map_cons,List.sum_cons,List.length_cons] at ih ⊢
  unfold ex1 at *
  omega
theorem zH {c : Nat} : ∀ {A : List (List Int)},(∀ l∈A,l.length≤c)→A.flatten.length≤c * A.length
 | [],_=>by simp
 | l :: A,h=>by
  have ih:=zH (A:=A) (fun b hb=>h b (by simp [hb]))
  have:=h l (by simp)
  rw [List.flatten_cons,List.length_append,List.length_cons,Nat.mul_add]
  omega
theorem nA {F : Int→Int} : ∀ {l : List Int},(∀ x∈l,1≤F x)→(l.length : Int)≤(l.map F).sum
 | [],_=>by simp
 | x :: l,h=>by
  have ih:=nA (F:=F) (l:=l) (fun b hb=>h b (by simp [hb]))
  have:=h x (by simp)
  simp only [List.length_cons,List.map_cons,List.sum_cons]
  omega
theorem mG {g : List Int} {t : Int} (ht : t≠0) : ∀ {f : List Int} {n : Nat},(∀ x∈f,tn g x=0∨tn g x=t)→∃ m : Nat,lW g t f n=some (n+m)∧tsm g f=m * t
 | [],n,_=>⟨0,rfl,by rw [b8]; simp⟩
 | x :: f,n,h=>by
  unfold lW
  rw [bd]
  rcases h x (by simp) with e | e
  ·obtain ⟨m,h1,h2⟩:=mG ht (f:=f) (n:=n) (fun y hy=>h y (by simp [hy]))
   rw [if_neg (by omega),if_pos e]
   exact ⟨m,h1,by rw [h2,e]; omega⟩
  ·obtain ⟨m,h1,h2⟩:=mG ht (f:=f) (n:=n+1) (fun y hy=>h y (by simp [hy]))
   rw [if_pos e]
   refine ⟨m+1,by rw [h1]; congr 1; omega,?_⟩
   rw [h2,e]
   have : ((m+1 : Nat) : Int) * t=(m : Int) * t+t:=by rw [Int.natCast_add,Int.add_mul]; simp
   omega
section
variable {N : Nat} {E : List Arc} {A : List (List Int)} {nx : List Int} {ps : List (List Int)} {g : List Int} {o : Nat}
theorem Bd (h : Sys N E A nx ps) (hm : Met E A g o ps) (hO : Out g o ps) (hI : ∀ f∈ps,(o : Int)∉f→∀ d : Nat,(d : Int)∈f→gN g (oth d)≤2) : kp g (o : Int) ps=true:=by
 unfold kp
 rw [List.all_eq_true]
 intro f hf
 have hs:=hm.face f hf
 unfold pm wI
 rw [decide_eq_true_eq]
 by_cases c : (o : Int)∈f
 ·rw [if_pos c] at hs
  obtain ⟨m,h1,h2⟩:=mG (g:=g) (t:=-1) (by decide) (n:=0) (hO f hf c)
  rw [if_pos c,h1]
  congr 1
  omega
 ·rw [if_neg c] at hs
  obtain ⟨m,h1,h2⟩:=mG (g:=g) (t:=1) (by decide) (f:=f) (n:=0) (fun x hx=>by
   obtain ⟨k,rfl,hk⟩:=(h.fs.elem f hf).2 x hx
   have a1:=hI f hf c k hx
   have a2:=hm.ang (oth k) (ay hk)
   unfold tn
   rw [Int.toNat_natCast]
   omega)
  rw [if_neg c,h1]
  congr 1
  omega
theorem Met.exc_le (h : Met E A g o ps) : exc g≤4 * E.length:=by
 have:=Go.Vm.exc_le (g:=g) (fun a ha=>by
  obtain ⟨k,hk⟩:=List.mem_iff_getElem?.1 ha
  have hkl:=(List.getElem?_eq_some_iff.1 hk).1
  have:=h.ang k (by rw [← h.glen]; exact hkl)
  unfold gN at this
  rw [List.getD_eq_getElem?_getD,hk] at this
  exact this)
 have:=h.glen
 omega
theorem Met.few (hr : RotOK (N : Nat) E A) (h : Met E A g o ps) : E.length≤2 * N:=by
 have h1:=hr.all
 have h2:=hr.len
 have:=zH (c:=4) (A:=A) (fun l hl=>by
  by_cases c : l=[]
  ·subst c; simp
  ·have h3:=h.vert l hl c
   have:=nA (F:=fun d=>gN g d.toNat) (l:=l) (fun x hx=>by
    obtain ⟨k,rfl,hk⟩:=hr.mem_of hl hx
    rw [Int.toNat_natCast]
    exact (h.ang k hk).1)
   omega)
 omega
def Gk (I : Nat→List Arc→List (List Int)→List Int→Nat→Prop) (N : Nat) (E : List Arc) (A : List (List Int)) (g : List Int) (nx : List Int) : Prop:=∀ d f u nx',d < 2 * E.length→nx[d]?=some ((f : Nat) : Int)→f < 2 * E.length→tl E f=((u : Nat) : Int)→u < N→3≤gN g (oth d) →
 Sys (N+5) (iT E N u) (mn A u E.length f) nx' (aa nx')→Met (iT E N u) (mn A u E.length f) (bQ g d) (2 * E.length+3) (aa nx')→I (N+5) (iT E N u) (mn A u E.length f) (bQ g d) (2 * E.length+3)
theorem AL {I : Nat→List Arc→List (List Int)→List Int→Nat→Prop} (hI : zM I) {B : List ByteArray} {nx : List Int} (h : ShapeOK N E A g B (o : Int) nx) (hb : ∀ k,k < 2 * E.length→(at0 B k).size=0) (h0 : 0 < E.length) (h1 : Zbq ((((N : Int),E,A,()),g,B,(o : Int),()),())=some (0,())) (h2 : Zbp ((((N : Int),E,A,()),g,B,(o : Int),()),())=some (0,()))
  (hsm : N+4 * E.length < 16000) (hE : 9 * E.length < 32000) (hK : Gk I N E A g nx) :
  ∃ N' E' A' g' o' nx',Zbd ((((N : Int),E,A,()),g,B,(o : Int),()),())=some (((((N' : Nat) : Int),E',A',()),g',emB E',((o' : Nat) : Int),()),0,()) ∧
   Sys N' E' A' nx' (aa nx')∧Met E' A' g' o' (aa nx')∧kp g' (o' : Int) (aa nx')=true∧N'≤N+4 * E.length+9∧E'.length+2 * N+4=E.length+2 * N'∧I N' E' A' g' o':=by
 obtain ⟨hs,hm,ho⟩:=h.sys h0 hb
 rw [show ((o : Int)).toNat=o from Int.toNat_natCast o] at hm
 have hex:=hm.exc_le
 obtain ⟨d,f,u,nx1,q1,q2,q3,q4,q5,q6,q7,q8,q9,q10,q11⟩:=ym (B:=B) hs hm (by omega) (by omega)
 have hel : (iT E N u).length=E.length+6:=by unfold iT; simp
 obtain ⟨N',E',A',g',o',nx',r1,r2,r3,r4,r5,r6,r7,r8⟩:=oS hI (exc (bQ g d)+1) (N+5) (iT E N u) (mn A u E.length f) (bQ g d) (2 * E.length+3) nx1 (by omega) q8 q9 q10 (by omega) (by rw [hel]; omega) (hK d f u nx1 q1 q2 q3 q4 q5 q6 q8 q9)
 refine ⟨N',E',A',g',o',nx',?_,r2,r3,Bd r2 r3 r4 r5,by omega,by rw [hel] at r7; omega,r8⟩
 unfold Zbd
 simp only
 rw [h1,Option.bind_some]
 simp only
 rw [bn rfl,cond_false,h2,Option.bind_some]
 simp only
 rw [bn rfl,cond_false,bw (by omega),cond_false,q7,Option.bind_some]
 simp only
 have : emB (iT E N u)=List.replicate (2 * (E.length+6)) ByteArray.empty:=by unfold emB; rw [hel]
 rw [← this,r1]
 rfl
theorem vk (E : List Arc) (k : Nat) : (at0 (emB E) k).size=0:=by
 unfold emB
 rw [lb]; rfl
end
theorem qe {N0 : Int} {E : List Arc} {A : List (List Int)} {g : List Int} {B : List ByteArray} {o : Int} (h : Zbq (((N0,E,A,()),g,B,o,()),())=some (13,())∨(Zbq (((N0,E,A,()),g,B,o,()),())=some (0,())∧∃ v,v≠0∧Zbp (((N0,E,A,()),g,B,o,()),())=some (v,()))) : Zbd (((N0,E,A,()),g,B,o,()),())=some (((0,[],[],()),[],[],0,()),13,()):=by
 unfold Zbd
 simp only
 rcases h with h | ⟨h,v,hv,h2⟩
 ·rw [h,Option.bind_some]; rfl
 ·rw [h,Option.bind_some]
  simp only
  rw [bn rfl,cond_false,h2,Option.bind_some]
  simp only
  rw [dZ hv,cond_true]
theorem yR {N0 : Int} {A : List (List Int)} {g : List Int} {B : List ByteArray} {o : Int} (h1 : Zbq (((N0,[],A,()),g,B,o,()),())=some (0,())) (h2 : Zbp (((N0,[],A,()),g,B,o,()),())=some (0,())) : Zbd (((N0,[],A,()),g,B,o,()),())=some (((4,[(0,1,()),(1,2,()),(2,3,()),(3,0,())],[[0,7],[2,1],[4,3],[6,5]],()),[3,1,3,1,3,1,3,1],List.replicate 8 ByteArray.empty,1,()),0,()):=by
 unfold Zbd
 simp only
 rw [h1,Option.bind_some]
 simp only
 rw [bn rfl,cond_false,h2,Option.bind_some]
 simp only
 rw [bn rfl,cond_false,cv (by simp),cond_true]
 have : Zba ()=some (((4,[(0,1,()),(1,2,()),(2,3,()),(3,0,())],[[0,7],[2,1],[4,3],[6,5]],()),[3,1,3,1,3,1,3,1],List.replicate 8 ByteArray.empty,1,()),()):=by
  unfold Zba
  rw [show dF .str 8 8=_ from cI (n:=8) (c:=8) (Nat.le_refl _) (by omega)]
  rfl
 rw [this,Option.bind_some]
end Go.Vm


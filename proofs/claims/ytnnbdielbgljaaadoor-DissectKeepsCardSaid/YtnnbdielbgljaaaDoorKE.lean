/-
 A new edge within a face; a new vertex on an edge.
-/
import Derived.Test.YtnnbdielbgljaaaDoorKB
set_option linter.unusedVariables false
set_option linter.unusedSimpArgs false
namespace Go.Vm
open Go.Proofs
set_option maxRecDepth 100000
attribute [local irreducible] aa
def bef (l : List Int) (d f : Int) : List Int:=l.flatMap fun x=>if x=f then [d,x] else [x]
theorem tL (d f : Int) : ∀ (l : List Int),f∉l→bef l d f=l
 | [],_=>rfl
 | x :: l,h=>by
  have hx : x≠f:=fun e=>h (by simp [e])
  have:=tL d f l (fun hm=>h (by simp [hm]))
  unfold bef at this ⊢
  rw [List.flatMap_cons,if_neg hx,this]; rfl
theorem fZ (d f : Int) (a b : List Int) (ha : f∉a) (hb : f∉b) : bef (a++f :: b) d f=a++d :: f :: b:=by
 have h1:=tL d f a ha
 have h2:=tL d f b hb
 unfold bef at h1 h2 ⊢
 rw [List.flatMap_append,List.flatMap_cons,if_pos rfl,h1,h2]; rfl
theorem eU {l : List Int} {d f x : Int} : x∈bef l d f↔x∈l∨(x=d∧f∈l):=by
 unfold bef
 rw [List.mem_flatMap]
 constructor
 ·rintro ⟨y,hy,hx⟩
  split at hx
  ·rename_i e
   subst e
   rcases List.mem_cons.1 hx with h | h
   ·exact .inr ⟨h,hy⟩
   ·rw [List.mem_singleton] at h; subst h; exact .inl hy
  ·rw [List.mem_singleton] at hx; subst hx; exact .inl hy
 ·rintro (h | ⟨rfl,h⟩)
  ·refine ⟨x,h,?_⟩
   split <;> simp
  ·exact ⟨f,h,by simp⟩
theorem Ae {l : List Int} {d f : Int} : (bef l d f).length=l.length+l.count f:=by
 induction l with
 | nil=>rfl
 | cons x l ih =>
  unfold bef at ih ⊢
  rw [List.flatMap_cons,List.length_append,ih,List.count_cons]
  by_cases e : x=f
  ·rw [if_pos e]; simp [e]; omega
  ·rw [if_neg e]; simp [e]; omega
end Go.Vm

namespace Go.Vm
open Go.Proofs
set_option maxRecDepth 100000
attribute [local irreducible] aa
def jS (A : List (List Int)) (u v m : Nat) (d f : Int) : List (List Int):=(A.set u (bef (de A u) (2 * m : Nat) d)).set v (bef (de A v) (2 * m+1 : Nat) f)
structure EdgeOK (N : Nat) (E : List Arc) (A : List (List Int)) (d f u v : Nat) : Prop where
 rot : RotOK (N : Nat) E A
 val : validB ((N : Int),E,A,())=true
 d2 : d < 2 * E.length
 f2 : f < 2 * E.length
 tu : tl E d=u
 tv : tl E f=v
 un : u < N
 vn : v < N
 ne : u≠v
 m : E.length < 32768
 face : ∃ nx,Fol oth E A nx∧jj nx nx.length∧FsOK (2 * E.length) (ab nx)∧∃ a : Int,(kj (2 * E.length) (ab nx))[d]?=some a∧(kj (2 * E.length) (ab nx))[f]?=some a
end Go.Vm

namespace Go.Vm
open Go.Proofs
set_option maxRecDepth 100000
attribute [local irreducible] aa
theorem DN {A : List (List Int)} {u v m : Nat} {d f : Int} : (jS A u v m d f).length=A.length:=by unfold jS; simp
theorem dM {A : List (List Int)} {u v m : Nat} {d f : Int} (huv : u≠v) (hu : u < A.length) (hv : v < A.length) (w : Nat) : (jS A u v m d f)[w]?=if w=v then some (bef (de A v) (2 * m+1 : Nat) f) else if w=u then some (bef (de A u) (2 * m : Nat) d) else A[w]?:=by
 unfold jS
 rw [List.getElem?_set]
 by_cases e1 : v=w
 ·subst e1; simp [hv]
 ·rw [if_neg e1,if_neg (Ne.symm e1),List.getElem?_set]
  by_cases e2 : u=w
  ·subst e2; simp [hu]
  ·rw [if_neg e2,if_neg (Ne.symm e2)]
section
variable {N : Nat} {E : List Arc} {A : List (List Int)} {d f u v : Nat}
theorem EdgeOK.al (h : EdgeOK N E A d f u v) : A.length=N:=by have:=h.rot.len; omega
theorem EdgeOK.mu (h : EdgeOK N E A d f u v) : (d : Int)∈de A u:=by
 have hu : u < A.length:=by rw [h.al]; exact h.un
 rw [bn hu]; exact h.rot.around h.d2 h.tu (List.getElem?_eq_getElem hu)
theorem EdgeOK.mv (h : EdgeOK N E A d f u v) : (f : Int)∈de A v:=by
 have hv : v < A.length:=by rw [h.al]; exact h.vn
 rw [bn hv]; exact h.rot.around h.f2 h.tv (List.getElem?_eq_getElem hv)
theorem EdgeOK.nu (h : EdgeOK N E A d f u v) {w : Nat} (hw : w < N) : (de A w).Nodup:=by
 have hw : w < A.length:=by rw [h.al]; exact hw
 rw [bn hw]; exact h.rot.list_nodup (List.getElem_mem hw)
theorem EdgeOK.ll (h : EdgeOK N E A d f u v) {w : Nat} (hw : w < N) : (de A w).length≤2 * E.length:=by
 have hw : w < A.length:=by rw [h.al]; exact hw
 rw [bn hw]; exact h.rot.list_len (List.getElem_mem hw)
theorem EdgeOK.list_len (h : EdgeOK N E A d f u v) : ∀ l∈jS A u v E.length d f,l.length≤2 * E.length+1:=by
 intro l hl
 obtain ⟨w,hw⟩:=List.mem_iff_getElem?.1 hl
 have hal:=h.al
 rw [dM h.ne (by rw [hal]; exact h.un) (by rw [hal]; exact h.vn)] at hw
 split at hw
 ·cases hw
  rw [Ae,rJ (h.nu h.vn) h.mv]
  have:=h.ll h.vn; omega
 ·split at hw
  ·cases hw
   rw [Ae,rJ (h.nu h.un) h.mu]
   have:=h.ll h.un; omega
  ·have:=h.rot.list_len (List.mem_of_getElem? hw); omega
end
end Go.Vm

namespace Go.Vm
open Go.Proofs
set_option maxRecDepth 100000
attribute [local irreducible] aa
section
variable {N : Nat} {E : List Arc} {A : List (List Int)} {d f u v : Nat}
theorem EdgeOK.rot' (h : EdgeOK N E A d f u v) : RotOK (N : Nat) (E++[((u : Int),(v : Int),())]) (jS A u v E.length d f):=by
 have hal:=h.al
 have hu : u < A.length:=by rw [hal]; exact h.un
 have hv : v < A.length:=by rw [hal]; exact h.vn
 have hlen : (E++[((u : Int),(v : Int),())]).length=E.length+1:=by simp
 have hn16 : N≤16384:=by have:=h.rot.n1; omega
 have hm:=h.m
 refine me hn16 (by omega) (by rw [DN]; exact hal) ?_ ?_ ?_ ?_
 ·intro a ha
  rcases List.mem_append.1 ha with ha | ha
  ·exact h.rot.edge a ha
  ·rw [List.mem_singleton] at ha
   subst ha
   have:=h.un; have:=h.vn; have:=h.ne
   refine ⟨by show (0 : Int)≤u; omega,by show (u : Int) < N; omega,by show (0 : Int)≤v; omega,by show (v : Int) < N; omega,?_⟩
   show (u : Int)≠v
   omega
 ·intro l hl
  obtain ⟨w,hw⟩:=List.mem_iff_getElem?.1 hl
  rw [dM h.ne hu hv] at hw
  have fresh : ∀ {w k x : Nat},2 * E.length≤x→tl E k=w→k < 2 * E.length→w < N→(bef (de A w) (x : Int) (k : Int)).Nodup:=by
   intro w k x hx hk hk2 hwN
   obtain ⟨p,q,h1,h2,h3,h4⟩:=h.rot.split hk2 hk hwN
   rw [h2,fZ _ _ _ _ h3 h4]
   have hn:=h.nu hwN
   rw [h2] at hn
   have hno : (x : Int)∉p++(k : Int) :: q:=fun hm=>by
    obtain ⟨y,e1,e2,_⟩:=h.rot.dart w _ h1 _ hm
    omega
   rw [List.nodup_append] at hn ⊢
   refine ⟨hn.1,List.nodup_cons.2 ⟨fun hm=>hno (List.mem_append.2 (.inr hm)),hn.2.1⟩,?_⟩
   intro a ha b hb e
   rcases List.mem_cons.1 hb with rfl | hb
   ·subst e; exact hno (by simp [ha])
   ·exact hn.2.2 a ha b hb e
  split at hw
  ·cases hw; exact fresh (by omega) h.tv h.f2 h.vn
  ·split at hw
   ·cases hw; exact fresh (by omega) h.tu h.d2 h.un
   ·exact h.rot.list_nodup (List.mem_of_getElem? hw)
 ·intro w l hw x hx
  rw [dM h.ne hu hv] at hw
  have old : ∀ {w : Nat} {l : List Int},A[w]?=some l→∀ x∈l,∃ k : Nat,x=(k : Int)∧k < 2 * (E++[((u : Int),(v : Int),())]).length∧tl (E++[((u : Int),(v : Int),())]) k=w:=by
   intro w l hl x hx
   obtain ⟨k,e1,e2,e3⟩:=h.rot.dart w l hl x hx
   exact ⟨k,e1,by rw [hlen]; omega,by rw [nW e2]; exact e3⟩
  split at hw
  ·rename_i e
   cases hw
   subst e
   rcases eU.1 hx with hx | ⟨rfl,_⟩
   ·exact old (by rw [List.getElem?_eq_getElem hv,← bn hv]) x hx
   ·exact ⟨2 * E.length+1,rfl,by rw [hlen]; omega,by rw [mp]⟩
  ·split at hw
   ·rename_i e
    cases hw
    subst e
    rcases eU.1 hx with hx | ⟨rfl,_⟩
    ·exact old (by rw [List.getElem?_eq_getElem hu,← bn hu]) x hx
    ·exact ⟨2 * E.length,rfl,by rw [hlen]; omega,by rw [lV]⟩
   ·exact old hw x hx
 ·intro k hk
  rw [hlen] at hk
  have into : ∀ w l,(jS A u v E.length d f)[w]?=some l→(k : Int)∈l→∃ l∈jS A u v E.length d f,(k : Int)∈l:=fun w l h1 h2=>⟨l,List.mem_of_getElem? h1,h2⟩
  have gu:=dM (m:=E.length) (d:=(d : Int)) (f:=(f : Int)) h.ne hu hv u
  have gv:=dM (m:=E.length) (d:=(d : Int)) (f:=(f : Int)) h.ne hu hv v
  rw [if_neg h.ne,if_pos rfl] at gu
  rw [if_pos rfl] at gv
  rcases Nat.lt_or_ge k (2 * E.length) with hk2 | hk2
  ·obtain ⟨w,hw,hwN⟩:=h.rot.tl_lt hk2
   have hwA : w < A.length:=by omega
   have hm:=h.rot.around hk2 hw (List.getElem?_eq_getElem hwA)
   have gw:=dM (m:=E.length) (d:=(d : Int)) (f:=(f : Int)) h.ne hu hv w
   by_cases e1 : w=v
   ·subst e1
    exact into _ _ gv (eU.2 (.inl (by rw [bn hwA]; exact hm)))
   ·by_cases e2 : w=u
    ·subst e2
     exact into _ _ gu (eU.2 (.inl (by rw [bn hwA]; exact hm)))
    ·rw [if_neg e1,if_neg e2,List.getElem?_eq_getElem hwA] at gw
     exact into _ _ gw hm
  ·by_cases e : k=2 * E.length
   ·subst e; exact into _ _ gu (eU.2 (.inr ⟨rfl,h.mu⟩))
   ·have : k=2 * E.length+1:=by omega
    subst this; exact into _ _ gv (eU.2 (.inr ⟨rfl,h.mv⟩))
theorem nY {fw fw' : List Int} {p q : List Int} {x a : Int} (h : Cyc fw (p++x :: q)) (h' : Cyc fw' (p++a :: x :: q)) (hp : x∉p) (hq : x∉q) :
  fw'[a.toNat]?=some x∧∀ y∈p++x :: q,(fw[y.toNat]?=some x→fw'[y.toNat]?=some a)∧(fw[y.toNat]?≠some x→fw'[y.toNat]?=fw[y.toNat]?):=by
 have h1:=bS (fN h)
 have h2 : Cyc fw' ((x :: q)++(p++[a])):=fN (p:=p++[a]) (q:=x :: q) (by simpa using h')
 have h3:=bS (x:=x) (f:=q++(p++[a])) h2
 obtain ⟨y,h4,h5⟩:=cu (f:=(x :: q)++p) (g:=[a]).1 (by simpa using h3)
 obtain ⟨rfl,w,w1,w2⟩:=h5
 have w2 : w=x:=w2
 subst w2
 refine ⟨w1,fun y hy=>?_⟩
 refine rj h1 h4 ?_ y ?_
 ·show w∉q++p
  simp [hp,hq]
 ·simp at hy ⊢
  rcases hy with h | h | h <;> simp [h]
structure NextOK (E : List Arc) (nx nx' : List Int) (d f : Nat) : Prop where
 a : nx'[2 * E.length]?=some (f : Int)
 b : nx'[2 * E.length+1]?=some (d : Int)
 old : ∀ k,k < 2 * E.length→(nx[k]?=some (d : Int)→nx'[k]?=some ((2 * E.length : Nat) : Int))∧(nx[k]?=some (f : Int)→nx'[k]?=some ((2 * E.length+1 : Nat) : Int))∧(nx[k]?≠some (d : Int)→nx[k]?≠some (f : Int)→nx'[k]?=nx[k]?)
theorem EdgeOK.next (h : EdgeOK N E A d f u v) {nx nx' : List Int} (hn : Fol oth E A nx) (hn' : Fol oth (E++[((u : Int),(v : Int),())]) (jS A u v E.length d f) nx') : NextOK E nx nx' d f:=by
 have hr':=h.rot'
 have hal:=h.al
 have hu : u < A.length:=by rw [hal]; exact h.un
 have hv : v < A.length:=by rw [hal]; exact h.vn
 have hlen : (E++[((u : Int),(v : Int),())]).length=E.length+1:=by simp
 obtain ⟨fw,_,ff⟩:=cU h.rot ()
 obtain ⟨fw',_,ff'⟩:=cU hr' ()
 have gu:=dM (m:=E.length) (d:=(d : Int)) (f:=(f : Int)) h.ne hu hv u
 have gv:=dM (m:=E.length) (d:=(d : Int)) (f:=(f : Int)) h.ne hu hv v
 rw [if_neg h.ne,if_pos rfl] at gu
 rw [if_pos rfl] at gv
 obtain ⟨pu,qu,su1,su2,su3,su4⟩:=h.rot.split h.d2 h.tu h.un
 obtain ⟨pv,qv,sv1,sv2,sv3,sv4⟩:=h.rot.split h.f2 h.tv h.vn
 rw [su2,fZ _ _ _ _ su3 su4] at gu
 rw [sv2,fZ _ _ _ _ sv3 sv4] at gv
 obtain ⟨tu1,tu2⟩:=nY (ff.cyc (List.mem_of_getElem? su1) (by simp)) (ff'.cyc (List.mem_of_getElem? gu) (by simp)) su3 su4
 obtain ⟨tv1,tv2⟩:=nY (ff.cyc (List.mem_of_getElem? sv1) (by simp)) (ff'.cyc (List.mem_of_getElem? gv) (by simp)) sv3 sv4
 have conv : ∀ k,k < 2 * E.length→nx[k]?=fw[oth k]?:=fun k hk=>by
  obtain ⟨y,_,h1,h2⟩:=dq h.rot hn ff hk; rw [h1,h2]
 have conv' : ∀ k,k < 2 * E.length+2→nx'[k]?=fw'[oth k]?:=fun k hk=>by
  obtain ⟨y,_,h1,h2⟩:=dq hr' hn' ff' (k:=k) (by rw [hlen]; omega); rw [h1,h2]
 refine ⟨?_,?_,fun k hk=>?_⟩
 ·rw [conv' _ (by omega),cK]; exact tv1
 ·rw [conv' _ (by omega),cJ]; exact tu1
 ·rw [conv k hk,conv' k (by omega)]
  have hok:=bd hk
  obtain ⟨w,hw,hwN⟩:=h.rot.tl_lt hok
  have hwA : w < A.length:=by omega
  have hm:=h.rot.around hok hw (List.getElem?_eq_getElem hwA)
  have closed : ∀ {x : Nat} {t : Nat},x < 2 * E.length→fw[oth k]?=some (x : Int)→tl E x=t→t=w:=by
   intro x t hx h1 h2
   have hc:=ff.cyc (List.getElem_mem hwA) (fun e=>by rw [e] at hm; simp at hm)
   have:=dy hc hm h1
   obtain ⟨y,e1,_,e3⟩:=h.rot.dart w _ (List.getElem?_eq_getElem hwA) _ this
   have : y=x:=by omega
   subst this
   omega
  by_cases e1 : w=u
  ·subst e1
   have hm2 : ((oth k : Nat) : Int)∈pu++(d : Int) :: qu:=by
    rw [List.getElem?_eq_getElem hwA] at su1; rw [← Option.some.inj su1]; exact hm
   have:=tu2 _ hm2
   rw [Int.toNat_natCast] at this
   refine ⟨this.1,fun hf=>absurd (closed h.f2 hf h.tv).symm h.ne,fun h1 _=>this.2 h1⟩
  ·by_cases e2 : w=v
   ·subst e2
    have hm2 : ((oth k : Nat) : Int)∈pv++(f : Int) :: qv:=by
     rw [List.getElem?_eq_getElem hwA] at sv1; rw [← Option.some.inj sv1]; exact hm
    have:=tv2 _ hm2
    rw [Int.toNat_natCast] at this
    exact ⟨fun hd=>absurd (closed h.d2 hd h.tu) h.ne,this.1,fun _ h1=>this.2 h1⟩
   ·refine ⟨fun hd=>absurd (closed h.d2 hd h.tu).symm e1,fun hf=>absurd (closed h.f2 hf h.tv).symm e2,fun _ _=>?_⟩
    have gw:=dM (m:=E.length) (d:=(d : Int)) (f:=(f : Int)) h.ne hu hv w
    rw [if_neg e2,if_neg e1,List.getElem?_eq_getElem hwA] at gw
    obtain ⟨i,hi,e⟩:=List.getElem_of_mem hm
    have q1:=ff.get _ (List.getElem_mem hwA) i hi
    have q2:=ff'.get _ (List.mem_of_getElem? gw) i hi
    rw [e] at q1 q2
    simp only [id,Int.toNat_natCast] at q1 q2
    rw [q1,q2]
end
end Go.Vm

namespace Go.Vm
open Go.Proofs
set_option maxRecDepth 100000
attribute [local irreducible] aa
theorem vW {L d f : Nat} {nx nx' : List Int} {fs : List (List Int)} (hL : nx.length=L) (hf : FsOK L fs) (cf : ∀ g∈fs,Cyc nx g) (hinj : Inj nx) {j : Nat} {g : List Int} (hj : fs[j]?=some g) (hd : (d : Int)∈g) (hfg : (f : Int)∈g) (hdf : d≠f)
  (na : nx'[L]?=some (f : Int)) (nb : nx'[L+1]?=some (d : Int))
  (old : ∀ k,k < L→(nx[k]?=some (d : Int)→nx'[k]?=some (L : Int))∧(nx[k]?=some (f : Int)→nx'[k]?=some ((L+1 : Nat) : Int))∧(nx[k]?≠some (d : Int)→nx[k]?≠some (f : Int)→nx'[k]?=nx[k]?)) :
  ∃ (a b : List (List Int)) (s1 s2 : List Int),fs=a++g :: b∧(∀ x : Int,g.count x=((d : Int) :: s1).count x+((f : Int) :: s2).count x)∧g.length=s1.length+s2.length+2 ∧
   FsOK (L+2) (((d : Int) :: s1++[((L+1 : Nat) : Int)]) :: ((f : Int) :: s2++[(L : Int)]) :: (a++b))∧∀ h∈(((d : Int) :: s1++[((L+1 : Nat) : Int)]) :: ((f : Int) :: s2++[(L : Int)]) :: (a++b)),Cyc nx' h:=by
 have hgm:=List.mem_of_getElem? hj
 obtain ⟨a,b,rfl⟩:=xz hj
 have hgel:=(hf.elem g hgm).2
 have hgnd : g.Nodup:=hf.nodup.sublist (List.sublist_flatten_of_mem hgm)
 obtain ⟨p,q,rfl⟩:=List.append_of_mem hd
 have hc : Cyc nx ((d : Int) :: (q++p)):=fN (cf _ hgm)
 have hmem : (f : Int)∈q++p:=by
  simp at hfg ⊢
  rcases hfg with h | h | h
  ·exact .inr h
  ·omega
  ·exact .inl h
 obtain ⟨s1,s2,es⟩:=List.append_of_mem hmem
 have hcount : ∀ x : Int,(p++(d : Int) :: q).count x=((d : Int) :: s1).count x+((f : Int) :: s2).count x:=by
  intro x
  have:=congrArg (List.count x) es
  simp only [List.count_append,List.count_cons] at this ⊢
  omega
 have hlen : (p++(d : Int) :: q).length=s1.length+s2.length+2:=by
  have:=congrArg List.length es
  simp at this ⊢
  omega
 have hone : ∀ x : Int,((d : Int) :: s1).count x+((f : Int) :: s2).count x≤1:=fun x=>by
  rw [← hcount]; exact List.nodup_iff_count.1 hgnd x
 have hsub1 : ∀ x∈(d : Int) :: s1,x∈p++(d : Int) :: q:=fun x hx=>by
  have:=List.count_pos_iff.2 hx
  exact List.count_pos_iff.1 (by rw [hcount]; omega)
 have hsub2 : ∀ x∈(f : Int) :: s2,x∈p++(d : Int) :: q:=fun x hx=>by
  have:=List.count_pos_iff.2 hx
  exact List.count_pos_iff.1 (by rw [hcount]; omega)
 have hdis : ∀ x∈(d : Int) :: s1,x∉(f : Int) :: s2:=fun x h1 h2=>by
  have:=List.count_pos_iff.2 h1; have:=List.count_pos_iff.2 h2; have:=hone x; omega
 rw [es] at hc
 obtain ⟨y,h1,h2⟩:=cu (f:=(d : Int) :: s1) (g:=(f : Int) :: s2).1 (bS hc)
 have : (f : Int)=y:=h2.1
 subst this
 have nat1 : ∀ x∈(d : Int) :: s1,∃ k : Nat,x=(k : Int)∧k < L:=fun x hx=>hgel x (hsub1 x hx)
 have nat2 : ∀ x∈(f : Int) :: s2,∃ k : Nat,x=(k : Int)∧k < L:=fun x hx=>hgel x (hsub2 x hx)
 have inj : ∀ x y : Int,(∃ k : Nat,x=(k : Int)∧k < L)→(∃ k : Nat,y=(k : Int)∧k < L)→∀ z : Int,nx[x.toNat]?=some z→nx[y.toNat]?=some z→x=y:=by
  rintro x y ⟨k,rfl,_⟩ ⟨k',rfl,_⟩ z e1 e2
  have:=hinj _ _ _ e1 e2
  simp at this
  omega
 have last1:=ik h1 (by simp)
 have last2:=ik h2 (by simp)
 have t1 : dm nx' (d : Int) ((d : Int) :: s1) ((L+1 : Nat) : Int):=by
  refine fY h1 (by simp) (fun hm=>hdis _ (List.mem_of_mem_tail hm) (by simp)) fun y hy=>?_
  obtain ⟨k,rfl,hk⟩:=nat1 y hy
  rw [Int.toNat_natCast]
  refine ⟨(old k hk).2.1,fun hne=>(old k hk).2.2 (fun hd2=>?_) hne⟩
  obtain ⟨w,w1,w2⟩:=last2
  have:=inj (k : Int) w ⟨k,rfl,hk⟩ (nat2 w w1) _ (by simpa using hd2) w2
  subst this
  exact hdis _ hy w1
 have t2 : dm nx' (f : Int) ((f : Int) :: s2) (L : Int):=by
  refine fY h2 (by simp) (fun hm=>hdis _ (by simp) (List.mem_of_mem_tail hm)) fun y hy=>?_
  obtain ⟨k,rfl,hk⟩:=nat2 y hy
  rw [Int.toNat_natCast]
  refine ⟨(old k hk).1,fun hne=>(old k hk).2.2 hne (fun hd2=>?_)⟩
  obtain ⟨w,w1,w2⟩:=last1
  have:=inj (k : Int) w ⟨k,rfl,hk⟩ (nat1 w w1) _ (by simpa using hd2) w2
  subst this
  exact hdis _ w1 hy
 have c1 : Cyc nx' ((d : Int) :: s1++[((L+1 : Nat) : Int)]):=cL (x:=(d : Int)) (cu.2 ⟨_,t1,rfl,(d : Int),by simpa using nb,rfl⟩) (by simp)
 have c2 : Cyc nx' ((f : Int) :: s2++[(L : Int)]):=cL (x:=(f : Int)) (cu.2 ⟨_,t2,rfl,(f : Int),by simpa using na,rfl⟩) (by simp)
 have flat : ∀ x : Int,((((d : Int) :: s1++[((L+1 : Nat) : Int)]) :: ((f : Int) :: s2++[(L : Int)]) :: (a++b)).flatten).count x=(a++(p++(d : Int) :: q) :: b).flatten.count x+[(L : Int),((L+1 : Nat) : Int)].count x:=by
  intro x
  rw [dv,hcount]
  simp only [List.flatten_cons,List.count_append,List.flatten_append,List.count_cons,List.count_nil]
  omega
 have small : ∀ x∈(a++(p++(d : Int) :: q) :: b).flatten,∃ k : Nat,x=(k : Int)∧k < L:=fun x hx=>by
  obtain ⟨l,hl,hxl⟩:=List.mem_flatten.1 hx
  exact (hf.elem l hl).2 x hxl
 have other : ∀ h∈a++b,h∈a++(p++(d : Int) :: q) :: b∧∀ x∈h,x∉p++(d : Int) :: q:=by
  intro h hh
  have hhm : h∈a++(p++(d : Int) :: q) :: b:=by simp at hh ⊢; rcases hh with hh | hh <;> simp [hh]
  refine ⟨hhm,fun x hx hx2=>?_⟩
  have h1:=List.nodup_iff_count.1 hf.nodup x
  rw [dv] at h1
  have h2:=List.count_pos_iff.2 hx2
  rcases List.mem_append.1 hh with hh | hh
  ·have:=List.count_pos_iff.2 (List.mem_flatten.2 ⟨h,hh,hx⟩); omega
  ·have:=List.count_pos_iff.2 (List.mem_flatten.2 ⟨h,hh,hx⟩); omega
 refine ⟨a,b,s1,s2,rfl,hcount,hlen,⟨?_,?_,?_,?_⟩,?_⟩
 ·intro h hh
  rcases List.mem_cons.1 hh with rfl | hh
  ·refine ⟨by simp,fun x hx=>?_⟩
   rcases List.mem_append.1 hx with hx | hx
   ·obtain ⟨k,e,hk⟩:=nat1 x hx; exact ⟨k,e,by omega⟩
   ·rw [List.mem_singleton] at hx; exact ⟨L+1,hx,by omega⟩
  ·rcases List.mem_cons.1 hh with rfl | hh
   ·refine ⟨by simp,fun x hx=>?_⟩
    rcases List.mem_append.1 hx with hx | hx
    ·obtain ⟨k,e,hk⟩:=nat2 x hx; exact ⟨k,e,by omega⟩
    ·rw [List.mem_singleton] at hx; exact ⟨L,hx,by omega⟩
   ·obtain ⟨e1,e2⟩:=hf.elem h (other h hh).1
    exact ⟨e1,fun x hx=>by obtain ⟨k,e,hk⟩:=e2 x hx; exact ⟨k,e,by omega⟩⟩
 ·rw [List.nodup_iff_count]
  intro x
  rw [flat]
  have h1:=List.nodup_iff_count.1 hf.nodup x
  simp only [List.count_cons,List.count_nil,beq_iff_eq]
  by_cases hx : x∈(a++(p++(d : Int) :: q) :: b).flatten
  ·obtain ⟨k,rfl,hk⟩:=small x hx
   rw [if_neg (by omega),if_neg (by omega)]; omega
  ·rw [List.count_eq_zero.2 hx]
   split <;> split <;> omega
 ·intro k hk
  have : 0 < ((((d : Int) :: s1++[((L+1 : Nat) : Int)]) :: ((f : Int) :: s2++[(L : Int)]) :: (a++b)).flatten).count (k : Int):=by
   rw [flat]
   rcases Nat.lt_or_ge k L with h | h
   ·have:=List.count_pos_iff.2 (hf.cover k h); omega
   ·have hin : (k : Int)∈[(L : Int),((L+1 : Nat) : Int)]:=by
     simp; omega
    have:=List.count_pos_iff.2 hin; omega
  exact List.count_pos_iff.1 this
 ·have:=hf.num
  simp only [List.length_cons,List.length_append] at this ⊢
  omega
 ·intro h hh
  rcases List.mem_cons.1 hh with rfl | hh
  ·exact c1
  ·rcases List.mem_cons.1 hh with rfl | hh
   ·exact c2
   ·obtain ⟨hm,hdj⟩:=other h hh
    have hcy:=cf h hm
    have hne:=hcy.1
    cases h with
    | nil=>exact absurd rfl hne
    | cons x h =>
     refine cL (kF (bS hcy) fun y hy=>?_) (by simp)
     obtain ⟨k,rfl,hk⟩:=(hf.elem _ hm).2 y hy
     rw [Int.toNat_natCast]
     refine (old k hk).2.2 (fun e=>?_) (fun e=>?_)
     ·exact hdj _ (dy hcy hy e) hd
     ·exact hdj _ (dy hcy hy e) hfg
section
variable {N : Nat} {E : List Arc} {A : List (List Int)} {d f u v : Nat}
theorem EdgeOK.df (h : EdgeOK N E A d f u v) : d≠f:=by
 rintro rfl
 have h1:=h.tu
 rw [h.tv] at h1
 have:=h.ne
 omega
theorem EdgeOK.faces (h : EdgeOK N E A d f u v) {nx nx' : List Int} (hn : Fol oth E A nx) (hn' : Fol oth (E++[((u : Int),(v : Int),())]) (jS A u v E.length d f) nx') : (ab nx').length=(ab nx).length+1:=by
 obtain ⟨hf,cf⟩:=bh h.rot hn
 obtain ⟨hf',cf'⟩:=bh h.rot' hn'
 obtain ⟨mx,x1,x2,x3,a,ma,mb⟩:=h.face
 have : mx=nx:=by
  refine List.ext_getElem? fun k=>?_
  by_cases hk : k < 2 * E.length
  ·obtain ⟨fw,_,ff⟩:=cU h.rot ()
   obtain ⟨y,_,h1,h2⟩:=dq h.rot hn ff hk
   obtain ⟨y',_,h1',h2'⟩:=dq h.rot x1 ff hk
   rw [h2] at h2'
   rw [h1,h1',h2']
  ·rw [List.getElem?_eq_none (by rw [x1.len]; omega),List.getElem?_eq_none (by rw [hn.len]; omega)]
 subst this
 obtain ⟨j,j1,j2,g,j3,j4⟩:=eA hf h.d2
 obtain ⟨j',j1',j2',g',j3',j4'⟩:=eA hf h.f2
 rw [ma] at j2
 rw [mb] at j2'
 have : j=j':=by
  have e1:=Option.some.inj j2
  have e2:=Option.some.inj j2'
  omega
 subst this
 rw [j3] at j3'
 have : g=g':=Option.some.inj j3'
 subst this
 have hN:=h.next hn hn'
 obtain ⟨a,b,s1,s2,e1,_,_,e2,e3⟩:=vW hn.len hf cf (nZ h.rot hn) j3 j4 j4' h.df hN.a hN.b hN.old
 have hlen : (E++[((u : Int),(v : Int),())]).length=E.length+1:=by simp
 rw [hlen] at hf'
 rw [mJ hf' (by rw [show 2 * (E.length+1)=2 * E.length+2 by omega]; exact e2) cf' e3,e1]
 simp only [List.length_cons,List.length_append]
 omega
end
end Go.Vm

namespace Go.Vm
open Go.Proofs
set_option maxRecDepth 100000
attribute [local irreducible] aa
section
variable {N : Nat} {E : List Arc} {A : List (List Int)} {d f u v : Nat}
theorem EdgeOK.join (h : EdgeOK N E A d f u v) : Reach E u v:=by
 obtain ⟨nx,hn,_,hf,a,ma,mb⟩:=h.face
 obtain ⟨j,j1,j2,g,j3,j4⟩:=eA hf h.d2
 obtain ⟨j',j1',j2',g',j3',j4'⟩:=eA hf h.f2
 rw [ma] at j2
 rw [mb] at j2'
 have : j=j':=by
  have e1:=Option.some.inj j2
  have e2:=Option.some.inj j2'
  omega
 subst this
 rw [j3] at j3'
 have : g=g':=Option.some.inj j3'
 subst this
 exact yd h.rot hn (List.mem_of_getElem? j3) j4 j4' h.tu h.tv
theorem fQ {l : List Int} {d f : Int} (h : f∈l) : (bef l d f).isEmpty=false∧l.isEmpty=false:=by
 have h1 : f∈bef l d f:=eU.2 (.inl h)
 constructor
 ·cases hb : bef l d f with
  | nil=>rw [hb] at h1; simp at h1
  | cons a b=>rfl
 ·cases l with
  | nil=>simp at h
  | cons a b=>rfl
theorem EdgeOK.emp (h : EdgeOK N E A d f u v) : emp (jS A u v E.length d f)=emp A:=by
 have hal:=h.al
 have hu : u < A.length:=by rw [hal]; exact h.un
 have hv : v < A.length:=by rw [hal]; exact h.vn
 unfold jS
 have e1 : de (A.set u (bef (de A u) ((2 * E.length : Nat) : Int) (d : Int))) v=de A v:=by
  rw [bn (by simpa using hv),bn hv,List.getElem_set_ne h.ne]
 rw [uK (by simpa using hv) (by rw [e1,(fQ h.mv).1,(fQ (d:=0) h.mv).2]),uK hu (by rw [(fQ h.mu).1,(fQ (d:=0) h.mu).2])]
theorem EdgeOK.genus (h : EdgeOK N E A d f u v) {nx nx' : List Int} (hn : Fol oth E A nx) (hn' : Fol oth (E++[((u : Int),(v : Int),())]) (jS A u v E.length d f) nx') :
  ud N (E++[((u : Int),(v : Int),())]) (jS A u v E.length d f) (ab nx').length=ud N E A (ab nx).length:=by
 unfold ud
 rw [h.faces hn hn',h.emp,wL (N:=N) fun x y=>A0 h.join]
 congr 2
 simp
 omega
end
end Go.Vm

namespace Go.Vm
open Go.Proofs
set_option maxRecDepth 100000
attribute [local irreducible] aa
def eN (b c x : Int) : Int:=if x=b then c else x
def vg (b c : Int) (l : List Int) : List Int:=l.map (eN b c)
def cB (E : List Arc) (N e : Nat) (x y : Nat) : List Arc:=E.set e ((x : Int),(N : Int),())++[((N : Int),(y : Int),())]
def jk (A : List (List Int)) (e m y : Nat) : List (List Int):=A.set y (vg (2 * e+1 : Nat) (2 * m+1 : Nat) (de A y))++[[((2 * e+1 : Nat) : Int),((2 * m : Nat) : Int)]]
structure SplitOK (N : Nat) (E : List Arc) (A : List (List Int)) (e x y : Nat) : Prop where
 rot : RotOK (N : Nat) E A
 val : validB ((N : Int),E,A,())=true
 he : e < E.length
 arc : E[e]?=some ((x : Int),(y : Int),())
 xn : x < N
 yn : y < N
 ne : x≠y
 m : E.length < 32768
 n : N < 16384
end Go.Vm

namespace Go.Vm
open Go.Proofs
set_option maxRecDepth 100000
attribute [local irreducible] aa
section
variable {N : Nat} {E : List Arc} {A : List (List Int)} {e x y : Nat}
theorem ew : (cB E N e x y).length=E.length+1:=by simp [cB]
theorem Dv {m : Nat} : (jk A e m y).length=A.length+1:=by simp [jk]
theorem SplitOK.tl0 (h : SplitOK N E A e x y) : tl E (2 * e)=(x : Int):=by
 unfold tl
 rw [show 2 * e / 2=e by omega,h.arc]
 simp only
 rw [if_pos (by omega)]
theorem SplitOK.tl1 (h : SplitOK N E A e x y) : tl E (2 * e+1)=(y : Int):=by
 unfold tl
 rw [show (2 * e+1) / 2=e by omega,h.arc]
 simp only
 rw [if_neg (by omega)]
theorem SplitOK.tails (h : SplitOK N E A e x y) : tl (cB E N e x y) (2 * e)=(x : Int)∧tl (cB E N e x y) (2 * e+1)=(N : Int)∧tl (cB E N e x y) (2 * E.length)=(N : Int)∧tl (cB E N e x y) (2 * E.length+1)=(y : Int) ∧
  ∀ k,k < 2 * E.length→k≠2 * e+1→tl (cB E N e x y) k=tl E k:=by
 have he:=h.he
 have hs : ∀ k,k < E.length→(cB E N e x y)[k]?=if k=e then some ((x : Int),(N : Int),()) else E[k]?:=by
  intro k hk
  unfold cB
  rw [List.getElem?_append_left (by simpa using hk),List.getElem?_set]
  by_cases c : e=k
  ·subst c; simp [he]
  ·rw [if_neg c,if_neg (Ne.symm c)]
 have hlast : (cB E N e x y)[E.length]?=some ((N : Int),(y : Int),()):=by
  unfold cB
  rw [List.getElem?_append_right (by simp)]
  simp
 have h0 : tl (cB E N e x y) (2 * e)=(x : Int):=by
  unfold tl
  rw [show 2 * e / 2=e by omega,hs e he,if_pos rfl]
  simp only
  rw [if_pos (by omega)]
 refine ⟨h0,?_,?_,?_,fun k hk hne=>?_⟩
 ·unfold tl
  rw [show (2 * e+1) / 2=e by omega,hs e he,if_pos rfl]
  simp only
  rw [if_neg (by omega)]
 ·unfold tl
  rw [show 2 * E.length / 2=E.length by omega,hlast]
  simp only
  rw [if_pos (by omega)]
 ·unfold tl
  rw [show (2 * E.length+1) / 2=E.length by omega,hlast]
  simp only
  rw [if_neg (by omega)]
 ·by_cases c : k=2 * e
  ·subst c; rw [h0,h.tl0]
  ·unfold tl
   rw [hs _ (by omega),if_neg (by omega)]
theorem eD {m : Nat} (hy : y < A.length) (w : Nat) : (jk A e m y)[w]?=if w=y then some (vg (2 * e+1 : Nat) (2 * m+1 : Nat) (de A y)) else if w=A.length then some [((2 * e+1 : Nat) : Int),((2 * m : Nat) : Int)] else A[w]?:=by
 unfold jk
 by_cases c1 : w < A.length
 ·rw [List.getElem?_append_left (by simpa using c1),List.getElem?_set]
  by_cases c2 : y=w
  ·subst c2; simp [hy]
  ·rw [if_neg c2,if_neg (Ne.symm c2),if_neg (by omega)]
 ·rw [List.getElem?_append_right (by simp; omega),if_neg (by omega)]
  by_cases c2 : w=A.length
  ·subst c2; simp
  ·rw [if_neg c2,List.getElem?_eq_none (by simp; omega),List.getElem?_eq_none (by omega)]
theorem wh {b c z : Int} {l : List Int} : z∈vg b c l↔(z∈l∧z≠b)∨(z=c∧b∈l):=by
 unfold vg eN
 rw [List.mem_map]
 constructor
 ·rintro ⟨w,hw,he⟩
  split at he
  ·rename_i e1; subst e1; exact .inr ⟨he.symm,hw⟩
  ·rename_i e1; subst he; exact .inl ⟨hw,e1⟩
 ·rintro (⟨h1,h2⟩ | ⟨rfl,h2⟩)
  ·exact ⟨z,h1,by rw [if_neg h2]⟩
  ·exact ⟨b,h2,by rw [if_pos rfl]⟩
theorem xG {b c : Int} {p q : List Int} (hp : b∉p) (hq : b∉q) : vg b c (p++b :: q)=p++c :: q:=by
 have keep : ∀ {s : List Int},b∉s→s.map (eN b c)=s:=by
  intro s hs
  refine (List.map_congr_left fun x hx=>?_).trans (List.map_id s)
  unfold eN
  rw [if_neg (fun e2=>hs (by rw [← e2]; exact hx))]; rfl
 have : eN b c b=c:=by unfold eN; rw [if_pos rfl]
 unfold vg
 rw [List.map_append,List.map_cons,keep hp,keep hq,this]
theorem SplitOK.al (h : SplitOK N E A e x y) : A.length=N:=h.rot.al
theorem SplitOK.split (h : SplitOK N E A e x y) : ∃ p q,A[y]?=some (p++((2 * e+1 : Nat) : Int) :: q)∧((2 * e+1 : Nat) : Int)∉p∧((2 * e+1 : Nat) : Int)∉q ∧
  vg (2 * e+1 : Nat) (2 * E.length+1 : Nat) (de A y)=p++((2 * E.length+1 : Nat) : Int) :: q:=by
 have he:=h.he
 obtain ⟨p,q,h1,h2,h3,h4⟩:=h.rot.split (k:=2 * e+1) (by omega) h.tl1 h.yn
 exact ⟨p,q,h1,h3,h4,by rw [h2]; exact xG h3 h4⟩
theorem SplitOK.rot' (h : SplitOK N E A e x y) : RotOK ((N+1 : Nat) : Nat) (cB E N e x y) (jk A e E.length y):=by
 have hal:=h.al
 have he:=h.he
 have hm:=h.m
 have hn:=h.n
 have hx:=h.xn
 have hy:=h.yn
 have hne:=h.ne
 have hyl : y < A.length:=by omega
 obtain ⟨t0,t1,t2,t3,t4⟩:=h.tails
 obtain ⟨p,q,s1,s2,s3,s4⟩:=h.split
 have hlen : (cB E N e x y).length=E.length+1:=ew
 have hdart:=h.rot.dart
 refine me (by omega) (by omega) (by rw [Dv]; omega) ?_ ?_ ?_ ?_
 ·intro a ha
  unfold cB at ha
  rcases List.mem_append.1 ha with ha | ha
  ·rcases List.mem_or_eq_of_mem_set ha with ha | rfl
   ·obtain ⟨q1,q2,q3,q4,q5⟩:=h.rot.edge a ha
    exact ⟨q1,by omega,q3,by omega,q5⟩
   ·refine ⟨by show (0 : Int)≤x; omega,by show (x : Int) < (N+1 : Nat); omega,by show (0 : Int)≤N; omega,by show (N : Int) < (N+1 : Nat); omega,?_⟩
    show (x : Int)≠N
    omega
  ·rw [List.mem_singleton] at ha
   subst ha
   refine ⟨by show (0 : Int)≤N; omega,by show (N : Int) < (N+1 : Nat); omega,by show (0 : Int)≤y; omega,by show (y : Int) < (N+1 : Nat); omega,?_⟩
   show (N : Int)≠y
   omega
 ·intro l hl
  obtain ⟨w,hw⟩:=List.mem_iff_getElem?.1 hl
  rw [eD hyl] at hw
  split at hw
  ·cases hw
   rw [s4]
   have hnd:=h.rot.list_nodup (List.mem_of_getElem? s1)
   have hno : ((2 * E.length+1 : Nat) : Int)∉p++((2 * e+1 : Nat) : Int) :: q:=fun hm2=>by
    obtain ⟨z,e1,e2,_⟩:=hdart y _ s1 _ hm2
    omega
   rw [List.nodup_append,List.nodup_cons] at hnd ⊢
   refine ⟨hnd.1,⟨fun hm2=>hno (List.mem_append.2 (.inr (List.mem_cons_of_mem _ hm2))),hnd.2.1.2⟩,?_⟩
   intro a ha b hb e1
   rcases List.mem_cons.1 hb with rfl | hb
   ·subst e1; exact hno (List.mem_append.2 (.inl ha))
   ·exact hnd.2.2 a ha b (List.mem_cons_of_mem _ hb) e1
  ·split at hw
   ·cases hw
    rw [List.nodup_cons]
    exact ⟨by simp; omega,by simp⟩
   ·exact h.rot.list_nodup (List.mem_of_getElem? hw)
 ·intro w l hw z hz
  rw [eD hyl] at hw
  have old : ∀ {w : Nat} {l : List Int},A[w]?=some l→∀ z∈l,z≠((2 * e+1 : Nat) : Int)→∃ k : Nat,z=(k : Int)∧k < 2 * (cB E N e x y).length∧tl (cB E N e x y) k=w:=by
   intro w l hl z hz hnz
   obtain ⟨k,e1,e2,e3⟩:=hdart w l hl z hz
   exact ⟨k,e1,by rw [hlen]; omega,by rw [t4 k e2 (by omega)]; exact e3⟩
  split at hw
  ·rename_i e1
   cases hw
   subst e1
   rcases wh.1 hz with ⟨h1,h2⟩ | ⟨rfl,_⟩
   ·exact old (by rw [List.getElem?_eq_getElem hyl,← bn hyl]) z h1 h2
   ·exact ⟨2 * E.length+1,rfl,by rw [hlen]; omega,t3⟩
  ·split at hw
   ·rename_i e1
    cases hw
    subst e1
    rw [hal]
    rcases List.mem_cons.1 hz with rfl | hz
    ·exact ⟨2 * e+1,rfl,by rw [hlen]; omega,t1⟩
    ·rw [List.mem_singleton] at hz
     exact ⟨2 * E.length,hz,by rw [hlen]; omega,t2⟩
   ·rename_i e1 _
    refine old hw z hz fun e2=>e1 ?_
    subst e2
    obtain ⟨k,f1,f2,f3⟩:=hdart w l hw _ hz
    have : k=2 * e+1:=by omega
    subst this
    rw [h.tl1] at f3
    omega
 ·intro k hk
  rw [hlen] at hk
  have into : ∀ w l,(jk A e E.length y)[w]?=some l→(k : Int)∈l→∃ l∈jk A e E.length y,(k : Int)∈l:=fun w l h1 h2=>⟨l,List.mem_of_getElem? h1,h2⟩
  have gy:=eD (e:=e) (m:=E.length) hyl y
  have gN:=eD (e:=e) (m:=E.length) hyl A.length
  rw [if_pos rfl] at gy
  rw [if_neg (by omega),if_pos rfl] at gN
  by_cases c1 : k=2 * e+1
  ·subst c1; exact into _ _ gN (by simp)
  ·rcases Nat.lt_or_ge k (2 * E.length) with hk2 | hk2
   ·obtain ⟨w,hw,hwN⟩:=h.rot.tl_lt hk2
    have hwA : w < A.length:=by omega
    have hm2:=h.rot.around hk2 hw (List.getElem?_eq_getElem hwA)
    by_cases e1 : w=y
    ·subst e1
     exact into _ _ gy (wh.2 (.inl ⟨by rw [bn hwA]; exact hm2,by omega⟩))
    ·have gw:=eD (e:=e) (m:=E.length) hyl w
     rw [if_neg e1,if_neg (by omega),List.getElem?_eq_getElem hwA] at gw
     exact into _ _ gw hm2
   ·by_cases c2 : k=2 * E.length
    ·subst c2; exact into _ _ gN (by simp)
    ·have : k=2 * E.length+1:=by omega
     subst this
     refine into _ _ gy ?_
     rw [s4]; simp
theorem By {fw fw' : List Int} {p q : List Int} {b c : Int} (h : Cyc fw (p++b :: q)) (h' : Cyc fw' (p++c :: q)) (hp : b∉p) (hq : b∉q) :
  (∀ z,fw[b.toNat]?=some z→fw'[c.toNat]?=some (eN b c z))∧∀ z∈p++b :: q,z≠b→∀ t,fw[z.toNat]?=some t→fw'[z.toNat]?=some (eN b c t):=by
 have h1:=bS (fN h)
 have h2:=bS (fN h')
 obtain ⟨_,y1,w1,r1⟩:=h1
 obtain ⟨_,y2,w2,r2⟩:=h2
 have r1 : dm fw y1 (q++p) b:=r1
 have r2 : dm fw' y2 (q++p) c:=r2
 have hs : b∉q++p:=by simp [hp,hq]
 cases hqp : q++p with
 | nil =>
  rw [hqp] at r1 r2
  have e1 : y1=b:=r1
  have e2 : y2=c:=r2
  subst e1; subst e2
  refine ⟨fun z hz=>?_,fun z hz hne=>?_⟩
  ·rw [w1] at hz
   have : y1=z:=Option.some.inj hz
   subst this
   unfold eN
   rw [if_pos rfl]; exact w2
  ·have : z∈q++p:=by
    simp at hz ⊢
    rcases hz with h | h | h
    ·exact .inr h
    ·exact absurd h hne
    ·exact .inl h
   rw [hqp] at this
   simp at this
 | cons a s =>
  rw [hqp] at r1 r2 hs
  have e1 : a=y1:=r1.1
  have e2 : a=y2:=r2.1
  subst e1; subst e2
  have hab : a≠b:=fun e=>hs (by simp [e])
  have two:=rj r1 r2 (fun hm=>hs (List.mem_of_mem_tail hm))
  refine ⟨fun z hz=>?_,fun z hz hne t ht=>?_⟩
  ·rw [w1] at hz
   have : a=z:=Option.some.inj hz
   subst this
   unfold eN
   rw [if_neg hab]; exact w2
  ·have hzm : z∈a :: s:=by
    rw [← hqp]
    simp at hz ⊢
    rcases hz with h | h | h
    ·exact .inr h
    ·exact absurd h hne
    ·exact .inl h
   obtain ⟨q1,q2⟩:=two z hzm
   unfold eN
   by_cases c1 : t=b
   ·subst c1
    rw [if_pos rfl]; exact q1 ht
   ·rw [if_neg c1,q2 (by rw [ht]; exact fun e=>c1 (Option.some.inj e)),ht]
theorem SplitOK.next (h : SplitOK N E A e x y) {nx nx' : List Int} (hn : Fol oth E A nx) (hn' : Fol oth (cB E N e x y) (jk A e E.length y) nx') :
  nx'[2 * e]?=some ((2 * E.length : Nat) : Int)∧nx'[2 * E.length+1]?=some ((2 * e+1 : Nat) : Int) ∧
  (∀ z,nx[2 * e]?=some z→nx'[2 * E.length]?=some (eN (2 * e+1 : Nat) (2 * E.length+1 : Nat) z)) ∧
  ∀ k,k < 2 * E.length→k≠2 * e→∀ z,nx[k]?=some z→nx'[k]?=some (eN (2 * e+1 : Nat) (2 * E.length+1 : Nat) z):=by
 have hr':=h.rot'
 have hal:=h.al
 have he:=h.he
 have hy:=h.yn
 have hyl : y < A.length:=by omega
 have hlen : (cB E N e x y).length=E.length+1:=ew
 obtain ⟨fw,_,ff⟩:=cU h.rot ()
 obtain ⟨fw',_,ff'⟩:=cU hr' ()
 have gy:=eD (e:=e) (m:=E.length) hyl y
 have gN:=eD (e:=e) (m:=E.length) hyl A.length
 rw [if_pos rfl] at gy
 rw [if_neg (by omega),if_pos rfl] at gN
 obtain ⟨p,q,s1,s2,s3,s4⟩:=h.split
 rw [s4] at gy
 obtain ⟨l1,l2⟩:=By (ff.cyc (List.mem_of_getElem? s1) (by simp)) (ff'.cyc (List.mem_of_getElem? gy) (by simp)) s2 s3
 obtain ⟨_,z1,w1,w2,z2,w3,w4⟩:=bS (ff'.cyc (List.mem_of_getElem? gN) (by simp))
 have w2 : ((2 * E.length : Nat) : Int)=z1:=w2
 have w4 : z2=((2 * e+1 : Nat) : Int):=w4
 subst w2; subst w4
 rw [Int.toNat_natCast] at w1 w3
 have conv : ∀ k,k < 2 * E.length→nx[k]?=fw[oth k]?:=fun k hk=>by
  obtain ⟨y,_,h1,h2⟩:=dq h.rot hn ff hk; rw [h1,h2]
 have conv' : ∀ k,k < 2 * E.length+2→nx'[k]?=fw'[oth k]?:=fun k hk=>by
  obtain ⟨y,_,h1,h2⟩:=dq hr' hn' ff' (k:=k) (by rw [hlen]; omega); rw [h1,h2]
 refine ⟨?_,?_,fun z hz=>?_,fun k hk hne z hz=>?_⟩
 ·rw [conv' _ (by omega),cK]; exact w1
 ·rw [conv' _ (by omega),cJ]; exact w3
 ·rw [conv _ (by omega),cK] at hz
  rw [conv' _ (by omega),cK]
  have:=l1 z (by rw [Int.toNat_natCast]; exact hz)
  rwa [Int.toNat_natCast] at this
 ·rw [conv k hk] at hz
  rw [conv' k (by omega)]
  have hok:=bd hk
  have hko : oth k≠2 * e+1:=fun e1=>hne (by rw [← cv k,e1,cJ])
  obtain ⟨w,hw,hwN⟩:=h.rot.tl_lt hok
  have hwA : w < A.length:=by omega
  have hm:=h.rot.around hok hw (List.getElem?_eq_getElem hwA)
  by_cases e1 : w=y
  ·subst e1
   have hm2 : ((oth k : Nat) : Int)∈p++((2 * e+1 : Nat) : Int) :: q:=by
    rw [List.getElem?_eq_getElem hwA] at s1; rw [← Option.some.inj s1]; exact hm
   have:=l2 _ hm2 (by omega) z (by rw [Int.toNat_natCast]; exact hz)
   rwa [Int.toNat_natCast] at this
  ·have gw:=eD (e:=e) (m:=E.length) hyl w
   rw [if_neg e1,if_neg (by omega),List.getElem?_eq_getElem hwA] at gw
   obtain ⟨i,hi,e2⟩:=List.getElem_of_mem hm
   have q1:=ff.get _ (List.getElem_mem hwA) i hi
   have q2:=ff'.get _ (List.mem_of_getElem? gw) i hi
   rw [e2] at q1 q2
   simp only [id,Int.toNat_natCast] at q1 q2
   rw [q1] at hz
   have hz2:=Option.some.inj hz
   have hzin : z∈A[w]:=by
    have hm3 : (i+1) % A[w].length < A[w].length:=Nat.mod_lt _ (by omega)
    rw [← hz2,List.getD_eq_getElem?_getD,List.getElem?_eq_getElem hm3]; exact List.getElem_mem hm3
   have hzb : z≠((2 * e+1 : Nat) : Int):=fun e3=>by
    obtain ⟨k',f1,f2,f3⟩:=h.rot.dart w _ (List.getElem?_eq_getElem hwA) z hzin
    have : k'=2 * e+1:=by omega
    subst this
    rw [h.tl1] at f3
    omega
   unfold eN
   rw [q2,hz2,if_neg hzb]
def sig (e m : Nat) (z : Int) : List Int:=if z=((2 * e : Nat) : Int) then [z,((2 * m : Nat) : Int)] else if z=((2 * e+1 : Nat) : Int) then [((2 * m+1 : Nat) : Int),z] else [z]
theorem qe {nx nx' : List Int} {e m : Nat} (n0 : nx'[2 * e]?=some ((2 * m : Nat) : Int)) (n1 : nx'[2 * m+1]?=some ((2 * e+1 : Nat) : Int))
  (n2 : ∀ z,nx[2 * e]?=some z→nx'[2 * m]?=some (eN (2 * e+1 : Nat) (2 * m+1 : Nat) z)) (n3 : ∀ k,k < 2 * m→k≠2 * e→∀ z,nx[k]?=some z→nx'[k]?=some (eN (2 * e+1 : Nat) (2 * m+1 : Nat) z)) (he : e < m) :
  ∀ {s : List Int} {x z : Int},(∀ d∈s,∃ k : Nat,d=(k : Int)∧k < 2 * m)→dm nx x s z→dm nx' (eN (2 * e+1 : Nat) (2 * m+1 : Nat) x) (s.flatMap (sig e m)) (eN (2 * e+1 : Nat) (2 * m+1 : Nat) z)
 | [],x,z,_,h=>by have : x=z:=h; subst this; exact rfl
 | a :: s,x,z,hs,⟨e1,y,e2,e3⟩=>by
  subst e1
  have ih:=qe n0 n1 n2 n3 he (fun d hd=>hs d (by simp [hd])) e3
  obtain ⟨k,rfl,hk⟩:=hs a (by simp)
  rw [Int.toNat_natCast] at e2
  rw [List.flatMap_cons]
  refine cu.2 ⟨_,?_,ih⟩
  by_cases c1 : k=2 * e
  ·subst c1
   have : eN ((2 * e+1 : Nat) : Int) ((2 * m+1 : Nat) : Int) ((2 * e : Nat) : Int)=((2 * e : Nat) : Int):=by unfold eN; rw [if_neg (by omega)]
   rw [this]
   unfold sig
   rw [if_pos rfl]
   exact ⟨rfl,_,n0,rfl,_,by rw [Int.toNat_natCast]; exact n2 y e2,rfl⟩
  ·by_cases c2 : k=2 * e+1
   ·subst c2
    have : eN ((2 * e+1 : Nat) : Int) ((2 * m+1 : Nat) : Int) ((2 * e+1 : Nat) : Int)=((2 * m+1 : Nat) : Int):=by unfold eN; rw [if_pos rfl]
    rw [this]
    unfold sig
    rw [if_neg (by omega),if_pos rfl]
    exact ⟨rfl,_,n1,rfl,_,by rw [Int.toNat_natCast]; exact n3 _ (by omega) (by omega) y e2,rfl⟩
   ·have : eN ((2 * e+1 : Nat) : Int) ((2 * m+1 : Nat) : Int) (k : Int)=(k : Int):=by unfold eN; rw [if_neg (by omega)]
    rw [this]
    unfold sig
    rw [if_neg (by omega),if_neg (by omega)]
    exact ⟨rfl,_,by rw [Int.toNat_natCast]; exact n3 k hk c1 y e2,rfl⟩
theorem nz {e m : Nat} (he : e < m) : ∀ {s : List Int},(∀ d∈s,∃ k : Nat,d=(k : Int)∧k < 2 * m)→(∀ k : Nat,k < 2 * m→(s.flatMap (sig e m)).count (k : Int)=s.count (k : Int)) ∧
  (s.flatMap (sig e m)).count ((2 * m : Nat) : Int)=s.count ((2 * e : Nat) : Int)∧(s.flatMap (sig e m)).count ((2 * m+1 : Nat) : Int)=s.count ((2 * e+1 : Nat) : Int)
 | [],_=>by simp
 | a :: s,hs=>by
  obtain ⟨i1,i2,i3⟩:=nz he (s:=s) (fun d hd=>hs d (by simp [hd]))
  obtain ⟨k,rfl,hk⟩:=hs a (by simp)
  rw [List.flatMap_cons]
  have hc : ∀ z : Int,(sig e m (k : Int)).count z=(if k=2 * e then (if ((2 * e : Nat) : Int)=z then 1 else 0)+(if ((2 * m : Nat) : Int)=z then 1 else 0) else if k=2 * e+1 then (if ((2 * m+1 : Nat) : Int)=z then 1 else 0)+(if ((2 * e+1 : Nat) : Int)=z then 1 else 0) else if (k : Int)=z then 1 else 0):=by
   intro z
   unfold sig
   by_cases c1 : k=2 * e
   ·subst c1
    rw [if_pos rfl,if_pos rfl]
    simp only [List.count_cons,List.count_nil,beq_iff_eq]; omega
   ·by_cases c2 : k=2 * e+1
    ·subst c2
     rw [if_neg (by omega),if_pos rfl,if_neg (by omega),if_pos rfl]
     simp only [List.count_cons,List.count_nil,beq_iff_eq]; omega
    ·rw [if_neg (by omega),if_neg (by omega),if_neg c1,if_neg c2]
     simp only [List.count_cons,List.count_nil,beq_iff_eq]; omega
  have hd : ∀ z : Int,((k : Int) :: s).count z=s.count z+if (k : Int)=z then 1 else 0:=fun z=>by
   rw [List.count_cons]; simp only [beq_iff_eq]
  refine ⟨fun j hj=>?_,?_,?_⟩
  ·rw [List.count_append,i1 j hj,hc,hd]
   by_cases c1 : k=2 * e
   ·subst c1
    rw [if_pos rfl,if_neg (by omega : ¬ ((2 * m : Nat) : Int)=(j : Int))]; omega
   ·by_cases c2 : k=2 * e+1
    ·subst c2
     rw [if_neg (by omega),if_pos rfl,if_neg (by omega : ¬ ((2 * m+1 : Nat) : Int)=(j : Int))]; omega
    ·rw [if_neg c1,if_neg c2]; omega
  ·rw [List.count_append,i2,hc,hd]
   by_cases c1 : k=2 * e
   ·subst c1
    rw [if_pos rfl,if_neg (by omega : ¬ ((2 * e : Nat) : Int)=((2 * m : Nat) : Int)),if_pos rfl,if_pos rfl]; omega
   ·by_cases c2 : k=2 * e+1
    ·subst c2
     rw [if_neg (by omega),if_pos rfl,if_neg (by omega : ¬ ((2 * m+1 : Nat) : Int)=((2 * m : Nat) : Int)),if_neg (by omega : ¬ ((2 * e+1 : Nat) : Int)=((2 * m : Nat) : Int)),if_neg (by omega)]; omega
    ·rw [if_neg c1,if_neg c2,if_neg (by omega),if_neg (by omega)]; omega
  ·rw [List.count_append,i3,hc,hd]
   by_cases c1 : k=2 * e
   ·subst c1
    rw [if_pos rfl,if_neg (by omega : ¬ ((2 * e : Nat) : Int)=((2 * m+1 : Nat) : Int)),if_neg (by omega : ¬ ((2 * m : Nat) : Int)=((2 * m+1 : Nat) : Int)),if_neg (by omega)]; omega
   ·by_cases c2 : k=2 * e+1
    ·subst c2
     rw [if_neg (by omega),if_pos rfl,if_pos rfl,if_neg (by omega : ¬ ((2 * e+1 : Nat) : Int)=((2 * m+1 : Nat) : Int)),if_pos rfl]; omega
    ·rw [if_neg c1,if_neg c2,if_neg (by omega),if_neg (by omega)]; omega
theorem jZ (e m : Nat) : ∀ fs : List (List Int),(fs.map fun f=>f.flatMap (sig e m)).flatten=fs.flatten.flatMap (sig e m)
 | []=>rfl
 | f :: fs=>by rw [List.map_cons,List.flatten_cons,jZ e m fs,List.flatten_cons,List.flatMap_append]
theorem oM {e m : Nat} {s : List Int} (he : e < m) (hs : ∀ d∈s,∃ k : Nat,d=(k : Int)∧k < 2 * m) : ∀ d∈s.flatMap (sig e m),∃ k : Nat,d=(k : Int)∧k < 2 * m+2:=by
 intro d hd
 obtain ⟨z,hz,hdz⟩:=List.mem_flatMap.1 hd
 obtain ⟨k,rfl,hk⟩:=hs z hz
 unfold sig at hdz
 split at hdz
 ·simp at hdz
  rcases hdz with h | h
  ·exact ⟨k,h,by omega⟩
  ·exact ⟨2 * m,by omega,by omega⟩
 ·split at hdz
  ·simp at hdz
   rcases hdz with h | h
   ·exact ⟨2 * m+1,by omega,by omega⟩
   ·exact ⟨k,h,by omega⟩
  ·simp at hdz
   exact ⟨k,hdz,by omega⟩
theorem SplitOK.faces (h : SplitOK N E A e x y) {nx nx' : List Int} (hn : Fol oth E A nx) (hn' : Fol oth (cB E N e x y) (jk A e E.length y) nx') : (ab nx').length=(ab nx).length:=by
 have he:=h.he
 obtain ⟨hf,cf⟩:=bh h.rot hn
 obtain ⟨hf',cf'⟩:=bh h.rot' hn'
 have hlen : (cB E N e x y).length=E.length+1:=ew
 obtain ⟨n0,n1,n2,n3⟩:=h.next hn hn'
 rw [hlen] at hf'
 have hel : ∀ d∈(ab nx).flatten,∃ k : Nat,d=(k : Int)∧k < 2 * E.length:=fun d hd=>by
  obtain ⟨l,hl,hdl⟩:=List.mem_flatten.1 hd
  exact (hf.elem l hl).2 d hdl
 obtain ⟨c1,c2,c3⟩:=nz he hel
 have hone:=List.nodup_iff_count.1 hf.nodup
 have hg : FsOK (2 * (E.length+1)) ((ab nx).map fun f=>f.flatMap (sig e E.length)):=by
  refine ⟨?_,?_,?_,?_⟩
  ·intro g hg
   obtain ⟨f,hfm,rfl⟩:=List.mem_map.1 hg
   obtain ⟨q1,q2⟩:=hf.elem f hfm
   refine ⟨?_,fun d hd=>?_⟩
   ·cases f with
    | nil=>exact absurd rfl q1
    | cons a s =>
     rw [List.flatMap_cons]
     unfold sig
     split
     ·simp
     ·split <;> simp
   ·obtain ⟨k,e1,e2⟩:=oM he q2 d hd
    exact ⟨k,e1,by omega⟩
  ·rw [jZ,List.nodup_iff_count]
   intro z
   by_cases hz : z∈(ab nx).flatten.flatMap (sig e E.length)
   ·obtain ⟨k,rfl,hk⟩:=oM he hel z hz
    rcases Nat.lt_or_ge k (2 * E.length) with c | c
    ·rw [c1 k c]; exact hone _
    ·by_cases c4 : k=2 * E.length
     ·subst c4; rw [c2]; exact hone _
     ·have : k=2 * E.length+1:=by omega
      subst this; rw [c3]; exact hone _
   ·rw [List.count_eq_zero.2 hz]; omega
  ·intro k hk
   rw [jZ]
   refine List.count_pos_iff.1 ?_
   rcases Nat.lt_or_ge k (2 * E.length) with c | c
   ·rw [c1 k c]; exact List.count_pos_iff.2 (hf.cover k c)
   ·by_cases c4 : k=2 * E.length
    ·subst c4; rw [c2]; exact List.count_pos_iff.2 (hf.cover _ (by omega))
    ·have : k=2 * E.length+1:=by omega
     subst this; rw [c3]; exact List.count_pos_iff.2 (hf.cover _ (by omega))
  ·have:=hf.num
   rw [List.length_map]; omega
 have cg : ∀ g∈((ab nx).map fun f=>f.flatMap (sig e E.length)),Cyc nx' g:=by
  intro g hgm
  obtain ⟨f,hfm,rfl⟩:=List.mem_map.1 hgm
  have hc:=cf f hfm
  cases f with
  | nil=>exact absurd rfl hc.1
  | cons a s =>
   exact cL (qe n0 n1 n2 n3 he (hf.elem _ hfm).2 (bS hc)) ((hg.elem _ hgm).1)
 rw [mJ hf' hg cf' cg,List.length_map]
theorem SplitOK.reach (h : SplitOK N E A e x y) {a b : Nat} (ha : a < N) (hb : b < N) : Reach (cB E N e x y) a b↔Reach E a b:=by
 have he:=h.he
 have hlen : (cB E N e x y).length=E.length+1:=ew
 obtain ⟨t0,t1,t2,t3,t4⟩:=h.tails
 have hxN:=h.xn
 have hyN:=h.yn
 have exy : Reach E x y:=.step (.refl _) (k:=2 * e) (by omega) h.tl0 (by unfold hd; rw [cK]; exact h.tl1)
 constructor
 ·intro hr
  have key : ∀ {a b : Nat},Reach (cB E N e x y) a b→Reach E (if a=N then x else a) (if b=N then x else b):=by
   intro a b hr
   induction hr with
   | refl=>exact .refl _
   | @step v w k _ hk e1 e2 ih =>
    refine ih.trans ?_
    rw [hlen] at hk
    unfold hd at e2
    by_cases c1 : k=2 * e
    ·subst c1
     rw [t0] at e1
     rw [cK,t1] at e2
     rw [if_neg (by omega),if_pos (by omega),show v=x by omega]
     exact .refl _
    ·by_cases c2 : k=2 * e+1
     ·subst c2
      rw [t1] at e1
      rw [cJ,t0] at e2
      rw [if_pos (by omega),if_neg (by omega),show w=x by omega]
      exact .refl _
     ·by_cases c3 : k=2 * E.length
      ·subst c3
       rw [t2] at e1
       rw [cK,t3] at e2
       rw [if_pos (by omega),if_neg (by omega),show w=y by omega]
       exact exy
      ·by_cases c4 : k=2 * E.length+1
       ·subst c4
        rw [t3] at e1
        rw [cJ,t2] at e2
        rw [if_neg (by omega),if_pos (by omega),show v=y by omega]
        exact exy.symm
       ·have hk2 : k < 2 * E.length:=by omega
        have hok : oth k≠2 * e+1:=fun e3=>c1 (by rw [← cv k,e3,cJ])
        rw [t4 k hk2 c2] at e1
        rw [t4 _ (bd hk2) hok] at e2
        obtain ⟨v',q1,q2⟩:=h.rot.tl_lt hk2
        obtain ⟨w',q3,q4⟩:=h.rot.tl_lt (bd hk2)
        rw [if_neg (by omega),if_neg (by omega)]
        exact .step (.refl _) hk2 e1 e2
  have:=key hr
  rwa [if_neg (by omega),if_neg (by omega)] at this
 ·intro hr
  clear ha hb
  induction hr with
  | refl=>exact .refl _
  | @step v w k _ hk e1 e2 ih =>
   refine ih.trans ?_
   unfold hd at e2
   have s0 : Reach (cB E N e x y) x N:=.step (.refl _) (k:=2 * e) (by rw [hlen]; omega) t0 (by unfold hd; rw [cK]; exact t1)
   have s1 : Reach (cB E N e x y) N y:=.step (.refl _) (k:=2 * E.length) (by rw [hlen]; omega) t2 (by unfold hd; rw [cK]; exact t3)
   by_cases c1 : k=2 * e
   ·subst c1
    rw [h.tl0] at e1
    rw [cK,h.tl1] at e2
    rw [show v=x by omega,show w=y by omega]
    exact s0.trans s1
   ·by_cases c2 : k=2 * e+1
    ·subst c2
     rw [h.tl1] at e1
     rw [cJ,h.tl0] at e2
     rw [show v=y by omega,show w=x by omega]
     exact (s0.trans s1).symm
    ·have hok : oth k≠2 * e+1:=fun e3=>c1 (by rw [← cv k,e3,cJ])
     exact .step (.refl _) (k:=k) (by rw [hlen]; omega) (by rw [t4 k hk c2]; exact e1) (by unfold hd; rw [t4 _ (bd hk) hok]; exact e2)
theorem SplitOK.toN (h : SplitOK N E A e x y) : Reach (cB E N e x y) x N:=by
 have he:=h.he
 obtain ⟨t0,t1,_⟩:=h.tails
 exact .step (.refl _) (k:=2 * e) (by rw [ew]; omega) t0 (by unfold hd; rw [cK]; exact t1)
theorem SplitOK.comps (h : SplitOK N E A e x y) : comps (N+1) (cB E N e x y)=comps N E:=by
 unfold Go.Vm.comps
 rw [List.range_succ,List.countP_append]
 have h1 : gr (cB E N e x y) N=false:=by
  cases hb : gr (cB E N e x y) N with
  | false=>rfl
  | true=>exact absurd h.toN (fC.1 hb x h.xn)
 have h2 : List.countP (gr (cB E N e x y)) (List.range N)=List.countP (gr E) (List.range N):=by
  refine List.countP_congr fun v hv=>?_
  have hv:=List.mem_range.1 hv
  rw [fC,fC]
  unfold EE
  exact forall_congr' fun u=>forall_congr' fun hu=>not_congr (h.reach (by omega) hv)
 rw [h2]
 simp [h1]
theorem SplitOK.emp (h : SplitOK N E A e x y) : emp (jk A e E.length y)=emp A:=by
 have hyl : y < A.length:=by rw [h.al]; exact h.yn
 obtain ⟨p,q,s1,s2,s3,s4⟩:=h.split
 unfold jk
 have e0 : ∀ (a b : List (List Int)),Go.Vm.emp (a++b)=Go.Vm.emp a+Go.Vm.emp b:=fun a b=>List.countP_append ..
 rw [e0,uK hyl]
 ·rfl
 ·rw [s4,bn hyl]
  rw [List.getElem?_eq_getElem hyl] at s1
  rw [Option.some.inj s1]
  cases p <;> rfl
theorem SplitOK.genus (h : SplitOK N E A e x y) {nx nx' : List Int} (hn : Fol oth E A nx) (hn' : Fol oth (cB E N e x y) (jk A e E.length y) nx') :
  ud (N+1) (cB E N e x y) (jk A e E.length y) (ab nx').length=ud N E A (ab nx).length:=by
 unfold ud
 rw [h.faces hn hn',h.emp,h.comps,ew]
 congr 2
 omega
end
end Go.Vm

namespace Go.Vm
open Go.Proofs
set_option maxRecDepth 100000
attribute [local irreducible] aa
end Go.Vm


/-
 Faces are cycles; systems, how they are made.
-/
import Derived.Test.YtlbmgijhnimbbaaGreatDoorKA
set_option linter.unusedVariables false
set_option linter.unusedSimpArgs false
namespace Go.Vm
open Go.Proofs
set_option maxRecDepth 100000
attribute [local irreducible] ae
def Es (out f : List Int) (i : Int) : List Int:=f.foldl (fun o d=>o.set d.toNat i) out
def yp : List Int→Nat→List (List Int)→List Int
 | out,_,[]=>out
 | out,i,f :: fs=>yp (Es out f (i : Int)) (i+1) fs
structure FsOK (L : Nat) (fs : List (List Int)) : Prop where
 elem : ∀ f∈fs,f≠[]∧∀ d∈f,∃ k : Nat,d=(k : Int)∧k < L
 nodup : fs.flatten.Nodup
 cover : ∀ k,k < L→(k : Int)∈fs.flatten
 num : fs.length≤L
theorem FsOK.nat {L : Nat} {fs : List (List Int)} (h : FsOK L fs) : ∀ f∈fs,∀ d∈f,∃ x : Nat,d=(x : Int):=fun f hf d hd=>by
 obtain ⟨k,e,_⟩:=(h.elem f hf).2 d hd; exact ⟨k,e⟩
def FN (L : Nat) (fs : List (List Int)) : List Int:=yp (List.replicate L 0) 0 fs
section
variable {N : Nat} {E : List Arc} {A : List (List Int)}
end
end Go.Vm

namespace Go.Vm
open Go.Proofs
set_option maxRecDepth 100000
attribute [local irreducible] ae
theorem Ck {n j : Nat} (h : j < n) : ((j+n - 1) % n+1) % n=j:=by
 cases j with
 | zero =>
  have h1 : (0+n - 1) % n=n - 1:=by rw [Nat.zero_add]; exact Nat.mod_eq_of_lt (by omega)
  have h2 : n - 1+1=n:=by omega
  rw [h1,h2,Nat.mod_self]
 | succ j =>
  have h1 : (j+1+n - 1) % n=j:=by
   rw [show j+1+n - 1=j+n by omega,Nat.add_mod_right]; exact Nat.mod_eq_of_lt (by omega)
  rw [h1]; exact Nat.mod_eq_of_lt h
def Path (nx : List Int) : Int→List Int→Int→Prop
 | x,[],z=>x=z
 | x,a :: f,z=>a=x∧∃ y,nx[x.toNat]?=some y∧Path nx y f z
theorem ru (nx : List Int) : ∀ (n : Nat) (met : List Bool) (acc : List Int) (x : Int) (m : List Bool) (r : List Int),kr nx n met acc x=some (m,r)→∃ f z,r=acc++f∧Path nx x f z∧m[z.toNat]?=some true
 | 0,met,acc,x,m,r,h=>by simp [kr] at h
 | n+1,met,acc,x,m,r,h=>by
  simp only [kr] at h
  split at h
  ·rename_i hb
   have : (met,acc)=(m,r):=Option.some.inj h
   cases this
   exact ⟨[],x,by simp,rfl,hb⟩
  ·split at h
   ·rename_i y hy
    obtain ⟨f,z,h1,h2,h3⟩:=ru nx n _ _ y m r h
    exact ⟨x :: f,z,by simp [h1],⟨rfl,y,hy,h2⟩,h3⟩
   ·cases h
  ·cases h
def Cyc (nx : List Int) (f : List Int) : Prop:=f≠[]∧∀ i (h : i < f.length),nx[f[i].toNat]?=some (f.getD ((i+1) % f.length) 0)
theorem qj {nx : List Int} : ∀ {f : List Int} {x z : Int},Path nx x f z→(f++[z])[0]?=some x∧∀ i (h : i < f.length),nx[f[i].toNat]?=(f++[z])[i+1]?
 | [],x,z,h=>by
  simp only [Path] at h
  subst h
  exact ⟨rfl,fun i h=>by simp at h⟩
 | a :: f,x,z,h=>by
  obtain ⟨rfl,y,hy,h2⟩:=h
  obtain ⟨q1,q2⟩:=qj h2
  refine ⟨rfl,fun i hi=>?_⟩
  cases i with
  | zero=>simpa [hy] using q1.symm
  | succ i=>simpa using q2 i (by simpa using hi)
theorem BD {nx : List Int} {f : List Int} {x : Int} (h : Path nx x f x) (hf : f≠[]) : Cyc nx f:=by
 obtain ⟨q1,q2⟩:=qj h
 refine ⟨hf,fun i hi=>?_⟩
 rw [q2 i hi,List.getD_eq_getElem?_getD]
 by_cases e : i+1 < f.length
 ·rw [Nat.mod_eq_of_lt e,List.getElem?_append_left e,List.getElem?_eq_getElem e]; rfl
 ·have e2 : i+1=f.length:=by omega
  rw [e2,Nat.mod_self]
  have h0 : f[0]?=some x:=by
   rw [List.getElem?_append_left (by omega)] at q1; exact q1
  rw [h0]
  simp
def Inj (nx : List Int) : Prop:=∀ (a b : Nat) (y : Int),nx[a]?=some y→nx[b]?=some y→a=b
theorem BJ {nx f : List Int} (h : Cyc nx f) {j : Nat} (hj : j < f.length) : nx[(f.getD ((j+f.length - 1) % f.length) 0).toNat]?=some f[j]:=by
 have hp : (j+f.length - 1) % f.length < f.length:=Nat.mod_lt _ (by omega)
 have:=h.2 _ hp
 rw [Ck hj,List.getD_eq_getElem?_getD,List.getElem?_eq_getElem hj] at this
 rw [List.getD_eq_getElem?_getD,List.getElem?_eq_getElem hp]
 exact this
theorem sj {nx : List Int} (hinj : Inj nx) (hn : nT nx nx.length) {d : Nat} (hd : d < nx.length) {s t : List Bool×List (List Int)} (hs : FacesInv nx.length d s) (hc : ∀ f∈s.2,Cyc nx f) (ht : cE nx d s ()=some (.inl t)) : ∀ f∈t.2,Cyc nx f:=by
 have hu:=pv s.1
 obtain ⟨m,f,h1,h2,h3,h4,h5,h6,h7,h8⟩:=gI hn (nx.length+1) s.1 [] d hs.len hd (by rw [hs.len] at hu; omega)
 simp only [List.nil_append] at h1
 simp only [cE,h1,Option.map_some] at ht
 obtain ⟨f',z,e1,e2,e3⟩:=ru nx _ _ _ _ _ _ h1
 rw [List.nil_append] at e1
 subst e1
 have ht' : t=(m,cond f.isEmpty s.2 (s.2++[f])):=by cases ht; rfl
 subst ht'
 cases hf : f with
 | nil=>exact hc
 | cons a f' =>
  rw [← hf]
  have hemp : f.isEmpty=false:=by rw [hf]; rfl
  rw [hemp]
  simp only [cond_false]
  intro g hg
  rcases List.mem_append.1 hg with hg | hg
  ·exact hc g hg
  ·simp only [List.mem_singleton] at hg
   subst hg
   have hne : g≠[]:=by rw [hf]; simp
   have hpos : 0 < g.length:=List.length_pos_iff.2 hne
   obtain ⟨p1,p2⟩:=qj e2
   have g0 : g[0]=(d : Int):=by
    rw [List.getElem?_append_left hpos,List.getElem?_eq_getElem hpos] at p1
    exact Option.some.inj p1
   -- the dart before the last
   have hlast:=p2 (g.length - 1) (by omega)
   rw [show g.length - 1+1=g.length by omega,List.getElem?_append_right (Nat.le_refl _)] at hlast
   simp only [Nat.sub_self,List.getElem?_cons_zero] at hlast
   obtain ⟨u,hu1,hu2,hu3⟩:=h3 g[g.length - 1] (List.getElem_mem _)
   obtain ⟨w,hw1,hw2⟩:=hn.2 u hu2
   rw [hu1,Int.toNat_natCast,hw2] at hlast
   have hz : z=(w : Int):=(Option.some.inj hlast).symm
   subst hz
   rw [Int.toNat_natCast] at e3
   have hzd : (w : Int)=d:=by
    rcases (h4 w hw1).1 e3 with hm | hm
    ·exfalso
     obtain ⟨q,hq,hwq⟩:=List.mem_flatten.1 ((hs.met w hw1).1 hm)
     obtain ⟨j,hj,hjw⟩:=List.getElem_of_mem hwq
     have hp:=BJ (hc q hq) hj
     have hpl : (j+q.length - 1) % q.length < q.length:=Nat.mod_lt _ (by omega)
     rw [hjw] at hp
     have:=hinj _ _ _ hp hw2
     have hmem : q.getD ((j+q.length - 1) % q.length) 0∈q:=by
      rw [List.getD_eq_getElem?_getD,List.getElem?_eq_getElem hpl]; exact List.getElem_mem hpl
     obtain ⟨k,hk,_⟩:=(hs.elem q hq).2 _ hmem
     rw [hk,Int.toNat_natCast] at this
     rw [hk,this] at hmem
     rw [(hs.met u hu2).2 (List.mem_flatten.2 ⟨q,hq,hmem⟩)] at hu3
     cases hu3
    ·obtain ⟨j,hj,hjw⟩:=List.getElem_of_mem hm
     cases j with
     | zero=>rw [← hjw,g0]
     | succ j =>
      exfalso
      have hp:=p2 j (by omega)
      rw [List.getElem?_append_left hj,List.getElem?_eq_getElem hj,hjw] at hp
      obtain ⟨v,hv1,hv2,_⟩:=h3 g[j] (List.getElem_mem _)
      rw [hv1,Int.toNat_natCast] at hp
      have:=hinj _ _ _ hp hw2
      have:=jL h5 (i:=j) (j:=g.length - 1) (by omega) (by omega) (by rw [hv1,hu1,this])
      omega
   rw [hzd] at e2
   exact BD e2 hne
theorem kI {nx : List Int} (hinj : Inj nx) (hn : nT nx nx.length) : ∀ (l : List Unit) (d : Nat) (s t : List Bool×List (List Int)),d+l.length=nx.length→FacesInv nx.length d s→(∀ f∈s.2,Cyc nx f) →
  ak (cE nx) d s l=some (.inl t)→∀ f∈t.2,Cyc nx f
 | [],d,s,t,h,hs,hc,ht=>by
  simp only [ak] at ht
  cases ht
  exact hc
 | () :: l,d,s,t,h,hs,hc,ht=>by
  simp only [List.length_cons] at h
  obtain ⟨u,h1,h2⟩:=fX hn (by omega : d < nx.length) hs
  simp only [ak,h1,Option.bind_some,Sum.elim_inl] at ht
  exact kI hinj hn l (d+1) u t (by omega) h2 (sj hinj hn (by omega) hs hc h1) ht
theorem uN {nx : List Int} (hinj : Inj nx) (hn : nT nx nx.length) : ∀ f∈aW nx,Cyc nx f:=by
 obtain ⟨m,h1,_⟩:=dM hn
 exact kI hinj hn _ 0 _ _ (by simp) (f9 nx.length) (by simp) h1
def Rel (nx nx' : List Int) : Prop:=∀ (k y : Nat),nx[k]?=some (y : Int)→nx'[oth y]?=some ((oth k : Nat) : Int)
def Gw (f : List Int) : Prop:=∀ x∈f,∃ k : Nat,x=(k : Int)
end Go.Vm

namespace Go.Vm
open Go.Proofs
set_option maxRecDepth 100000
attribute [local irreducible] ae
theorem BX {i j n : Nat} (hi : i < n) (hj : j < n) (e : (i+1) % n=(j+1) % n) : i=j:=by
 rcases Nat.lt_or_ge (i+1) n with a | a <;> rcases Nat.lt_or_ge (j+1) n with b | b
 ·rw [Nat.mod_eq_of_lt a,Nat.mod_eq_of_lt b] at e; omega
 ·have : j+1=n:=by omega
  rw [Nat.mod_eq_of_lt a,this,Nat.mod_self] at e; omega
 ·have : i+1=n:=by omega
  rw [this,Nat.mod_self,Nat.mod_eq_of_lt b] at e; omega
 ·omega
section
variable {N : Nat} {E : List Arc} {A : List (List Int)} {nx : List Int}
theorem At (h : RotOK (N : Nat) E A) (hn : Fol oth E A nx) {a : Nat} {y : Int} (ha : nx[a]?=some y) :
  ∃ (v : Nat) (l : List Int) (i : Nat),A[v]?=some l∧i < l.length∧l.getD i 0=((oth a : Nat) : Int)∧y=l.getD ((i+1) % l.length) 0∧y∈l:=by
 have hk : a < 2 * E.length:=by
  have:=(List.getElem?_eq_some_iff.1 ha).1
  rw [hn.len] at this; exact this
 obtain ⟨l,hl,hd⟩:=List.mem_flatten.1 (h.mem (e8 hk))
 obtain ⟨v,hv⟩:=List.mem_iff_getElem?.1 hl
 obtain ⟨i,hi,hid⟩:=List.getElem_of_mem hd
 have g1:=hn.get l hl i hi
 have hm : (i+1) % l.length < l.length:=Nat.mod_lt _ (by omega)
 rw [hid,Int.toNat_natCast,eA,ha] at g1
 have g1:=Option.some.inj g1
 refine ⟨v,l,i,hv,hi,?_,g1,?_⟩
 ·rw [List.getD_eq_getElem?_getD,List.getElem?_eq_getElem hi,hid]; rfl
 ·rw [g1,List.getD_eq_getElem?_getD,List.getElem?_eq_getElem hm]; exact List.getElem_mem hm
theorem yP (h : RotOK (N : Nat) E A) (hn : Fol oth E A nx) : Inj nx:=by
 intro a b y ha hb
 obtain ⟨v,l,i,hv,hi,e1,e2,e3⟩:=At h hn ha
 obtain ⟨v',l',i',hv',hi',e1',e2',e3'⟩:=At h hn hb
 obtain ⟨k,rfl,_,hk⟩:=h.dart v l hv y e3
 obtain ⟨k',hkk,_,hk'⟩:=h.dart v' l' hv' _ e3'
 have : k=k':=by omega
 subst this
 have : v=v':=by omega
 subst this
 rw [hv] at hv'
 have : l=l':=Option.some.inj hv'
 subst this
 have hnd : l.Nodup:=h.nodup.sublist (List.sublist_flatten_of_mem (List.mem_of_getElem? hv))
 have hm : (i+1) % l.length < l.length:=Nat.mod_lt _ (by omega)
 have hm' : (i'+1) % l.length < l.length:=Nat.mod_lt _ (by omega)
 rw [e2,List.getD_eq_getElem?_getD,List.getD_eq_getElem?_getD,List.getElem?_eq_getElem hm,List.getElem?_eq_getElem hm'] at e2'
 have e2' : l[(i+1) % l.length]=l[(i'+1) % l.length]:=e2'
 have e : (i+1) % l.length=(i'+1) % l.length:=by
  rcases Nat.lt_trichotomy ((i+1) % l.length) ((i'+1) % l.length) with c | c | c
  ·exact absurd e2' (List.pairwise_iff_getElem.1 hnd _ _ hm hm' c)
  ·exact c
  ·exact absurd e2'.symm (List.pairwise_iff_getElem.1 hnd _ _ hm' hm c)
 have : i=i':=BX hi hi' e
 subst this
 rw [e1] at e1'
 have : oth a=oth b:=by omega
 rw [← eA a,this,eA]
end
end Go.Vm

namespace Go.Vm
open Go.Proofs
set_option maxRecDepth 100000
attribute [local irreducible] ae
theorem rX {nx : List Int} : ∀ {f : List Int} {x z : Int},(f++[z])[0]?=some x→(∀ i (h : i < f.length),nx[f[i].toNat]?=(f++[z])[i+1]?)→Path nx x f z
 | [],x,z,h,_=>by simpa [Path] using h.symm
 | a :: f,x,z,h,h2=>by
  have hx : a=x:=by simpa using h
  have h0:=h2 0 (by simp)
  obtain ⟨y,hy⟩ : ∃ y,(f++[z])[0]?=some y:=⟨_,List.getElem?_eq_getElem (by simp)⟩
  refine ⟨hx,y,?_,rX hy fun i hi=>?_⟩
  ·rw [← hx]
   rw [show ((a :: f)++[z])[0+1]?=(f++[z])[0]? from rfl,hy] at h0
   simpa using h0
  ·have:=h2 (i+1) (by simpa using hi)
   simpa using this
end Go.Vm

namespace Go.Vm
open Go.Proofs
set_option maxRecDepth 100000
attribute [local irreducible] ae
theorem tF {l : List Int} (hn : l.Nodup) {k : Nat} {f : Int} (hk : l[k]?=some f) : l=l.take k++f :: l.drop (k+1)∧f∉l.take k∧f∉l.drop (k+1):=by
 have hlt : k < l.length:=(List.getElem?_eq_some_iff.1 hk).1
 have hf : l[k]=f:=(List.getElem?_eq_some_iff.1 hk).2
 have e : l=l.take k++f :: l.drop (k+1):=by
  rw [← hf,← List.drop_eq_getElem_cons hlt,List.take_append_drop]
 have h2:=hn
 rw [e,List.nodup_append,List.nodup_cons] at h2
 exact ⟨e,fun hm=>h2.2.2 f hm f (by simp) rfl,h2.2.1.1⟩
theorem RotOK.list_nodup {N : Int} {E : List Arc} {A : List (List Int)} (h : RotOK N E A) {l : List Int} (hl : l∈A) : l.Nodup:=h.nodup.sublist (List.sublist_flatten_of_mem hl)
section
variable {N : Nat} {E : List Arc} {A : List (List Int)} {nx : List Int}
theorem RotOK.split (h : RotOK (N : Nat) E A) {k w : Nat} (hk : k < 2 * E.length) (hw : tl E k=w) (hwN : w < N) : ∃ p q,A[w]?=some (p++(k : Int) :: q)∧oA A w=p++(k : Int) :: q∧(k : Int)∉p∧(k : Int)∉q:=by
 have hal : A.length=N:=by have:=h.len; omega
 have hlt : w < A.length:=by omega
 have hm:=h.around hk hw (List.getElem?_eq_getElem hlt)
 obtain ⟨i,hi⟩:=List.mem_iff_getElem?.1 hm
 have hn:=h.list_nodup (List.getElem_mem hlt)
 obtain ⟨e,n1,n2⟩:=tF hn hi
 exact ⟨_,_,by rw [List.getElem?_eq_getElem hlt]; exact congrArg some e,by rw [fU hlt]; exact e,n1,n2⟩
end
section
variable {N : Nat} {E : List Arc} {A : List (List Int)} {nx : List Int}
theorem vq {nx : List Int} (h : RotOK (N : Nat) E A) (hn : Fol oth E A nx) : FsOK (2 * E.length) (aW nx)∧∀ g∈aW nx,Cyc nx g:=by
 have hnx:=Fol.nxOK h hn
 refine ⟨?_,uN (yP h hn) hnx⟩
 obtain ⟨m,_,hi⟩:=dM hnx
 have hL : nx.length=2 * E.length:=hn.len
 rw [hL] at hi
 refine ⟨hi.elem,hi.nodup,fun k hk=>hi.cover k hk hk,?_⟩
 have:=hi.num
 show (aW nx).length≤_
 have h2 : (aW nx).length+unm m≤2 * E.length:=this
 omega
end
def emp (A : List (List Int)) : Nat:=A.countP fun l=>l.isEmpty
noncomputable def EM (N : Nat) (E : List Arc) (A : List (List Int)) (F : Nat) : Int:=cl .i64 (qa N E : Nat) (kq .i64 ((N : Int) - E.length+(F+emp A : Nat)) 2)
def c7 (_ : Nat) (n : Int) (l : List Int) : Option (Int⊕Empty):=some (.inl (cond (eqI (l.length : Nat) 0) (aT .i64 n 1) n))
theorem pW : ∀ (A : List (List Int)) (i n : Nat),n+A.length≤1000000→ak c7 i (n : Int) A=some (.inl ((n+emp A : Nat) : Int))
 | [],i,n,_=>rfl
 | l :: A,i,n,h=>by
  simp only [List.length_cons] at h
  cases l with
  | nil =>
   have e : c7 i (n : Int) []=some (.inl ((n+1 : Nat) : Int)):=by
    unfold c7
    rw [lK (by rfl),cond_true,sV (by omega) (by omega)]; rfl
   simp only [ak,e,Option.bind_some,Sum.elim_inl]
   rw [pW A (i+1) (n+1) (by omega)]
   unfold emp
   simp only [List.countP_cons,List.isEmpty_nil,if_true]
   rw [show n+1+List.countP (fun l=>l.isEmpty) A=n+(List.countP (fun l=>l.isEmpty) A+1) by omega]
  | cons a l =>
   have e : c7 i (n : Int) (a :: l)=some (.inl (n : Int)):=by
    unfold c7
    rw [fb (by simp; omega),cond_false]
   simp only [ak,e,Option.bind_some,Sum.elim_inl]
   rw [pW A (i+1) n (by omega)]
   unfold emp
   simp [List.countP_cons]
theorem RotOK.lists {N : Int} {E : List Arc} {A : List (List Int)} (h : RotOK N E A) : ∀ l∈A,l.length≤9223372036854775807:=fun l hl=>by have:=h.list_len hl; have:=h.m1; omega
section
variable {N : Nat} {E : List Arc} {A : List (List Int)} {nx : List Int}
theorem RotOK.al (h : RotOK (N : Nat) E A) : A.length=N:=by have:=h.len; omega
theorem RotOK.n16 (h : RotOK (N : Nat) E A) : N≤16384:=by have:=h.n1; omega
theorem Cg (h : RotOK (N : Nat) E A) {nx mx : List Int} (hn : Fol oth E A nx) (hm : Fol oth E A mx) : mx=nx:=by
 refine List.ext_getElem? fun k=>?_
 by_cases hk : k < 2 * E.length
 ·obtain ⟨fw,_,ff⟩:=oC h ()
  obtain ⟨y,_,h1,h2⟩:=pB h hn ff hk
  obtain ⟨y',_,h1',h2'⟩:=pB h hm ff hk
  rw [h2] at h2'
  rw [h1,h1',h2']
 ·rw [List.getElem?_eq_none (by rw [hm.len]; omega),List.getElem?_eq_none (by rw [hn.len]; omega)]
theorem zD (h : RotOK (N : Nat) E A) (hn : Fol oth E A nx) : Zab (((N : Int),E,A,()),())=some (aW nx,())∧Zl (((N : Int),E,A,()),())=some (aW nx,()):=by
 obtain ⟨mx,m,_,f1,_,r1,r2⟩:=wE h h.validB h.lists
 rw [Cg h hn f1] at r1 r2
 exact ⟨r1,r2⟩
theorem zS (h : RotOK (N : Nat) E A) (hn : Fol oth E A nx) : Zz (((N : Int),E,A,()),())=some (EM N E A (aW nx).length,())∧Zo (((N : Int),E,A,()),())=some (EM N E A (aW nx).length,()):=by
 have hal:=h.al
 have hn16:=h.n16
 have hm1:=h.m1
 obtain ⟨r1,r2⟩:=zD h hn
 have hF:=(vq h hn).1.num
 have hemp : emp A≤A.length:=List.countP_le_length
 have k1:=pR (B:=uJ) (fun n i=>((N : Int),E,A,n,A,((A.length : Nat) : Int),(i : Int),())) (fun n=>.inl ((N : Int),E,A,n,())) (fun e=>nomatch e) c7 A (by
  intro n i l hd'
  have hi : i < A.length:=(List.getElem?_eq_some_iff.1 hd').1
  simp only [uJ,c7]
  rw [aX (by omega),cond_true,aw,hd',Option.bind_some,cG (a:=i) (by omega)]
  cases eqI ((l.length : Nat) : Int) 0 <;> rfl) (by
  intro n
  simp only [uJ]
  rw [aQ (by omega)]; rfl) ((aW nx).length : Int)
 have k2:=pR (B:=tC) (fun n i=>(((A.length : Nat) : Int),E,A,n,(i : Int),())) (fun n=>.inl (((A.length : Nat) : Int),E,A,n,())) (fun e=>nomatch e) c7 A (by
  intro n i l hd'
  have hi : i < A.length:=(List.getElem?_eq_some_iff.1 hd').1
  simp only [tC,c7]
  rw [aX (by omega),cond_true,aw,hd',Option.bind_some,cG (a:=i) (by omega)]
  cases eqI ((l.length : Nat) : Int) 0 <;> rfl) (by
  intro n
  simp only [tC]
  rw [aQ (by omega)]; rfl) ((aW nx).length : Int)
 rw [pW A 0 _ (by omega)] at k1 k2
 have e1 : aT .i64 (cl .i64 (N : Int) (E.length : Nat)) (((aW nx).length+emp A : Nat) : Int)=(N : Int) - E.length+((aW nx).length+emp A : Nat):=by
  rw [kP (by omega) (by omega),sV (by omega) (by omega)]
 constructor
 ·unfold Zz
  simp only
  rw [lY ((N : Int),E,A,()) h.lists,h.validB,Option.bind_some]
  simp only [Bool.not_true,cond_false]
  rw [r1,Option.bind_some]
  simp only
  rw [show Au ((N : Int),E,A,((aW nx).length : Nat),A,(A.length : Nat),0,())=_ from k1]
  simp only [Option.bind_some,Sum.elim_inl]
  rw [yR h]
  simp only [Option.bind_some]
  rw [e1]; rfl
 ·unfold Zo
  simp only
  rw [hU ((N : Int),E,A,()) h.lists,h.validB,Option.bind_some]
  simp only [Bool.not_true,cond_false]
  rw [r2,Option.bind_some]
  simp only
  have k2' : Cp ((N : Int),E,A,((aW nx).length : Nat),0,())=some (.inl ((N : Int),E,A,(((aW nx).length+emp A : Nat) : Int),())):=by
   rw [show (N : Int)=((A.length : Nat) : Int) by omega]; exact k2
  rw [k2']
  simp only [Option.bind_some,Sum.elim_inl]
  rw [vQ h]
  simp only [Option.bind_some]
  rw [e1]; rfl
end
end Go.Vm


/-
 Faces are cycles; systems, how they are made; places in a list.
-/
import Derived.Test.YtnnbdielbgljaaaDoorKA
set_option linter.unusedVariables false
set_option linter.unusedSimpArgs false
namespace Go.Vm
open Go.Proofs
set_option maxRecDepth 100000
attribute [local irreducible] ab
def gF (out f : List Int) (i : Int) : List Int:=f.foldl (fun o d=>o.set d.toNat i) out
def gh : List Int→Nat→List (List Int)→List Int
 | out,_,[]=>out
 | out,i,f :: fs=>gh (gF out f (i : Int)) (i+1) fs
theorem jo (i : Int) : ∀ (f out : List Int),(gF out f i).length=out.length
 | [],out=>rfl
 | d :: f,out=>by
  show (gF (out.set d.toNat i) f i).length=_
  rw [jo i f]; simp
theorem oR : ∀ (fs : List (List Int)) (out : List Int) (i : Nat),(gh out i fs).length=out.length
 | [],_,_=>rfl
 | f :: fs,out,i=>by unfold gh; rw [oR fs,jo]
theorem mq (i : Int) {k : Nat} : ∀ {f out : List Int},(∀ d∈f,∃ x : Nat,d=(x : Int))→(k : Int)∉f→(gF out f i)[k]?=out[k]?
 | [],out,_,_=>rfl
 | d :: f,out,hd,hk=>by
  show (gF (out.set d.toNat i) f i)[k]?=_
  obtain ⟨x,rfl⟩:=hd d (by simp)
  rw [mq i (fun d hd'=>hd d (by simp [hd'])) (fun h=>hk (by simp [h])),List.getElem?_set]
  rw [if_neg]
  intro e
  simp only [Int.toNat_natCast] at e
  subst e
  exact hk (by simp)
theorem rg (i : Int) {k : Nat} : ∀ {f out : List Int},(∀ d∈f,∃ x : Nat,d=(x : Int))→(k : Int)∈f→k < out.length→(gF out f i)[k]?=some i
 | [],out,_,hk,_=>by simp at hk
 | d :: f,out,hd,hk,hl=>by
  show (gF (out.set d.toNat i) f i)[k]?=_
  have hd' : ∀ d∈f,∃ x : Nat,d=(x : Int):=fun d hd'=>hd d (by simp [hd'])
  by_cases hf : (k : Int)∈f
  ·exact rg i hd' hf (by simpa using hl)
  ·rw [mq i hd' hf]
   rcases List.mem_cons.1 hk with rfl | hk
   ·simp [hl]
   ·exact absurd hk hf
theorem oX {k : Nat} : ∀ {fs : List (List Int)} {out : List Int} {i : Nat},(∀ f∈fs,∀ d∈f,∃ x : Nat,d=(x : Int))→(k : Int)∉fs.flatten→(gh out i fs)[k]?=out[k]?
 | [],_,_,_,_=>rfl
 | f :: fs,out,i,hd,hk=>by
  unfold gh
  simp only [List.flatten_cons,List.mem_append,not_or] at hk
  rw [oX (fun f hf=>hd f (by simp [hf])) hk.2,mq _ (hd f (by simp)) hk.1]
theorem oY {k : Nat} : ∀ {fs : List (List Int)} {out : List Int} {i j : Nat} {f : List Int},(∀ f∈fs,∀ d∈f,∃ x : Nat,d=(x : Int))→fs.flatten.Nodup→fs[j]?=some f→(k : Int)∈f→k < out.length→(gh out i fs)[k]?=some ((i+j : Nat) : Int)
 | [],_,_,_,_,_,_,h,_,_=>by simp at h
 | g :: fs,out,i,j,f,hd,hn,hj,hk,hl=>by
  unfold gh
  rw [List.flatten_cons,List.nodup_append] at hn
  obtain ⟨_,n2,n3⟩:=hn
  cases j with
  | zero =>
   simp at hj
   subst hj
   rw [oX (fun f hf=>hd f (by simp [hf])) (fun h=>n3 _ hk _ h rfl),rg _ (hd g (by simp)) hk hl]
   rfl
  | succ j =>
   rw [oY (j:=j) (fun f hf=>hd f (by simp [hf])) n2 (by simpa using hj) hk (by rw [jo]; exact hl)]
   congr 2
   omega
theorem wU (i : Int) : ∀ (f : List Int) (j : Nat) (out : List Int),aw (fun _ out (d : Int)=>some (.inl (out.set d.toNat i) : List Int⊕Empty)) j out f=some (.inl (gF out f i))
 | [],_,_=>rfl
 | d :: f,j,out=>by
  simp only [aw,Option.bind_some,Sum.elim_inl]
  exact wU i f (j+1) _
theorem sQ : ∀ (fs : List (List Int)) (i : Nat) (out : List Int),aw (fun i out (f : List Int)=>some (.inl (gF out f (i : Int)) : List Int⊕Empty)) i out fs=some (.inl (gh out i fs))
 | [],_,_=>rfl
 | f :: fs,i,out=>by
  simp only [aw,Option.bind_some,Sum.elim_inl]
  exact sQ fs (i+1) _
structure FsOK (L : Nat) (fs : List (List Int)) : Prop where
 elem : ∀ f∈fs,f≠[]∧∀ d∈f,∃ k : Nat,d=(k : Int)∧k < L
 nodup : fs.flatten.Nodup
 cover : ∀ k,k < L→(k : Int)∈fs.flatten
 num : fs.length≤L
theorem FsOK.nat {L : Nat} {fs : List (List Int)} (h : FsOK L fs) : ∀ f∈fs,∀ d∈f,∃ x : Nat,d=(x : Int):=fun f hf d hd=>by
 obtain ⟨k,e,_⟩:=(h.elem f hf).2 d hd; exact ⟨k,e⟩
theorem FsOK.flen {L : Nat} {fs : List (List Int)} (h : FsOK L fs) (hL : L≤65536) : ∀ f∈fs,f.length≤L:=by
 intro f hf
 have hn : f.Nodup:=h.nodup.sublist (List.sublist_flatten_of_mem hf)
 have hn2 : (f.map Int.toNat).Nodup:=by
  refine List.pairwise_map.2 (List.Pairwise.imp_of_mem (fun {a b} ha hb hab e=>?_) hn)
  obtain ⟨x,rfl,_⟩:=(h.elem f hf).2 a ha
  obtain ⟨y,rfl,_⟩:=(h.elem f hf).2 b hb
  simp at e
  omega
 have:=eX L (f.map Int.toNat) hn2 (by
  intro x hx
  obtain ⟨d,hd,rfl⟩:=List.mem_map.1 hx
  obtain ⟨k,rfl,hk⟩:=(h.elem f hf).2 d hd
  simpa using hk)
 simpa using this
def gk (L : Nat) (fs : List (List Int)) : List Int:=gh (List.replicate L 0) 0 fs
theorem vF {L : Nat} {fs : List (List Int)} : (gk L fs).length=L:=by unfold gk; rw [oR]; simp
theorem jy {L : Nat} {fs : List (List Int)} (h : FsOK L fs) {j k : Nat} {f : List Int} (hj : fs[j]?=some f) (hk : (k : Int)∈f) : (gk L fs)[k]?=some (j : Int):=by
 obtain ⟨x,e,hx⟩:=(h.elem f (List.mem_of_getElem? hj)).2 _ hk
 have : k=x:=by omega
 subst this
 unfold gk
 rw [oY h.nat h.nodup hj hk (by simpa using hx)]
 simp
theorem FsOK.face {L : Nat} {fs : List (List Int)} (h : FsOK L fs) {k : Nat} (hk : k < L) : ∃ j f,fs[j]?=some f∧(k : Int)∈f∧j < fs.length:=by
 obtain ⟨f,hf,hkf⟩:=List.mem_flatten.1 (h.cover k hk)
 obtain ⟨j,hj⟩:=List.mem_iff_getElem?.1 hf
 exact ⟨j,f,hj,hkf,(List.getElem?_eq_some_iff.1 hj).1⟩
theorem eL {L : Nat} {fs : List (List Int)} (h : FsOK L fs) {k : Nat} (hk : k < L) : ∃ j : Nat,j < fs.length∧(gk L fs)[k]?=some (j : Int)∧∃ f,fs[j]?=some f∧(k : Int)∈f:=by
 obtain ⟨j,f,h1,h2,h3⟩:=h.face hk
 exact ⟨j,h3,jy h h1 h2,f,h1,h2⟩
section
variable {N : Nat} {E : List Arc} {A : List (List Int)}
end
end Go.Vm

namespace Go.Vm
open Go.Proofs
set_option maxRecDepth 100000
attribute [local irreducible] ab
theorem Cw {n j : Nat} (h : j < n) : ((j+n - 1) % n+1) % n=j:=by
 cases j with
 | zero =>
  have h1 : (0+n - 1) % n=n - 1:=by rw [Nat.zero_add]; exact Nat.mod_eq_of_lt (by omega)
  have h2 : n - 1+1=n:=by omega
  rw [h1,h2,Nat.mod_self]
 | succ j =>
  have h1 : (j+1+n - 1) % n=j:=by
   rw [show j+1+n - 1=j+n by omega,Nat.add_mod_right]; exact Nat.mod_eq_of_lt (by omega)
  rw [h1]; exact Nat.mod_eq_of_lt h
def dd (nx : List Int) : Int→List Int→Int→Prop
 | x,[],z=>x=z
 | x,a :: f,z=>a=x∧∃ y,nx[x.toNat]?=some y∧dd nx y f z
theorem tF (nx : List Int) : ∀ (n : Nat) (met : List Bool) (acc : List Int) (x : Int) (m : List Bool) (r : List Int),lB nx n met acc x=some (m,r)→∃ f z,r=acc++f∧dd nx x f z∧m[z.toNat]?=some true
 | 0,met,acc,x,m,r,h=>by simp [lB] at h
 | n+1,met,acc,x,m,r,h=>by
  simp only [lB] at h
  split at h
  ·rename_i hb
   have : (met,acc)=(m,r):=Option.some.inj h
   cases this
   exact ⟨[],x,by simp,rfl,hb⟩
  ·split at h
   ·rename_i y hy
    obtain ⟨f,z,h1,h2,h3⟩:=tF nx n _ _ y m r h
    exact ⟨x :: f,z,by simp [h1],⟨rfl,y,hy,h2⟩,h3⟩
   ·cases h
  ·cases h
def Cyc (nx : List Int) (f : List Int) : Prop:=f≠[]∧∀ i (h : i < f.length),nx[f[i].toNat]?=some (f.getD ((i+1) % f.length) 0)
theorem rJ {nx : List Int} : ∀ {f : List Int} {x z : Int},dd nx x f z→(f++[z])[0]?=some x∧∀ i (h : i < f.length),nx[f[i].toNat]?=(f++[z])[i+1]?
 | [],x,z,h=>by
  simp only [dd] at h
  subst h
  exact ⟨rfl,fun i h=>by simp at h⟩
 | a :: f,x,z,h=>by
  obtain ⟨rfl,y,hy,h2⟩:=h
  obtain ⟨q1,q2⟩:=rJ h2
  refine ⟨rfl,fun i hi=>?_⟩
  cases i with
  | zero=>simpa [hy] using q1.symm
  | succ i=>simpa using q2 i (by simpa using hi)
theorem dn {nx : List Int} {f : List Int} {x : Int} (h : dd nx x f x) (hf : f≠[]) : Cyc nx f:=by
 obtain ⟨q1,q2⟩:=rJ h
 refine ⟨hf,fun i hi=>?_⟩
 rw [q2 i hi,List.getD_eq_getElem?_getD]
 by_cases e : i+1 < f.length
 ·rw [Nat.mod_eq_of_lt e,List.getElem?_append_left e,List.getElem?_eq_getElem e]; rfl
 ·have e2 : i+1=f.length:=by omega
  rw [e2,Nat.mod_self]
  have h0 : f[0]?=some x:=by
   rw [List.getElem?_append_left (by omega)] at q1; exact q1
  rw [h0]
  simp
def Inj (nx : List Int) : Prop:=∀ (a b : Nat) (y : Int),nx[a]?=some y→nx[b]?=some y→a=b
theorem Cq {nx f : List Int} (h : Cyc nx f) {j : Nat} (hj : j < f.length) : nx[(f.getD ((j+f.length - 1) % f.length) 0).toNat]?=some f[j]:=by
 have hp : (j+f.length - 1) % f.length < f.length:=Nat.mod_lt _ (by omega)
 have:=h.2 _ hp
 rw [Cw hj,List.getD_eq_getElem?_getD,List.getElem?_eq_getElem hj] at this
 rw [List.getD_eq_getElem?_getD,List.getElem?_eq_getElem hp]
 exact this
theorem vp {nx : List Int} (hinj : Inj nx) (hn : iv nx nx.length) {d : Nat} (hd : d < nx.length) {s t : List Bool×List (List Int)} (hs : FacesInv nx.length d s) (hc : ∀ f∈s.2,Cyc nx f) (ht : dp nx d s ()=some (.inl t)) : ∀ f∈t.2,Cyc nx f:=by
 have hu:=qT s.1
 obtain ⟨m,f,h1,h2,h3,h4,h5,h6,h7,h8⟩:=i9 hn (nx.length+1) s.1 [] d hs.len hd (by rw [hs.len] at hu; omega)
 simp only [List.nil_append] at h1
 simp only [dp,h1,Option.map_some] at ht
 obtain ⟨f',z,e1,e2,e3⟩:=tF nx _ _ _ _ _ _ h1
 rw [List.nil_append] at e1
 subst e1
 have ht' : t=(m,cond f.isEmpty s.2 (s.2++[f])):=by cases ht; rfl
 subst ht'
 cases hf : f with
 | nil=>exact hc
 | cons a f' =>
  rw [← hf]
  have hemp : f.isEmpty=false:=by rw [hf]; rfl
  rw [hemp]
  simp only [cond_false]
  intro g hg
  rcases List.mem_append.1 hg with hg | hg
  ·exact hc g hg
  ·simp only [List.mem_singleton] at hg
   subst hg
   have hne : g≠[]:=by rw [hf]; simp
   have hpos : 0 < g.length:=List.length_pos_iff.2 hne
   obtain ⟨p1,p2⟩:=rJ e2
   have g0 : g[0]=(d : Int):=by
    rw [List.getElem?_append_left hpos,List.getElem?_eq_getElem hpos] at p1
    exact Option.some.inj p1
   -- the dart before the last
   have hlast:=p2 (g.length - 1) (by omega)
   rw [show g.length - 1+1=g.length by omega,List.getElem?_append_right (Nat.le_refl _)] at hlast
   simp only [Nat.sub_self,List.getElem?_cons_zero] at hlast
   obtain ⟨u,hu1,hu2,hu3⟩:=h3 g[g.length - 1] (List.getElem_mem _)
   obtain ⟨w,hw1,hw2⟩:=hn.2 u hu2
   rw [hu1,Int.toNat_natCast,hw2] at hlast
   have hz : z=(w : Int):=(Option.some.inj hlast).symm
   subst hz
   rw [Int.toNat_natCast] at e3
   have hzd : (w : Int)=d:=by
    rcases (h4 w hw1).1 e3 with hm | hm
    ·exfalso
     obtain ⟨q,hq,hwq⟩:=List.mem_flatten.1 ((hs.met w hw1).1 hm)
     obtain ⟨j,hj,hjw⟩:=List.getElem_of_mem hwq
     have hp:=Cq (hc q hq) hj
     have hpl : (j+q.length - 1) % q.length < q.length:=Nat.mod_lt _ (by omega)
     rw [hjw] at hp
     have:=hinj _ _ _ hp hw2
     have hmem : q.getD ((j+q.length - 1) % q.length) 0∈q:=by
      rw [List.getD_eq_getElem?_getD,List.getElem?_eq_getElem hpl]; exact List.getElem_mem hpl
     obtain ⟨k,hk,_⟩:=(hs.elem q hq).2 _ hmem
     rw [hk,Int.toNat_natCast] at this
     rw [hk,this] at hmem
     rw [(hs.met u hu2).2 (List.mem_flatten.2 ⟨q,hq,hmem⟩)] at hu3
     cases hu3
    ·obtain ⟨j,hj,hjw⟩:=List.getElem_of_mem hm
     cases j with
     | zero=>rw [← hjw,g0]
     | succ j =>
      exfalso
      have hp:=p2 j (by omega)
      rw [List.getElem?_append_left hj,List.getElem?_eq_getElem hj,hjw] at hp
      obtain ⟨v,hv1,hv2,_⟩:=h3 g[j] (List.getElem_mem _)
      rw [hv1,Int.toNat_natCast] at hp
      have:=hinj _ _ _ hp hw2
      have:=iR h5 (i:=j) (j:=g.length - 1) (by omega) (by omega) (by rw [hv1,hu1,this])
      omega
   rw [hzd] at e2
   exact dn e2 hne
theorem lH {nx : List Int} (hinj : Inj nx) (hn : iv nx nx.length) : ∀ (l : List Unit) (d : Nat) (s t : List Bool×List (List Int)),d+l.length=nx.length→FacesInv nx.length d s→(∀ f∈s.2,Cyc nx f) →
  aw (dp nx) d s l=some (.inl t)→∀ f∈t.2,Cyc nx f
 | [],d,s,t,h,hs,hc,ht=>by
  simp only [aw] at ht
  cases ht
  exact hc
 | () :: l,d,s,t,h,hs,hc,ht=>by
  simp only [List.length_cons] at h
  obtain ⟨u,h1,h2⟩:=ii hn (by omega : d < nx.length) hs
  simp only [aw,h1,Option.bind_some,Sum.elim_inl] at ht
  exact lH hinj hn l (d+1) u t (by omega) h2 (vp hinj hn (by omega) hs hc h1) ht
theorem wV {nx : List Int} (hinj : Inj nx) (hn : iv nx nx.length) : ∀ f∈aa nx,Cyc nx f:=by
 obtain ⟨m,h1,_⟩:=eJ hn
 exact lH hinj hn _ 0 _ _ (by simp) (il nx.length) (by simp) h1
def Rel (nx nx' : List Int) : Prop:=∀ (k y : Nat),nx[k]?=some (y : Int)→nx'[oth y]?=some ((oth k : Nat) : Int)
def FO (f : List Int) : Prop:=∀ x∈f,∃ k : Nat,x=(k : Int)
theorem c9 {nx f : List Int} (h : Cyc nx f) {k y : Nat} (hk : (k : Int)∈f) (hy : nx[k]?=some (y : Int)) : (y : Int)∈f:=by
 obtain ⟨i,hi,e⟩:=List.getElem_of_mem hk
 have:=h.2 i hi
 have hm : (i+1) % f.length < f.length:=Nat.mod_lt _ (by omega)
 rw [e,Int.toNat_natCast,hy,List.getD_eq_getElem?_getD,List.getElem?_eq_getElem hm] at this
 have : (y : Int)=f[(i+1) % f.length]:=Option.some.inj this
 rw [this]; exact List.getElem_mem hm
end Go.Vm

namespace Go.Vm
open Go.Proofs
set_option maxRecDepth 100000
attribute [local irreducible] ab
theorem sN {α : Type} (p : α→Bool) : ∀ (l : List α) (i : Nat),(aw (fun i (_ : Unit) a=>some (cond (p a) (.inr (i : Nat)) (.inl ()))) i () l=some (.inl ())∧∀ a∈l,p a=false) ∨
  ∃ k a,l[k]?=some a∧p a=true∧aw (fun i (_ : Unit) a=>some (cond (p a) (.inr (i : Nat)) (.inl ()))) i () l=some (.inr (i+k))
 | [],i=>.inl ⟨rfl,by simp⟩
 | a :: l,i=>by
  simp only [aw,Option.bind_some]
  cases h : p a with
  | true=>exact .inr ⟨0,a,rfl,h,rfl⟩
  | false =>
   simp only [cond_false,Sum.elim_inl]
   rcases sN p l (i+1) with ⟨h1,h2⟩ | ⟨k,b,h1,h2,h3⟩
   ·exact .inl ⟨h1,fun b hb=>by
     rcases List.mem_cons.1 hb with rfl | hb
     ·exact h
     ·exact h2 b hb⟩
   ·exact .inr ⟨k+1,b,by simpa using h1,h2,by rw [h3]; congr 2; omega⟩
theorem Cz {i j n : Nat} (hi : i < n) (hj : j < n) (e : (i+1) % n=(j+1) % n) : i=j:=by
 rcases Nat.lt_or_ge (i+1) n with a | a <;> rcases Nat.lt_or_ge (j+1) n with b | b
 ·rw [Nat.mod_eq_of_lt a,Nat.mod_eq_of_lt b] at e; omega
 ·have : j+1=n:=by omega
  rw [Nat.mod_eq_of_lt a,this,Nat.mod_self] at e; omega
 ·have : i+1=n:=by omega
  rw [this,Nat.mod_self,Nat.mod_eq_of_lt b] at e; omega
 ·omega
section
variable {N : Nat} {E : List Arc} {A : List (List Int)} {nx : List Int}
theorem xx (h : RotOK (N : Nat) E A) (hn : Fol oth E A nx) {a : Nat} {y : Int} (ha : nx[a]?=some y) :
  ∃ (v : Nat) (l : List Int) (i : Nat),A[v]?=some l∧i < l.length∧l.getD i 0=((oth a : Nat) : Int)∧y=l.getD ((i+1) % l.length) 0∧y∈l:=by
 have hk : a < 2 * E.length:=by
  have:=(List.getElem?_eq_some_iff.1 ha).1
  rw [hn.len] at this; exact this
 obtain ⟨l,hl,hd⟩:=List.mem_flatten.1 (h.mem (ay hk))
 obtain ⟨v,hv⟩:=List.mem_iff_getElem?.1 hl
 obtain ⟨i,hi,hid⟩:=List.getElem_of_mem hd
 have g1:=hn.get l hl i hi
 have hm : (i+1) % l.length < l.length:=Nat.mod_lt _ (by omega)
 rw [hid,Int.toNat_natCast,bt,ha] at g1
 have g1:=Option.some.inj g1
 refine ⟨v,l,i,hv,hi,?_,g1,?_⟩
 ·rw [List.getD_eq_getElem?_getD,List.getElem?_eq_getElem hi,hid]; rfl
 ·rw [g1,List.getD_eq_getElem?_getD,List.getElem?_eq_getElem hm]; exact List.getElem_mem hm
theorem iK (h : RotOK (N : Nat) E A) (hn : Fol oth E A nx) : Inj nx:=by
 intro a b y ha hb
 obtain ⟨v,l,i,hv,hi,e1,e2,e3⟩:=xx h hn ha
 obtain ⟨v',l',i',hv',hi',e1',e2',e3'⟩:=xx h hn hb
 obtain ⟨k,rfl,_,hk⟩:=h.dart v l hv y e3
 obtain ⟨k',hkk,_,hk'⟩:=h.dart v' l' hv' _ e3'
 have : k=k':=by omega
 subst this
 have : v=v':=by omega
 subst this
 rw [hv] at hv'
 have : l=l':=Option.some.inj hv'
 subst this
 have hnd : l.Nodup:=h.nodup.sublist (List.sublist_flatten_of_mem (List.mem_of_getElem? hv))
 have hm : (i+1) % l.length < l.length:=Nat.mod_lt _ (by omega)
 have hm' : (i'+1) % l.length < l.length:=Nat.mod_lt _ (by omega)
 rw [e2,List.getD_eq_getElem?_getD,List.getD_eq_getElem?_getD,List.getElem?_eq_getElem hm,List.getElem?_eq_getElem hm'] at e2'
 have e2' : l[(i+1) % l.length]=l[(i'+1) % l.length]:=e2'
 have e : (i+1) % l.length=(i'+1) % l.length:=by
  rcases Nat.lt_trichotomy ((i+1) % l.length) ((i'+1) % l.length) with c | c | c
  ·exact absurd e2' (List.pairwise_iff_getElem.1 hnd _ _ hm hm' c)
  ·exact c
  ·exact absurd e2'.symm (List.pairwise_iff_getElem.1 hnd _ _ hm' hm c)
 have : i=i':=Cz hi hi' e
 subst this
 rw [e1] at e1'
 have : oth a=oth b:=by omega
 rw [← bt a,this,bt]
end
end Go.Vm

namespace Go.Vm
open Go.Proofs
set_option maxRecDepth 100000
attribute [local irreducible] ab
theorem cB {nx : List Int} : ∀ {f g : List Int} {x z : Int},dd nx x (f++g) z↔∃ y,dd nx x f y∧dd nx y g z
 | [],g,x,z=>by
  constructor
  ·intro h; exact ⟨x,rfl,h⟩
  ·rintro ⟨y,h1,h2⟩; have : x=y:=h1; subst this; exact h2
 | a :: f,g,x,z=>by
  constructor
  ·rintro ⟨h1,y,h2,h3⟩
   obtain ⟨w,w1,w2⟩:=cB.1 h3
   exact ⟨w,⟨h1,y,h2,w1⟩,w2⟩
  ·rintro ⟨w,⟨h1,y,h2,h3⟩,h4⟩
   exact ⟨h1,y,h2,cB.2 ⟨w,h3,h4⟩⟩
theorem zD {nx : List Int} : ∀ {f : List Int} {x z : Int},(f++[z])[0]?=some x→(∀ i (h : i < f.length),nx[f[i].toNat]?=(f++[z])[i+1]?)→dd nx x f z
 | [],x,z,h,_=>by simpa [dd] using h.symm
 | a :: f,x,z,h,h2=>by
  have hx : a=x:=by simpa using h
  have h0:=h2 0 (by simp)
  obtain ⟨y,hy⟩ : ∃ y,(f++[z])[0]?=some y:=⟨_,List.getElem?_eq_getElem (by simp)⟩
  refine ⟨hx,y,?_,zD hy fun i hi=>?_⟩
  ·rw [← hx]
   rw [show ((a :: f)++[z])[0+1]?=(f++[z])[0]? from rfl,hy] at h0
   simpa using h0
  ·have:=h2 (i+1) (by simpa using hi)
   simpa using this
theorem bK {nx : List Int} {x : Int} {f : List Int} (h : Cyc nx (x :: f)) : dd nx x (x :: f) x:=by
 refine zD (by simp) fun i hi=>?_
 rw [h.2 i hi]
 by_cases e : i+1 < (x :: f).length
 ·rw [Nat.mod_eq_of_lt e,List.getD_eq_getElem?_getD,List.getElem?_append_left e,List.getElem?_eq_getElem e]; rfl
 ·have e2 : i+1=(x :: f).length:=by omega
  rw [e2,Nat.mod_self,List.getElem?_append_right (by omega)]
  simp
theorem dP {nx p q : List Int} (h : Cyc nx (p++q)) : Cyc nx (q++p):=by
 cases p with
 | nil=>simpa using h
 | cons a p =>
  cases q with
  | nil=>simpa using h
  | cons b q =>
   have h1:=bK (x:=a) (f:=p++b :: q) h
   obtain ⟨y,h2,h3⟩:=cB (f:=a :: p) (g:=b :: q).1 h1
   have : b=y:=h3.1
   subst this
   exact dn (x:=b) (cB.2 ⟨a,h3,h2⟩) (by simp)
theorem pV {nx nx' : List Int} {z z' : Int} : ∀ {s : List Int} {x : Int},dd nx x s z→dd nx' x s z'→z∉s.tail→∀ y∈s,(nx[y.toNat]?=some z→nx'[y.toNat]?=some z')∧(nx[y.toNat]?≠some z→nx'[y.toNat]?=nx[y.toNat]?)
 | [],_,_,_,_,y,hy=>by simp at hy
 | [a],x,h1,h2,_,y,hy=>by
  have : y=a:=by simpa using hy
  subst this
  obtain ⟨rfl,w,w1,w2⟩:=h1
  obtain ⟨_,w',w1',w2'⟩:=h2
  have w2 : w=z:=w2
  have w2' : w'=z':=w2'
  subst w2; subst w2'
  exact ⟨fun _=>w1',fun h=>absurd w1 h⟩
 | a :: b :: s,x,h1,h2,hz,y,hy=>by
  obtain ⟨rfl,w,w1,w2⟩:=h1
  obtain ⟨_,w',w1',w2'⟩:=h2
  have e : b=w:=w2.1
  have e' : b=w':=w2'.1
  subst e; subst e'
  rcases List.mem_cons.1 hy with rfl | hy
  ·refine ⟨fun h=>?_,fun _=>by rw [w1,w1']⟩
   rw [w1] at h
   have : b=z:=Option.some.inj h
   exact absurd (by simp [this]) hz
  ·exact pV w2 w2' (fun h=>hz (by simp at h ⊢; exact .inr h)) y hy
theorem gD {nx nx' : List Int} {z z' : Int} : ∀ {s : List Int} {x : Int},dd nx x s z→s≠[]→z∉s.tail→(∀ y∈s,(nx[y.toNat]?=some z→nx'[y.toNat]?=some z')∧(nx[y.toNat]?≠some z→nx'[y.toNat]?=nx[y.toNat]?))→dd nx' x s z'
 | [],_,_,h,_,_=>absurd rfl h
 | [a],x,h1,_,_,h=>by
  obtain ⟨rfl,w,w1,w2⟩:=h1
  have w2 : w=z:=w2
  subst w2
  exact ⟨rfl,z',(h a (by simp)).1 w1,rfl⟩
 | a :: b :: s,x,h1,_,hz,h=>by
  obtain ⟨rfl,w,w1,w2⟩:=h1
  have e : b=w:=w2.1
  subst e
  have hb : b≠z:=fun e=>hz (by simp [e])
  refine ⟨rfl,b,?_,gD w2 (by simp) (fun hm=>hz (by simp at hm ⊢; exact .inr hm)) fun y hy=>h y (by simp at hy ⊢; exact .inr hy)⟩
  rw [(h a (by simp)).2 (by rw [w1]; exact fun e=>hb (Option.some.inj e)),w1]
theorem kZ {nx nx' : List Int} : ∀ {s : List Int} {x z : Int},dd nx x s z→(∀ y∈s,nx'[y.toNat]?=nx[y.toNat]?)→dd nx' x s z
 | [],_,_,h,_=>h
 | a :: s,x,z,⟨h1,y,h2,h3⟩,h=>⟨h1,y,by rw [← h1,h a (by simp),h1]; exact h2,kZ h3 fun w hw=>h w (by simp [hw])⟩
theorem uG {nx f g : List Int} (hf : Cyc nx f) (hg : Cyc nx g) (hN : FO f) {x : Int} (hx : x∈f) (hxg : x∈g) : ∀ y∈f,y∈g:=by
 obtain ⟨p,q,rfl⟩:=List.append_of_mem hx
 have h1:=bK (dP hf)
 have key : ∀ (s : List Int) (a z : Int),FO s→dd nx a s z→a∈g→∀ y∈s,y∈g:=by
  intro s
  induction s with
  | nil=>intro a z _ _ _ y hy; simp at hy
  | cons b s ih =>
   intro a z hs h ha y hy
   obtain ⟨rfl,w,w1,w2⟩:=h
   rcases List.mem_cons.1 hy with e0 | hy2
   ·rw [e0]; exact ha
   ·obtain ⟨k,hk⟩:=hs b (by simp)
    subst hk
    cases s with
    | nil=>simp at hy2
    | cons c s =>
     have e : c=w:=w2.1
     subst e
     obtain ⟨k',hk'⟩:=hs c (by simp)
     subst hk'
     exact ih _ z (fun x hx=>hs x (by simp at hx ⊢; exact .inr hx)) w2 (c9 hg ha (by simpa using w1)) y hy2
 intro y hy
 refine key _ _ _ (fun w hw=>hN w ?_) h1 hxg y ?_
 ·simp at hw ⊢; rcases hw with h | h | h <;> simp [h]
 ·simp at hy ⊢; rcases hy with h | h | h <;> simp [h]
theorem Ce {n m : Nat} (φ : Nat→Nat) (h1 : ∀ i,i < n→φ i < m) (h2 : ∀ i j,i < n→j < n→φ i=φ j→i=j) : n≤m:=by
 have hn : ((List.range n).map φ).Nodup:=by
  refine List.pairwise_map.2 (List.Pairwise.imp_of_mem (fun {a b} ha hb hab e=>?_) List.nodup_range)
  exact hab (h2 a b (List.mem_range.1 ha) (List.mem_range.1 hb) e)
 have:=eX m _ hn (by
  intro x hx
  obtain ⟨i,hi,rfl⟩:=List.mem_map.1 hx
  exact h1 i (List.mem_range.1 hi))
 simpa using this
theorem vC {L : Nat} {nx : List Int} {fs gs : List (List Int)} (hf : FsOK L fs) (hg : FsOK L gs) (cf : ∀ f∈fs,Cyc nx f) (cg : ∀ g∈gs,Cyc nx g) : fs.length≤gs.length:=by
 have pick : ∀ i,i < fs.length→∃ j,j < gs.length∧∃ f g x,fs[i]?=some f∧gs[j]?=some g∧x∈f∧x∈g:=by
  intro i hi
  have hm:=List.getElem_mem hi
  obtain ⟨hne,hel⟩:=hf.elem _ hm
  obtain ⟨x,hx⟩:=List.exists_mem_of_ne_nil _ hne
  obtain ⟨k,rfl,hk⟩:=hel x hx
  obtain ⟨j,g,h1,h2,h3⟩:=hg.face hk
  exact ⟨j,h3,_,g,(k : Int),List.getElem?_eq_getElem hi,h1,hx,h2⟩
 refine Ce (fun i=>if h : i < fs.length then (pick i h).choose else 0) (fun i hi=>?_) (fun i j hi hj e=>?_)
 ·simp only [hi,dif_pos]
  exact (pick i hi).choose_spec.1
 ·simp only [hi,hj,dif_pos] at e
  obtain ⟨_,f,g,x,a1,a2,a3,a4⟩:=(pick i hi).choose_spec
  obtain ⟨_,f',g',x',b1,b2,b3,b4⟩:=(pick j hj).choose_spec
  rw [e,b2] at a2
  have : g'=g:=Option.some.inj a2
  subst this
  have hfm:=List.mem_of_getElem? a1
  have hgm:=List.mem_of_getElem? b2
  have hxf' : x∈f':=by
   have hfm':=List.mem_of_getElem? b1
   exact uG (cg _ hgm) (cf _ hfm') (fun y hy=>hg.nat _ hgm y hy) b4 b3 x a4
  by_cases hij : i=j
  ·exact hij
  ·exfalso
   have hn:=(List.pairwise_flatten.1 hf.nodup).2
   rw [List.pairwise_iff_getElem] at hn
   have ei : fs[i]=f:=by rw [List.getElem?_eq_getElem hi] at a1; exact Option.some.inj a1
   have ej : fs[j]=f':=by rw [List.getElem?_eq_getElem hj] at b1; exact Option.some.inj b1
   rcases Nat.lt_or_ge i j with c | c
   ·exact hn i j hi hj c x (by rw [ei]; exact a3) x (by rw [ej]; exact hxf') rfl
   ·exact hn j i hj hi (by omega) x (by rw [ej]; exact hxf') x (by rw [ei]; exact a3) rfl
theorem qr {L : Nat} {nx : List Int} {fs gs : List (List Int)} (hf : FsOK L fs) (hg : FsOK L gs) (cf : ∀ f∈fs,Cyc nx f) (cg : ∀ g∈gs,Cyc nx g) : fs.length=gs.length :=
 Nat.le_antisymm (vC hf hg cf cg) (vC hg hf cg cf)
end Go.Vm

namespace Go.Vm
open Go.Proofs
set_option maxRecDepth 100000
attribute [local irreducible] ab
theorem ks {l : List Int} (hn : l.Nodup) {k : Nat} {f : Int} (hk : l[k]?=some f) : l=l.take k++f :: l.drop (k+1)∧f∉l.take k∧f∉l.drop (k+1):=by
 have hlt : k < l.length:=(List.getElem?_eq_some_iff.1 hk).1
 have hf : l[k]=f:=(List.getElem?_eq_some_iff.1 hk).2
 have e : l=l.take k++f :: l.drop (k+1):=by
  rw [← hf,← List.drop_eq_getElem_cons hlt,List.take_append_drop]
 have h2:=hn
 rw [e,List.nodup_append,List.nodup_cons] at h2
 exact ⟨e,fun hm=>h2.2.2 f hm f (by simp) rfl,h2.2.1.1⟩
theorem RotOK.list_nodup {N : Int} {E : List Arc} {A : List (List Int)} (h : RotOK N E A) {l : List Int} (hl : l∈A) : l.Nodup:=h.nodup.sublist (List.sublist_flatten_of_mem hl)
theorem s9 {l : List Int} {x : Int} (hn : l.Nodup) (hx : x∈l) : l.count x=1:=by
 have h1:=List.nodup_iff_count.1 hn x
 have h2:=List.count_pos_iff.2 hx
 omega
theorem nf {N : Nat} {E : List Arc} {A : List (List Int)} (hN : N≤16384) (hE : E.length≤32768) (hA : A.length=N) (hedge : ∀ a∈E,0≤a.1∧a.1 < (N : Int)∧0≤a.2.1∧a.2.1 < (N : Int)∧a.1≠a.2.1)
  (hnd : ∀ l∈A,l.Nodup) (hd : ∀ (v : Nat) (l : List Int),A[v]?=some l→∀ d∈l,∃ k : Nat,d=(k : Int)∧k < 2 * E.length∧tl E k=v) (hall : ∀ k,k < 2 * E.length→∃ l∈A,(k : Int)∈l) : RotOK (N : Nat) E A:=by
 have hn : A.flatten.Nodup:=by
  refine List.pairwise_flatten.2 ⟨hnd,?_⟩
  rw [List.pairwise_iff_getElem]
  intro i j hi hj hij x hx y hy e
  subst e
  obtain ⟨k,e1,_,e2⟩:=hd i _ (List.getElem?_eq_getElem hi) x hx
  obtain ⟨k',e1',_,e2'⟩:=hd j _ (List.getElem?_eq_getElem hj) x hy
  have : k=k':=by omega
  subst this
  omega
 have hel : ∀ x∈A.flatten,∃ k : Nat,x=(k : Int)∧k < 2 * E.length:=by
  intro x hx
  obtain ⟨l,hl,hxl⟩:=List.mem_flatten.1 hx
  obtain ⟨v,hv⟩:=List.mem_iff_getElem?.1 hl
  obtain ⟨k,e,h1,_⟩:=hd v l hv x hxl
  exact ⟨k,e,h1⟩
 refine ⟨by omega,by omega,hE,by omega,hedge,hd,hn,Nat.le_antisymm ?_ ?_⟩
 ·have hn2 : (A.flatten.map Int.toNat).Nodup:=by
   refine List.pairwise_map.2 (List.Pairwise.imp_of_mem (fun {a b} ha hb hab e=>?_) hn)
   obtain ⟨x,rfl,_⟩:=hel a ha
   obtain ⟨y,rfl,_⟩:=hel b hb
   simp at e
   omega
  have:=eX (2 * E.length) _ hn2 (by
   intro x hx
   obtain ⟨d,hd',rfl⟩:=List.mem_map.1 hx
   obtain ⟨k,rfl,hk⟩:=hel d hd'
   simpa using hk)
  rwa [List.length_map] at this
 ·have pick : ∀ k,k < 2 * E.length→∃ i,A.flatten[i]?=some (k : Int):=fun k hk=>by
   obtain ⟨l,hl,hkl⟩:=hall k hk
   exact List.mem_iff_getElem?.1 (List.mem_flatten.2 ⟨l,hl,hkl⟩)
  refine Ce (fun k=>if h : k < 2 * E.length then (pick k h).choose else 0) (fun k hk=>?_) (fun a b ha hb e=>?_)
  ·simp only [hk,dif_pos]
   exact (List.getElem?_eq_some_iff.1 (pick k hk).choose_spec).1
  ·simp only [ha,hb,dif_pos] at e
   have h1:=(pick a ha).choose_spec
   have h2:=(pick b hb).choose_spec
   rw [e,h2] at h1
   have:=Option.some.inj h1
   omega
theorem iw {E F : List Arc} {k : Nat} (hk : k < 2 * E.length) : tl (E++F) k=tl E k:=by
 unfold tl
 rw [List.getElem?_append_left (by omega)]
theorem nD {E : List Arc} {a : Arc} : tl (E++[a]) (2 * E.length)=a.1:=by
 unfold tl
 rw [show 2 * E.length / 2=E.length by omega,List.getElem?_append_right (Nat.le_refl _)]
 simp
theorem gp {E : List Arc} {a : Arc} : tl (E++[a]) (2 * E.length+1)=a.2.1:=by
 unfold tl
 rw [show (2 * E.length+1) / 2=E.length by omega,List.getElem?_append_right (Nat.le_refl _)]
 simp
section
variable {N : Nat} {E : List Arc} {A : List (List Int)} {nx : List Int}
theorem RotOK.split (h : RotOK (N : Nat) E A) {k w : Nat} (hk : k < 2 * E.length) (hw : tl E k=w) (hwN : w < N) : ∃ p q,A[w]?=some (p++(k : Int) :: q)∧cz A w=p++(k : Int) :: q∧(k : Int)∉p∧(k : Int)∉q:=by
 have hal : A.length=N:=by have:=h.len; omega
 have hlt : w < A.length:=by omega
 have hm:=h.around hk hw (List.getElem?_eq_getElem hlt)
 obtain ⟨i,hi⟩:=List.mem_iff_getElem?.1 hm
 have hn:=h.list_nodup (List.getElem_mem hlt)
 obtain ⟨e,n1,n2⟩:=ks hn hi
 exact ⟨_,_,by rw [List.getElem?_eq_getElem hlt]; exact congrArg some e,by rw [aT hlt]; exact e,n1,n2⟩
theorem Fol.cyc {E : List Arc} {A : List (List Int)} {fw : List Int} (h : Fol id E A fw) {l : List Int} (hl : l∈A) (hne : l≠[]) : Cyc fw l:=⟨hne,fun i hi=>h.get l hl i hi⟩
end
theorem dg (m : Nat) : oth (2 * m)=2 * m+1:=by unfold oth; rw [if_pos (by omega)]
theorem dw (m : Nat) : oth (2 * m+1)=2 * m:=by unfold oth; rw [if_neg (by omega)]; rfl
theorem iY {nx : List Int} : ∀ {s : List Int} {x z : Int},dd nx x s z→s≠[]→∃ y∈s,nx[y.toNat]?=some z
 | [],_,_,_,h=>absurd rfl h
 | [a],x,z,⟨h1,y,h2,h3⟩,_=>⟨a,by simp,by rw [h1,h2]; exact congrArg some h3⟩
 | a :: b :: s,x,z,⟨h1,y,h2,h3⟩,_=>by
  obtain ⟨w,w1,w2⟩:=iY h3 (by simp)
  exact ⟨w,by simp at w1 ⊢; exact .inr w1,w2⟩
theorem xu {α : Type} {fs : List (List α)} {j : Nat} {g : List α} (h : fs[j]?=some g) : ∃ a b,fs=a++g :: b:=by
 have hlt : j < fs.length:=(List.getElem?_eq_some_iff.1 h).1
 refine ⟨fs.take j,fs.drop (j+1),?_⟩
 rw [← (List.getElem?_eq_some_iff.1 h).2,← List.drop_eq_getElem_cons hlt,List.take_append_drop]
theorem cP {a b : List (List Int)} {g : List Int} (x : Int) : (a++g :: b).flatten.count x=a.flatten.count x+g.count x+b.flatten.count x:=by
 simp [List.count_append]; omega
section
variable {N : Nat} {E : List Arc} {A : List (List Int)} {nx : List Int}
theorem bJ {nx : List Int} (h : RotOK (N : Nat) E A) (hn : Fol oth E A nx) : FsOK (2 * E.length) (aa nx)∧∀ g∈aa nx,Cyc nx g:=by
 have hnx:=Fol.nxOK h hn
 refine ⟨?_,wV (iK h hn) hnx⟩
 obtain ⟨m,_,hi⟩:=eJ hnx
 have hL : nx.length=2 * E.length:=hn.len
 rw [hL] at hi
 refine ⟨hi.elem,hi.nodup,fun k hk=>hi.cover k hk hk,?_⟩
 have:=hi.num
 show (aa nx).length≤_
 have h2 : (aa nx).length+unm m≤2 * E.length:=this
 omega
end
def emp (A : List (List Int)) : Nat:=A.countP fun l=>l.isEmpty
noncomputable def uB (N : Nat) (E : List Arc) (A : List (List Int)) (F : Nat) : Int:=bf .i64 (comps N E : Nat) (eZ .i64 ((N : Int) - E.length+(F+emp A : Nat)) 2)
def dR (_ : Nat) (n : Int) (l : List Int) : Option (Int⊕Empty):=some (.inl (cond (eqI (l.length : Nat) 0) (ae .i64 n 1) n))
theorem rS : ∀ (A : List (List Int)) (i n : Nat),n+A.length≤1000000→aw dR i (n : Int) A=some (.inl ((n+emp A : Nat) : Int))
 | [],i,n,_=>rfl
 | l :: A,i,n,h=>by
  simp only [List.length_cons] at h
  cases l with
  | nil =>
   have e : dR i (n : Int) []=some (.inl ((n+1 : Nat) : Int)):=by
    unfold dR
    rw [cv (by rfl),cond_true,cu (by omega) (by omega)]; rfl
   simp only [aw,e,Option.bind_some,Sum.elim_inl]
   rw [rS A (i+1) (n+1) (by omega)]
   unfold emp
   simp only [List.countP_cons,List.isEmpty_nil,if_true]
   rw [show n+1+List.countP (fun l=>l.isEmpty) A=n+(List.countP (fun l=>l.isEmpty) A+1) by omega]
  | cons a l =>
   have e : dR i (n : Int) (a :: l)=some (.inl (n : Int)):=by
    unfold dR
    rw [bw (by simp; omega),cond_false]
   simp only [aw,e,Option.bind_some,Sum.elim_inl]
   rw [rS A (i+1) n (by omega)]
   unfold emp
   simp [List.countP_cons]
theorem RotOK.lists {N : Int} {E : List Arc} {A : List (List Int)} (h : RotOK N E A) : ∀ l∈A,l.length≤9223372036854775807:=fun l hl=>by have:=h.list_len hl; have:=h.m1; omega
section
variable {N : Nat} {E : List Arc} {A : List (List Int)} {nx : List Int}
theorem RotOK.al (h : RotOK (N : Nat) E A) : A.length=N:=by have:=h.len; omega
theorem RotOK.n16 (h : RotOK (N : Nat) E A) : N≤16384:=by have:=h.n1; omega
theorem jb (h : RotOK (N : Nat) E A) {nx mx : List Int} (hn : Fol oth E A nx) (hm : Fol oth E A mx) : mx=nx:=by
 refine List.ext_getElem? fun k=>?_
 by_cases hk : k < 2 * E.length
 ·obtain ⟨fw,_,ff⟩:=bE h ()
  obtain ⟨y,_,h1,h2⟩:=bM h hn ff hk
  obtain ⟨y',_,h1',h2'⟩:=bM h hm ff hk
  rw [h2] at h2'
  rw [h1,h1',h2']
 ·rw [List.getElem?_eq_none (by rw [hm.len]; omega),List.getElem?_eq_none (by rw [hn.len]; omega)]
theorem i0 (h : RotOK (N : Nat) E A) (hn : Fol oth E A nx) : Zay (((N : Int),E,A,()),())=some (aa nx,())∧Zy (((N : Int),E,A,()),())=some (aa nx,()):=by
 obtain ⟨mx,m,_,f1,_,r1,r2⟩:=mj h h.validB h.lists
 rw [jb h hn f1] at r1 r2
 exact ⟨r1,r2⟩
theorem Ay (h : RotOK (N : Nat) E A) (hn : Fol oth E A nx) : Zaw (((N : Int),E,A,()),())=some (uB N E A (aa nx).length,())∧Zv (((N : Int),E,A,()),())=some (uB N E A (aa nx).length,()):=by
 have hal:=h.al
 have hn16:=h.n16
 have hm1:=h.m1
 obtain ⟨r1,r2⟩:=i0 h hn
 have hF:=(bJ h hn).1.num
 have hemp : emp A≤A.length:=List.countP_le_length
 have k1:=mF (B:=km) (fun n i=>((N : Int),E,A,n,A,((A.length : Nat) : Int),(i : Int),())) (fun n=>.inl ((N : Int),E,A,n,())) (fun e=>nomatch e) dR A (by
  intro n i l hd'
  have hi : i < A.length:=(List.getElem?_eq_some_iff.1 hd').1
  simp only [km,dR]
  rw [aB (by omega),cond_true,af,hd',Option.bind_some,a9 (a:=i) (by omega)]
  cases eqI ((l.length : Nat) : Int) 0 <;> rfl) (by
  intro n
  simp only [km]
  rw [aA (by omega)]; rfl) ((aa nx).length : Int)
 have k2:=mF (B:=oL) (fun n i=>(((A.length : Nat) : Int),E,A,n,(i : Int),())) (fun n=>.inl (((A.length : Nat) : Int),E,A,n,())) (fun e=>nomatch e) dR A (by
  intro n i l hd'
  have hi : i < A.length:=(List.getElem?_eq_some_iff.1 hd').1
  simp only [oL,dR]
  rw [aB (by omega),cond_true,af,hd',Option.bind_some,a9 (a:=i) (by omega)]
  cases eqI ((l.length : Nat) : Int) 0 <;> rfl) (by
  intro n
  simp only [oL]
  rw [aA (by omega)]; rfl) ((aa nx).length : Int)
 rw [rS A 0 _ (by omega)] at k1 k2
 have e1 : ae .i64 (bf .i64 (N : Int) (E.length : Nat)) (((aa nx).length+emp A : Nat) : Int)=(N : Int) - E.length+((aa nx).length+emp A : Nat):=by
  rw [gY (by omega) (by omega),cu (by omega) (by omega)]
 constructor
 ·unfold Zaw
  simp only
  rw [ed ((N : Int),E,A,()) h.lists,h.validB,Option.bind_some]
  simp only [Bool.not_true,cond_false]
  rw [r1,Option.bind_some]
  simp only
  rw [show vf ((N : Int),E,A,((aa nx).length : Nat),A,(A.length : Nat),0,())=_ from k1]
  simp only [Option.bind_some,Sum.elim_inl]
  rw [sV h]
  simp only [Option.bind_some]
  rw [e1]; rfl
 ·unfold Zv
  simp only
  rw [gC ((N : Int),E,A,()) h.lists,h.validB,Option.bind_some]
  simp only [Bool.not_true,cond_false]
  rw [r2,Option.bind_some]
  simp only
  have k2' : zI ((N : Int),E,A,((aa nx).length : Nat),0,())=some (.inl ((N : Int),E,A,(((aa nx).length+emp A : Nat) : Int),())):=by
   rw [show (N : Int)=((A.length : Nat) : Int) by omega]; exact k2
  rw [k2']
  simp only [Option.bind_some,Sum.elim_inl]
  rw [xN h]
  simp only [Option.bind_some]
  rw [e1]; rfl
theorem fg (h : RotOK (N : Nat) E A) (hn : Fol oth E A nx) {k y : Nat} (hy : nx[k]?=some (y : Int)) : k < 2 * E.length∧y < 2 * E.length∧tl E y=hd E k:=by
 have hk : k < 2 * E.length:=by
  have:=(List.getElem?_eq_some_iff.1 hy).1
  rw [hn.len] at this; exact this
 obtain ⟨v,l,i,h1,h2,h3,h4,h5⟩:=xx h hn hy
 obtain ⟨y',e1,e2,e3⟩:=h.dart v l h1 _ h5
 have : y=y':=by omega
 subst this
 have hm : ((oth k : Nat) : Int)∈l:=by
  rw [← h3,List.getD_eq_getElem?_getD,List.getElem?_eq_getElem h2]; exact List.getElem_mem h2
 obtain ⟨o,f1,f2,f3⟩:=h.dart v l h1 _ hm
 have : oth k=o:=by omega
 subst this
 exact ⟨hk,e2,by unfold hd; rw [e3,f3]⟩
theorem qy (h : RotOK (N : Nat) E A) (hn : Fol oth E A nx) : ∀ {s : List Int} {x z : Int} {a b p q : Nat},dd nx x s z→FO s→x=(a : Int)→z=(b : Int)→tl E a=p→tl E b=q→Reach E p q
 | [],x,z,a,b,p,q,hp,_,hx,hz,h1,h2=>by
  have : x=z:=hp
  have : a=b:=by omega
  subst this
  have : p=q:=by omega
  subst this
  exact .refl _
 | c :: s,x,z,a,b,p,q,⟨e,y,e1,e2⟩,hN,hx,hz,h1,h2=>by
  subst hx
  rw [Int.toNat_natCast] at e1
  have hyn : ∃ y' : Nat,y=(y' : Int):=by
   cases s with
   | nil=>exact ⟨b,by rw [show y=z from e2,hz]⟩
   | cons d s =>
    obtain ⟨k,hk⟩:=hN d (by simp)
    exact ⟨k,by rw [← e2.1]; exact hk⟩
  obtain ⟨y',rfl⟩:=hyn
  obtain ⟨k1,k2,k3⟩:=fg h hn e1
  obtain ⟨w,w1,w2⟩:=h.tl_lt k2
  exact Reach.trans (.step (.refl _) k1 h1 (by rw [← k3]; exact w1)) (qy h hn e2 (fun x hx=>hN x (by simp [hx])) rfl hz w1 h2)
theorem ye (h : RotOK (N : Nat) E A) (hn : Fol oth E A nx) {g : List Int} (hg : g∈aa nx) {a b p q : Nat} (ha : (a : Int)∈g) (hb : (b : Int)∈g) (h1 : tl E a=p) (h2 : tl E b=q) : Reach E p q:=by
 obtain ⟨hf,cf⟩:=bJ h hn
 have hnat:=hf.nat g hg
 obtain ⟨s,t,rfl⟩:=List.append_of_mem ha
 have hc:=dP (cf _ hg)
 by_cases e : a=b
 ·subst e
  have : p=q:=by omega
  subst this
  exact .refl _
 ·have hm : (b : Int)∈t++s:=by
   simp at hb ⊢
   rcases hb with h | h | h
   ·exact .inr h
   ·omega
   ·exact .inl h
  obtain ⟨s1,s2,es⟩:=List.append_of_mem hm
  have hc' : Cyc nx ((a : Int) :: (t++s)):=hc
  rw [es] at hc'
  have hp:=bK hc'
  obtain ⟨y,p1,p2⟩:=cB (f:=(a : Int) :: s1) (g:=(b : Int) :: s2).1 hp
  refine qy h hn p1 (fun x hx=>hnat x ?_) rfl p2.1.symm h1 h2
  have : x∈(a : Int) :: (t++s):=by
   rw [es]
   simp at hx ⊢
   rcases hx with h | h <;> simp [h]
  simp at this ⊢
  rcases this with h | h | h <;> simp [h]
end
theorem ju {E F : List Arc} {x y : Nat} (h : Reach E x y) : Reach (E++F) x y:=by
 induction h with
 | refl=>exact .refl _
 | @step v w k _ hk e1 e2 ih =>
  refine .step ih (k:=k) (by simp; omega) (by rw [iw hk]; exact e1) ?_
  unfold hd at e2 ⊢
  rw [iw (ay hk)]; exact e2
theorem AH {E : List Arc} {u v : Nat} (hj : Reach E u v) {x y : Nat} : Reach (E++[((u : Int),(v : Int),())]) x y↔Reach E x y:=by
 refine ⟨fun h=>?_,ju⟩
 induction h with
 | refl=>exact .refl _
 | @step a b k _ hk e1 e2 ih =>
  have hlen : (E++[((u : Int),(v : Int),())]).length=E.length+1:=by simp
  rw [hlen] at hk
  rcases Nat.lt_or_ge k (2 * E.length) with c | c
  ·rw [iw c] at e1
   unfold hd at e2
   rw [iw (ay c)] at e2
   exact .step ih c e1 e2
  ·by_cases e : k=2 * E.length
   ·subst e
    unfold hd at e2
    rw [nD] at e1
    rw [dg,gp] at e2
    have h1 : a=u:=by have : (u : Int)=a:=e1; omega
    have h2 : b=v:=by have : (v : Int)=b:=e2; omega
    subst h1; subst h2
    exact ih.trans hj
   ·have : k=2 * E.length+1:=by omega
    subst this
    unfold hd at e2
    rw [gp] at e1
    rw [dw,nD] at e2
    have h1 : a=v:=by have : (v : Int)=a:=e1; omega
    have h2 : b=u:=by have : (u : Int)=b:=e2; omega
    subst h1; subst h2
    exact ih.trans hj.symm
theorem wg {N : Nat} {E E' : List Arc} (h : ∀ x y,Reach E x y↔Reach E' x y) : comps N E=comps N E':=by
 unfold comps
 refine List.countP_congr fun v _=>?_
 rw [fF,fF]
 unfold E9
 exact forall_congr' fun u=>forall_congr' fun _=>not_congr (h u v)
theorem vq {A : List (List Int)} {i : Nat} {l : List Int} (hi : i < A.length) (h : (cz A i).isEmpty=l.isEmpty) : emp (A.set i l)=emp A:=by
 unfold emp
 rw [List.countP_set hi,← h,aT hi]
 have : (if A[i].isEmpty then 1 else 0)≤List.countP (fun l=>l.isEmpty) A:=by
  split
  ·rename_i hc
   exact List.countP_pos_iff.2 ⟨_,List.getElem_mem hi,hc⟩
  ·omega
 omega
end Go.Vm

namespace Go.Vm
open Go.Proofs
set_option maxRecDepth 100000
attribute [local irreducible] ab
theorem oF (l : List Int) (v : Int) (hl : l.length≤68719476736) : (Zak (l,v,())=some (-1,())∧v∉l) ∨
  ∃ k : Nat,l[k]?=some v∧Zak (l,v,())=some ((k : Int),()):=by
 have h:=mF (B:=jn) (fun (_ : Unit) i=>(l,v,((l.length : Nat) : Int),(i : Int),()))
  (fun _=>.inr (.inl ())) (fun (k : Nat)=>.inl ((k : Int),())) (fun i (_ : Unit) a=>some (cond (eqI v a) (.inr i) (.inl ()))) l (by
   intro _ i a ha
   have hi : i < l.length:=(List.getElem?_eq_some_iff.1 ha).1
   unfold jn
   simp only
   rw [aB (by omega),cond_true,af,ha,Option.bind_some,Option.bind_some]
   cases eqI v a with
   | true=>rfl
   | false=>rw [cond_false,a9 (by omega)]; rfl) (by
   intro _
   unfold jn
   simp only
   rw [aA (by omega)]; rfl) ()
 unfold Zak qb
 dsimp only
 rw [show ((0 : Int))=((0 : Nat) : Int) from rfl,h]
 rcases sN (fun a=>eqI v a) l 0 with ⟨h1,h2⟩ | ⟨k,a,h1,h2,h3⟩
 ·rw [h1]
  refine .inl ⟨rfl,fun hm=>?_⟩
  have:=h2 v hm
  simp [eqI] at this
 ·rw [h3]
  have : v=a:=by simpa [eqI] using h2
  subst this
  exact .inr ⟨k,h1,by simp only [Option.bind_some,Sum.elim_inr,Sum.elim_inl,Nat.zero_add]⟩
theorem lm (l : List Int) (hl : l.length≤68719476736) : Zah (l,())=some (l,()):=by
 unfold Zah
 dsimp only
 rw [cm (by simpa using hl),Option.bind_some,List.nil_append]
 cases l with
 | nil=>simp [kb]
 | cons a l=>rfl
theorem tR (l : List Arc) (hl : l.length≤68719476736) : Zag (l,())=some (l,()):=by
 unfold Zag
 dsimp only
 rw [cm (by simpa using hl),Option.bind_some,List.nil_append]
 cases l with
 | nil=>simp [kb]
 | cons a l=>rfl
theorem tI (N : Int) (E : List Arc) (A : List (List Int)) (hE : E.length≤1000000) (hA : A.length≤1000000) (hl : ∀ l∈A,l.length≤1000000) : Zbg ((N,E,A,()),())=some ((N,E,A,()),()):=by
 have h:=fa (B:=pO) (fun i (s : List (List Int))=>s=A.take i) (fun s i=>(0,N,E,s,A,((A.length : Nat) : Int),(i : Int),())) (fun s=>.inl (0,N,E,s,())) (fun (e : Empty)=>e.elim)
  (fun _ s (l : List Int)=>some (.inl (s++[l]))) A (by
   intro s i l hs hl'
   have hi : i < A.length:=(List.getElem?_eq_some_iff.1 hl').1
   unfold pO
   simp only
   rw [aB (by omega),cond_true,af,hl',Option.bind_some,lm l (by have:=hl l (List.mem_of_getElem? hl'); omega),Option.bind_some,cm (by rw [hs]; simp; omega),Option.bind_some,a9 (by omega)]
   rfl) (by
   intro s i l t hs hl' ht
   simp only [Option.some.injEq,Sum.inl.injEq] at ht
   subst ht
   rw [hs,List.take_add_one,hl']; rfl) (by
   intro s _
   unfold pO
   simp only
   rw [aA (by omega)]; rfl) [] (by simp)
 have hf : ∀ (l : List (List Int)) (i : Nat) (s : List (List Int)),aw (fun (_ : Nat) s (x : List Int)=>(some (.inl (s++[x])) : Option (List (List Int)⊕Empty))) i s l=some (.inl (s++l)):=by
  intro l
  induction l with
  | nil=>intro i s; simp [aw]
  | cons x l ih =>
   intro i s
   simp only [aw,Option.bind_some,Sum.elim_inl]
   rw [ih]
   simp
 unfold Zbg
 dsimp only
 rw [tR E (by omega),Option.bind_some]
 unfold yl
 rw [show ((0,N,E,[],A,((A.length : Nat) : Int),0,()) : Int×Int×List Arc×List (List Int)×List (List Int)×Int×Int×Unit)=(0,N,E,[],A,((A.length : Nat) : Int),((0 : Nat) : Int),()) from rfl,h,hf]
 rfl
end Go.Vm


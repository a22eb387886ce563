/-
 The dual graph and its distances.
-/
import Derived.Test.YtgihliccohoggaaDoorKA
set_option linter.unusedVariables false
set_option linter.unusedSimpArgs false
namespace Go.Vm
open Go.Proofs
set_option maxRecDepth 100000
attribute [local irreducible] loopFix
def setAll (out f : List Int) (i : Int) : List Int:=f.foldl (fun o d=>o.set d.toNat i) out
def markAll : List Int→Nat→List (List Int)→List Int
 | out,_,[]=>out
 | out,i,f :: fs=>markAll (setAll out f (i : Int)) (i+1) fs
theorem setAll_len (i : Int) : ∀ (f out : List Int),(setAll out f i).length=out.length
 | [],out=>rfl
 | d :: f,out=>by
  show (setAll (out.set d.toNat i) f i).length=_
  rw [setAll_len i f]; simp
theorem markAll_len : ∀ (fs : List (List Int)) (out : List Int) (i : Nat),(markAll out i fs).length=out.length
 | [],_,_=>rfl
 | f :: fs,out,i=>by unfold markAll; rw [markAll_len fs,setAll_len]
theorem setAll_not (i : Int) {k : Nat} : ∀ {f out : List Int},(∀ d∈f,∃ x : Nat,d=(x : Int))→(k : Int)∉f→(setAll out f i)[k]?=out[k]?
 | [],out,_,_=>rfl
 | d :: f,out,hd,hk=>by
  show (setAll (out.set d.toNat i) f i)[k]?=_
  obtain ⟨x,rfl⟩:=hd d (by simp)
  rw [setAll_not i (fun d hd'=>hd d (by simp [hd'])) (fun h=>hk (by simp [h])),List.getElem?_set]
  rw [if_neg]
  intro e
  simp only [Int.toNat_natCast] at e
  subst e
  exact hk (by simp)
theorem setAll_mem (i : Int) {k : Nat} : ∀ {f out : List Int},(∀ d∈f,∃ x : Nat,d=(x : Int))→(k : Int)∈f→k < out.length→(setAll out f i)[k]?=some i
 | [],out,_,hk,_=>by simp at hk
 | d :: f,out,hd,hk,hl=>by
  show (setAll (out.set d.toNat i) f i)[k]?=_
  have hd' : ∀ d∈f,∃ x : Nat,d=(x : Int):=fun d hd'=>hd d (by simp [hd'])
  by_cases hf : (k : Int)∈f
  ·exact setAll_mem i hd' hf (by simpa using hl)
  ·rw [setAll_not i hd' hf]
   rcases List.mem_cons.1 hk with rfl | hk
   ·simp [hl]
   ·exact absurd hk hf
theorem markAll_not {k : Nat} : ∀ {fs : List (List Int)} {out : List Int} {i : Nat},(∀ f∈fs,∀ d∈f,∃ x : Nat,d=(x : Int))→(k : Int)∉fs.flatten→(markAll out i fs)[k]?=out[k]?
 | [],_,_,_,_=>rfl
 | f :: fs,out,i,hd,hk=>by
  unfold markAll
  simp only [List.flatten_cons,List.mem_append,not_or] at hk
  rw [markAll_not (fun f hf=>hd f (by simp [hf])) hk.2,setAll_not _ (hd f (by simp)) hk.1]
theorem markAll_mem {k : Nat} : ∀ {fs : List (List Int)} {out : List Int} {i j : Nat} {f : List Int},(∀ f∈fs,∀ d∈f,∃ x : Nat,d=(x : Int))→fs.flatten.Nodup→fs[j]?=some f→(k : Int)∈f→k < out.length→(markAll out i fs)[k]?=some ((i+j : Nat) : Int)
 | [],_,_,_,_,_,_,h,_,_=>by simp at h
 | g :: fs,out,i,j,f,hd,hn,hj,hk,hl=>by
  unfold markAll
  rw [List.flatten_cons,List.nodup_append] at hn
  obtain ⟨_,n2,n3⟩:=hn
  cases j with
  | zero =>
   simp at hj
   subst hj
   rw [markAll_not (fun f hf=>hd f (by simp [hf])) (fun h=>n3 _ hk _ h rfl),setAll_mem _ (hd g (by simp)) hk hl]
   rfl
  | succ j =>
   rw [markAll_mem (j:=j) (fun f hf=>hd f (by simp [hf])) n2 (by simpa using hj) hk (by rw [setAll_len]; exact hl)]
   congr 2
   omega
theorem set_fold (i : Int) : ∀ (f : List Int) (j : Nat) (out : List Int),foldE (fun _ out (d : Int)=>some (.inl (out.set d.toNat i) : List Int⊕Empty)) j out f=some (.inl (setAll out f i))
 | [],_,_=>rfl
 | d :: f,j,out=>by
  simp only [foldE,Option.bind_some,Sum.elim_inl]
  exact set_fold i f (j+1) _
theorem mark_fold : ∀ (fs : List (List Int)) (i : Nat) (out : List Int),foldE (fun i out (f : List Int)=>some (.inl (setAll out f (i : Int)) : List Int⊕Empty)) i out fs=some (.inl (markAll out i fs))
 | [],_,_=>rfl
 | f :: fs,i,out=>by
  simp only [foldE,Option.bind_some,Sum.elim_inl]
  exact mark_fold fs (i+1) _
structure FsOK (L : Nat) (fs : List (List Int)) : Prop where
 elem : ∀ f∈fs,f≠[]∧∀ d∈f,∃ k : Nat,d=(k : Int)∧k < L
 nodup : fs.flatten.Nodup
 cover : ∀ k,k < L→(k : Int)∈fs.flatten
 num : fs.length≤L
theorem FsOK.nat {L : Nat} {fs : List (List Int)} (h : FsOK L fs) : ∀ f∈fs,∀ d∈f,∃ x : Nat,d=(x : Int):=fun f hf d hd=>by
 obtain ⟨k,e,_⟩:=(h.elem f hf).2 d hd; exact ⟨k,e⟩
theorem FsOK.flen {L : Nat} {fs : List (List Int)} (h : FsOK L fs) (hL : L≤65536) : ∀ f∈fs,f.length≤L:=by
 intro f hf
 have hn : f.Nodup:=h.nodup.sublist (List.sublist_flatten_of_mem hf)
 have hn2 : (f.map Int.toNat).Nodup:=by
  refine List.pairwise_map.2 (List.Pairwise.imp_of_mem (fun {a b} ha hb hab e=>?_) hn)
  obtain ⟨x,rfl,_⟩:=(h.elem f hf).2 a ha
  obtain ⟨y,rfl,_⟩:=(h.elem f hf).2 b hb
  simp at e
  omega
 have:=nodup_le L (f.map Int.toNat) hn2 (by
  intro x hx
  obtain ⟨d,hd,rfl⟩:=List.mem_map.1 hx
  obtain ⟨k,rfl,hk⟩:=(h.elem f hf).2 d hd
  simpa using hk)
 simpa using this
def marksOf (L : Nat) (fs : List (List Int)) : List Int:=markAll (List.replicate L 0) 0 fs
theorem marksOf_len {L : Nat} {fs : List (List Int)} : (marksOf L fs).length=L:=by unfold marksOf; rw [markAll_len]; simp
theorem marksOf_at {L : Nat} {fs : List (List Int)} (h : FsOK L fs) {j k : Nat} {f : List Int} (hj : fs[j]?=some f) (hk : (k : Int)∈f) : (marksOf L fs)[k]?=some (j : Int):=by
 obtain ⟨x,e,hx⟩:=(h.elem f (List.mem_of_getElem? hj)).2 _ hk
 have : k=x:=by omega
 subst this
 unfold marksOf
 rw [markAll_mem h.nat h.nodup hj hk (by simpa using hx)]
 simp
theorem FsOK.face {L : Nat} {fs : List (List Int)} (h : FsOK L fs) {k : Nat} (hk : k < L) : ∃ j f,fs[j]?=some f∧(k : Int)∈f∧j < fs.length:=by
 obtain ⟨f,hf,hkf⟩:=List.mem_flatten.1 (h.cover k hk)
 obtain ⟨j,hj⟩:=List.mem_iff_getElem?.1 hf
 exact ⟨j,f,hj,hkf,(List.getElem?_eq_some_iff.1 hj).1⟩
theorem marksOf_some {L : Nat} {fs : List (List Int)} (h : FsOK L fs) {k : Nat} (hk : k < L) : ∃ j : Nat,j < fs.length∧(marksOf L fs)[k]?=some (j : Int)∧∃ f,fs[j]?=some f∧(k : Int)∈f:=by
 obtain ⟨j,f,h1,h2,h3⟩:=h.face hk
 exact ⟨j,h3,marksOf_at h h1 h2,f,h1,h2⟩
section
variable {N : Nat} {E : List Arc} {A : List (List Int)}
theorem faces32 (h : RotOK (N : Nat) E A) (hv : validB ((N : Int),E,A,())=true) (hl : ∀ l∈A,l.length≤9223372036854775807) :
  ∃ fs,FsOK (2 * E.length) fs∧Zbd (((N : Int),E,A,()),())=some (fs,())∧Zah (((N : Int),E,A,()),())=some (fs,()) ∧
   ∃ nx,Fol oth E A nx∧fs=facesOf nx∧NxOK nx nx.length:=by
 obtain ⟨nx,m,_,f1,hi,r1,r2⟩:=faces_both h hv hl
 have hL : nx.length=2 * E.length:=f1.len
 refine ⟨facesOf nx,⟨?_,hi.nodup,?_,?_⟩,r1,r2,nx,f1,rfl,Fol.nxOK h f1⟩
 ·intro f hf
  obtain ⟨q1,q2⟩:=hi.elem f hf
  exact ⟨q1,fun d hd=>by rw [← hL]; exact q2 d hd⟩
 ·intro k hk; exact hi.cover k (by omega) (by omega)
 ·have:=hi.num
  simp only at this
  omega
end
end Go.Vm

namespace Go.Vm
open Go.Proofs
set_option maxRecDepth 100000
attribute [local irreducible] loopFix
theorem nxt_prev {n j : Nat} (h : j < n) : ((j+n - 1) % n+1) % n=j:=by
 cases j with
 | zero =>
  have h1 : (0+n - 1) % n=n - 1:=by rw [Nat.zero_add]; exact Nat.mod_eq_of_lt (by omega)
  have h2 : n - 1+1=n:=by omega
  rw [h1,h2,Nat.mod_self]
 | succ j =>
  have h1 : (j+1+n - 1) % n=j:=by
   rw [show j+1+n - 1=j+n by omega,Nat.add_mod_right]; exact Nat.mod_eq_of_lt (by omega)
  rw [h1]; exact Nat.mod_eq_of_lt h
def Path (nx : List Int) : Int→List Int→Int→Prop
 | x,[],z=>x=z
 | x,a :: f,z=>a=x∧∃ y,nx[x.toNat]?=some y∧Path nx y f z
theorem walk_path (nx : List Int) : ∀ (n : Nat) (met : List Bool) (acc : List Int) (x : Int) (m : List Bool) (r : List Int),walk nx n met acc x=some (m,r)→∃ f z,r=acc++f∧Path nx x f z∧m[z.toNat]?=some true
 | 0,met,acc,x,m,r,h=>by simp [walk] at h
 | n+1,met,acc,x,m,r,h=>by
  simp only [walk] at h
  split at h
  ·rename_i hb
   have : (met,acc)=(m,r):=Option.some.inj h
   cases this
   exact ⟨[],x,by simp,rfl,hb⟩
  ·split at h
   ·rename_i y hy
    obtain ⟨f,z,h1,h2,h3⟩:=walk_path nx n _ _ y m r h
    exact ⟨x :: f,z,by simp [h1],⟨rfl,y,hy,h2⟩,h3⟩
   ·cases h
  ·cases h
def Cyc (nx : List Int) (f : List Int) : Prop:=f≠[]∧∀ i (h : i < f.length),nx[f[i].toNat]?=some (f.getD ((i+1) % f.length) 0)
theorem path_get {nx : List Int} : ∀ {f : List Int} {x z : Int},Path nx x f z→(f++[z])[0]?=some x∧∀ i (h : i < f.length),nx[f[i].toNat]?=(f++[z])[i+1]?
 | [],x,z,h=>by
  simp only [Path] at h
  subst h
  exact ⟨rfl,fun i h=>by simp at h⟩
 | a :: f,x,z,h=>by
  obtain ⟨rfl,y,hy,h2⟩:=h
  obtain ⟨q1,q2⟩:=path_get h2
  refine ⟨rfl,fun i hi=>?_⟩
  cases i with
  | zero=>simpa [hy] using q1.symm
  | succ i=>simpa using q2 i (by simpa using hi)
theorem path_cyc {nx : List Int} {f : List Int} {x : Int} (h : Path nx x f x) (hf : f≠[]) : Cyc nx f:=by
 obtain ⟨q1,q2⟩:=path_get h
 refine ⟨hf,fun i hi=>?_⟩
 rw [q2 i hi,List.getD_eq_getElem?_getD]
 by_cases e : i+1 < f.length
 ·rw [Nat.mod_eq_of_lt e,List.getElem?_append_left e,List.getElem?_eq_getElem e]; rfl
 ·have e2 : i+1=f.length:=by omega
  rw [e2,Nat.mod_self]
  have h0 : f[0]?=some x:=by
   rw [List.getElem?_append_left (by omega)] at q1; exact q1
  rw [h0]
  simp
def Inj (nx : List Int) : Prop:=∀ (a b : Nat) (y : Int),nx[a]?=some y→nx[b]?=some y→a=b
theorem cyc_pred {nx f : List Int} (h : Cyc nx f) {j : Nat} (hj : j < f.length) : nx[(f.getD ((j+f.length - 1) % f.length) 0).toNat]?=some f[j]:=by
 have hp : (j+f.length - 1) % f.length < f.length:=Nat.mod_lt _ (by omega)
 have:=h.2 _ hp
 rw [nxt_prev hj,List.getD_eq_getElem?_getD,List.getElem?_eq_getElem hj] at this
 rw [List.getD_eq_getElem?_getD,List.getElem?_eq_getElem hp]
 exact this
theorem faceStep_cyc {nx : List Int} (hinj : Inj nx) (hn : NxOK nx nx.length) {d : Nat} (hd : d < nx.length) {s t : List Bool×List (List Int)} (hs : FacesInv nx.length d s) (hc : ∀ f∈s.2,Cyc nx f) (ht : faceStep nx d s ()=some (.inl t)) : ∀ f∈t.2,Cyc nx f:=by
 have hu:=unm_le s.1
 obtain ⟨m,f,h1,h2,h3,h4,h5,h6,h7,h8⟩:=walk_some hn (nx.length+1) s.1 [] d hs.len hd (by rw [hs.len] at hu; omega)
 simp only [List.nil_append] at h1
 simp only [faceStep,h1,Option.map_some] at ht
 obtain ⟨f',z,e1,e2,e3⟩:=walk_path nx _ _ _ _ _ _ h1
 rw [List.nil_append] at e1
 subst e1
 have ht' : t=(m,cond f.isEmpty s.2 (s.2++[f])):=by cases ht; rfl
 subst ht'
 cases hf : f with
 | nil=>exact hc
 | cons a f' =>
  rw [← hf]
  have hemp : f.isEmpty=false:=by rw [hf]; rfl
  rw [hemp]
  simp only [cond_false]
  intro g hg
  rcases List.mem_append.1 hg with hg | hg
  ·exact hc g hg
  ·simp only [List.mem_singleton] at hg
   subst hg
   have hne : g≠[]:=by rw [hf]; simp
   have hpos : 0 < g.length:=List.length_pos_iff.2 hne
   obtain ⟨p1,p2⟩:=path_get e2
   have g0 : g[0]=(d : Int):=by
    rw [List.getElem?_append_left hpos,List.getElem?_eq_getElem hpos] at p1
    exact Option.some.inj p1
   -- the dart before the last
   have hlast:=p2 (g.length - 1) (by omega)
   rw [show g.length - 1+1=g.length by omega,List.getElem?_append_right (Nat.le_refl _)] at hlast
   simp only [Nat.sub_self,List.getElem?_cons_zero] at hlast
   obtain ⟨u,hu1,hu2,hu3⟩:=h3 g[g.length - 1] (List.getElem_mem _)
   obtain ⟨w,hw1,hw2⟩:=hn.2 u hu2
   rw [hu1,Int.toNat_natCast,hw2] at hlast
   have hz : z=(w : Int):=(Option.some.inj hlast).symm
   subst hz
   rw [Int.toNat_natCast] at e3
   have hzd : (w : Int)=d:=by
    rcases (h4 w hw1).1 e3 with hm | hm
    ·exfalso
     obtain ⟨q,hq,hwq⟩:=List.mem_flatten.1 ((hs.met w hw1).1 hm)
     obtain ⟨j,hj,hjw⟩:=List.getElem_of_mem hwq
     have hp:=cyc_pred (hc q hq) hj
     have hpl : (j+q.length - 1) % q.length < q.length:=Nat.mod_lt _ (by omega)
     rw [hjw] at hp
     have:=hinj _ _ _ hp hw2
     have hmem : q.getD ((j+q.length - 1) % q.length) 0∈q:=by
      rw [List.getD_eq_getElem?_getD,List.getElem?_eq_getElem hpl]; exact List.getElem_mem hpl
     obtain ⟨k,hk,_⟩:=(hs.elem q hq).2 _ hmem
     rw [hk,Int.toNat_natCast] at this
     rw [hk,this] at hmem
     rw [(hs.met u hu2).2 (List.mem_flatten.2 ⟨q,hq,hmem⟩)] at hu3
     cases hu3
    ·obtain ⟨j,hj,hjw⟩:=List.getElem_of_mem hm
     cases j with
     | zero=>rw [← hjw,g0]
     | succ j =>
      exfalso
      have hp:=p2 j (by omega)
      rw [List.getElem?_append_left hj,List.getElem?_eq_getElem hj,hjw] at hp
      obtain ⟨v,hv1,hv2,_⟩:=h3 g[j] (List.getElem_mem _)
      rw [hv1,Int.toNat_natCast] at hp
      have:=hinj _ _ _ hp hw2
      have:=nodup_idx h5 (i:=j) (j:=g.length - 1) (by omega) (by omega) (by rw [hv1,hu1,this])
      omega
   rw [hzd] at e2
   exact path_cyc e2 hne
theorem faces_cyc_all {nx : List Int} (hinj : Inj nx) (hn : NxOK nx nx.length) : ∀ (l : List Unit) (d : Nat) (s t : List Bool×List (List Int)),d+l.length=nx.length→FacesInv nx.length d s→(∀ f∈s.2,Cyc nx f) →
  foldE (faceStep nx) d s l=some (.inl t)→∀ f∈t.2,Cyc nx f
 | [],d,s,t,h,hs,hc,ht=>by
  simp only [foldE] at ht
  cases ht
  exact hc
 | () :: l,d,s,t,h,hs,hc,ht=>by
  simp only [List.length_cons] at h
  obtain ⟨u,h1,h2⟩:=faceStep_ok hn (by omega : d < nx.length) hs
  simp only [foldE,h1,Option.bind_some,Sum.elim_inl] at ht
  exact faces_cyc_all hinj hn l (d+1) u t (by omega) h2 (faceStep_cyc hinj hn (by omega) hs hc h1) ht
theorem facesOf_cyc {nx : List Int} (hinj : Inj nx) (hn : NxOK nx nx.length) : ∀ f∈facesOf nx,Cyc nx f:=by
 obtain ⟨m,h1,_⟩:=facesOf_spec hn
 exact faces_cyc_all hinj hn _ 0 _ _ (by simp) (faces_start nx.length) (by simp) h1
def Rel (nx nx' : List Int) : Prop:=∀ (k y : Nat),nx[k]?=some (y : Int)→nx'[oth y]?=some ((oth k : Nat) : Int)
def NatL (f : List Int) : Prop:=∀ x∈f,∃ k : Nat,x=(k : Int)
theorem cyc_closed {nx f : List Int} (h : Cyc nx f) {k y : Nat} (hk : (k : Int)∈f) (hy : nx[k]?=some (y : Int)) : (y : Int)∈f:=by
 obtain ⟨i,hi,e⟩:=List.getElem_of_mem hk
 have:=h.2 i hi
 have hm : (i+1) % f.length < f.length:=Nat.mod_lt _ (by omega)
 rw [e,Int.toNat_natCast,hy,List.getD_eq_getElem?_getD,List.getElem?_eq_getElem hm] at this
 have : (y : Int)=f[(i+1) % f.length]:=Option.some.inj this
 rw [this]; exact List.getElem_mem hm
end Go.Vm

namespace Go.Vm
open Go.Proofs
set_option maxRecDepth 100000
attribute [local irreducible] loopFix
theorem fold_find {α : Type} (p : α→Bool) : ∀ (l : List α) (i : Nat),(foldE (fun i (_ : Unit) a=>some (cond (p a) (.inr (i : Nat)) (.inl ()))) i () l=some (.inl ())∧∀ a∈l,p a=false) ∨
  ∃ k a,l[k]?=some a∧p a=true∧foldE (fun i (_ : Unit) a=>some (cond (p a) (.inr (i : Nat)) (.inl ()))) i () l=some (.inr (i+k))
 | [],i=>.inl ⟨rfl,by simp⟩
 | a :: l,i=>by
  simp only [foldE,Option.bind_some]
  cases h : p a with
  | true=>exact .inr ⟨0,a,rfl,h,rfl⟩
  | false =>
   simp only [cond_false,Sum.elim_inl]
   rcases fold_find p l (i+1) with ⟨h1,h2⟩ | ⟨k,b,h1,h2,h3⟩
   ·exact .inl ⟨h1,fun b hb=>by
     rcases List.mem_cons.1 hb with rfl | hb
     ·exact h
     ·exact h2 b hb⟩
   ·exact .inr ⟨k+1,b,by simpa using h1,h2,by rw [h3]; congr 2; omega⟩
theorem succ_mod {i j n : Nat} (hi : i < n) (hj : j < n) (e : (i+1) % n=(j+1) % n) : i=j:=by
 rcases Nat.lt_or_ge (i+1) n with a | a <;> rcases Nat.lt_or_ge (j+1) n with b | b
 ·rw [Nat.mod_eq_of_lt a,Nat.mod_eq_of_lt b] at e; omega
 ·have : j+1=n:=by omega
  rw [Nat.mod_eq_of_lt a,this,Nat.mod_self] at e; omega
 ·have : i+1=n:=by omega
  rw [this,Nat.mod_self,Nat.mod_eq_of_lt b] at e; omega
 ·omega
section
variable {N : Nat} {E : List Arc} {A : List (List Int)} {nx : List Int}
theorem fol_at (h : RotOK (N : Nat) E A) (hn : Fol oth E A nx) {a : Nat} {y : Int} (ha : nx[a]?=some y) :
  ∃ (v : Nat) (l : List Int) (i : Nat),A[v]?=some l∧i < l.length∧l.getD i 0=((oth a : Nat) : Int)∧y=l.getD ((i+1) % l.length) 0∧y∈l:=by
 have hk : a < 2 * E.length:=by
  have:=(List.getElem?_eq_some_iff.1 ha).1
  rw [hn.len] at this; exact this
 obtain ⟨l,hl,hd⟩:=List.mem_flatten.1 (h.mem (oth_lt hk))
 obtain ⟨v,hv⟩:=List.mem_iff_getElem?.1 hl
 obtain ⟨i,hi,hid⟩:=List.getElem_of_mem hd
 have g1:=hn.get l hl i hi
 have hm : (i+1) % l.length < l.length:=Nat.mod_lt _ (by omega)
 rw [hid,Int.toNat_natCast,oth_oth,ha] at g1
 have g1:=Option.some.inj g1
 refine ⟨v,l,i,hv,hi,?_,g1,?_⟩
 ·rw [List.getD_eq_getElem?_getD,List.getElem?_eq_getElem hi,hid]; rfl
 ·rw [g1,List.getD_eq_getElem?_getD,List.getElem?_eq_getElem hm]; exact List.getElem_mem hm
theorem fol_inj32 (h : RotOK (N : Nat) E A) (hn : Fol oth E A nx) : Inj nx:=by
 intro a b y ha hb
 obtain ⟨v,l,i,hv,hi,e1,e2,e3⟩:=fol_at h hn ha
 obtain ⟨v',l',i',hv',hi',e1',e2',e3'⟩:=fol_at h hn hb
 obtain ⟨k,rfl,_,hk⟩:=h.dart v l hv y e3
 obtain ⟨k',hkk,_,hk'⟩:=h.dart v' l' hv' _ e3'
 have : k=k':=by omega
 subst this
 have : v=v':=by omega
 subst this
 rw [hv] at hv'
 have : l=l':=Option.some.inj hv'
 subst this
 have hnd : l.Nodup:=h.nodup.sublist (List.sublist_flatten_of_mem (List.mem_of_getElem? hv))
 have hm : (i+1) % l.length < l.length:=Nat.mod_lt _ (by omega)
 have hm' : (i'+1) % l.length < l.length:=Nat.mod_lt _ (by omega)
 rw [e2,List.getD_eq_getElem?_getD,List.getD_eq_getElem?_getD,List.getElem?_eq_getElem hm,List.getElem?_eq_getElem hm'] at e2'
 have e2' : l[(i+1) % l.length]=l[(i'+1) % l.length]:=e2'
 have e : (i+1) % l.length=(i'+1) % l.length:=by
  rcases Nat.lt_trichotomy ((i+1) % l.length) ((i'+1) % l.length) with c | c | c
  ·exact absurd e2' (List.pairwise_iff_getElem.1 hnd _ _ hm hm' c)
  ·exact c
  ·exact absurd e2'.symm (List.pairwise_iff_getElem.1 hnd _ _ hm' hm c)
 have : i=i':=succ_mod hi hi' e
 subst this
 rw [e1] at e1'
 have : oth a=oth b:=by omega
 rw [← oth_oth a,this,oth_oth]
end
end Go.Vm

namespace Go.Vm
open Go.Proofs
set_option maxRecDepth 100000
attribute [local irreducible] loopFix
def empStep32 (_ : Nat) (n : Int) (l : List Int) : Option (Int⊕Empty):=some (.inl (cond (eqI (l.length : Nat) 0) (addI .i64 n 1) n))
theorem gen_loop32 (N : Int) (E : List Arc) (A : List (List Int)) (n : Int) (hA : A.length < 9223372036854775807) : ∃ n1,Zbb_L5 (N,E,A,n,A,(A.length : Nat),0,())=some (.inl (N,E,A,n1,())) ∧
  Zag_L5 (((A.length : Nat) : Int),E,A,n,0,())=some (.inl (((A.length : Nat) : Int),E,A,n1,())):=by
 obtain ⟨n1,hn⟩:=foldE_inl (g:=empStep32) (l:=A) (i:=0) (s:=n) (fun _ n l=>cond (eqI (l.length : Nat) 0) (addI .i64 n 1) n) (fun _ _ _ _=>rfl)
 have k1:=scan (B:=Zbb_B5) (fun n i=>(N,E,A,n,A,((A.length : Nat) : Int),(i : Int),())) (fun n=>.inl (N,E,A,n,())) (fun e=>nomatch e) empStep32 A (by
  intro n i l hd'
  have hi : i < A.length:=(List.getElem?_eq_some_iff.1 hd').1
  simp only [Zbb_B5,empStep32]
  rw [ltI_t (by omega),cond_true,getI_of,hd',Option.bind_some,add1 (a:=i) (by omega)]
  cases eqI ((l.length : Nat) : Int) 0 <;> rfl) (by
  intro n
  simp only [Zbb_B5]
  rw [ltI_f (by omega)]; rfl) n
 have k2:=scan (B:=Zag_B5) (fun n i=>(((A.length : Nat) : Int),E,A,n,(i : Int),())) (fun n=>.inl (((A.length : Nat) : Int),E,A,n,())) (fun e=>nomatch e) empStep32 A (by
  intro n i l hd'
  have hi : i < A.length:=(List.getElem?_eq_some_iff.1 hd').1
  simp only [Zag_B5,empStep32]
  rw [ltI_t (by omega),cond_true,getI_of,hd',Option.bind_some,add1 (a:=i) (by omega)]
  cases eqI ((l.length : Nat) : Int) 0 <;> rfl) (by
  intro n
  simp only [Zag_B5]
  rw [ltI_f (by omega)]; rfl) n
 rw [hn] at k1 k2
 exact ⟨n1,k1,k2⟩
section
variable {N : Nat} {E : List Arc} {A : List (List Int)}
theorem genus32 (h : RotOK (N : Nat) E A) (hv : validB ((N : Int),E,A,())=true) (hl : ∀ l∈A,l.length≤9223372036854775807) :
  ∃ g,Zbb (((N : Int),E,A,()),())=some (g,())∧Zag (((N : Int),E,A,()),())=some (g,()):=by
 obtain ⟨nx,m,_,f1,hi,r1,r2⟩:=faces_both h hv hl
 have hAl : A.length=N:=by have:=h.len; omega
 have h16 : N≤16384:=by have:=h.n1; omega
 obtain ⟨n1,g1,g2⟩:=gen_loop32 (N : Int) E A ((facesOf nx).length : Nat) (by omega)
 rw [hAl] at g1 g2
 refine ⟨subI .i64 (comps N E : Nat) (quoI .i64 (addI .i64 (subI .i64 (N : Int) (E.length : Nat)) n1) 2),?_,?_⟩
 ·unfold Zbb
  simp only
  rw [valid_eq ((N : Int),E,A,()) hl,hv,Option.bind_some]
  simp only [Bool.not_true,cond_false]
  rw [r1,Option.bind_some]
  simp only
  rw [hAl,g1]
  simp only [Option.bind_some,Sum.elim_inl]
  rw [comps_val h]
  rfl
 ·unfold Zag
  simp only
  rw [rvalid_eq ((N : Int),E,A,()) hl,hv,Option.bind_some]
  simp only [Bool.not_true,cond_false]
  rw [r2,Option.bind_some]
  simp only
  rw [g2]
  simp only [Option.bind_some,Sum.elim_inl]
  rw [rcomps_val h]
  rfl
theorem arc_other (h : RotOK (N : Nat) E A) {k v : Nat} (hk : k < 2 * E.length) (hv : tl E k=v) : ∃ a,E[k / 2]?=some a∧∃ w : Nat,hd E k=w∧w < N∧subI .i64 (addI .i64 a.1 a.2.1) (v : Int)=(w : Int):=by
 have hke : k / 2 < E.length:=by omega
 obtain ⟨a,ha⟩ : ∃ a,E[k / 2]?=some a:=⟨_,List.getElem?_eq_getElem hke⟩
 obtain ⟨w,hw,hwN⟩:=h.hd_lt hk
 obtain ⟨v',hv',hvN⟩:=h.tl_lt hk
 have h16 : N≤16384:=by have:=h.n1; omega
 have hvv : v=v':=by omega
 subst hvv
 refine ⟨a,ha,w,hw,hwN,?_⟩
 have e : a.1+a.2.1=(v : Int)+w:=by
  unfold hd at hw
  unfold tl at hv hw
  rw [ha] at hv
  rw [oth_div,ha,oth_mod] at hw
  simp only at hv hw
  rcases Nat.mod_two_eq_zero_or_one k with e | e
  ·rw [e] at hv hw
   simp at hv hw
   omega
  ·rw [e] at hv hw
   simp at hv hw
   omega
 rw [addI64 (by omega) (by omega),subI64 (by omega) (by omega)]
 omega
theorem dconn_inner (h : RotOK (N : Nat) E A) (seen : List Bool) (q : List Int) (i v : Nat) (l : List Int) (hs : seen.length=N) (hst : q.length+unm seen≤100000) (hq : q[i]?=some (v : Int)) (hl : ∀ d∈l,∃ k : Nat,d=(k : Int)∧k < 2 * E.length∧tl E k=v) (hll : l.length≤65536) :
  Zba_L10 ((N : Int),E,A,seen,q,(i : Int),l,(l.length : Nat),0,())=(foldE (expl E) 0 (seen,q) l).bind (Sum.elim (fun t=>some (.inl ((N : Int),E,A,t.1,t.2,(i : Int),()))) (fun e=>nomatch e)):=by
 refine (scanI (B:=Zba_B10) (fun _ s=>s.1.length=N∧s.2.length+unm s.1≤100000∧s.2[i]?=some (v : Int)) (fun s j=>((N : Int),E,A,s.1,s.2,(i : Int),l,((l.length : Nat) : Int),(j : Int),())) (fun s=>.inl ((N : Int),E,A,s.1,s.2,(i : Int),())) (fun e=>nomatch e) (expl E) l ?_ ?_ ?_ (seen,q) ⟨hs,hst,hq⟩).trans ?_
 ·rintro ⟨seen,st⟩ j d ⟨hs,hst,hq⟩ hd'
  simp only at hs hst hq
  have hi : j < l.length:=(List.getElem?_eq_some_iff.1 hd').1
  have hiq : i < st.length:=(List.getElem?_eq_some_iff.1 hq).1
  have hm1:=h.m1
  obtain ⟨k,rfl,hk,hkv⟩:=hl d (List.mem_of_getElem? hd')
  obtain ⟨a,ha,w,hw,hwN,hsub⟩:=arc_other h hk hkv
  simp only [Zba_B10]
  rw [ltI_t (by omega),cond_true,getI_of,hd',Option.bind_some,quo2 (by omega),getI_of,ha,Option.bind_some,idxI_of hiq,Option.bind_some,hq,Option.bind_some,hsub]
  obtain ⟨b,hb⟩ : ∃ b,seen[w]?=some b:=⟨_,List.getElem?_eq_getElem (by omega)⟩
  rw [idxI_of (by omega),Option.bind_some,hb,Option.bind_some,add1 (by omega)]
  simp only [expl,Int.toNat_natCast,hw,hb]
  cases b with
  | true=>rfl
  | false =>
   have:=unm_set hb
   simp only [Bool.not_false,cond_true,Option.bind_some,hb]
   rw [app_of (by simp only [List.length_singleton]; omega)]
   rfl
 ·rintro ⟨seen,st⟩ j d t ⟨hs,hst,hq⟩ hd' hg
  simp only at hs hst hq
  simp only [expl] at hg
  cases hg
  split
  ·rename_i hb
   have:=unm_set hb
   have hiq : i < st.length:=(List.getElem?_eq_some_iff.1 hq).1
   exact ⟨by simpa using hs,by simp only [List.length_append,List.length_singleton]; omega,by rw [List.getElem?_append_left hiq]; exact hq⟩
  ·exact ⟨hs,hst,hq⟩
 ·intro s hs
  simp only [Zba_B10]
  rw [ltI_f (by omega)]; rfl
 ·cases foldE (expl E) 0 (seen,q) l with
  | none=>rfl
  | some x=>cases x with
   | inl t=>rfl
   | inr e=>exact nomatch e
theorem dconn_loop (h : RotOK (N : Nat) E A) (hN0 : 0 < N) :
  ∃ q,Zba_L7 ((N : Int),E,A,(List.replicate N false).set 0 true,[0],0,())=some (.inl ((N : Int),E,A,q,()))∧(q.length=N↔Conn N E):=by
 have h16 : N≤16384:=by have:=h.n1; omega
 have hAl : A.length=N:=by have:=h.len; omega
 obtain ⟨r,h1,h2⟩:=loop_rule (f:=Zba_B7) (fun s=>∃ seen q,∃ i : Nat,s=((N : Int),E,A,seen,q,(i : Int),())∧Look N E seen (q.drop i)∧q.length+unm seen=N∧i≤q.length)
  (fun s=>N - s.2.2.2.2.2.1.toNat) (fun r=>∃ q,r=.inl ((N : Int),E,A,q,())∧(q.length=N↔Conn N E)) (by
   rintro _ ⟨seen,q,i,rfl,hL,hc',hiq⟩
   by_cases hi : i < q.length
   ·left
    have hdrop : q.drop i=q[i] :: q.drop (i+1):=List.drop_eq_getElem_cons hi
    obtain ⟨u,hu,huN,hus⟩:=hL.stk q[i] (by rw [hdrop]; exact List.mem_cons_self)
    have hq : q[i]?=some (u : Int):=by rw [List.getElem?_eq_getElem hi,hu]
    obtain ⟨l,hl⟩ : ∃ l,A[u]?=some l:=⟨_,List.getElem?_eq_getElem (by omega)⟩
    have hlm:=List.mem_of_getElem? hl
    have hll:=h.list_len hlm
    have hm1:=h.m1
    have hu0:=unm_le seen
    rw [hL.len] at hu0
    obtain ⟨seen',new,q1,q2,q3,q4,q5,q6⟩:=expl_spec (fun k hk=>h.hd_lt hk) l 0 seen q hL.len (fun d hd'=>h.mem_of hlm hd')
    refine ⟨((N : Int),E,A,seen',q++new,((i+1 : Nat) : Int),()),?_,⟨seen',q++new,i+1,rfl,?_,?_,by simp; omega⟩,?_⟩
    ·simp only [Zba_B7]
     rw [ltI_t (by omega),cond_true,idxI_of hi,Option.bind_some,hq,Option.bind_some,getI_of,hl,Option.bind_some,
      dconn_inner h seen q i u l hL.len (by omega) hq (fun d hd'=>by obtain ⟨k,e1,e2,e3⟩:=h.dart u l hl d hd'; exact ⟨k,e1,e2,e3⟩) (by omega),q1]
     simp only [Option.bind_some,Sum.elim_inl]
     rw [add1 (by omega)]
    ·rw [List.drop_append_of_le_length (by omega)]
     exact hL.step h huN (by rw [hdrop,hu]; exact List.mem_cons_self) hl (q.drop (i+1)) (fun d=>by rw [hdrop,hu]; exact List.mem_cons) q2 q4 q5 q6
    ·simp only [List.length_append]; omega
    ·simp only [Int.toNat_natCast]; omega
   ·right
    refine ⟨.inl ((N : Int),E,A,q,()),?_,q,rfl,?_⟩
    ·simp only [Zba_B7]
     rw [ltI_f (by omega)]; rfl
    ·have hd0 : q.drop i=[]:=List.drop_eq_nil_of_le (by omega)
     rw [hd0] at hL
     rw [← hL.all h]
     have hz : unm seen=0↔∀ v,v < seen.length→seen[v]?=some true:=unm_zero
     rw [hL.len] at hz
     rw [← hz]
     omega) ((N : Int),E,A,(List.replicate N false).set 0 true,[0],0,()) (by
   have hr0 : (List.replicate N false)[0]?=some false:=by simp [List.getElem?_replicate,hN0]
   have hu:=unm_set hr0
   rw [unm_rep] at hu
   have hset : ∀ v,((List.replicate N false).set 0 true)[v]?=some true→v=0:=by
    intro v hv
    rw [List.getElem?_set] at hv
    by_cases e : 0=v
    ·exact e.symm
    ·rw [if_neg e,List.getElem?_replicate] at hv
     split at hv <;> simp at hv
   refine ⟨_,[0],0,rfl,⟨by simp,?_,?_,?_,?_⟩,by simp; omega,by simp⟩
   ·intro d hd'
    simp at hd'
    subst hd'
    exact ⟨0,rfl,hN0,by simp [hN0]⟩
   ·intro v hv hs hn
    have:=hset v hs
    subst this
    simp at hn
   ·intro v hv hs
    rw [hset v hs]; exact .refl 0
   ·simp [hN0])
 obtain ⟨q,rfl,h3⟩:=h2
 exact ⟨q,h1,h3⟩
theorem dconnected_eq (h : RotOK (N : Nat) E A) : ∃ b,Zba (((N : Int),E,A,()),())=some (b,())∧(b=true↔0 < N∧Conn N E):=by
 have h16 : N≤16384:=by have:=h.n1; omega
 unfold Zba
 simp only
 by_cases h0 : N=0
 ·subst h0
  exact ⟨false,by rw [eqI_t (by rfl)]; rfl,by simp⟩
 ·obtain ⟨q,h1,h2⟩:=dconn_loop h (by omega)
  refine ⟨eqI (q.length : Nat) (N : Int),?_,?_⟩
  ·rw [eqI_f (by omega),cond_false,makeL_of (Nat.le_refl _) (by omega),Option.bind_some]
   have e1 : idxI (List.replicate N (zeroVal Ty.bool)).length 0=some 0:=by
    rw [List.length_replicate]; exact idxI_of (i:=0) (by omega)
   have e2 : (List.replicate N (zeroVal Ty.bool))[0]?=some (zeroVal Ty.bool):=by
    rw [List.getElem?_replicate,if_pos (by omega)]
   rw [e1,Option.bind_some,e2,Option.bind_some,show (List.replicate N (zeroVal Ty.bool)).set 0 true=(List.replicate N false).set 0 true from rfl,h1]
   rfl
  ·rw [← h2]
   unfold eqI
   simp
   omega
theorem check32 (N : Int) (E : List Arc) (A : List (List Int)) (hl : ∀ l∈A,l.length≤9223372036854775807) : ∃ e,Zbt ((N,E,A,()),())=some (e,())∧Zy ((N,E,A,()),())=some (e,()) ∧
  (e=0→∃ n : Nat,N=(n : Int)∧RotOK (n : Int) E A∧validB ((n : Int),E,A,())=true∧0 < n∧Conn n E):=by
 unfold Zbt Zy
 simp only
 rw [valid_eq (N,E,A,()) hl,Option.bind_some]
 cases hv : validB (N,E,A,()) with
 | false =>
  refine ⟨13,rfl,?_,by simp⟩
  have : Zag ((N,E,A,()),())=some (-1,()):=by
   unfold Zag
   simp only
   rw [rvalid_eq (N,E,A,()) hl,hv,Option.bind_some]
   rfl
  rw [this]
  rfl
 | true =>
  have h:=valid_ok hv
  obtain ⟨n,rfl⟩ : ∃ n : Nat,N=(n : Int):=⟨N.toNat,by have:=h.n0; omega⟩
  obtain ⟨g,g1,g2⟩:=genus32 h hv hl
  simp only [Bool.not_true,cond_false]
  rw [g1,g2]
  simp only [Option.bind_some]
  cases hg : neI g 0 with
  | true=>exact ⟨13,rfl,rfl,by simp⟩
  | false =>
   simp only [cond_false]
   obtain ⟨b,b1,b2⟩:=dconnected_eq h
   obtain ⟨c,c1,c2,c3⟩:=rcomps_eq h
   rw [b1,c1]
   simp only [Option.bind_some]
   by_cases hc : 0 < n∧Conn n E
   ·have hb : b=true:=b2.2 hc
    have hc1 : c=1:=(c3 hc.1).2 hc.2
    subst hb
    subst hc1
    refine ⟨0,rfl,by rw [neI_f (by rfl)]; rfl,fun _=>⟨n,rfl,h,hv,hc.1,hc.2⟩⟩
   ·have hb : b=false:=by
     cases hbb : b with
     | false=>rfl
     | true=>exact absurd (b2.1 hbb) hc
    subst hb
    refine ⟨12,rfl,?_,by simp⟩
    rw [neI_t (by
     intro e
     have e1 : c=1:=by omega
     by_cases h0 : 0 < n
     ·exact hc ⟨h0,(c3 h0).1 e1⟩
     ·omega)]
    rfl
end
end Go.Vm

namespace Go.Vm
open Go.Proofs
set_option maxRecDepth 100000
attribute [local irreducible] loopFix
theorem numbers_inner (fs : List (List Int)) (a b i : Int) (f out : List Int) (hf : ∀ d∈f,∃ k : Nat,d=(k : Int)∧k < out.length) (hl : f.length≤1000000) :
  Zbk_L7 (out,fs,i,a,b,f,(f.length : Nat),0,())=some (.inl (setAll out f i,fs,a,b,())):=by
 have:=scanI (B:=Zbk_B7) (fun _ (s : List Int)=>s.length=out.length) (fun s j=>(s,fs,i,a,b,f,((f.length : Nat) : Int),(j : Int),())) (fun s=>.inl (s,fs,a,b,())) (fun (e : Empty)=>e.elim)
  (fun _ s (d : Int)=>some (.inl (s.set d.toNat i))) f (by
   intro s j d hs hd
   have hj : j < f.length:=(List.getElem?_eq_some_iff.1 hd).1
   obtain ⟨k,rfl,hk⟩:=hf d (List.mem_of_getElem? hd)
   have hk2 : k < s.length:=by omega
   unfold Zbk_B7
   simp only
   rw [ltI_t (by omega),cond_true,getI_of,hd,Option.bind_some,idxI_of hk2,Option.bind_some,List.getElem?_eq_getElem hk2,Option.bind_some,add1 (by omega)]
   rfl) (by
   intro s j d t hs hd ht
   simp only [Option.some.injEq,Sum.inl.injEq] at ht
   subst ht
   simpa using hs) (by
   intro s _
   unfold Zbk_B7
   simp only
   rw [ltI_f (by omega)]; rfl) out rfl
 unfold Zbk_L7
 rw [show ((out,fs,i,a,b,f,((f.length : Nat) : Int),0,()) : List Int×List (List Int)×Int×Int×Int×List Int×Int×Int×Unit)=(out,fs,i,a,b,f,((f.length : Nat) : Int),((0 : Nat) : Int),()) from rfl,this,set_fold]
 rfl
theorem marks_inner (fs : List (List Int)) (i : Nat) (f out : List Int) (hi : fs[i]?=some f) (hf : ∀ d∈f,∃ k : Nat,d=(k : Int)∧k < out.length) (hl : f.length≤1000000) :
  Zaa_L7 (out,fs,(i : Int),0,())=some (.inl (setAll out f (i : Int),fs,(i : Int),())):=by
 have hil : i < fs.length:=(List.getElem?_eq_some_iff.1 hi).1
 have:=scanI (B:=Zaa_B7) (fun _ (s : List Int)=>s.length=out.length) (fun s j=>(s,fs,(i : Int),(j : Int),())) (fun s=>.inl (s,fs,(i : Int),())) (fun (e : Empty)=>e.elim)
  (fun _ s (d : Int)=>some (.inl (s.set d.toNat (i : Int)))) f (by
   intro s j d hs hd
   have hj : j < f.length:=(List.getElem?_eq_some_iff.1 hd).1
   obtain ⟨k,rfl,hk⟩:=hf d (List.mem_of_getElem? hd)
   have hk2 : k < s.length:=by omega
   unfold Zaa_B7
   simp only
   rw [idxI_of hil,Option.bind_some,hi,Option.bind_some,ltI_t (by omega),cond_true,Option.bind_some,hi,Option.bind_some,getI_of,hd,Option.bind_some,idxI_of hk2,Option.bind_some,List.getElem?_eq_getElem hk2,Option.bind_some,add1 (by omega)]
   rfl) (by
   intro s j d t hs hd ht
   simp only [Option.some.injEq,Sum.inl.injEq] at ht
   subst ht
   simpa using hs) (by
   intro s _
   unfold Zaa_B7
   simp only
   rw [idxI_of hil,Option.bind_some,hi,Option.bind_some,ltI_f (by omega)]; rfl) out rfl
 unfold Zaa_L7
 rw [show ((out,fs,(i : Int),0,()) : List Int×List (List Int)×Int×Int×Unit)=(out,fs,(i : Int),((0 : Nat) : Int),()) from rfl,this,set_fold]
 rfl
section
variable {N : Nat} {E : List Arc} {A : List (List Int)}
theorem numbers_eq (fs : List (List Int)) (h : FsOK (2 * E.length) fs) (hE : E.length≤100) (r1 : Zbd (((N : Int),E,A,()),())=some (fs,())) :
  Zbk (((N : Int),E,A,()),())=some (marksOf (2 * E.length) fs,maxI 1 (fs.length : Nat),()):=by
 have hnum:=h.num
 have hfl:=h.flen (by omega)
 unfold Zbk
 simp only
 have e2 : mulI .i64 2 (E.length : Nat)=((2 * E.length : Nat) : Int):=by rw [mulI64 (by omega) (by omega)]; omega
 rw [e2,makeL_of (Nat.le_refl _) (by omega),Option.bind_some,r1,Option.bind_some]
 simp only
 have:=scanI (B:=Zbk_B4) (fun _ (s : List Int)=>s.length=2 * E.length) (fun s j=>(s,fs,((fs.length : Nat) : Int),(j : Int),())) (fun s=>.inl (s,fs,())) (fun (e : Empty)=>e.elim)
  (fun i s (f : List Int)=>some (.inl (setAll s f (i : Int)))) fs (by
   intro s j f hs hf
   have hj : j < fs.length:=(List.getElem?_eq_some_iff.1 hf).1
   have hfm:=List.mem_of_getElem? hf
   have:=hfl f hfm
   unfold Zbk_B4
   simp only
   rw [ltI_t (by omega),cond_true,idxI_of hj,Option.bind_some,hf,Option.bind_some,numbers_inner fs _ _ _ f s (fun d hd=>by rw [hs]; exact (h.elem f hfm).2 d hd) (by omega)]
   simp only [Option.bind_some,Sum.elim_inl]
   rw [add1 (by omega)]) (by
   intro s j d t hs hd ht
   simp only [Option.some.injEq,Sum.inl.injEq] at ht
   subst ht
   rw [setAll_len]; exact hs) (by
   intro s _
   unfold Zbk_B4
   simp only
   rw [ltI_f (by omega)]; rfl) (List.replicate (2 * E.length) (zeroVal I)) (by simp)
 unfold Zbk_L4
 rw [show ((List.replicate (2 * E.length) (zeroVal I),fs,((fs.length : Nat) : Int),0,()) : List Int×List (List Int)×Int×Int×Unit)=(List.replicate (2 * E.length) (zeroVal I),fs,((fs.length : Nat) : Int),((0 : Nat) : Int),()) from rfl,this,mark_fold]
 rfl
theorem rmarks_eq (fs : List (List Int)) (h : FsOK (2 * E.length) fs) (hE : E.length≤100) (r1 : Zah (((N : Int),E,A,()),())=some (fs,())) :
  Zaa (((N : Int),E,A,()),())=some (marksOf (2 * E.length) fs,()):=by
 have hnum:=h.num
 have hfl:=h.flen (by omega)
 unfold Zaa
 simp only
 have e2 : mulI .i64 2 (E.length : Nat)=((2 * E.length : Nat) : Int):=by rw [mulI64 (by omega) (by omega)]; omega
 rw [e2,makeL_of (Nat.le_refl _) (by omega),Option.bind_some,r1,Option.bind_some]
 simp only
 have:=scanI (B:=Zaa_B4) (fun _ (s : List Int)=>s.length=2 * E.length) (fun s j=>(s,fs,(j : Int),())) (fun s=>.inl (s,())) (fun (e : Empty)=>e.elim)
  (fun i s (f : List Int)=>some (.inl (setAll s f (i : Int)))) fs (by
   intro s j f hs hf
   have hj : j < fs.length:=(List.getElem?_eq_some_iff.1 hf).1
   have hfm:=List.mem_of_getElem? hf
   have:=hfl f hfm
   unfold Zaa_B4
   simp only
   rw [ltI_t (by omega),cond_true,marks_inner fs j f s hf (fun d hd=>by rw [hs]; exact (h.elem f hfm).2 d hd) (by omega)]
   simp only [Option.bind_some,Sum.elim_inl]
   rw [add1 (by omega)]) (by
   intro s j d t hs hd ht
   simp only [Option.some.injEq,Sum.inl.injEq] at ht
   subst ht
   rw [setAll_len]; exact hs) (by
   intro s _
   unfold Zaa_B4
   simp only
   rw [ltI_f (by omega)]; rfl) (List.replicate (2 * E.length) (zeroVal I)) (by simp)
 unfold Zaa_L4
 rw [show ((List.replicate (2 * E.length) (zeroVal I),fs,0,()) : List Int×List (List Int)×Int×Unit)=(List.replicate (2 * E.length) (zeroVal I),fs,((0 : Nat) : Int),()) from rfl,this,mark_fold]
 rfl
end
end Go.Vm

namespace Go.Vm
open Go.Proofs
set_option maxRecDepth 100000
attribute [local irreducible] loopFix
def mk2 (m : List Int) (k : Nat) : Int:=(m[k]?).getD 0
def arcsFrom (m : List Int) (i n : Nat) : List Arc:=(List.range' i n).map fun e=>(mk2 m (2 * e),mk2 m (2 * e+1),())
theorem arcs_fold (m : List Int) : ∀ (l : List Arc) (i : Nat) (out : List Arc),foldE (fun i out (_ : Arc)=>some (.inl (out++[(mk2 m (2 * i),mk2 m (2 * i+1),())]) : List Arc⊕Empty)) i out l=some (.inl (out++arcsFrom m i l.length))
 | [],i,out=>by simp [foldE,arcsFrom]
 | a :: l,i,out=>by
  simp only [foldE,Option.bind_some,Sum.elim_inl]
  rw [arcs_fold m l (i+1)]
  simp [arcsFrom,List.range'_succ]
section
variable {N : Nat} {E : List Arc} {A : List (List Int)}
theorem rbuild_loop (m : List Int) (hm : m.length=2 * E.length) (hE : E.length≤100) (z n : Int) :
  Zai_L7 ((N : Int),E,A,z,m,n,[],0,())=some (.inl (z,n,arcsFrom m 0 E.length,())):=by
 have:=scanI (B:=Zai_B7) (fun i (s : List Arc)=>s.length=i) (fun s j=>((N : Int),E,A,z,m,n,s,(j : Int),())) (fun s=>.inl (z,n,s,())) (fun (e : Empty)=>e.elim)
  (fun i s (_ : Arc)=>some (.inl (s++[(mk2 m (2 * i),mk2 m (2 * i+1),())]))) E (by
   intro s j a hs ha
   have hj : j < E.length:=(List.getElem?_eq_some_iff.1 ha).1
   have h1 : 2 * j < m.length:=by omega
   have h2 : 2 * j+1 < m.length:=by omega
   have e1 : mulI .i64 2 (j : Int)=((2 * j : Nat) : Int):=by rw [mulI64 (by omega) (by omega)]; omega
   unfold Zai_B7
   simp only
   rw [ltI_t (by omega),cond_true,e1,add1 (by omega),add1 (by omega),idxI_of h1,Option.bind_some,List.getElem?_eq_getElem h1,Option.bind_some,idxI_of h2,Option.bind_some,List.getElem?_eq_getElem h2,Option.bind_some,app_of (by simp; omega)]
   simp [mk2,h1,h2]) (by
   intro s j a t hs _ ht
   simp only [Option.some.injEq,Sum.inl.injEq] at ht
   subst ht
   simp [hs]) (by
   intro s _
   unfold Zai_B7
   simp only
   rw [ltI_f (by omega)]; rfl) [] rfl
 unfold Zai_L7
 rw [show (((N : Int),E,A,z,m,n,[],0,()) : Int×List Arc×List (List Int)×Int×List Int×Int×List Arc×Int×Unit)=((N : Int),E,A,z,m,n,[],((0 : Nat) : Int),()) from rfl,this,arcs_fold]
 simp
end
theorem build32 (N : Int) (E : List Arc) (A : List (List Int)) (hE : E.length≤100) (hl : ∀ l∈A,l.length≤9223372036854775807) :
  (∃ e,e≠0∧Zbt ((N,E,A,()),())=some (e,())∧Zai ((N,E,A,()),())=some ((0,[],()),e,())) ∨
  ∃ (n : Nat) (fs : List (List Int)),N=(n : Int)∧RotOK (n : Int) E A∧validB ((n : Int),E,A,())=true∧0 < n∧Conn n E∧FsOK (2 * E.length) fs∧(∃ nx,Fol oth E A nx∧fs=facesOf nx∧NxOK nx nx.length) ∧
   Zbt ((N,E,A,()),())=some (0,())∧Zbd ((N,E,A,()),())=some (fs,())∧Zah ((N,E,A,()),())=some (fs,()) ∧
   Zbk ((N,E,A,()),())=some (marksOf (2 * E.length) fs,maxI 1 (fs.length : Nat),())∧Zaa ((N,E,A,()),())=some (marksOf (2 * E.length) fs,()) ∧
   Zai ((N,E,A,()),())=some ((maxI 1 (fs.length : Nat),arcsFrom (marksOf (2 * E.length) fs) 0 E.length,()),0,()):=by
 obtain ⟨e,c1,c2,c3⟩:=check32 N E A hl
 by_cases he : e=0
 ·right
  subst he
  obtain ⟨n,rfl,h,hv,hn,hc⟩:=c3 rfl
  obtain ⟨fs,hf,r1,r2,hnx⟩:=faces32 h hv hl
  have k1:=numbers_eq (A:=A) (N:=n) fs hf hE r1
  have k2:=rmarks_eq (A:=A) (N:=n) fs hf hE r2
  refine ⟨n,fs,rfl,h,hv,hn,hc,hf,hnx,c1,r1,r2,k1,k2,?_⟩
  ·unfold Zai
   simp only
   rw [c2,Option.bind_some]
   simp only
   rw [neI_f (by rfl),cond_false,k2,Option.bind_some,r2,Option.bind_some]
   simp only
   rw [rbuild_loop _ marksOf_len hE]
   rfl
 ·left
  refine ⟨e,he,c1,?_⟩
  ·unfold Zai
   simp only
   rw [c2,Option.bind_some]
   simp only
   rw [neI_t he]; rfl
theorem contains_int (l : List Int) (v : Int) (hl : l.length≤68719476736) : ∃ b,Zn (l,v,())=some (b,())∧(b=true↔v∈l):=by
 unfold Zn Zan
 dsimp only
 have h:=scan (B:=Zan_B2) (fun (_ : Unit) i=>(l,v,((l.length : Nat) : Int),(i : Int),()))
  (fun _=>.inr (.inl ())) (fun (k : Nat)=>.inl ((k : Int),())) (fun i (_ : Unit) a=>some (cond (eqI v a) (.inr i) (.inl ()))) l (by
   intro _ i a ha
   have hi : i < l.length:=(List.getElem?_eq_some_iff.1 ha).1
   unfold Zan_B2
   simp only
   rw [ltI_t (by omega),cond_true,getI_of,ha,Option.bind_some,Option.bind_some]
   cases eqI v a with
   | true=>rfl
   | false=>rw [cond_false,add1 (by omega)]; rfl) (by
   intro _
   unfold Zan_B2
   simp only
   rw [ltI_f (by omega)]; rfl) ()
 unfold Zan_L2
 rw [show ((0 : Int))=((0 : Nat) : Int) from rfl,h]
 rcases fold_find (fun a=>eqI v a) l 0 with ⟨h1,h2⟩ | ⟨k,a,h1,h2,h3⟩
 ·rw [h1]
  refine ⟨false,?_,?_⟩
  ·simp only [Option.bind_some,Sum.elim_inr,Sum.elim_inl]
   rw [geI_f (by omega)]
  ·simp only [Bool.false_eq_true,false_iff]
   intro hm
   have:=h2 v hm
   simp [eqI] at this
 ·rw [h3]
  refine ⟨true,?_,?_⟩
  ·simp only [Option.bind_some,Sum.elim_inr,Sum.elim_inl]
   rw [geI_t (by omega)]
  ·simp only [true_iff]
   have : v=a:=by simpa [eqI] using h2
   rw [this]
   exact List.mem_of_getElem? h1
end Go.Vm

namespace Go.Vm
open Go.Proofs
set_option maxRecDepth 100000
attribute [local irreducible] loopFix
theorem compact_sorted {zs : List Int} (h : zs.Pairwise (·≤·)) : (Lib.compact zs).Pairwise (· < ·)∧∀ x,x∈Lib.compact zs↔x∈zs:=by
 have hget : ∀ i,i < zs.length→zs.toArray[i]! = zs.getD i 0:=by
  intro i hi
  rw [getElem!_pos _ _ (by simpa using hi)]
  simp [hi]
 have hle : ∀ i j,i≤j→j < zs.length→zs.getD i 0≤zs.getD j 0:=by
  intro i j hij hj
  rcases Nat.lt_or_ge i j with h1 | h1
  ·have:=List.pairwise_iff_getElem.1 h i j (by omega) hj h1
   simpa [List.getD_eq_getElem?_getD,hj,show i < zs.length by omega] using this
  ·have : i=j:=by omega
   rw [this]; exact Int.le_refl _
 unfold Lib.compact Lib.compactUpTo
 refine ⟨?_,fun x=>⟨fun hx=>?_,fun hx=>?_⟩⟩
 ·refine List.pairwise_map.2 (List.Pairwise.imp_of_mem (fun {i j} hi hj hij=>?_) (List.Pairwise.filter _ List.pairwise_lt_range))
  obtain ⟨hj1,hj2⟩:=List.mem_filter.1 hj
  have hj1:=List.mem_range.1 hj1
  unfold Lib.keeps at hj2
  simp only [decide_eq_true_eq] at hj2
  rcases hj2 with hj2 | hj2
  ·omega
  ·rw [hget _ (by omega),hget _ (by omega)] at hj2
   rw [hget _ (by omega),hget _ (by omega)]
   have a1:=hle i (j - 1) (by omega) (by omega)
   have a2:=hle (j - 1) j (by omega) (by omega)
   omega
 ·obtain ⟨i,hi,rfl⟩:=List.mem_map.1 hx
  have hi:=List.mem_range.1 (List.mem_filter.1 hi).1
  rw [hget i hi]
  rw [List.getD_eq_getElem?_getD,List.getElem?_eq_getElem hi]
  exact List.getElem_mem hi
 ·obtain ⟨k,hk,rfl⟩:=List.getElem_of_mem hx
  have key : ∀ k,k < zs.length→∃ j,j < zs.length∧Lib.keeps zs.toArray j=true∧zs.getD j 0=zs.getD k 0:=by
   intro k
   induction k with
   | zero=>intro hk; exact ⟨0,hk,by simp [Lib.keeps],rfl⟩
   | succ k ih =>
    intro hk
    by_cases e : zs.getD (k+1) 0=zs.getD k 0
    ·obtain ⟨j,j1,j2,j3⟩:=ih (by omega)
     exact ⟨j,j1,j2,j3.trans e.symm⟩
    ·refine ⟨k+1,hk,?_,rfl⟩
     unfold Lib.keeps
     simp only [decide_eq_true_eq]
     right
     rw [hget _ hk,hget _ (by omega)]
     simpa using e
  obtain ⟨j,j1,j2,j3⟩:=key k hk
  refine List.mem_map.2 ⟨j,List.mem_filter.2 ⟨List.mem_range.2 j1,j2⟩,?_⟩
  rw [hget j j1,j3,List.getD_eq_getElem?_getD,List.getElem?_eq_getElem hk]
  rfl
def facesAt (m l : List Int) : List Int:=l.map fun d=>mk2 m d.toNat
def aroundL (m l : List Int) : List Int:=Lib.compact (isortI (cond (l.isEmpty) [0] (facesAt m l)))
theorem around_sorted (m l : List Int) : (aroundL m l).Pairwise (· < ·)∧∀ x,x∈aroundL m l↔x∈cond (l.isEmpty) [0] (facesAt m l):=by
 obtain ⟨h1,h2⟩:=compact_sorted (isortI_sorted (cond (l.isEmpty) [0] (facesAt m l)))
 exact ⟨h1,fun x=>(h2 x).trans (isortI_perm _).mem_iff⟩
theorem fa_fold (m : List Int) : ∀ (l : List Int) (i : Nat) (out : List Int),foldE (fun _ out (d : Int)=>some (.inl (out++[mk2 m d.toNat]) : List Int⊕Empty)) i out l=some (.inl (out++facesAt m l))
 | [],i,out=>by simp [foldE,facesAt]
 | d :: l,i,out=>by
  simp only [foldE,Option.bind_some,Sum.elim_inl]
  rw [fa_fold m l (i+1)]
  simp [facesAt]
theorem around_eq (N : Int) (E : List Arc) (A : List (List Int)) (m l : List Int) (v : Nat) (hv : A[v]?=some l) (hd : ∀ d∈l,∃ k : Nat,d=(k : Int)∧k < m.length) (hl : l.length≤100000) :
  Zbp ((N,E,A,()),m,(v : Int),())=some (aroundL m l,()):=by
 unfold Zbp
 simp only
 rw [getI_of,hv,Option.bind_some]
 have:=scanI (B:=Zbp_B3) (fun i (s : List Int)=>s.length=i) (fun s j=>(s,m,l,((l.length : Nat) : Int),(j : Int),())) (fun s=>.inl (s,())) (fun (e : Empty)=>e.elim)
  (fun _ s (d : Int)=>some (.inl (s++[mk2 m d.toNat]))) l (by
   intro s j d hs hdj
   have hj : j < l.length:=(List.getElem?_eq_some_iff.1 hdj).1
   obtain ⟨k,rfl,hk⟩:=hd d (List.mem_of_getElem? hdj)
   unfold Zbp_B3
   simp only
   rw [ltI_t (by omega),cond_true,getI_of,hdj,Option.bind_some,getI_of,List.getElem?_eq_getElem hk,Option.bind_some,app_of (by simp; omega),Option.bind_some,add1 (by omega)]
   simp [mk2,hk]) (by
   intro s j d t hs _ ht
   simp only [Option.some.injEq,Sum.inl.injEq] at ht
   subst ht
   simp [hs]) (by
   intro s _
   unfold Zbp_B3
   simp only
   rw [ltI_f (by omega)]; rfl) [] rfl
 unfold Zbp_L3
 rw [show (([],m,l,((l.length : Nat) : Int),0,()) : List Int×List Int×List Int×Int×Int×Unit)=([],m,l,((l.length : Nat) : Int),((0 : Nat) : Int),()) from rfl,this,fa_fold]
 have hsort : ∀ z : List Int,z.length≤68719476736→Zaw (z,())=some (isortI z,()):=by
  intro z hz
  show (if z.length≤lim then some (isortI z,()) else none)=_
  rw [if_pos (by rw [lim_val]; exact hz)]
 have hcomp : ∀ z : List Int,z.length≤68719476736→Zu (z,())=some (Lib.compact z,()):=by
  intro z hz
  show (if z.length≤lim then some (Lib.compact z,()) else none)=_
  rw [if_pos (by rw [lim_val]; exact hz)]
 simp only [List.nil_append,Option.bind_some,Sum.elim_inl]
 unfold aroundL
 have hfl : (facesAt m l).length=l.length:=by simp [facesAt]
 cases l with
 | nil =>
  rw [eqI_t (by rfl),cond_true,hsort _ (by simp),Option.bind_some,hcomp _ (by rw [(isortI_perm _).length_eq]; simp)]
  rfl
 | cons d l =>
  rw [eqI_f (by rw [hfl]; simp; omega),cond_false,hsort _ (by rw [hfl]; omega),Option.bind_some,hcomp _ (by rw [(isortI_perm _).length_eq,hfl]; omega)]
  rfl
def setT (m : List Int) (out : List Bool) (l : List Int) : List Bool:=l.foldl (fun o d=>o.set (mk2 m d.toNat).toNat true) out
theorem setT_len (m : List Int) : ∀ (l : List Int) (out : List Bool),(setT m out l).length=out.length
 | [],_=>rfl
 | d :: l,out=>by
  show (setT m (out.set _ true) l).length=_
  rw [setT_len m l]; simp
theorem setT_at (m : List Int) {f : Nat} : ∀ (l : List Int) (out : List Bool),f < out.length→((setT m out l)[f]?=some true↔out[f]?=some true∨∃ d∈l,(mk2 m d.toNat).toNat=f)
 | [],_,_=>by simp [setT]
 | d :: l,out,hf=>by
  show (setT m (out.set _ true) l)[f]?=some true↔_
  rw [setT_at m l _ (by simpa using hf),List.getElem?_set]
  constructor
  ·rintro (h | ⟨e,he,h⟩)
   ·split at h
    ·rename_i e; exact .inr ⟨d,by simp,e⟩
    ·exact .inl h
   ·exact .inr ⟨e,by simp [he],h⟩
  ·rintro (h | ⟨e,he,h⟩)
   ·left
    split
    ·simp_all
    ·exact h
   ·rcases List.mem_cons.1 he with rfl | he
    ·left
     rw [if_pos h]
     simp_all
    ·exact .inr ⟨e,he,h⟩
theorem setT_fold (m : List Int) : ∀ (l : List Int) (i : Nat) (out : List Bool),foldE (fun _ out (d : Int)=>some (.inl (out.set (mk2 m d.toNat).toNat true) : List Bool⊕Empty)) i out l=some (.inl (setT m out l))
 | [],_,_=>rfl
 | d :: l,i,out=>by
  simp only [foldE,Option.bind_some,Sum.elim_inl]
  exact setT_fold m l (i+1) _
theorem raround_eq (N : Int) (E : List Arc) (A : List (List Int)) (m l : List Int) (arcs : List Arc) (v n : Nat) (hv : A[v]?=some l) (hn : 0 < n) (hn2 : n≤100000) (hd : ∀ d∈l,∃ k : Nat,d=(k : Int)∧k < m.length∧∃ j : Nat,m[k]?=some (j : Int)∧j < n) (hl : l.length≤100000)
  (hm : Zaa ((N,E,A,()),())=some (m,())) :
  Zv ((N,E,A,()),((n : Int),arcs,()),(v : Int),())=some (setT m ((List.replicate n false).set 0 (decide (E=[]))) l,()):=by
 unfold Zv
 simp only
 rw [hm,Option.bind_some,makeL_of (Nat.le_refl _) (by omega),Option.bind_some]
 have e1 : idxI (List.replicate n (zeroVal Ty.bool)).length 0=some 0:=idxI_of (i:=0) (by simpa using hn)
 have e2 : (List.replicate n (zeroVal Ty.bool))[0]?=some (zeroVal Ty.bool):=by rw [List.getElem?_replicate,if_pos hn]
 have e3 : eqI (E.length : Nat) 0=decide (E=[]):=by
  unfold eqI
  cases E with
  | nil=>rfl
  | cons a E=>simp; omega
 rw [e1,Option.bind_some,e2,Option.bind_some,e3]
 have:=scanI (B:=Zv_B5) (fun _ (s : List Bool)=>s.length=n) (fun s j=>(N,E,A,m,s,(v : Int),(j : Int),())) (fun s=>.inl (s,())) (fun (e : Empty)=>e.elim)
  (fun _ s (d : Int)=>some (.inl (s.set (mk2 m d.toNat).toNat true))) l (by
   intro s j d hs hdj
   have hj : j < l.length:=(List.getElem?_eq_some_iff.1 hdj).1
   obtain ⟨k,rfl,hk,x,hx,hxn⟩:=hd d (List.mem_of_getElem? hdj)
   have hxs : x < s.length:=by omega
   unfold Zv_B5
   simp only
   rw [getI_of,hv,Option.bind_some,ltI_t (by omega),cond_true,Option.bind_some,getI_of,hdj,Option.bind_some,idxI_of hk,Option.bind_some,hx,Option.bind_some,idxI_of hxs,Option.bind_some,List.getElem?_eq_getElem hxs,Option.bind_some,add1 (by omega)]
   simp [mk2,hx]) (by
   intro s j d t hs _ ht
   simp only [Option.some.injEq,Sum.inl.injEq] at ht
   subst ht
   simpa using hs) (by
   intro s _
   unfold Zv_B5
   simp only
   rw [getI_of,hv,Option.bind_some,ltI_f (by omega)]; rfl) ((List.replicate n false).set 0 (decide (E=[]))) (by simp)
 unfold Zv_L5
 rw [show ((N,E,A,m,(List.replicate n (zeroVal Ty.bool)).set 0 (decide (E=[])),(v : Int),0,()) : Int×List Arc×List (List Int)×List Int×List Bool×Int×Int×Unit)=(N,E,A,m,(List.replicate n false).set 0 (decide (E=[])),(v : Int),((0 : Nat) : Int),()) from rfl,this,setT_fold]
 rfl
def listT : Nat→List Bool→List Int
 | _,[]=>[]
 | i,b :: bs=>cond b ((i : Int) :: listT (i+1) bs) (listT (i+1) bs)
section
variable {N : Nat} {E : List Arc} {A : List (List Int)}
theorem reach_in {u v : Nat} (h : Reach E u v) : u≠v→∃ k : Nat,k < 2 * E.length∧hd E k=v:=by
 induction h with
 | refl=>intro e; exact absurd rfl e
 | step _ hk _ e2 _=>intro _; exact ⟨_,hk,e2⟩
theorem around_ne (h : RotOK (N : Nat) E A) (hc : Conn N E) (hE : E≠[]) {v : Nat} (hv : v < N) {l : List Int} (hl : A[v]?=some l) : l≠[]:=by
 rintro rfl
 obtain ⟨a,ha⟩:=List.exists_mem_of_ne_nil E hE
 obtain ⟨a1,a2,a3,a4,a5⟩:=h.edge a ha
 obtain ⟨u,hu,hur⟩ : ∃ u,u≠v∧Reach E u v:=by
  by_cases e : a.1.toNat=v
  ·refine ⟨a.2.1.toNat,by omega,(hc a.2.1.toNat (by omega)).symm.trans (hc v hv)⟩
  ·exact ⟨a.1.toNat,e,(hc a.1.toNat (by omega)).symm.trans (hc v hv)⟩
 obtain ⟨k,hk,hkv⟩:=reach_in hur hu
 have:=h.around (oth_lt hk) (v:=v) (by exact hkv) hl
 simp at this
end
end Go.Vm

namespace Go.Vm
open Go.Proofs
set_option maxRecDepth 100000
attribute [local irreducible] loopFix
def Wk (Adj : Nat→Nat→Prop) (S : Nat→Prop) : Nat→Nat→Prop
 | 0,f=>S f
 | t+1,f=>∃ g,Adj f g∧Wk Adj S t g
def IsDist (Adj : Nat→Nat→Prop) (S : Nat→Prop) (f d : Nat) : Prop:=Wk Adj S d f∧∀ t,t < d→¬ Wk Adj S t f
section
variable {Adj : Nat→Nat→Prop} {S : Nat→Prop}
theorem IsDist.uniq {f d d' : Nat} (h : IsDist Adj S f d) (h' : IsDist Adj S f d') : d=d':=by
 rcases Nat.lt_trichotomy d d' with e | e | e
 ·exact absurd h.1 (h'.2 d e)
 ·exact e
 ·exact absurd h'.1 (h.2 d' e)
theorem IsDist.step {f d : Nat} (h : IsDist Adj S f (d+1)) : ∃ g,Adj f g∧IsDist Adj S g d:=by
 obtain ⟨⟨g,hg,hw⟩,h2⟩:=h
 exact ⟨g,hg,hw,fun t ht hw'=>h2 (t+1) (by omega) ⟨g,hg,hw'⟩⟩
theorem IsDist.path (n : Nat) (hS : ∀ f,S f→f < n) (hA : ∀ f g,Adj f g→f < n) : ∀ (d f : Nat),IsDist Adj S f d→∃ l : List Nat,l.length=d+1∧l.Nodup∧(∀ x∈l,x < n)∧∀ x∈l,∃ t,t≤d∧IsDist Adj S x t
 | 0,f,h=>⟨[f],rfl,by simp,by simpa using hS f h.1,fun x hx=>by simp at hx; subst hx; exact ⟨0,Nat.le_refl _,h⟩⟩
 | d+1,f,h=>by
  obtain ⟨g,hg,h'⟩:=h.step
  obtain ⟨l,l1,l2,l3,l4⟩:=IsDist.path n hS hA d g h'
  refine ⟨f :: l,by simp [l1],List.nodup_cons.2 ⟨fun hf=>?_,l2⟩,?_,?_⟩
  ·obtain ⟨t,ht,hd⟩:=l4 f hf
   have:=hd.uniq h
   omega
  ·intro x hx
   rcases List.mem_cons.1 hx with rfl | hx
   ·exact hA _ _ hg
   ·exact l3 x hx
  ·intro x hx
   rcases List.mem_cons.1 hx with rfl | hx
   ·exact ⟨d+1,Nat.le_refl _,h⟩
   ·obtain ⟨t,ht,hd⟩:=l4 x hx
    exact ⟨t,by omega,hd⟩
theorem IsDist.lt {n : Nat} (hS : ∀ f,S f→f < n) (hA : ∀ f g,Adj f g→f < n) {d f : Nat} (h : IsDist Adj S f d) : d < n:=by
 obtain ⟨l,l1,l2,l3,_⟩:=IsDist.path n hS hA d f h
 have:=nodup_le n l l2 l3
 omega
end
structure Fc (L n : Nat) (m : List Int) (fc : Nat→Nat) : Prop where
 len : m.length=L
 get : ∀ k,k < L→m[k]?=some (fc k : Int)
 lt : ∀ k,k < L→fc k < n
def AdjF (L : Nat) (fc : Nat→Nat) (f g : Nat) : Prop:=∃ k,k < L∧fc k=f∧fc (oth k)=g
theorem AdjF.symm {m : Nat} {fc : Nat→Nat} {f g : Nat} (h : AdjF (2 * m) fc f g) : AdjF (2 * m) fc g f:=by
 obtain ⟨k,h1,h2,h3⟩:=h
 exact ⟨oth k,oth_lt h1,h3,by rw [oth_oth]; exact h2⟩
def lab (out : List Int) (f : Nat) : Int:=(out[f]?).getD (-1)
theorem lab_set {out : List Int} {g f : Nat} {v : Int} (hg : g < out.length) : lab (out.set g v) f=if g=f then v else lab out f:=by
 unfold lab
 rw [List.getElem?_set]
 split
 ·rename_i e; subst e; simp [hg]
 ·rfl
theorem lab_get {out : List Int} {f : Nat} (h : f < out.length) : out[f]?=some (lab out f):=by
 unfold lab
 rw [List.getElem?_eq_getElem h]; rfl
def unl (out : List Int) : Nat:=out.countP fun x=>decide (x < 0)
theorem unl_set : ∀ {out : List Int} {g : Nat} {v : Int},g < out.length→lab out g < 0→0≤v→unl (out.set g v)+1=unl out
 | [],g,v,h,_,_=>by simp at h
 | x :: out,0,v,_,h,hv=>by
  have hx : x < 0:=by simpa [lab] using h
  unfold unl
  rw [List.set_cons_zero,List.countP_cons,List.countP_cons,if_neg (by simp; omega),if_pos (by simpa using hx)]
 | x :: out,g+1,v,hl,h,hv=>by
  have ih:=unl_set (out:=out) (g:=g) (v:=v) (by simpa using hl) (by simpa [lab] using h) hv
  unfold unl at ih ⊢
  rw [List.set_cons_succ,List.countP_cons,List.countP_cons]
  omega
theorem unl_le (out : List Int) : unl out≤out.length:=List.countP_le_length
structure BI (M n : Nat) (fc : Nat→Nat) (S : Nat→Prop) (C : Nat) (out q : List Int) : Prop where
 len : out.length=n
 lb : ∀ f,f < n→0≤lab out f→∃ d : Nat,lab out f=d∧IsDist (AdjF (2 * M) fc) S f d
 qin : ∀ x∈q,∃ f : Nat,x=(f : Int)∧f < n∧0≤lab out f
 cap : q.length+unl out≤C
 mono : q.Pairwise fun x y=>lab out x.toNat≤lab out y.toNat
 up : ∀ x∈q,∀ y∈q,lab out y.toNat≤lab out x.toNat+1
 clo : ∀ f,f < n→0≤lab out f→(f : Int)∉q→∀ g,AdjF (2 * M) fc f g→0≤lab out g
 goal : ∀ f,S f→0≤lab out f
def stepD (fc : Nat→Nat) (f k : Nat) (s : List Int×List Int) : List Int×List Int :=
 if fc k=f∧lab s.1 (fc (oth k)) < 0 then (s.1.set (fc (oth k)) (lab s.1 f+1),s.2++[(fc (oth k) : Int)]) else s
section
variable {M n C : Nat} {fc : Nat→Nat} {S : Nat→Prop}
theorem BI.near {out q : List Int} (h : BI M n fc S C out q) (hA : ∀ f g,AdjF (2 * M) fc f g→f < n∧g < n) (hS : ∀ f,S f→f < n) {d : Nat} (hq : ∀ x∈q,(d : Int)≤lab out x.toNat) : ∀ (s x : Nat),s < d→Wk (AdjF (2 * M) fc) S s x→x < n∧0≤lab out x∧(x : Int)∉q:=by
 have fin : ∀ s x,s < d→Wk (AdjF (2 * M) fc) S s x→x < n→0≤lab out x→(x : Int)∉q:=by
  intro s x hs hw hx hl hm
  obtain ⟨e,e1,e2⟩:=h.lb x hx hl
  have:=hq _ hm
  simp only [Int.toNat_natCast] at this
  exact e2.2 s (by omega) hw
 intro s
 induction s with
 | zero =>
  intro x hs hw
  have hx:=hS x hw
  have hl:=h.goal x hw
  exact ⟨hx,hl,fin 0 x hs hw hx hl⟩
 | succ s ih =>
  intro x hs hw
  obtain ⟨g,hg,hwg⟩:=hw
  obtain ⟨g1,g2,g3⟩:=ih g (by omega) hwg
  have hl:=h.clo g g1 g2 g3 x hg.symm
  exact ⟨(hA x g hg).1,hl,fin (s+1) x hs ⟨g,hg,hwg⟩ (hA x g hg).1 hl⟩
theorem stepD_ok (hA : ∀ f g,AdjF (2 * M) fc f g→f < n∧g < n) (hS : ∀ f,S f→f < n) {out q : List Int} {f k : Nat} (h : BI M n fc S C out q) (hk : k < 2 * M) (hq : q[0]?=some (f : Int)) :
  BI M n fc S C (stepD fc f k (out,q)).1 (stepD fc f k (out,q)).2∧(stepD fc f k (out,q)).2[0]?=some (f : Int)∧(∀ x,0≤lab out x→lab (stepD fc f k (out,q)).1 x=lab out x) ∧
   (fc k=f→0≤lab (stepD fc f k (out,q)).1 (fc (oth k))):=by
 unfold stepD
 simp only
 by_cases hc : fc k=f∧lab out (fc (oth k)) < 0
 ·rw [if_pos hc]
  obtain ⟨c1,c2⟩:=hc
  obtain ⟨g,hg⟩ : ∃ g,g=fc (oth k):=⟨_,rfl⟩
  rw [← hg] at c2 ⊢
  have hadj : AdjF (2 * M) fc f g:=⟨k,hk,c1,hg.symm⟩
  obtain ⟨hfn,hgn⟩:=hA f g hadj
  have hgl : g < out.length:=by rw [h.len]; exact hgn
  have hfq : (f : Int)∈q:=List.mem_of_getElem? hq
  obtain ⟨f',hf',_,hfl⟩:=h.qin _ hfq
  have : f=f':=by omega
  subst this
  obtain ⟨d,hd,hdist⟩:=h.lb f hfn hfl
  have hmin : ∀ x∈q,(d : Int)≤lab out x.toNat:=by
   intro x hx
   match q,hq,hx,h.mono with
   | y :: q,hq,hx,hm =>
    simp at hq
    subst hq
    rcases List.mem_cons.1 hx with rfl | hx
    ·simp [hd]
    ·have:=(List.pairwise_cons.1 hm).1 x hx
     simp only [Int.toNat_natCast,hd] at this
     exact this
  have hne : ∀ x,0≤lab out x→g≠x:=by rintro x hx rfl; omega
  have hkeep : ∀ x,0≤lab out x→lab (out.set g (lab out f+1)) x=lab out x:=fun x hx=>by rw [lab_set hgl,if_neg (hne x hx)]
  have hnew : lab (out.set g (lab out f+1)) g=((d+1 : Nat) : Int):=by rw [lab_set hgl,if_pos rfl,hd]; omega
  have hqk : ∀ x∈q,lab (out.set g (lab out f+1)) x.toNat=lab out x.toNat:=by
   intro x hx
   obtain ⟨y,rfl,_,hy⟩:=h.qin x hx
   exact hkeep _ hy
  refine ⟨⟨by simpa using h.len,?_,?_,?_,?_,?_,?_,?_⟩,?_,hkeep,fun _=>by rw [hnew]; omega⟩
  ·intro x hx hl
   by_cases e : g=x
   ·subst e
    refine ⟨d+1,hnew,⟨f,hadj.symm,hdist.1⟩,fun t ht hw=>?_⟩
    cases t with
    | zero=>have:=h.goal g hw; omega
    | succ t =>
     obtain ⟨y,hy,hwy⟩:=hw
     obtain ⟨y1,y2,y3⟩:=h.near hA hS hmin t y (by omega) hwy
     have:=h.clo y y1 y2 y3 g hy.symm
     omega
   ·rw [lab_set hgl,if_neg e] at hl ⊢
    exact h.lb x hx hl
  ·intro x hx
   rcases List.mem_append.1 hx with hx | hx
   ·obtain ⟨y,rfl,y1,y2⟩:=h.qin x hx
    exact ⟨y,rfl,y1,by rw [hkeep y y2]; exact y2⟩
   ·simp at hx
    subst hx
    exact ⟨g,rfl,hgn,by rw [hnew]; omega⟩
  ·have:=unl_set (v:=lab out f+1) hgl c2 (by omega)
   have:=h.cap
   simp only [List.length_append,List.length_singleton]
   omega
  ·refine List.pairwise_append.2 ⟨?_,by simp,?_⟩
   ·refine List.Pairwise.imp_of_mem (fun {a b} ha hb hab=>?_) h.mono
    rw [hqk a ha,hqk b hb]; exact hab
   ·intro a ha b hb
    simp at hb
    subst hb
    rw [hqk a ha,Int.toNat_natCast,hnew]
    have:=h.up _ hfq a ha
    simp only [Int.toNat_natCast,hd] at this
    omega
  ·have hup : ∀ x∈q,lab out x.toNat≤(d : Int)+1:=by
    intro x hx
    have:=h.up _ hfq x hx
    simp only [Int.toNat_natCast,hd] at this
    exact this
   intro x hx y hy
   rcases List.mem_append.1 hx with hx | hx <;> rcases List.mem_append.1 hy with hy | hy
   ·rw [hqk x hx,hqk y hy]; exact h.up x hx y hy
   ·simp at hy
    subst hy
    rw [hqk x hx,Int.toNat_natCast,hnew]
    have:=hmin x hx
    omega
   ·simp at hx
    subst hx
    rw [hqk y hy,Int.toNat_natCast,hnew]
    have:=hup y hy
    omega
   ·simp at hx hy
    subst hx
    subst hy
    omega
  ·intro x hx hl hm y hy
   have e : g≠x:=by
    rintro rfl
    exact hm (by simp)
   rw [lab_set hgl,if_neg e] at hl
   have:=h.clo x hx hl (fun hxq=>hm (by simp [hxq])) y hy
   rw [hkeep y this]; exact this
  ·intro x hx
   have:=h.goal x hx
   rw [hkeep x this]; exact this
  ·have : 0 < q.length:=(List.getElem?_eq_some_iff.1 hq).1
   rw [List.getElem?_append_left this]; exact hq
 ·rw [if_neg hc]
  refine ⟨h,hq,fun _ _=>rfl,fun e=>?_⟩
  simp only
  rcases Int.lt_or_le (lab out (fc (oth k))) 0 with e' | e'
  ·exact absurd ⟨e,e'⟩ hc
  ·exact e'
def stepE (fc : Nat→Nat) (f e : Nat) (s : List Int×List Int) : List Int×List Int:=stepD fc f (2 * e+1) (stepD fc f (2 * e) s)
def stepsE (fc : Nat→Nat) (f : Nat) : Nat→Nat→List Int×List Int→List Int×List Int
 | _,0,s=>s
 | e,c+1,s=>stepsE fc f (e+1) c (stepE fc f e s)
theorem stepE_ok (hA : ∀ f g,AdjF (2 * M) fc f g→f < n∧g < n) (hS : ∀ f,S f→f < n) {s : List Int×List Int} {f e : Nat} (h : BI M n fc S C s.1 s.2) (he : e < M) (hq : s.2[0]?=some (f : Int)) :
  BI M n fc S C (stepE fc f e s).1 (stepE fc f e s).2∧(stepE fc f e s).2[0]?=some (f : Int)∧(∀ x,0≤lab s.1 x→lab (stepE fc f e s).1 x=lab s.1 x) ∧
   (∀ k,k / 2=e→fc k=f→0≤lab (stepE fc f e s).1 (fc (oth k))):=by
 obtain ⟨a1,a2,a3,a4⟩:=stepD_ok hA hS h (k:=2 * e) (by omega) hq
 obtain ⟨b1,b2,b3,b4⟩:=stepD_ok hA hS a1 (k:=2 * e+1) (by omega) a2
 have es : stepE fc f e s=stepD fc f (2 * e+1) ((stepD fc f (2 * e) s).1,(stepD fc f (2 * e) s).2):=rfl
 have e0 : (s.1,s.2)=s:=rfl
 rw [e0] at a1 a2 a3 a4 b1 b2 b3 b4
 rw [es]
 refine ⟨b1,b2,fun x hx=>?_,fun k hk hf=>?_⟩
 ·rw [b3 x (by rw [a3 x hx]; exact hx),a3 x hx]
 ·rcases Nat.mod_two_eq_zero_or_one k with e' | e'
  ·have : k=2 * e:=by omega
   subst this
   have:=a4 hf
   rw [b3 _ this]; exact this
  ·have : k=2 * e+1:=by omega
   subst this
   exact b4 hf
theorem stepsE_ok (hA : ∀ f g,AdjF (2 * M) fc f g→f < n∧g < n) (hS : ∀ f,S f→f < n) {f : Nat} : ∀ (c e : Nat) (s : List Int×List Int),BI M n fc S C s.1 s.2→e+c=M→s.2[0]?=some (f : Int) →
  BI M n fc S C (stepsE fc f e c s).1 (stepsE fc f e c s).2∧(stepsE fc f e c s).2[0]?=some (f : Int)∧(∀ x,0≤lab s.1 x→lab (stepsE fc f e c s).1 x=lab s.1 x) ∧
   (∀ k,k < 2 * M→e≤k / 2→fc k=f→0≤lab (stepsE fc f e c s).1 (fc (oth k)))
 | 0,e,s,h,hc,hq=>⟨h,hq,fun _ _=>rfl,fun k hk he _=>by omega⟩
 | c+1,e,s,h,hc,hq=>by
  obtain ⟨a1,a2,a3,a4⟩:=stepE_ok hA hS h (e:=e) (by omega) hq
  obtain ⟨b1,b2,b3,b4⟩:=stepsE_ok hA hS c (e+1) (stepE fc f e s) a1 (by omega) a2
  unfold stepsE
  refine ⟨b1,b2,fun x hx=>by rw [b3 x (by rw [a3 x hx]; exact hx),a3 x hx],fun k hk he hf=>?_⟩
  rcases Nat.lt_or_ge e (k / 2) with h1 | h1
  ·exact b4 k hk h1 hf
  ·have:=a4 k (by omega) hf
   rw [b3 _ this]; exact this
theorem BI.pop (hA : ∀ f g,AdjF (2 * M) fc f g→f < n∧g < n) (hS : ∀ f,S f→f < n) {out q : List Int} {f : Nat} (h : BI M n fc S C out ((f : Int) :: q)) :
  BI M n fc S C (stepsE fc f 0 M (out,(f : Int) :: q)).1 ((stepsE fc f 0 M (out,(f : Int) :: q)).2.drop 1)∧(stepsE fc f 0 M (out,(f : Int) :: q)).2.length+2 * unl (stepsE fc f 0 M (out,(f : Int) :: q)).1≤q.length+1+2 * unl out ∧
   0 < (stepsE fc f 0 M (out,(f : Int) :: q)).2.length:=by
 obtain ⟨a1,a2,a3,a4⟩:=stepsE_ok hA hS M 0 (out,(f : Int) :: q) h (by omega) rfl
 have hm : ∀ (c e : Nat) (s : List Int×List Int),s.1.length=n→(∀ k,k < 2 * M→fc (oth k) < n)→e+c=M→0≤lab s.1 f→f < n→(stepsE fc f e c s).2.length+2 * unl (stepsE fc f e c s).1≤s.2.length+2 * unl s.1:=by
  have one : ∀ (k : Nat) (s : List Int×List Int),k < 2 * M→s.1.length=n→fc (oth k) < n→0≤lab s.1 f→(stepD fc f k s).2.length+2 * unl (stepD fc f k s).1≤s.2.length+2 * unl s.1∧(stepD fc f k s).1.length=n∧0≤lab (stepD fc f k s).1 f:=by
   intro k s hk hs hg hf
   unfold stepD
   split
   ·rename_i hc
    have hgl : fc (oth k) < s.1.length:=by omega
    have:=unl_set (v:=lab s.1 f+1) hgl hc.2 (by omega)
    refine ⟨by simp only [List.length_append,List.length_singleton]; omega,by simpa using hs,?_⟩
    rw [lab_set hgl]
    split
    ·omega
    ·exact hf
   ·exact ⟨Nat.le_refl _,hs,hf⟩
  intro c
  induction c with
  | zero=>intro e s _ _ _ _ _; exact Nat.le_refl _
  | succ c ih =>
   intro e s hs hg hc hf hfn
   unfold stepsE
   obtain ⟨p1,p2,p3⟩:=one (2 * e) s (by omega) hs (hg _ (by omega)) hf
   obtain ⟨r1,r2,r3⟩:=one (2 * e+1) _ (by omega) p2 (hg _ (by omega)) p3
   have:=ih (e+1) (stepE fc f e s) r2 hg (by omega) r3 hfn
   unfold stepE at this ⊢
   omega
 obtain ⟨f',hf',hfn,hfl⟩:=h.qin (f : Int) (by simp)
 have : f=f':=by omega
 subst this
 have hmm:=hm M 0 (out,(f : Int) :: q) h.len (fun k hk=>(hA _ _ ⟨k,hk,rfl,rfl⟩).2) (by omega) hfl hfn
 generalize stepsE fc f 0 M (out,(f : Int) :: q)=s at a1 a2 a3 a4 hmm ⊢
 obtain ⟨o,r⟩:=s
 match r,a2,a1 with
 | y :: r,a2,a1 =>
  simp at a2
  subst a2
  refine ⟨?_,by simpa using hmm,by simp⟩
  simp only [List.drop_succ_cons,List.drop_zero]
  refine ⟨a1.len,a1.lb,fun x hx=>a1.qin x (by simp [hx]),by have:=a1.cap; simp only [List.length_cons] at this; omega,(List.pairwise_cons.1 a1.mono).2,fun x hx y hy=>a1.up x (by simp [hx]) y (by simp [hy]),?_,a1.goal⟩
  intro x hx hl hxr g hg
  by_cases e : x=f
  ·subst e
   obtain ⟨k,k1,k2,k3⟩:=hg
   have:=a4 k k1 (by omega) k2
   rw [k3] at this
   exact this
  ·exact a1.clo x hx hl (by
    intro hm
    rcases List.mem_cons.1 hm with h1 | h1
    ·exact e (by omega)
    ·exact hxr h1) g hg
end
end Go.Vm

namespace Go.Vm
open Go.Proofs
set_option maxRecDepth 100000
attribute [local irreducible] loopFix
section
variable {N : Int} {E : List Arc} {A : List (List Int)} {n C : Nat} {fc : Nat→Nat} {S : Nat→Prop} {m : List Int}
theorem dist_round (hF : Fc (2 * E.length) n m fc) (hE : E.length≤100) (hn : n≤1000) (hC : C≤100000) (hA : ∀ f g,AdjF (2 * E.length) fc f g→f < n∧g < n) (hS : ∀ f,S f→f < n) {out q : List Int} {f k e : Nat} (h : BI E.length n fc S C out q) (hk : k < 2 * E.length) (hke : k≤2 * e+1) (he : e < E.length) (hq : q[0]?=some (f : Int)) (c e' : Int) :
  Zbc_B20 (N,E,A,out,q,m,(f : Int),(e : Int),(k : Int),c,e',())=some (.inl (N,E,A,(stepD fc f k (out,q)).1,(stepD fc f k (out,q)).2,m,(f : Int),(e : Int),((k+1 : Nat) : Int),c,e',())):=by
 have hok:=oth_lt hk
 have hgl : fc (oth k) < out.length:=by rw [h.len]; exact hF.lt _ hok
 obtain ⟨f',hf',hfn,hfl⟩:=h.qin _ (List.mem_of_getElem? hq)
 have : f=f':=by omega
 subst this
 have hfl2 : f < out.length:=by rw [h.len]; exact hfn
 obtain ⟨d,hd,hdist⟩:=h.lb f hfn hfl
 have hdn:=hdist.lt hS (fun f g h=>(hA f g h).1)
 have hcap:=h.cap
 have e2 : mulI .i64 2 (e : Int)=((2 * e : Nat) : Int):=by rw [mulI64 (by omega) (by omega)]; omega
 unfold Zbc_B20 stepD
 simp only
 rw [e2,add1 (by omega),leI_t (by omega),cond_true,xor1 (by omega),getI_of,hF.get _ hok,Option.bind_some,getI_of,hF.get _ hk,Option.bind_some,add1 (by omega)]
 by_cases h1 : fc k=f
 ·rw [eqI_t (by omega),cond_true,idxI_of hgl,Option.bind_some,lab_get hgl,Option.bind_some]
  by_cases h2 : lab out (fc (oth k)) < 0
  ·have hu:=unl_set (v:=lab out f+1) hgl h2 (by omega)
   rw [ltI_t h2,cond_true,idxI_of hfl2,Option.bind_some,lab_get hfl2,Option.bind_some,Option.bind_some,lab_get hgl,Option.bind_some,app_of (by simp; omega),Option.bind_some,addI64 (by omega) (by omega),if_pos ⟨h1,h2⟩]
  ·rw [ltI_f (by omega),cond_false,if_neg (fun hc=>h2 hc.2)]
 ·rw [eqI_f (by omega),cond_false,if_neg (fun hc=>h1 hc.1)]
theorem dist_inner (hF : Fc (2 * E.length) n m fc) (hE : E.length≤100) (hn : n≤1000) (hC : C≤100000) (hA : ∀ f g,AdjF (2 * E.length) fc f g→f < n∧g < n) (hS : ∀ f,S f→f < n) {s : List Int×List Int} {f e : Nat} (h : BI E.length n fc S C s.1 s.2) (he : e < E.length) (hq : s.2[0]?=some (f : Int)) (c e' : Int) :
  Zbc_L20 (N,E,A,s.1,s.2,m,(f : Int),(e : Int),((2 * e : Nat) : Int),c,e',())=some (.inl (N,E,A,(stepE fc f e s).1,(stepE fc f e s).2,m,(f : Int),c,e',())):=by
 obtain ⟨a1,a2,_,_⟩:=stepD_ok hA hS h (k:=2 * e) (by omega) hq
 unfold Zbc_L20
 have r1:=dist_round (N:=N) (A:=A) hF hE hn hC hA hS h (k:=2 * e) (e:=e) (by omega) (by omega) he hq c e'
 have r2:=dist_round (N:=N) (A:=A) hF hE hn hC hA hS a1 (k:=2 * e+1) (e:=e) (by omega) (by omega) he a2 c e'
 have e0 : (s.1,s.2)=s:=rfl
 rw [e0] at r1 r2
 rw [loop_step r1,loop_step r2]
 refine loop_done ?_
 have e2 : mulI .i64 2 (e : Int)=((2 * e : Nat) : Int):=by rw [mulI64 (by omega) (by omega)]; omega
 unfold Zbc_B20
 simp only
 rw [e2,add1 (by omega)]
 have : leI ((2 * e+1+1 : Nat) : Int) ((2 * e+1 : Nat) : Int)=false:=leI_f (by omega)
 rw [this]
 rfl
theorem dist_edges (hF : Fc (2 * E.length) n m fc) (hE : E.length≤100) (hn : n≤1000) (hC : C≤100000) (hA : ∀ f g,AdjF (2 * E.length) fc f g→f < n∧g < n) (hS : ∀ f,S f→f < n) {f : Nat} : ∀ (c e : Nat) (s : List Int×List Int),BI E.length n fc S C s.1 s.2→e+c=E.length→s.2[0]?=some (f : Int) →
  Zbc_L17 (N,E,A,s.1,s.2,m,(f : Int),(E.length : Nat),(e : Int),())=some (.inl (N,E,A,(stepsE fc f e c s).1,(stepsE fc f e c s).2,m,()))
 | 0,e,s,h,hc,hq=>by
  unfold Zbc_L17
  refine loop_done ?_
  unfold Zbc_B17
  simp only
  rw [ltI_f (by omega)]; rfl
 | c+1,e,s,h,hc,hq=>by
  obtain ⟨a1,a2,_,_⟩:=stepE_ok hA hS h (e:=e) (by omega) hq
  have ih:=dist_edges hF hE hn hC hA hS c (e+1) (stepE fc f e s) a1 (by omega) a2
  have e2 : mulI .i64 2 (e : Int)=((2 * e : Nat) : Int):=by rw [mulI64 (by omega) (by omega)]; omega
  unfold stepsE
  rw [← ih]
  unfold Zbc_L17
  refine loop_step ?_
  unfold Zbc_B17
  simp only
  rw [ltI_t (by omega),cond_true,e2,dist_inner hF hE hn hC hA hS h (by omega) hq]
  simp only [Option.bind_some,Sum.elim_inl]
  rw [add1 (by omega)]
theorem dist_queue (hF : Fc (2 * E.length) n m fc) (hE : E.length≤100) (hn : n≤1000) (hC : C≤100000) (hA : ∀ f g,AdjF (2 * E.length) fc f g→f < n∧g < n) (hS : ∀ f,S f→f < n) {out q : List Int} (h : BI E.length n fc S C out q) :
  ∃ out',Zbc_L13 (N,E,A,out,q,m,())=some (.inl (out',()))∧BI E.length n fc S C out' []:=by
 obtain ⟨r,h1,h2⟩:=loop_rule (f:=Zbc_B13) (fun s=>∃ out q,s=(N,E,A,out,q,m,())∧BI E.length n fc S C out q) (fun s=>s.2.2.2.2.1.length+2 * unl s.2.2.2.1) (fun r=>∃ out',r=.inl (out',())∧BI E.length n fc S C out' []) (by
  rintro _ ⟨out,q,rfl,hB⟩
  match q,hB with
  | [],hB =>
   right
   refine ⟨.inl (out,()),?_,out,rfl,hB⟩
   unfold Zbc_B13
   simp only
   rw [gtI_f (by simp)]; rfl
  | x :: q,hB =>
   left
   obtain ⟨f,rfl,hfn,hfl⟩:=hB.qin x (by simp)
   obtain ⟨p1,p2,p3⟩:=hB.pop hA hS
   have pe:=dist_edges (N:=N) (A:=A) hF hE hn hC hA hS E.length 0 (out,(f : Int) :: q) hB (by omega) rfl
   have hcap:=p1.cap
   simp only [List.length_drop] at hcap
   generalize stepsE fc f 0 E.length (out,(f : Int) :: q)=s at p1 p2 p3 pe hcap
   obtain ⟨o,r⟩:=s
   simp only at p1 p2 p3 pe hcap
   refine ⟨(N,E,A,o,r.drop 1,m,()),?_,⟨o,r.drop 1,rfl,p1⟩,?_⟩
   ·unfold Zbc_B13
    simp only
    have e0 : idxI ((f : Int) :: q).length 0=some 0:=idxI_of (i:=0) (by simp)
    rw [gtI_t (by first | (simp; done) | (simp; omega)),cond_true,e0,Option.bind_some]
    simp only [List.getElem?_cons_zero,Option.bind_some]
    have pe' : Zbc_L17 (N,E,A,out,(f : Int) :: q,m,(f : Int),(E.length : Nat),0,())=some (.inl (N,E,A,o,r,m,())):=pe
    rw [pe']
    simp only [Option.bind_some,Sum.elim_inl]
    have ev : viewB r.length 1 (r.length : Nat)=some (1,r.length - 1):=by
     unfold viewB
     rw [if_pos ⟨by omega,by omega,by omega⟩]
     simp
    rw [ev,Option.bind_some]
    simp only
    rw [List.take_of_length_le (by simp)]
   ·simp only [List.length_drop,List.length_cons]
    omega) _ ⟨out,q,rfl,h⟩
 obtain ⟨out',rfl,h3⟩:=h2
 exact ⟨out',h1,h3⟩
theorem BI.done {out : List Int} (h : BI E.length n fc S C out []) (hA : ∀ f g,AdjF (2 * E.length) fc f g→f < n∧g < n) (hS : ∀ f,S f→f < n) : ∀ (t f : Nat),Wk (AdjF (2 * E.length) fc) S t f→f < n∧0≤lab out f
 | 0,f,hw=>⟨hS f hw,h.goal f hw⟩
 | t+1,f,hw=>by
  obtain ⟨g,hg,hw'⟩:=hw
  obtain ⟨g1,g2⟩:=BI.done h hA hS t g hw'
  exact ⟨(hA f g hg).1,h.clo g g1 g2 (by simp) f hg.symm⟩
theorem dist_init (goals : List Int) (out : List Int) (hn : n≤1000) (ho : out.length=n) : ∃ out',Zbc_L3 (N,E,A,out,m,goals,(n : Int),0,())=some (.inl (N,E,A,out',m,goals,()))∧out'.length=n∧∀ f,f < n→lab out' f=-1:=by
 obtain ⟨r,h1,h2⟩:=loop_rule (f:=Zbc_B3) (fun s=>∃ (out : List Int) (i : Nat),s=(N,E,A,out,m,goals,(n : Int),(i : Int),())∧out.length=n∧i≤n∧∀ f,f < i→lab out f=-1) (fun s=>n - s.2.2.2.2.2.2.2.1.toNat)
  (fun r=>∃ out',r=.inl (N,E,A,out',m,goals,())∧out'.length=n∧∀ f,f < n→lab out' f=-1) (by
  rintro _ ⟨out,i,rfl,h1,h2,h3⟩
  by_cases hi : i < n
  ·left
   have hil : i < out.length:=by omega
   refine ⟨(N,E,A,out.set i (-1),m,goals,(n : Int),((i+1 : Nat) : Int),()),?_,⟨_,i+1,rfl,by simpa using h1,by omega,?_⟩,?_⟩
   ·unfold Zbc_B3
    simp only
    rw [ltI_t (by omega),cond_true,idxI_of hil,Option.bind_some,List.getElem?_eq_getElem hil,Option.bind_some,add1 (by omega)]
   ·intro f hf
    rw [lab_set hil]
    split
    ·rfl
    ·exact h3 f (by omega)
   ·simp only [Int.toNat_natCast]; omega
  ·right
   refine ⟨.inl (N,E,A,out,m,goals,()),?_,out,rfl,h1,fun f hf=>h3 f (by omega)⟩
   unfold Zbc_B3
   simp only
   rw [ltI_f (by omega)]; rfl) (N,E,A,out,m,goals,(n : Int),0,()) ⟨out,0,rfl,ho,by omega,by simp⟩
 obtain ⟨out',rfl,h3⟩:=h2
 exact ⟨out',h1,h3⟩
theorem dist_goals (goals q : List Int) (out : List Int) (hg : ∀ x∈goals,∃ f : Nat,x=(f : Int)∧f < n) (hgl : goals.length≤100000) (ho : out.length=n) (hneg : ∀ f,f < n→lab out f=-1) :
  ∃ out',Zbc_L9 (N,E,A,out,q,m,goals,(goals.length : Nat),0,())=some (.inl (N,E,A,out',q,m,()))∧out'.length=n∧∀ f,f < n→((f : Int)∈goals→lab out' f=0)∧((f : Int)∉goals→lab out' f=-1):=by
 obtain ⟨r,h1,h2⟩:=loop_rule (f:=Zbc_B9) (fun s=>∃ (out : List Int) (i : Nat),s=(N,E,A,out,q,m,goals,((goals.length : Nat) : Int),(i : Int),())∧out.length=n∧i≤goals.length∧∀ f,f < n→((f : Int)∈goals.take i→lab out f=0)∧((f : Int)∉goals.take i→lab out f=-1)) (fun s=>goals.length - s.2.2.2.2.2.2.2.2.1.toNat)
  (fun r=>∃ out',r=.inl (N,E,A,out',q,m,())∧out'.length=n∧∀ f,f < n→((f : Int)∈goals→lab out' f=0)∧((f : Int)∉goals→lab out' f=-1)) (by
  rintro _ ⟨out,i,rfl,h1,h2,h3⟩
  by_cases hi : i < goals.length
  ·left
   obtain ⟨g,hg1,hg2⟩:=hg goals[i] (List.getElem_mem hi)
   have hgi : goals[i]?=some (g : Int):=by rw [List.getElem?_eq_getElem hi,hg1]
   have hgo : g < out.length:=by omega
   refine ⟨(N,E,A,out.set g 0,q,m,goals,((goals.length : Nat) : Int),((i+1 : Nat) : Int),()),?_,⟨_,i+1,rfl,by simpa using h1,by omega,?_⟩,?_⟩
   ·unfold Zbc_B9
    simp only
    rw [ltI_t (by omega),cond_true,getI_of,hgi,Option.bind_some,idxI_of hgo,Option.bind_some,List.getElem?_eq_getElem hgo,Option.bind_some,add1 (by omega)]
   ·intro f hf
    rw [lab_set hgo,List.take_add_one,hgi]
    obtain ⟨a1,a2⟩:=h3 f hf
    by_cases e : g=f
    ·subst e
     simp
    ·rw [if_neg e]
     refine ⟨fun hm=>a1 ?_,fun hm=>a2 (fun h=>hm (by simp [h]))⟩
     rcases List.mem_append.1 hm with hm | hm
     ·exact hm
     ·simp at hm
      omega
   ·simp only [Int.toNat_natCast]; omega
  ·right
   refine ⟨.inl (N,E,A,out,q,m,()),?_,out,rfl,h1,fun f hf=>?_⟩
   ·unfold Zbc_B9
    simp only
    rw [ltI_f (by omega)]; rfl
   ·have:=h3 f hf
    rw [List.take_of_length_le (by omega)] at this
    exact this) (N,E,A,out,q,m,goals,((goals.length : Nat) : Int),0,()) ⟨out,0,rfl,ho,by omega,fun f hf=>⟨by simp,fun _=>hneg f hf⟩⟩
 obtain ⟨out',rfl,h3⟩:=h2
 exact ⟨out',h1,h3⟩
theorem distances_eq (hF : Fc (2 * E.length) n m fc) (hE : E.length≤100) (hn : n≤1000) (goals : List Int) (hg : ∀ x∈goals,∃ f : Nat,x=(f : Int)∧f < n) (hgl : goals.length≤1000)
  (hconn : ∀ f,f < n→∃ t,Wk (AdjF (2 * E.length) fc) (fun f=>(f : Int)∈goals) t f) :
  ∃ out,Zbc ((N,E,A,()),m,(n : Int),goals,())=some (out,())∧out.length=n∧∀ f,f < n→∃ d : Nat,out[f]?=some (d : Int)∧IsDist (AdjF (2 * E.length) fc) (fun f=>(f : Int)∈goals) f d:=by
 have hA : ∀ f g,AdjF (2 * E.length) fc f g→f < n∧g < n:=by
  rintro f g ⟨k,hk,rfl,rfl⟩
  exact ⟨hF.lt k hk,hF.lt _ (oth_lt hk)⟩
 have hS : ∀ f : Nat,(f : Int)∈goals→f < n:=by
  intro f hf
  obtain ⟨g,e,hgn⟩:=hg _ hf
  omega
 obtain ⟨o1,a1,a2,a3⟩:=dist_init (N:=N) (E:=E) (A:=A) (m:=m) goals (List.replicate n (zeroVal I)) hn (by simp)
 obtain ⟨o2,b1,b2,b3⟩:=dist_goals (N:=N) (E:=E) (A:=A) (m:=m) goals goals o1 hg (by omega) a2 a3
 have hB : BI E.length n fc (fun f=>(f : Int)∈goals) (goals.length+n) o2 goals:=by
  have hlab : ∀ f,f < n→0≤lab o2 f→(f : Int)∈goals∧lab o2 f=0:=by
   intro f hf hl
   by_cases e : (f : Int)∈goals
   ·exact ⟨e,(b3 f hf).1 e⟩
   ·have:=(b3 f hf).2 e; omega
  refine ⟨b2,?_,?_,?_,?_,?_,?_,?_⟩
  ·intro f hf hl
   obtain ⟨h1,h2⟩:=hlab f hf hl
   exact ⟨0,h2,h1,by simp⟩
  ·intro x hx
   obtain ⟨f,rfl,hf⟩:=hg x hx
   exact ⟨f,rfl,hf,by rw [(b3 f hf).1 hx]; exact Int.le_refl _⟩
  ·have:=unl_le o2; omega
  ·refine List.Pairwise.imp_of_mem (fun {a b} ha hb _=>?_) (List.pairwise_of_forall (R:=fun _ _=>True) (fun _ _=>trivial))
   obtain ⟨f,rfl,hf⟩:=hg a ha
   obtain ⟨g,rfl,hg'⟩:=hg b hb
   simp only [Int.toNat_natCast]
   rw [(b3 f hf).1 ha,(b3 g hg').1 hb]; exact Int.le_refl _
  ·intro a ha b hb
   obtain ⟨f,rfl,hf⟩:=hg a ha
   obtain ⟨g,rfl,hg'⟩:=hg b hb
   simp only [Int.toNat_natCast]
   rw [(b3 f hf).1 ha,(b3 g hg').1 hb]; omega
  ·intro f hf hl hm
   exact absurd (hlab f hf hl).1 hm
  ·intro f hf
   rw [(b3 f (hS f hf)).1 hf]; exact Int.le_refl _
 obtain ⟨o3,c1,c2⟩:=dist_queue (N:=N) (A:=A) hF hE hn (by omega) hA hS hB
 refine ⟨o3,?_,c2.len,fun f hf=>?_⟩
 ·unfold Zbc
  simp only
  have hcl : Zas (goals,())=some (goals,()):=by
   unfold Zas
   simp only
   rw [app_of (by simp; omega)]
   cases goals with
   | nil=>simp [both]
   | cons a l=>rfl
  rw [makeL_of (Nat.le_refl _) (by omega),Option.bind_some,List.length_replicate,a1]
  simp only [Option.bind_some,Sum.elim_inl]
  rw [hcl,Option.bind_some]
  simp only
  rw [b1]
  simp only [Option.bind_some,Sum.elim_inl]
  rw [c1]
  rfl
 ·obtain ⟨t,ht⟩:=hconn f hf
  obtain ⟨_,hl⟩:=c2.done hA hS t f ht
  obtain ⟨d,hd,hdist⟩:=c2.lb f hf hl
  exact ⟨d,by rw [lab_get (by rw [c2.len]; exact hf),hd],hdist⟩
end
end Go.Vm


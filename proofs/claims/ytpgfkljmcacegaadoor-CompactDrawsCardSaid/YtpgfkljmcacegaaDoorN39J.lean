/-
 Faces are cycles.
-/
import Derived.Test.YtpgfkljmcacegaaDoorN29I
set_option linter.unusedVariables false
set_option linter.unusedSimpArgs false
namespace Go.Vm
open Go.Proofs
set_option maxRecDepth 100000
attribute [local irreducible] loopFix
theorem nxt_prev {n j : Nat} (h : j < n) : ((j+n - 1) % n+1) % n=j:=by
 cases j with
 | zero =>
  have h1 : (0+n - 1) % n=n - 1:=by rw [Nat.zero_add]; exact Nat.mod_eq_of_lt (by omega)
  have h2 : n - 1+1=n:=by omega
  rw [h1,h2,Nat.mod_self]
 | succ j =>
  have h1 : (j+1+n - 1) % n=j:=by
   rw [show j+1+n - 1=j+n by omega,Nat.add_mod_right]; exact Nat.mod_eq_of_lt (by omega)
  rw [h1]; exact Nat.mod_eq_of_lt h
def Path (nx : List Int) : Int→List Int→Int→Prop
 | x,[],z=>x=z
 | x,a :: f,z=>a=x∧∃ y,nx[x.toNat]?=some y∧Path nx y f z
theorem walk_path (nx : List Int) : ∀ (n : Nat) (met : List Bool) (acc : List Int) (x : Int) (m : List Bool) (r : List Int),walk nx n met acc x=some (m,r)→∃ f z,r=acc++f∧Path nx x f z∧m[z.toNat]?=some true
 | 0,met,acc,x,m,r,h=>by simp [walk] at h
 | n+1,met,acc,x,m,r,h=>by
  simp only [walk] at h
  split at h
  ·rename_i hb
   have : (met,acc)=(m,r):=Option.some.inj h
   cases this
   exact ⟨[],x,by simp,rfl,hb⟩
  ·split at h
   ·rename_i y hy
    obtain ⟨f,z,h1,h2,h3⟩:=walk_path nx n _ _ y m r h
    exact ⟨x :: f,z,by simp [h1],⟨rfl,y,hy,h2⟩,h3⟩
   ·cases h
  ·cases h
def Cyc (nx : List Int) (f : List Int) : Prop:=f≠[]∧∀ i (h : i < f.length),nx[f[i].toNat]?=some (f.getD ((i+1) % f.length) 0)
theorem path_get {nx : List Int} : ∀ {f : List Int} {x z : Int},Path nx x f z→(f++[z])[0]?=some x∧∀ i (h : i < f.length),nx[f[i].toNat]?=(f++[z])[i+1]?
 | [],x,z,h=>by
  simp only [Path] at h
  subst h
  exact ⟨rfl,fun i h=>by simp at h⟩
 | a :: f,x,z,h=>by
  obtain ⟨rfl,y,hy,h2⟩:=h
  obtain ⟨q1,q2⟩:=path_get h2
  refine ⟨rfl,fun i hi=>?_⟩
  cases i with
  | zero=>simpa [hy] using q1.symm
  | succ i=>simpa using q2 i (by simpa using hi)
theorem path_cyc {nx : List Int} {f : List Int} {x : Int} (h : Path nx x f x) (hf : f≠[]) : Cyc nx f:=by
 obtain ⟨q1,q2⟩:=path_get h
 refine ⟨hf,fun i hi=>?_⟩
 rw [q2 i hi,List.getD_eq_getElem?_getD]
 by_cases e : i+1 < f.length
 ·rw [Nat.mod_eq_of_lt e,List.getElem?_append_left e,List.getElem?_eq_getElem e]; rfl
 ·have e2 : i+1=f.length:=by omega
  rw [e2,Nat.mod_self]
  have h0 : f[0]?=some x:=by
   rw [List.getElem?_append_left (by omega)] at q1; exact q1
  rw [h0]
  simp
def Inj (nx : List Int) : Prop:=∀ (a b : Nat) (y : Int),nx[a]?=some y→nx[b]?=some y→a=b
theorem cyc_pred {nx f : List Int} (h : Cyc nx f) {j : Nat} (hj : j < f.length) : nx[(f.getD ((j+f.length - 1) % f.length) 0).toNat]?=some f[j]:=by
 have hp : (j+f.length - 1) % f.length < f.length:=Nat.mod_lt _ (by omega)
 have:=h.2 _ hp
 rw [nxt_prev hj,List.getD_eq_getElem?_getD,List.getElem?_eq_getElem hj] at this
 rw [List.getD_eq_getElem?_getD,List.getElem?_eq_getElem hp]
 exact this
theorem faceStep_cyc {nx : List Int} (hinj : Inj nx) (hn : NxOK nx nx.length) {d : Nat} (hd : d < nx.length) {s t : List Bool×List (List Int)} (hs : FacesInv nx.length d s) (hc : ∀ f∈s.2,Cyc nx f) (ht : faceStep nx d s ()=some (.inl t)) : ∀ f∈t.2,Cyc nx f:=by
 have hu:=unm_le s.1
 obtain ⟨m,f,h1,h2,h3,h4,h5,h6,h7,h8⟩:=walk_some hn (nx.length+1) s.1 [] d hs.len hd (by rw [hs.len] at hu; omega)
 simp only [List.nil_append] at h1
 simp only [faceStep,h1,Option.map_some] at ht
 obtain ⟨f',z,e1,e2,e3⟩:=walk_path nx _ _ _ _ _ _ h1
 rw [List.nil_append] at e1
 subst e1
 have ht' : t=(m,cond f.isEmpty s.2 (s.2++[f])):=by cases ht; rfl
 subst ht'
 cases hf : f with
 | nil=>exact hc
 | cons a f' =>
  rw [← hf]
  have hemp : f.isEmpty=false:=by rw [hf]; rfl
  rw [hemp]
  simp only [cond_false]
  intro g hg
  rcases List.mem_append.1 hg with hg | hg
  ·exact hc g hg
  ·simp only [List.mem_singleton] at hg
   subst hg
   have hne : g≠[]:=by rw [hf]; simp
   have hpos : 0 < g.length:=List.length_pos_iff.2 hne
   obtain ⟨p1,p2⟩:=path_get e2
   have g0 : g[0]=(d : Int):=by
    rw [List.getElem?_append_left hpos,List.getElem?_eq_getElem hpos] at p1
    exact Option.some.inj p1
   -- the dart before the last
   have hlast:=p2 (g.length - 1) (by omega)
   rw [show g.length - 1+1=g.length by omega,List.getElem?_append_right (Nat.le_refl _)] at hlast
   simp only [Nat.sub_self,List.getElem?_cons_zero] at hlast
   obtain ⟨u,hu1,hu2,hu3⟩:=h3 g[g.length - 1] (List.getElem_mem _)
   obtain ⟨w,hw1,hw2⟩:=hn.2 u hu2
   rw [hu1,Int.toNat_natCast,hw2] at hlast
   have hz : z=(w : Int):=(Option.some.inj hlast).symm
   subst hz
   rw [Int.toNat_natCast] at e3
   have hzd : (w : Int)=d:=by
    rcases (h4 w hw1).1 e3 with hm | hm
    ·exfalso
     obtain ⟨q,hq,hwq⟩:=List.mem_flatten.1 ((hs.met w hw1).1 hm)
     obtain ⟨j,hj,hjw⟩:=List.getElem_of_mem hwq
     have hp:=cyc_pred (hc q hq) hj
     have hpl : (j+q.length - 1) % q.length < q.length:=Nat.mod_lt _ (by omega)
     rw [hjw] at hp
     have:=hinj _ _ _ hp hw2
     have hmem : q.getD ((j+q.length - 1) % q.length) 0∈q:=by
      rw [List.getD_eq_getElem?_getD,List.getElem?_eq_getElem hpl]; exact List.getElem_mem hpl
     obtain ⟨k,hk,_⟩:=(hs.elem q hq).2 _ hmem
     rw [hk,Int.toNat_natCast] at this
     rw [hk,this] at hmem
     rw [(hs.met u hu2).2 (List.mem_flatten.2 ⟨q,hq,hmem⟩)] at hu3
     cases hu3
    ·obtain ⟨j,hj,hjw⟩:=List.getElem_of_mem hm
     cases j with
     | zero=>rw [← hjw,g0]
     | succ j =>
      exfalso
      have hp:=p2 j (by omega)
      rw [List.getElem?_append_left hj,List.getElem?_eq_getElem hj,hjw] at hp
      obtain ⟨v,hv1,hv2,_⟩:=h3 g[j] (List.getElem_mem _)
      rw [hv1,Int.toNat_natCast] at hp
      have:=hinj _ _ _ hp hw2
      have:=nodup_idx h5 (i:=j) (j:=g.length - 1) (by omega) (by omega) (by rw [hv1,hu1,this])
      omega
   rw [hzd] at e2
   exact path_cyc e2 hne
theorem faces_cyc_all {nx : List Int} (hinj : Inj nx) (hn : NxOK nx nx.length) : ∀ (l : List Unit) (d : Nat) (s t : List Bool×List (List Int)),d+l.length=nx.length→FacesInv nx.length d s→(∀ f∈s.2,Cyc nx f) →
  foldE (faceStep nx) d s l=some (.inl t)→∀ f∈t.2,Cyc nx f
 | [],d,s,t,h,hs,hc,ht=>by
  simp only [foldE] at ht
  cases ht
  exact hc
 | () :: l,d,s,t,h,hs,hc,ht=>by
  simp only [List.length_cons] at h
  obtain ⟨u,h1,h2⟩:=faceStep_ok hn (by omega : d < nx.length) hs
  simp only [foldE,h1,Option.bind_some,Sum.elim_inl] at ht
  exact faces_cyc_all hinj hn l (d+1) u t (by omega) h2 (faceStep_cyc hinj hn (by omega) hs hc h1) ht
theorem facesOf_cyc {nx : List Int} (hinj : Inj nx) (hn : NxOK nx nx.length) : ∀ f∈facesOf nx,Cyc nx f:=by
 obtain ⟨m,h1,_⟩:=facesOf_spec hn
 exact faces_cyc_all hinj hn _ 0 _ _ (by simp) (faces_start nx.length) (by simp) h1
def Rel (nx nx' : List Int) : Prop:=∀ (k y : Nat),nx[k]?=some (y : Int)→nx'[oth y]?=some ((oth k : Nat) : Int)
def NatL (f : List Int) : Prop:=∀ x∈f,∃ k : Nat,x=(k : Int)
theorem cyc_closed {nx f : List Int} (h : Cyc nx f) {k y : Nat} (hk : (k : Int)∈f) (hy : nx[k]?=some (y : Int)) : (y : Int)∈f:=by
 obtain ⟨i,hi,e⟩:=List.getElem_of_mem hk
 have:=h.2 i hi
 have hm : (i+1) % f.length < f.length:=Nat.mod_lt _ (by omega)
 rw [e,Int.toNat_natCast,hy,List.getD_eq_getElem?_getD,List.getElem?_eq_getElem hm] at this
 have : (y : Int)=f[(i+1) % f.length]:=Option.some.inj this
 rw [this]; exact List.getElem_mem hm
end Go.Vm

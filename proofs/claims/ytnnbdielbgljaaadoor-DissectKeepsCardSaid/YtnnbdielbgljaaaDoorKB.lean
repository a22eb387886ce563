/-
 Faces are cycles; systems, how they are made; places in a list.
-/
import Derived.Test.YtnnbdielbgljaaaDoorKA
set_option linter.unusedVariables false
set_option linter.unusedSimpArgs false
namespace Go.Vm
open Go.Proofs
set_option maxRecDepth 100000
attribute [local irreducible] aa
def lC (out f : List Int) (i : Int) : List Int:=f.foldl (fun o d=>o.set d.toNat i) out
def km : List Int→Nat→List (List Int)→List Int
 | out,_,[]=>out
 | out,i,f :: fs=>km (lC out f (i : Int)) (i+1) fs
theorem pE (i : Int) : ∀ (f out : List Int),(lC out f i).length=out.length
 | [],out=>rfl
 | d :: f,out=>by
  show (lC (out.set d.toNat i) f i).length=_
  rw [pE i f]; simp
theorem lx (i : Int) {k : Nat} : ∀ {f out : List Int},(∀ d∈f,∃ x : Nat,d=(x : Int))→(k : Int)∉f→(lC out f i)[k]?=out[k]?
 | [],out,_,_=>rfl
 | d :: f,out,hd,hk=>by
  show (lC (out.set d.toNat i) f i)[k]?=_
  obtain ⟨x,rfl⟩:=hd d (by simp)
  rw [lx i (fun d hd'=>hd d (by simp [hd'])) (fun h=>hk (by simp [h])),List.getElem?_set]
  rw [if_neg]
  intro e
  simp only [Int.toNat_natCast] at e
  subst e
  exact hk (by simp)
theorem pi (i : Int) {k : Nat} : ∀ {f out : List Int},(∀ d∈f,∃ x : Nat,d=(x : Int))→(k : Int)∈f→k < out.length→(lC out f i)[k]?=some i
 | [],out,_,hk,_=>by simp at hk
 | d :: f,out,hd,hk,hl=>by
  show (lC (out.set d.toNat i) f i)[k]?=_
  have hd' : ∀ d∈f,∃ x : Nat,d=(x : Int):=fun d hd'=>hd d (by simp [hd'])
  by_cases hf : (k : Int)∈f
  ·exact pi i hd' hf (by simpa using hl)
  ·rw [lx i hd' hf]
   rcases List.mem_cons.1 hk with rfl | hk
   ·simp [hl]
   ·exact absurd hk hf
theorem oA {k : Nat} : ∀ {fs : List (List Int)} {out : List Int} {i : Nat},(∀ f∈fs,∀ d∈f,∃ x : Nat,d=(x : Int))→(k : Int)∉fs.flatten→(km out i fs)[k]?=out[k]?
 | [],_,_,_,_=>rfl
 | f :: fs,out,i,hd,hk=>by
  unfold km
  simp only [List.flatten_cons,List.mem_append,not_or] at hk
  rw [oA (fun f hf=>hd f (by simp [hf])) hk.2,lx _ (hd f (by simp)) hk.1]
theorem oE {k : Nat} : ∀ {fs : List (List Int)} {out : List Int} {i j : Nat} {f : List Int},(∀ f∈fs,∀ d∈f,∃ x : Nat,d=(x : Int))→fs.flatten.Nodup→fs[j]?=some f→(k : Int)∈f→k < out.length→(km out i fs)[k]?=some ((i+j : Nat) : Int)
 | [],_,_,_,_,_,_,h,_,_=>by simp at h
 | g :: fs,out,i,j,f,hd,hn,hj,hk,hl=>by
  unfold km
  rw [List.flatten_cons,List.nodup_append] at hn
  obtain ⟨_,n2,n3⟩:=hn
  cases j with
  | zero =>
   simp at hj
   subst hj
   rw [oA (fun f hf=>hd f (by simp [hf])) (fun h=>n3 _ hk _ h rfl),pi _ (hd g (by simp)) hk hl]
   rfl
  | succ j =>
   rw [oE (j:=j) (fun f hf=>hd f (by simp [hf])) n2 (by simpa using hj) hk (by rw [pE]; exact hl)]
   congr 2
   omega
structure FsOK (L : Nat) (fs : List (List Int)) : Prop where
 elem : ∀ f∈fs,f≠[]∧∀ d∈f,∃ k : Nat,d=(k : Int)∧k < L
 nodup : fs.flatten.Nodup
 cover : ∀ k,k < L→(k : Int)∈fs.flatten
 num : fs.length≤L
theorem FsOK.nat {L : Nat} {fs : List (List Int)} (h : FsOK L fs) : ∀ f∈fs,∀ d∈f,∃ x : Nat,d=(x : Int):=fun f hf d hd=>by
 obtain ⟨k,e,_⟩:=(h.elem f hf).2 d hd; exact ⟨k,e⟩
theorem FsOK.flen {L : Nat} {fs : List (List Int)} (h : FsOK L fs) (hL : L≤65536) : ∀ f∈fs,f.length≤L:=by
 intro f hf
 have hn : f.Nodup:=h.nodup.sublist (List.sublist_flatten_of_mem hf)
 have hn2 : (f.map Int.toNat).Nodup:=by
  refine List.pairwise_map.2 (List.Pairwise.imp_of_mem (fun {a b} ha hb hab e=>?_) hn)
  obtain ⟨x,rfl,_⟩:=(h.elem f hf).2 a ha
  obtain ⟨y,rfl,_⟩:=(h.elem f hf).2 b hb
  simp at e
  omega
 have:=fy L (f.map Int.toNat) hn2 (by
  intro x hx
  obtain ⟨d,hd,rfl⟩:=List.mem_map.1 hx
  obtain ⟨k,rfl,hk⟩:=(h.elem f hf).2 d hd
  simpa using hk)
 simpa using this
def kj (L : Nat) (fs : List (List Int)) : List Int:=km (List.replicate L 0) 0 fs
theorem qQ {L : Nat} {fs : List (List Int)} (h : FsOK L fs) {j k : Nat} {f : List Int} (hj : fs[j]?=some f) (hk : (k : Int)∈f) : (kj L fs)[k]?=some (j : Int):=by
 obtain ⟨x,e,hx⟩:=(h.elem f (List.mem_of_getElem? hj)).2 _ hk
 have : k=x:=by omega
 subst this
 unfold kj
 rw [oE h.nat h.nodup hj hk (by simpa using hx)]
 simp
theorem FsOK.face {L : Nat} {fs : List (List Int)} (h : FsOK L fs) {k : Nat} (hk : k < L) : ∃ j f,fs[j]?=some f∧(k : Int)∈f∧j < fs.length:=by
 obtain ⟨f,hf,hkf⟩:=List.mem_flatten.1 (h.cover k hk)
 obtain ⟨j,hj⟩:=List.mem_iff_getElem?.1 hf
 exact ⟨j,f,hj,hkf,(List.getElem?_eq_some_iff.1 hj).1⟩
theorem eA {L : Nat} {fs : List (List Int)} (h : FsOK L fs) {k : Nat} (hk : k < L) : ∃ j : Nat,j < fs.length∧(kj L fs)[k]?=some (j : Int)∧∃ f,fs[j]?=some f∧(k : Int)∈f:=by
 obtain ⟨j,f,h1,h2,h3⟩:=h.face hk
 exact ⟨j,h3,qQ h h1 h2,f,h1,h2⟩
section
variable {N : Nat} {E : List Arc} {A : List (List Int)}
end
end Go.Vm

namespace Go.Vm
open Go.Proofs
set_option maxRecDepth 100000
attribute [local irreducible] aa
theorem DK {n j : Nat} (h : j < n) : ((j+n - 1) % n+1) % n=j:=by
 cases j with
 | zero =>
  have h1 : (0+n - 1) % n=n - 1:=by rw [Nat.zero_add]; exact Nat.mod_eq_of_lt (by omega)
  have h2 : n - 1+1=n:=by omega
  rw [h1,h2,Nat.mod_self]
 | succ j =>
  have h1 : (j+1+n - 1) % n=j:=by
   rw [show j+1+n - 1=j+n by omega,Nat.add_mod_right]; exact Nat.mod_eq_of_lt (by omega)
  rw [h1]; exact Nat.mod_eq_of_lt h
def dm (nx : List Int) : Int→List Int→Int→Prop
 | x,[],z=>x=z
 | x,a :: f,z=>a=x∧∃ y,nx[x.toNat]?=some y∧dm nx y f z
theorem rR (nx : List Int) : ∀ (n : Nat) (met : List Bool) (acc : List Int) (x : Int) (m : List Bool) (r : List Int),kN nx n met acc x=some (m,r)→∃ f z,r=acc++f∧dm nx x f z∧m[z.toNat]?=some true
 | 0,met,acc,x,m,r,h=>by simp [kN] at h
 | n+1,met,acc,x,m,r,h=>by
  simp only [kN] at h
  split at h
  ·rename_i hb
   have : (met,acc)=(m,r):=Option.some.inj h
   cases this
   exact ⟨[],x,by simp,rfl,hb⟩
  ·split at h
   ·rename_i y hy
    obtain ⟨f,z,h1,h2,h3⟩:=rR nx n _ _ y m r h
    exact ⟨x :: f,z,by simp [h1],⟨rfl,y,hy,h2⟩,h3⟩
   ·cases h
  ·cases h
def Cyc (nx : List Int) (f : List Int) : Prop:=f≠[]∧∀ i (h : i < f.length),nx[f[i].toNat]?=some (f.getD ((i+1) % f.length) 0)
theorem pb {nx : List Int} : ∀ {f : List Int} {x z : Int},dm nx x f z→(f++[z])[0]?=some x∧∀ i (h : i < f.length),nx[f[i].toNat]?=(f++[z])[i+1]?
 | [],x,z,h=>by
  simp only [dm] at h
  subst h
  exact ⟨rfl,fun i h=>by simp at h⟩
 | a :: f,x,z,h=>by
  obtain ⟨rfl,y,hy,h2⟩:=h
  obtain ⟨q1,q2⟩:=pb h2
  refine ⟨rfl,fun i hi=>?_⟩
  cases i with
  | zero=>simpa [hy] using q1.symm
  | succ i=>simpa using q2 i (by simpa using hi)
theorem cL {nx : List Int} {f : List Int} {x : Int} (h : dm nx x f x) (hf : f≠[]) : Cyc nx f:=by
 obtain ⟨q1,q2⟩:=pb h
 refine ⟨hf,fun i hi=>?_⟩
 rw [q2 i hi,List.getD_eq_getElem?_getD]
 by_cases e : i+1 < f.length
 ·rw [Nat.mod_eq_of_lt e,List.getElem?_append_left e,List.getElem?_eq_getElem e]; rfl
 ·have e2 : i+1=f.length:=by omega
  rw [e2,Nat.mod_self]
  have h0 : f[0]?=some x:=by
   rw [List.getElem?_append_left (by omega)] at q1; exact q1
  rw [h0]
  simp
def Inj (nx : List Int) : Prop:=∀ (a b : Nat) (y : Int),nx[a]?=some y→nx[b]?=some y→a=b
theorem Dy {nx f : List Int} (h : Cyc nx f) {j : Nat} (hj : j < f.length) : nx[(f.getD ((j+f.length - 1) % f.length) 0).toNat]?=some f[j]:=by
 have hp : (j+f.length - 1) % f.length < f.length:=Nat.mod_lt _ (by omega)
 have:=h.2 _ hp
 rw [DK hj,List.getD_eq_getElem?_getD,List.getElem?_eq_getElem hj] at this
 rw [List.getD_eq_getElem?_getD,List.getElem?_eq_getElem hp]
 exact this
theorem tC {nx : List Int} (hinj : Inj nx) (hn : jj nx nx.length) {d : Nat} (hd : d < nx.length) {s t : List Bool×List (List Int)} (hs : FacesInv nx.length d s) (hc : ∀ f∈s.2,Cyc nx f) (ht : c7 nx d s ()=some (.inl t)) : ∀ f∈t.2,Cyc nx f:=by
 have hu:=pM s.1
 obtain ⟨m,f,h1,h2,h3,h4,h5,h6,h7,h8⟩:=iF hn (nx.length+1) s.1 [] d hs.len hd (by rw [hs.len] at hu; omega)
 simp only [List.nil_append] at h1
 simp only [c7,h1,Option.map_some] at ht
 obtain ⟨f',z,e1,e2,e3⟩:=rR nx _ _ _ _ _ _ h1
 rw [List.nil_append] at e1
 subst e1
 have ht' : t=(m,cond f.isEmpty s.2 (s.2++[f])):=by cases ht; rfl
 subst ht'
 cases hf : f with
 | nil=>exact hc
 | cons a f' =>
  rw [← hf]
  have hemp : f.isEmpty=false:=by rw [hf]; rfl
  rw [hemp]
  simp only [cond_false]
  intro g hg
  rcases List.mem_append.1 hg with hg | hg
  ·exact hc g hg
  ·simp only [List.mem_singleton] at hg
   subst hg
   have hne : g≠[]:=by rw [hf]; simp
   have hpos : 0 < g.length:=List.length_pos_iff.2 hne
   obtain ⟨p1,p2⟩:=pb e2
   have g0 : g[0]=(d : Int):=by
    rw [List.getElem?_append_left hpos,List.getElem?_eq_getElem hpos] at p1
    exact Option.some.inj p1
   -- the dart before the last
   have hlast:=p2 (g.length - 1) (by omega)
   rw [show g.length - 1+1=g.length by omega,List.getElem?_append_right (Nat.le_refl _)] at hlast
   simp only [Nat.sub_self,List.getElem?_cons_zero] at hlast
   obtain ⟨u,hu1,hu2,hu3⟩:=h3 g[g.length - 1] (List.getElem_mem _)
   obtain ⟨w,hw1,hw2⟩:=hn.2 u hu2
   rw [hu1,Int.toNat_natCast,hw2] at hlast
   have hz : z=(w : Int):=(Option.some.inj hlast).symm
   subst hz
   rw [Int.toNat_natCast] at e3
   have hzd : (w : Int)=d:=by
    rcases (h4 w hw1).1 e3 with hm | hm
    ·exfalso
     obtain ⟨q,hq,hwq⟩:=List.mem_flatten.1 ((hs.met w hw1).1 hm)
     obtain ⟨j,hj,hjw⟩:=List.getElem_of_mem hwq
     have hp:=Dy (hc q hq) hj
     have hpl : (j+q.length - 1) % q.length < q.length:=Nat.mod_lt _ (by omega)
     rw [hjw] at hp
     have:=hinj _ _ _ hp hw2
     have hmem : q.getD ((j+q.length - 1) % q.length) 0∈q:=by
      rw [List.getD_eq_getElem?_getD,List.getElem?_eq_getElem hpl]; exact List.getElem_mem hpl
     obtain ⟨k,hk,_⟩:=(hs.elem q hq).2 _ hmem
     rw [hk,Int.toNat_natCast] at this
     rw [hk,this] at hmem
     rw [(hs.met u hu2).2 (List.mem_flatten.2 ⟨q,hq,hmem⟩)] at hu3
     cases hu3
    ·obtain ⟨j,hj,hjw⟩:=List.getElem_of_mem hm
     cases j with
     | zero=>rw [← hjw,g0]
     | succ j =>
      exfalso
      have hp:=p2 j (by omega)
      rw [List.getElem?_append_left hj,List.getElem?_eq_getElem hj,hjw] at hp
      obtain ⟨v,hv1,hv2,_⟩:=h3 g[j] (List.getElem_mem _)
      rw [hv1,Int.toNat_natCast] at hp
      have:=hinj _ _ _ hp hw2
      have:=kD h5 (i:=j) (j:=g.length - 1) (by omega) (by omega) (by rw [hv1,hu1,this])
      omega
   rw [hzd] at e2
   exact cL e2 hne
theorem kT {nx : List Int} (hinj : Inj nx) (hn : jj nx nx.length) : ∀ (l : List Unit) (d : Nat) (s t : List Bool×List (List Int)),d+l.length=nx.length→FacesInv nx.length d s→(∀ f∈s.2,Cyc nx f) →
  ay (c7 nx) d s l=some (.inl t)→∀ f∈t.2,Cyc nx f
 | [],d,s,t,h,hs,hc,ht=>by
  simp only [ay] at ht
  cases ht
  exact hc
 | () :: l,d,s,t,h,hs,hc,ht=>by
  simp only [List.length_cons] at h
  obtain ⟨u,h1,h2⟩:=gU hn (by omega : d < nx.length) hs
  simp only [ay,h1,Option.bind_some,Sum.elim_inl] at ht
  exact kT hinj hn l (d+1) u t (by omega) h2 (tC hinj hn (by omega) hs hc h1) ht
theorem wm {nx : List Int} (hinj : Inj nx) (hn : jj nx nx.length) : ∀ f∈ab nx,Cyc nx f:=by
 obtain ⟨m,h1,_⟩:=ey hn
 exact kT hinj hn _ 0 _ _ (by simp) (gQ nx.length) (by simp) h1
def Rel (nx nx' : List Int) : Prop:=∀ (k y : Nat),nx[k]?=some (y : Int)→nx'[oth y]?=some ((oth k : Nat) : Int)
def Gs (f : List Int) : Prop:=∀ x∈f,∃ k : Nat,x=(k : Int)
theorem dy {nx f : List Int} (h : Cyc nx f) {k y : Nat} (hk : (k : Int)∈f) (hy : nx[k]?=some (y : Int)) : (y : Int)∈f:=by
 obtain ⟨i,hi,e⟩:=List.getElem_of_mem hk
 have:=h.2 i hi
 have hm : (i+1) % f.length < f.length:=Nat.mod_lt _ (by omega)
 rw [e,Int.toNat_natCast,hy,List.getD_eq_getElem?_getD,List.getElem?_eq_getElem hm] at this
 have : (y : Int)=f[(i+1) % f.length]:=Option.some.inj this
 rw [this]; exact List.getElem_mem hm
end Go.Vm

namespace Go.Vm
open Go.Proofs
set_option maxRecDepth 100000
attribute [local irreducible] aa
theorem DO (l : List Int) (hl : l.length≤1000000) : ∀ (r j : Nat),j+r=l.length→zo (l,l,0,true,(j : Int),())=some (.inl (l,l,0,true,())):=by
 intro r
 induction r with
 | zero =>
  intro j hj
  refine ai ?_
  simp only [zy]
  rw [aA (by omega)]; rfl
 | succ r ih =>
  intro j hj
  refine (ap ?_).trans (ih (j+1) (by omega))
  obtain ⟨y,hy⟩ : ∃ y,l[j]?=some y:=⟨_,List.getElem?_eq_getElem (by omega)⟩
  simp only [zy]
  rw [aG (by omega),cond_true,cond_true,cn (by omega),cond_false,dw (by omega) (by omega),show (0 : Int)+(j : Int)=((j : Nat) : Int) by omega,FZ,Nat.mod_eq_of_lt (by omega),ae,hy,Option.bind_some,Option.bind_some,dk rfl,aU (by omega)]
theorem vR (l : List Int) (hl : l.length≤1000000) : Zo (l,l,())=some (true,()):=by
 unfold Zo
 simp only
 rw [bx rfl,cond_false]
 by_cases h : l.length=0
 ·have : zL (l,l,0,())=some (.inr (.inl (l,()))):=by
   refine ai ?_
   simp only [yT]
   rw [aA (by omega)]; rfl
  rw [this,Option.bind_some]
  simp only [Sum.elim_inr,Sum.elim_inl]
  rw [dk (by omega)]
 ·have : zL (l,l,0,())=some (.inl (true,())):=by
   refine ai ?_
   simp only [yT]
   rw [aG (by omega),cond_true,show zo (l,l,0,true,0,())=_ from DO l hl l.length 0 (by omega),Option.bind_some]
   rfl
  rw [this]; rfl
theorem vw (N : Int) (E : List Arc) (A : List (List Int)) (hE : E.length≤1000000) (hA : A.length≤1000000) (hl : ∀ l∈A,l.length≤1000000) : Zah ((N,E,A,()),(N,E,A,()),())=some (true,()):=by
 unfold Zah
 simp only
 rw [bx rfl,cond_false,bx rfl,cond_false,bx rfl,cond_false]
 have k1:=jm (B:=pk) (fun (_ : Unit) i=>(N,E,A,N,E,A,(i : Int),())) (fun _=>.inr (.inl (N,E,A,N,E,A,()))) (fun (_ : Unit)=>.inl (false,())) (fun (_ : Nat) (_ : Unit) (_ : Arc)=>some (Sum.inl ())) E (by
   intro u i a hd'
   have hi : i < E.length:=(List.getElem?_eq_some_iff.1 hd').1
   simp only [pk]
   rw [aG (by omega),cond_true,ae,hd',Option.bind_some,Option.bind_some,dk rfl,dk rfl,aU (by omega)]
   rfl) (by
   intro u
   simp only [pk]
   rw [aA (by omega)]; rfl) ()
 obtain ⟨t,ht⟩:=iA (g:=fun (_ : Nat) (_ : Unit) (_ : Arc)=>(some (Sum.inl ()) : Option (Unit⊕Unit))) (fun _ _ _=>()) (l:=E) (i:=0) (s:=()) (fun _ _ _ _=>rfl)
 rw [ht] at k1
 have k2:=jm (B:=pq) (fun (_ : Unit) i=>(N,E,A,N,E,A,(i : Int),())) (fun _=>.inr (.inl ())) (fun (_ : Unit)=>.inl (false,())) (fun (_ : Nat) (_ : Unit) (_ : List Int)=>some (Sum.inl ())) A (by
   intro u i a hd'
   have hi : i < A.length:=(List.getElem?_eq_some_iff.1 hd').1
   simp only [pq]
   rw [aG (by omega),cond_true,ae,hd',Option.bind_some,Option.bind_some,vR a (hl a (List.mem_of_getElem? hd')),Option.bind_some,aU (by omega)]
   rfl) (by
   intro u
   simp only [pq]
   rw [aA (by omega)]; rfl) ()
 obtain ⟨t,ht⟩:=iA (g:=fun (_ : Nat) (_ : Unit) (_ : List Int)=>(some (Sum.inl ()) : Option (Unit⊕Unit))) (fun _ _ _=>()) (l:=A) (i:=0) (s:=()) (fun _ _ _ _=>rfl)
 rw [ht] at k2
 rw [show xI (N,E,A,N,E,A,0,())=_ from k1]
 simp only [Option.bind_some,Sum.elim_inr,Sum.elim_inl]
 rw [show yu (N,E,A,N,E,A,0,())=_ from k2]
 rfl
theorem CD {i j n : Nat} (hi : i < n) (hj : j < n) (e : (i+1) % n=(j+1) % n) : i=j:=by
 rcases Nat.lt_or_ge (i+1) n with a | a <;> rcases Nat.lt_or_ge (j+1) n with b | b
 ·rw [Nat.mod_eq_of_lt a,Nat.mod_eq_of_lt b] at e; omega
 ·have : j+1=n:=by omega
  rw [Nat.mod_eq_of_lt a,this,Nat.mod_self] at e; omega
 ·have : i+1=n:=by omega
  rw [this,Nat.mod_self,Nat.mod_eq_of_lt b] at e; omega
 ·omega
section
variable {N : Nat} {E : List Arc} {A : List (List Int)} {nx : List Int}
theorem xT (h : RotOK (N : Nat) E A) (hn : Fol oth E A nx) {a : Nat} {y : Int} (ha : nx[a]?=some y) :
  ∃ (v : Nat) (l : List Int) (i : Nat),A[v]?=some l∧i < l.length∧l.getD i 0=((oth a : Nat) : Int)∧y=l.getD ((i+1) % l.length) 0∧y∈l:=by
 have hk : a < 2 * E.length:=by
  have:=(List.getElem?_eq_some_iff.1 ha).1
  rw [hn.len] at this; exact this
 obtain ⟨l,hl,hd⟩:=List.mem_flatten.1 (h.mem (bd hk))
 obtain ⟨v,hv⟩:=List.mem_iff_getElem?.1 hl
 obtain ⟨i,hi,hid⟩:=List.getElem_of_mem hd
 have g1:=hn.get l hl i hi
 have hm : (i+1) % l.length < l.length:=Nat.mod_lt _ (by omega)
 rw [hid,Int.toNat_natCast,cv,ha] at g1
 have g1:=Option.some.inj g1
 refine ⟨v,l,i,hv,hi,?_,g1,?_⟩
 ·rw [List.getD_eq_getElem?_getD,List.getElem?_eq_getElem hi,hid]; rfl
 ·rw [g1,List.getD_eq_getElem?_getD,List.getElem?_eq_getElem hm]; exact List.getElem_mem hm
theorem nZ (h : RotOK (N : Nat) E A) (hn : Fol oth E A nx) : Inj nx:=by
 intro a b y ha hb
 obtain ⟨v,l,i,hv,hi,e1,e2,e3⟩:=xT h hn ha
 obtain ⟨v',l',i',hv',hi',e1',e2',e3'⟩:=xT h hn hb
 obtain ⟨k,rfl,_,hk⟩:=h.dart v l hv y e3
 obtain ⟨k',hkk,_,hk'⟩:=h.dart v' l' hv' _ e3'
 have : k=k':=by omega
 subst this
 have : v=v':=by omega
 subst this
 rw [hv] at hv'
 have : l=l':=Option.some.inj hv'
 subst this
 have hnd : l.Nodup:=h.nodup.sublist (List.sublist_flatten_of_mem (List.mem_of_getElem? hv))
 have hm : (i+1) % l.length < l.length:=Nat.mod_lt _ (by omega)
 have hm' : (i'+1) % l.length < l.length:=Nat.mod_lt _ (by omega)
 rw [e2,List.getD_eq_getElem?_getD,List.getD_eq_getElem?_getD,List.getElem?_eq_getElem hm,List.getElem?_eq_getElem hm'] at e2'
 have e2' : l[(i+1) % l.length]=l[(i'+1) % l.length]:=e2'
 have e : (i+1) % l.length=(i'+1) % l.length:=by
  rcases Nat.lt_trichotomy ((i+1) % l.length) ((i'+1) % l.length) with c | c | c
  ·exact absurd e2' (List.pairwise_iff_getElem.1 hnd _ _ hm hm' c)
  ·exact c
  ·exact absurd e2'.symm (List.pairwise_iff_getElem.1 hnd _ _ hm' hm c)
 have : i=i':=CD hi hi' e
 subst this
 rw [e1] at e1'
 have : oth a=oth b:=by omega
 rw [← cv a,this,cv]
end
end Go.Vm

namespace Go.Vm
open Go.Proofs
set_option maxRecDepth 100000
attribute [local irreducible] aa
theorem cu {nx : List Int} : ∀ {f g : List Int} {x z : Int},dm nx x (f++g) z↔∃ y,dm nx x f y∧dm nx y g z
 | [],g,x,z=>by
  constructor
  ·intro h; exact ⟨x,rfl,h⟩
  ·rintro ⟨y,h1,h2⟩; have : x=y:=h1; subst this; exact h2
 | a :: f,g,x,z=>by
  constructor
  ·rintro ⟨h1,y,h2,h3⟩
   obtain ⟨w,w1,w2⟩:=cu.1 h3
   exact ⟨w,⟨h1,y,h2,w1⟩,w2⟩
  ·rintro ⟨w,⟨h1,y,h2,h3⟩,h4⟩
   exact ⟨h1,y,h2,cu.2 ⟨w,h3,h4⟩⟩
theorem zZ {nx : List Int} : ∀ {f : List Int} {x z : Int},(f++[z])[0]?=some x→(∀ i (h : i < f.length),nx[f[i].toNat]?=(f++[z])[i+1]?)→dm nx x f z
 | [],x,z,h,_=>by simpa [dm] using h.symm
 | a :: f,x,z,h,h2=>by
  have hx : a=x:=by simpa using h
  have h0:=h2 0 (by simp)
  obtain ⟨y,hy⟩ : ∃ y,(f++[z])[0]?=some y:=⟨_,List.getElem?_eq_getElem (by simp)⟩
  refine ⟨hx,y,?_,zZ hy fun i hi=>?_⟩
  ·rw [← hx]
   rw [show ((a :: f)++[z])[0+1]?=(f++[z])[0]? from rfl,hy] at h0
   simpa using h0
  ·have:=h2 (i+1) (by simpa using hi)
   simpa using this
theorem bS {nx : List Int} {x : Int} {f : List Int} (h : Cyc nx (x :: f)) : dm nx x (x :: f) x:=by
 refine zZ (by simp) fun i hi=>?_
 rw [h.2 i hi]
 by_cases e : i+1 < (x :: f).length
 ·rw [Nat.mod_eq_of_lt e,List.getD_eq_getElem?_getD,List.getElem?_append_left e,List.getElem?_eq_getElem e]; rfl
 ·have e2 : i+1=(x :: f).length:=by omega
  rw [e2,Nat.mod_self,List.getElem?_append_right (by omega)]
  simp
theorem fN {nx p q : List Int} (h : Cyc nx (p++q)) : Cyc nx (q++p):=by
 cases p with
 | nil=>simpa using h
 | cons a p =>
  cases q with
  | nil=>simpa using h
  | cons b q =>
   have h1:=bS (x:=a) (f:=p++b :: q) h
   obtain ⟨y,h2,h3⟩:=cu (f:=a :: p) (g:=b :: q).1 h1
   have : b=y:=h3.1
   subst this
   exact cL (x:=b) (cu.2 ⟨a,h3,h2⟩) (by simp)
theorem rj {nx nx' : List Int} {z z' : Int} : ∀ {s : List Int} {x : Int},dm nx x s z→dm nx' x s z'→z∉s.tail→∀ y∈s,(nx[y.toNat]?=some z→nx'[y.toNat]?=some z')∧(nx[y.toNat]?≠some z→nx'[y.toNat]?=nx[y.toNat]?)
 | [],_,_,_,_,y,hy=>by simp at hy
 | [a],x,h1,h2,_,y,hy=>by
  have : y=a:=by simpa using hy
  subst this
  obtain ⟨rfl,w,w1,w2⟩:=h1
  obtain ⟨_,w',w1',w2'⟩:=h2
  have w2 : w=z:=w2
  have w2' : w'=z':=w2'
  subst w2; subst w2'
  exact ⟨fun _=>w1',fun h=>absurd w1 h⟩
 | a :: b :: s,x,h1,h2,hz,y,hy=>by
  obtain ⟨rfl,w,w1,w2⟩:=h1
  obtain ⟨_,w',w1',w2'⟩:=h2
  have e : b=w:=w2.1
  have e' : b=w':=w2'.1
  subst e; subst e'
  rcases List.mem_cons.1 hy with rfl | hy
  ·refine ⟨fun h=>?_,fun _=>by rw [w1,w1']⟩
   rw [w1] at h
   have : b=z:=Option.some.inj h
   exact absurd (by simp [this]) hz
  ·exact rj w2 w2' (fun h=>hz (by simp at h ⊢; exact .inr h)) y hy
theorem fY {nx nx' : List Int} {z z' : Int} : ∀ {s : List Int} {x : Int},dm nx x s z→s≠[]→z∉s.tail→(∀ y∈s,(nx[y.toNat]?=some z→nx'[y.toNat]?=some z')∧(nx[y.toNat]?≠some z→nx'[y.toNat]?=nx[y.toNat]?))→dm nx' x s z'
 | [],_,_,h,_,_=>absurd rfl h
 | [a],x,h1,_,_,h=>by
  obtain ⟨rfl,w,w1,w2⟩:=h1
  have w2 : w=z:=w2
  subst w2
  exact ⟨rfl,z',(h a (by simp)).1 w1,rfl⟩
 | a :: b :: s,x,h1,_,hz,h=>by
  obtain ⟨rfl,w,w1,w2⟩:=h1
  have e : b=w:=w2.1
  subst e
  have hb : b≠z:=fun e=>hz (by simp [e])
  refine ⟨rfl,b,?_,fY w2 (by simp) (fun hm=>hz (by simp at hm ⊢; exact .inr hm)) fun y hy=>h y (by simp at hy ⊢; exact .inr hy)⟩
  rw [(h a (by simp)).2 (by rw [w1]; exact fun e=>hb (Option.some.inj e)),w1]
theorem kF {nx nx' : List Int} : ∀ {s : List Int} {x z : Int},dm nx x s z→(∀ y∈s,nx'[y.toNat]?=nx[y.toNat]?)→dm nx' x s z
 | [],_,_,h,_=>h
 | a :: s,x,z,⟨h1,y,h2,h3⟩,h=>⟨h1,y,by rw [← h1,h a (by simp),h1]; exact h2,kF h3 fun w hw=>h w (by simp [hw])⟩
theorem tO {nx f g : List Int} (hf : Cyc nx f) (hg : Cyc nx g) (hN : Gs f) {x : Int} (hx : x∈f) (hxg : x∈g) : ∀ y∈f,y∈g:=by
 obtain ⟨p,q,rfl⟩:=List.append_of_mem hx
 have h1:=bS (fN hf)
 have key : ∀ (s : List Int) (a z : Int),Gs s→dm nx a s z→a∈g→∀ y∈s,y∈g:=by
  intro s
  induction s with
  | nil=>intro a z _ _ _ y hy; simp at hy
  | cons b s ih =>
   intro a z hs h ha y hy
   obtain ⟨rfl,w,w1,w2⟩:=h
   rcases List.mem_cons.1 hy with e0 | hy2
   ·rw [e0]; exact ha
   ·obtain ⟨k,hk⟩:=hs b (by simp)
    subst hk
    cases s with
    | nil=>simp at hy2
    | cons c s =>
     have e : c=w:=w2.1
     subst e
     obtain ⟨k',hk'⟩:=hs c (by simp)
     subst hk'
     exact ih _ z (fun x hx=>hs x (by simp at hx ⊢; exact .inr hx)) w2 (dy hg ha (by simpa using w1)) y hy2
 intro y hy
 refine key _ _ _ (fun w hw=>hN w ?_) h1 hxg y ?_
 ·simp at hw ⊢; rcases hw with h | h | h <;> simp [h]
 ·simp at hy ⊢; rcases hy with h | h | h <;> simp [h]
theorem Dx {n m : Nat} (φ : Nat→Nat) (h1 : ∀ i,i < n→φ i < m) (h2 : ∀ i j,i < n→j < n→φ i=φ j→i=j) : n≤m:=by
 have hn : ((List.range n).map φ).Nodup:=by
  refine List.pairwise_map.2 (List.Pairwise.imp_of_mem (fun {a b} ha hb hab e=>?_) List.nodup_range)
  exact hab (h2 a b (List.mem_range.1 ha) (List.mem_range.1 hb) e)
 have:=fy m _ hn (by
  intro x hx
  obtain ⟨i,hi,rfl⟩:=List.mem_map.1 hx
  exact h1 i (List.mem_range.1 hi))
 simpa using this
theorem wQ {L : Nat} {nx : List Int} {fs gs : List (List Int)} (hf : FsOK L fs) (hg : FsOK L gs) (cf : ∀ f∈fs,Cyc nx f) (cg : ∀ g∈gs,Cyc nx g) : fs.length≤gs.length:=by
 have pick : ∀ i,i < fs.length→∃ j,j < gs.length∧∃ f g x,fs[i]?=some f∧gs[j]?=some g∧x∈f∧x∈g:=by
  intro i hi
  have hm:=List.getElem_mem hi
  obtain ⟨hne,hel⟩:=hf.elem _ hm
  obtain ⟨x,hx⟩:=List.exists_mem_of_ne_nil _ hne
  obtain ⟨k,rfl,hk⟩:=hel x hx
  obtain ⟨j,g,h1,h2,h3⟩:=hg.face hk
  exact ⟨j,h3,_,g,(k : Int),List.getElem?_eq_getElem hi,h1,hx,h2⟩
 refine Dx (fun i=>if h : i < fs.length then (pick i h).choose else 0) (fun i hi=>?_) (fun i j hi hj e=>?_)
 ·simp only [hi,dif_pos]
  exact (pick i hi).choose_spec.1
 ·simp only [hi,hj,dif_pos] at e
  obtain ⟨_,f,g,x,a1,a2,a3,a4⟩:=(pick i hi).choose_spec
  obtain ⟨_,f',g',x',b1,b2,b3,b4⟩:=(pick j hj).choose_spec
  rw [e,b2] at a2
  have : g'=g:=Option.some.inj a2
  subst this
  have hfm:=List.mem_of_getElem? a1
  have hgm:=List.mem_of_getElem? b2
  have hxf' : x∈f':=by
   have hfm':=List.mem_of_getElem? b1
   exact tO (cg _ hgm) (cf _ hfm') (fun y hy=>hg.nat _ hgm y hy) b4 b3 x a4
  by_cases hij : i=j
  ·exact hij
  ·exfalso
   have hn:=(List.pairwise_flatten.1 hf.nodup).2
   rw [List.pairwise_iff_getElem] at hn
   have ei : fs[i]=f:=by rw [List.getElem?_eq_getElem hi] at a1; exact Option.some.inj a1
   have ej : fs[j]=f':=by rw [List.getElem?_eq_getElem hj] at b1; exact Option.some.inj b1
   rcases Nat.lt_or_ge i j with c | c
   ·exact hn i j hi hj c x (by rw [ei]; exact a3) x (by rw [ej]; exact hxf') rfl
   ·exact hn j i hj hi (by omega) x (by rw [ej]; exact hxf') x (by rw [ei]; exact a3) rfl
theorem mJ {L : Nat} {nx : List Int} {fs gs : List (List Int)} (hf : FsOK L fs) (hg : FsOK L gs) (cf : ∀ f∈fs,Cyc nx f) (cg : ∀ g∈gs,Cyc nx g) : fs.length=gs.length :=
 Nat.le_antisymm (wQ hf hg cf cg) (wQ hg hf cg cf)
end Go.Vm

namespace Go.Vm
open Go.Proofs
set_option maxRecDepth 100000
attribute [local irreducible] aa
theorem vM {l : List Int} (hn : l.Nodup) {k : Nat} {f : Int} (hk : l[k]?=some f) : l=l.take k++f :: l.drop (k+1)∧f∉l.take k∧f∉l.drop (k+1):=by
 have hlt : k < l.length:=(List.getElem?_eq_some_iff.1 hk).1
 have hf : l[k]=f:=(List.getElem?_eq_some_iff.1 hk).2
 have e : l=l.take k++f :: l.drop (k+1):=by
  rw [← hf,← List.drop_eq_getElem_cons hlt,List.take_append_drop]
 have h2:=hn
 rw [e,List.nodup_append,List.nodup_cons] at h2
 exact ⟨e,fun hm=>h2.2.2 f hm f (by simp) rfl,h2.2.1.1⟩
theorem RotOK.list_nodup {N : Int} {E : List Arc} {A : List (List Int)} (h : RotOK N E A) {l : List Int} (hl : l∈A) : l.Nodup:=h.nodup.sublist (List.sublist_flatten_of_mem hl)
theorem rJ {l : List Int} {x : Int} (hn : l.Nodup) (hx : x∈l) : l.count x=1:=by
 have h1:=List.nodup_iff_count.1 hn x
 have h2:=List.count_pos_iff.2 hx
 omega
theorem me {N : Nat} {E : List Arc} {A : List (List Int)} (hN : N≤16384) (hE : E.length≤32768) (hA : A.length=N) (hedge : ∀ a∈E,0≤a.1∧a.1 < (N : Int)∧0≤a.2.1∧a.2.1 < (N : Int)∧a.1≠a.2.1)
  (hnd : ∀ l∈A,l.Nodup) (hd : ∀ (v : Nat) (l : List Int),A[v]?=some l→∀ d∈l,∃ k : Nat,d=(k : Int)∧k < 2 * E.length∧tl E k=v) (hall : ∀ k,k < 2 * E.length→∃ l∈A,(k : Int)∈l) : RotOK (N : Nat) E A:=by
 have hn : A.flatten.Nodup:=by
  refine List.pairwise_flatten.2 ⟨hnd,?_⟩
  rw [List.pairwise_iff_getElem]
  intro i j hi hj hij x hx y hy e
  subst e
  obtain ⟨k,e1,_,e2⟩:=hd i _ (List.getElem?_eq_getElem hi) x hx
  obtain ⟨k',e1',_,e2'⟩:=hd j _ (List.getElem?_eq_getElem hj) x hy
  have : k=k':=by omega
  subst this
  omega
 have hel : ∀ x∈A.flatten,∃ k : Nat,x=(k : Int)∧k < 2 * E.length:=by
  intro x hx
  obtain ⟨l,hl,hxl⟩:=List.mem_flatten.1 hx
  obtain ⟨v,hv⟩:=List.mem_iff_getElem?.1 hl
  obtain ⟨k,e,h1,_⟩:=hd v l hv x hxl
  exact ⟨k,e,h1⟩
 refine ⟨by omega,by omega,hE,by omega,hedge,hd,hn,Nat.le_antisymm ?_ ?_⟩
 ·have hn2 : (A.flatten.map Int.toNat).Nodup:=by
   refine List.pairwise_map.2 (List.Pairwise.imp_of_mem (fun {a b} ha hb hab e=>?_) hn)
   obtain ⟨x,rfl,_⟩:=hel a ha
   obtain ⟨y,rfl,_⟩:=hel b hb
   simp at e
   omega
  have:=fy (2 * E.length) _ hn2 (by
   intro x hx
   obtain ⟨d,hd',rfl⟩:=List.mem_map.1 hx
   obtain ⟨k,rfl,hk⟩:=hel d hd'
   simpa using hk)
  rwa [List.length_map] at this
 ·have pick : ∀ k,k < 2 * E.length→∃ i,A.flatten[i]?=some (k : Int):=fun k hk=>by
   obtain ⟨l,hl,hkl⟩:=hall k hk
   exact List.mem_iff_getElem?.1 (List.mem_flatten.2 ⟨l,hl,hkl⟩)
  refine Dx (fun k=>if h : k < 2 * E.length then (pick k h).choose else 0) (fun k hk=>?_) (fun a b ha hb e=>?_)
  ·simp only [hk,dif_pos]
   exact (List.getElem?_eq_some_iff.1 (pick k hk).choose_spec).1
  ·simp only [ha,hb,dif_pos] at e
   have h1:=(pick a ha).choose_spec
   have h2:=(pick b hb).choose_spec
   rw [e,h2] at h1
   have:=Option.some.inj h1
   omega
theorem nW {E F : List Arc} {k : Nat} (hk : k < 2 * E.length) : tl (E++F) k=tl E k:=by
 unfold tl
 rw [List.getElem?_append_left (by omega)]
theorem lV {E : List Arc} {a : Arc} : tl (E++[a]) (2 * E.length)=a.1:=by
 unfold tl
 rw [show 2 * E.length / 2=E.length by omega,List.getElem?_append_right (Nat.le_refl _)]
 simp
theorem mp {E : List Arc} {a : Arc} : tl (E++[a]) (2 * E.length+1)=a.2.1:=by
 unfold tl
 rw [show (2 * E.length+1) / 2=E.length by omega,List.getElem?_append_right (Nat.le_refl _)]
 simp
section
variable {N : Nat} {E : List Arc} {A : List (List Int)} {nx : List Int}
theorem RotOK.split (h : RotOK (N : Nat) E A) {k w : Nat} (hk : k < 2 * E.length) (hw : tl E k=w) (hwN : w < N) : ∃ p q,A[w]?=some (p++(k : Int) :: q)∧de A w=p++(k : Int) :: q∧(k : Int)∉p∧(k : Int)∉q:=by
 have hal : A.length=N:=by have:=h.len; omega
 have hlt : w < A.length:=by omega
 have hm:=h.around hk hw (List.getElem?_eq_getElem hlt)
 obtain ⟨i,hi⟩:=List.mem_iff_getElem?.1 hm
 have hn:=h.list_nodup (List.getElem_mem hlt)
 obtain ⟨e,n1,n2⟩:=vM hn hi
 exact ⟨_,_,by rw [List.getElem?_eq_getElem hlt]; exact congrArg some e,by rw [bn hlt]; exact e,n1,n2⟩
theorem Fol.cyc {E : List Arc} {A : List (List Int)} {fw : List Int} (h : Fol id E A fw) {l : List Int} (hl : l∈A) (hne : l≠[]) : Cyc fw l:=⟨hne,fun i hi=>h.get l hl i hi⟩
end
theorem cK (m : Nat) : oth (2 * m)=2 * m+1:=by unfold oth; rw [if_pos (by omega)]
theorem cJ (m : Nat) : oth (2 * m+1)=2 * m:=by unfold oth; rw [if_neg (by omega)]; rfl
theorem ik {nx : List Int} : ∀ {s : List Int} {x z : Int},dm nx x s z→s≠[]→∃ y∈s,nx[y.toNat]?=some z
 | [],_,_,_,h=>absurd rfl h
 | [a],x,z,⟨h1,y,h2,h3⟩,_=>⟨a,by simp,by rw [h1,h2]; exact congrArg some h3⟩
 | a :: b :: s,x,z,⟨h1,y,h2,h3⟩,_=>by
  obtain ⟨w,w1,w2⟩:=ik h3 (by simp)
  exact ⟨w,by simp at w1 ⊢; exact .inr w1,w2⟩
theorem xz {α : Type} {fs : List (List α)} {j : Nat} {g : List α} (h : fs[j]?=some g) : ∃ a b,fs=a++g :: b:=by
 have hlt : j < fs.length:=(List.getElem?_eq_some_iff.1 h).1
 refine ⟨fs.take j,fs.drop (j+1),?_⟩
 rw [← (List.getElem?_eq_some_iff.1 h).2,← List.drop_eq_getElem_cons hlt,List.take_append_drop]
theorem dv {a b : List (List Int)} {g : List Int} (x : Int) : (a++g :: b).flatten.count x=a.flatten.count x+g.count x+b.flatten.count x:=by
 simp [List.count_append]; omega
section
variable {N : Nat} {E : List Arc} {A : List (List Int)} {nx : List Int}
theorem bh {nx : List Int} (h : RotOK (N : Nat) E A) (hn : Fol oth E A nx) : FsOK (2 * E.length) (ab nx)∧∀ g∈ab nx,Cyc nx g:=by
 have hnx:=Fol.nxOK h hn
 refine ⟨?_,wm (nZ h hn) hnx⟩
 obtain ⟨m,_,hi⟩:=ey hnx
 have hL : nx.length=2 * E.length:=hn.len
 rw [hL] at hi
 refine ⟨hi.elem,hi.nodup,fun k hk=>hi.cover k hk hk,?_⟩
 have:=hi.num
 show (ab nx).length≤_
 have h2 : (ab nx).length+unm m≤2 * E.length:=this
 omega
end
def emp (A : List (List Int)) : Nat:=A.countP fun l=>l.isEmpty
noncomputable def ud (N : Nat) (E : List Arc) (A : List (List Int)) (F : Nat) : Int:=bf .i64 (comps N E : Nat) (eG .i64 ((N : Int) - E.length+(F+emp A : Nat)) 2)
def dE (_ : Nat) (n : Int) (l : List Int) : Option (Int⊕Empty):=some (.inl (cond (eqI (l.length : Nat) 0) (ah .i64 n 1) n))
theorem py : ∀ (A : List (List Int)) (i n : Nat),n+A.length≤1000000→ay dE i (n : Int) A=some (.inl ((n+emp A : Nat) : Int))
 | [],i,n,_=>rfl
 | l :: A,i,n,h=>by
  simp only [List.length_cons] at h
  cases l with
  | nil =>
   have e : dE i (n : Int) []=some (.inl ((n+1 : Nat) : Int)):=by
    unfold dE
    rw [dk (by rfl),cond_true,dw (by omega) (by omega)]; rfl
   simp only [ay,e,Option.bind_some,Sum.elim_inl]
   rw [py A (i+1) (n+1) (by omega)]
   unfold emp
   simp only [List.countP_cons,List.isEmpty_nil,if_true]
   rw [show n+1+List.countP (fun l=>l.isEmpty) A=n+(List.countP (fun l=>l.isEmpty) A+1) by omega]
  | cons a l =>
   have e : dE i (n : Int) (a :: l)=some (.inl (n : Int)):=by
    unfold dE
    rw [cn (by simp; omega),cond_false]
   simp only [ay,e,Option.bind_some,Sum.elim_inl]
   rw [py A (i+1) n (by omega)]
   unfold emp
   simp [List.countP_cons]
theorem RotOK.lists {N : Int} {E : List Arc} {A : List (List Int)} (h : RotOK N E A) : ∀ l∈A,l.length≤9223372036854775807:=fun l hl=>by have:=h.list_len hl; have:=h.m1; omega
section
variable {N : Nat} {E : List Arc} {A : List (List Int)} {nx : List Int}
theorem RotOK.al (h : RotOK (N : Nat) E A) : A.length=N:=by have:=h.len; omega
theorem RotOK.n16 (h : RotOK (N : Nat) E A) : N≤16384:=by have:=h.n1; omega
theorem va (h : RotOK (N : Nat) E A) {nx mx : List Int} (hn : Fol oth E A nx) (hm : Fol oth E A mx) : mx=nx:=by
 refine List.ext_getElem? fun k=>?_
 by_cases hk : k < 2 * E.length
 ·obtain ⟨fw,_,ff⟩:=cU h ()
  obtain ⟨y,_,h1,h2⟩:=dq h hn ff hk
  obtain ⟨y',_,h1',h2'⟩:=dq h hm ff hk
  rw [h2] at h2'
  rw [h1,h1',h2']
 ·rw [List.getElem?_eq_none (by rw [hm.len]; omega),List.getElem?_eq_none (by rw [hn.len]; omega)]
theorem sO (h : RotOK (N : Nat) E A) (hn : Fol oth E A nx) : Zbf (((N : Int),E,A,()),())=some (ab nx,())∧Zy (((N : Int),E,A,()),())=some (ab nx,()):=by
 obtain ⟨mx,m,_,f1,_,r1,r2⟩:=lw h h.validB h.lists
 rw [va h hn f1] at r1 r2
 exact ⟨r1,r2⟩
theorem AM (h : RotOK (N : Nat) E A) (hn : Fol oth E A nx) : Zbe (((N : Int),E,A,()),())=some (ud N E A (ab nx).length,())∧Zaa (((N : Int),E,A,()),())=some (ud N E A (ab nx).length,()):=by
 have hal:=h.al
 have hn16:=h.n16
 have hm1:=h.m1
 obtain ⟨r1,r2⟩:=sO h hn
 have hF:=(bh h hn).1.num
 have hemp : emp A≤A.length:=List.countP_le_length
 have k1:=jm (B:=jr) (fun n i=>((N : Int),E,A,n,A,((A.length : Nat) : Int),(i : Int),())) (fun n=>.inl ((N : Int),E,A,n,())) (fun e=>nomatch e) dE A (by
  intro n i l hd'
  have hi : i < A.length:=(List.getElem?_eq_some_iff.1 hd').1
  simp only [jr,dE]
  rw [aG (by omega),cond_true,ae,hd',Option.bind_some,aU (a:=i) (by omega)]
  cases eqI ((l.length : Nat) : Int) 0 <;> rfl) (by
  intro n
  simp only [jr]
  rw [aA (by omega)]; rfl) ((ab nx).length : Int)
 have k2:=jm (B:=jC) (fun n i=>(((A.length : Nat) : Int),E,A,n,(i : Int),())) (fun n=>.inl (((A.length : Nat) : Int),E,A,n,())) (fun e=>nomatch e) dE A (by
  intro n i l hd'
  have hi : i < A.length:=(List.getElem?_eq_some_iff.1 hd').1
  simp only [jC,dE]
  rw [aG (by omega),cond_true,ae,hd',Option.bind_some,aU (a:=i) (by omega)]
  cases eqI ((l.length : Nat) : Int) 0 <;> rfl) (by
  intro n
  simp only [jC]
  rw [aA (by omega)]; rfl) ((ab nx).length : Int)
 rw [py A 0 _ (by omega)] at k1 k2
 have e1 : ah .i64 (bf .i64 (N : Int) (E.length : Nat)) (((ab nx).length+emp A : Nat) : Int)=(N : Int) - E.length+((ab nx).length+emp A : Nat):=by
  rw [gk (by omega) (by omega),dw (by omega) (by omega)]
 constructor
 ·unfold Zbe
  simp only
  rw [gp ((N : Int),E,A,()) h.lists,h.validB,Option.bind_some]
  simp only [Bool.not_true,cond_false]
  rw [r1,Option.bind_some]
  simp only
  rw [show uI ((N : Int),E,A,((ab nx).length : Nat),A,(A.length : Nat),0,())=_ from k1]
  simp only [Option.bind_some,Sum.elim_inl]
  rw [sR h]
  simp only [Option.bind_some]
  rw [e1]; rfl
 ·unfold Zaa
  simp only
  rw [eJ ((N : Int),E,A,()) h.lists,h.validB,Option.bind_some]
  simp only [Bool.not_true,cond_false]
  rw [r2,Option.bind_some]
  simp only
  have k2' : uH ((N : Int),E,A,((ab nx).length : Nat),0,())=some (.inl ((N : Int),E,A,(((ab nx).length+emp A : Nat) : Int),())):=by
   rw [show (N : Int)=((A.length : Nat) : Int) by omega]; exact k2
  rw [k2']
  simp only [Option.bind_some,Sum.elim_inl]
  rw [xL h]
  simp only [Option.bind_some]
  rw [e1]; rfl
theorem nO (h : RotOK (N : Nat) E A) (hn : Fol oth E A nx) {k y : Nat} (hy : nx[k]?=some (y : Int)) : k < 2 * E.length∧y < 2 * E.length∧tl E y=hd E k:=by
 have hk : k < 2 * E.length:=by
  have:=(List.getElem?_eq_some_iff.1 hy).1
  rw [hn.len] at this; exact this
 obtain ⟨v,l,i,h1,h2,h3,h4,h5⟩:=xT h hn hy
 obtain ⟨y',e1,e2,e3⟩:=h.dart v l h1 _ h5
 have : y=y':=by omega
 subst this
 have hm : ((oth k : Nat) : Int)∈l:=by
  rw [← h3,List.getD_eq_getElem?_getD,List.getElem?_eq_getElem h2]; exact List.getElem_mem h2
 obtain ⟨o,f1,f2,f3⟩:=h.dart v l h1 _ hm
 have : oth k=o:=by omega
 subst this
 exact ⟨hk,e2,by unfold hd; rw [e3,f3]⟩
theorem p8 (h : RotOK (N : Nat) E A) (hn : Fol oth E A nx) : ∀ {s : List Int} {x z : Int} {a b p q : Nat},dm nx x s z→Gs s→x=(a : Int)→z=(b : Int)→tl E a=p→tl E b=q→Reach E p q
 | [],x,z,a,b,p,q,hp,_,hx,hz,h1,h2=>by
  have : x=z:=hp
  have : a=b:=by omega
  subst this
  have : p=q:=by omega
  subst this
  exact .refl _
 | c :: s,x,z,a,b,p,q,⟨e,y,e1,e2⟩,hN,hx,hz,h1,h2=>by
  subst hx
  rw [Int.toNat_natCast] at e1
  have hyn : ∃ y' : Nat,y=(y' : Int):=by
   cases s with
   | nil=>exact ⟨b,by rw [show y=z from e2,hz]⟩
   | cons d s =>
    obtain ⟨k,hk⟩:=hN d (by simp)
    exact ⟨k,by rw [← e2.1]; exact hk⟩
  obtain ⟨y',rfl⟩:=hyn
  obtain ⟨k1,k2,k3⟩:=nO h hn e1
  obtain ⟨w,w1,w2⟩:=h.tl_lt k2
  exact Reach.trans (.step (.refl _) k1 h1 (by rw [← k3]; exact w1)) (p8 h hn e2 (fun x hx=>hN x (by simp [hx])) rfl hz w1 h2)
theorem yd (h : RotOK (N : Nat) E A) (hn : Fol oth E A nx) {g : List Int} (hg : g∈ab nx) {a b p q : Nat} (ha : (a : Int)∈g) (hb : (b : Int)∈g) (h1 : tl E a=p) (h2 : tl E b=q) : Reach E p q:=by
 obtain ⟨hf,cf⟩:=bh h hn
 have hnat:=hf.nat g hg
 obtain ⟨s,t,rfl⟩:=List.append_of_mem ha
 have hc:=fN (cf _ hg)
 by_cases e : a=b
 ·subst e
  have : p=q:=by omega
  subst this
  exact .refl _
 ·have hm : (b : Int)∈t++s:=by
   simp at hb ⊢
   rcases hb with h | h | h
   ·exact .inr h
   ·omega
   ·exact .inl h
  obtain ⟨s1,s2,es⟩:=List.append_of_mem hm
  have hc' : Cyc nx ((a : Int) :: (t++s)):=hc
  rw [es] at hc'
  have hp:=bS hc'
  obtain ⟨y,p1,p2⟩:=cu (f:=(a : Int) :: s1) (g:=(b : Int) :: s2).1 hp
  refine p8 h hn p1 (fun x hx=>hnat x ?_) rfl p2.1.symm h1 h2
  have : x∈(a : Int) :: (t++s):=by
   rw [es]
   simp at hx ⊢
   rcases hx with h | h <;> simp [h]
  simp at this ⊢
  rcases this with h | h | h <;> simp [h]
end
theorem iW {E F : List Arc} {x y : Nat} (h : Reach E x y) : Reach (E++F) x y:=by
 induction h with
 | refl=>exact .refl _
 | @step v w k _ hk e1 e2 ih =>
  refine .step ih (k:=k) (by simp; omega) (by rw [nW hk]; exact e1) ?_
  unfold hd at e2 ⊢
  rw [nW (bd hk)]; exact e2
theorem A0 {E : List Arc} {u v : Nat} (hj : Reach E u v) {x y : Nat} : Reach (E++[((u : Int),(v : Int),())]) x y↔Reach E x y:=by
 refine ⟨fun h=>?_,iW⟩
 induction h with
 | refl=>exact .refl _
 | @step a b k _ hk e1 e2 ih =>
  have hlen : (E++[((u : Int),(v : Int),())]).length=E.length+1:=by simp
  rw [hlen] at hk
  rcases Nat.lt_or_ge k (2 * E.length) with c | c
  ·rw [nW c] at e1
   unfold hd at e2
   rw [nW (bd c)] at e2
   exact .step ih c e1 e2
  ·by_cases e : k=2 * E.length
   ·subst e
    unfold hd at e2
    rw [lV] at e1
    rw [cK,mp] at e2
    have h1 : a=u:=by have : (u : Int)=a:=e1; omega
    have h2 : b=v:=by have : (v : Int)=b:=e2; omega
    subst h1; subst h2
    exact ih.trans hj
   ·have : k=2 * E.length+1:=by omega
    subst this
    unfold hd at e2
    rw [mp] at e1
    rw [cJ,lV] at e2
    have h1 : a=v:=by have : (v : Int)=a:=e1; omega
    have h2 : b=u:=by have : (u : Int)=b:=e2; omega
    subst h1; subst h2
    exact ih.trans hj.symm
theorem wL {N : Nat} {E E' : List Arc} (h : ∀ x y,Reach E x y↔Reach E' x y) : comps N E=comps N E':=by
 unfold comps
 refine List.countP_congr fun v _=>?_
 rw [fC,fC]
 unfold EE
 exact forall_congr' fun u=>forall_congr' fun _=>not_congr (h u v)
theorem uK {A : List (List Int)} {i : Nat} {l : List Int} (hi : i < A.length) (h : (de A i).isEmpty=l.isEmpty) : emp (A.set i l)=emp A:=by
 unfold emp
 rw [List.countP_set hi,← h,bn hi]
 have : (if A[i].isEmpty then 1 else 0)≤List.countP (fun l=>l.isEmpty) A:=by
  split
  ·rename_i hc
   exact List.countP_pos_iff.2 ⟨_,List.getElem_mem hi,hc⟩
  ·omega
 omega
end Go.Vm

namespace Go.Vm
open Go.Proofs
set_option maxRecDepth 100000
attribute [local irreducible] aa
end Go.Vm


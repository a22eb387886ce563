/-
 Faces are cycles; systems, how they are made.
-/
import Derived.Test.YtgdkanecejfeiaaGreatDoorSKA
open Option renaming bind_some→gr
open List renaming getElem?_eq_getElem→A2,getElem?_eq_some_iff→A3,getD_eq_getElem?_getD→B5,length_cons→La,getElem_mem→Lk,mem_iff_getElem?→LM,nil_append→LW,getElem?_append_left→L8,getElem_of_mem→Mj,getElem?_eq_none→Ml,pairwise_iff_getElem→Mw,mem_flatten→MH,sublist_flatten_of_mem→MN,countP_cons→N3,countP→O6
open Option.some renaming inj→B4
open Int renaming toNat_natCast→B8
open Sum renaming elim_inl→K7
open Nat renaming zero_add→Ln,lt_or_ge→Me,mod_eq_of_lt→Ms,mod_lt→MU,mod_self→NT
open Bool renaming not_true→LN
set_option linter.unusedVariables false
set_option linter.unusedSimpArgs false
namespace Go.Vm
open Go.Proofs
set_option maxRecDepth 100000
attribute [local irreducible] aa
def Iw (out f:List Int) (i:Int):List Int:=f.foldl (fun o d=>o.set d.toNat i) out
def BD:List Int→Nat→List (List Int)→List Int
 | out,_,[]=>out
 | out,i,f :: fs=>BD (Iw out f (i:Int)) (i+1) fs
structure FsOK (L:Nat) (fs:List (List Int)):Prop where
 elem:∀ f∈fs,f≠[]∧∀ d∈f,∃ k:Nat,d=(k:Int)∧k < L
 nodup:fs.flatten.Nodup
 cover:∀ k,k < L→(k:Int)∈fs.flatten
 num:fs.length≤L
theorem FsOK.nat {L:Nat} {fs:List (List Int)} (h:FsOK L fs):∀ f∈fs,∀ d∈f,∃ x:Nat,d=(x:Int):=fun f hf d hd=>by
 obtain ⟨k,e,_⟩:=(h.elem f hf).2 d hd; exact ⟨k,e⟩
def Kf (L:Nat) (fs:List (List Int)):List Int:=BD (List.replicate L 0) 0 fs
section
variable {N:Nat} {E:List Arc} {A:List (List Int)}
end
end Go.Vm

namespace Go.Vm
open Go.Proofs
set_option maxRecDepth 100000
attribute [local irreducible] aa
theorem FM {n j:Nat} (h:j < n):((j+n - 1) % n+1) % n=j:=by
 cases j with
 | zero =>
  have h1:(0+n - 1) % n=n - 1:=by rw [Ln]; exact Ms (by omega)
  have h2:n - 1+1=n:=by omega
  rw [h1,h2,NT]
 | succ j =>
  have h1:(j+1+n - 1) % n=j:=by
   rw [show j+1+n - 1=j+n by omega,Nat.add_mod_right]; exact Ms (by omega)
  rw [h1]; exact Ms h
def Path (nx:List Int):Int→List Int→Int→Prop
 | x,[],z=>x=z
 | x,a :: f,z=>a=x∧∃ y,nx[x.toNat]?=some y∧Path nx y f z
theorem t8 (nx:List Int):∀ (n:Nat) (met:List Bool) (acc:List Int) (x:Int) (m:List Bool) (r:List Int),mj nx n met acc x=some (m,r)→∃ f z,r=acc++f∧Path nx x f z∧m[z.toNat]?=some true
 | 0,met,acc,x,m,r,h=>by simp [mj] at h
 | n+1,met,acc,x,m,r,h=>by
  simp only [mj] at h
  split at h
  ·rename_i hb
   have:(met,acc)=(m,r):=B4 h
   cases this
   exact ⟨[],x,by simp,rfl,hb⟩
  ·split at h
   ·rename_i y hy
    obtain ⟨f,z,h1,h2,h3⟩:=t8 nx n _ _ y m r h
    exact ⟨x :: f,z,by simp [h1],⟨rfl,y,hy,h2⟩,h3⟩
   ·cases h
  ·cases h
def Cyc (nx:List Int) (f:List Int):Prop:=f≠[]∧∀ i (h:i < f.length),nx[f[i].toNat]?=some (f.getD ((i+1) % f.length) 0)
theorem sI {nx:List Int}:∀ {f:List Int} {x z:Int},Path nx x f z→(f++[z])[0]?=some x∧∀ i (h:i < f.length),nx[f[i].toNat]?=(f++[z])[i+1]?
 | [],x,z,h=>by
  simp only [Path] at h
  subst h
  exact ⟨rfl,fun i h=>by simp at h⟩
 | a :: f,x,z,h=>by
  obtain ⟨rfl,y,hy,h2⟩:=h
  obtain ⟨q1,q2⟩:=sI h2
  refine ⟨rfl,fun i hi=>?_⟩
  cases i with
  | zero=>simpa [hy] using q1.symm
  | succ i=>simpa using q2 i (by simpa using hi)
theorem Dp {nx:List Int} {f:List Int} {x:Int} (h:Path nx x f x) (hf:f≠[]):Cyc nx f:=by
 obtain ⟨q1,q2⟩:=sI h
 refine ⟨hf,fun i hi=>?_⟩
 rw [q2 i hi,B5]
 by_cases e:i+1 < f.length
 ·rw [Ms e,L8 e,A2 e]; rfl
 ·have e2:i+1=f.length:=by omega
  rw [e2,NT]
  have h0:f[0]?=some x:=by
   rw [L8 (by omega)] at q1; exact q1
  rw [h0]
  simp
def Inj (nx:List Int):Prop:=∀ (a b:Nat) (y:Int),nx[a]?=some y→nx[b]?=some y→a=b
theorem DB {nx f:List Int} (h:Cyc nx f) {j:Nat} (hj:j < f.length):nx[(f.getD ((j+f.length - 1) % f.length) 0).toNat]?=some f[j]:=by
 have hp:(j+f.length - 1) % f.length < f.length:=MU _ (by omega)
 have:=h.2 _ hp
 rw [FM hj,B5,A2 hj] at this
 rw [B5,A2 hp]
 exact this
theorem vG {nx:List Int} (hinj:Inj nx) (hn:pZ nx nx.length) {d:Nat} (hd:d < nx.length) {s t:List Bool×List (List Int)} (hs:FacesInv nx.length d s) (hc:∀ f∈s.2,Cyc nx f) (ht:dq nx d s ()=some (.inl t)):∀ f∈t.2,Cyc nx f:=by
 have hu:=pd s.1
 obtain ⟨m,f,h1,h2,h3,h4,h5,h6,h7,h8⟩:=ji hn (nx.length+1) s.1 [] d hs.len hd (by rw [hs.len] at hu; omega)
 simp only [LW] at h1
 simp only [dq,h1,Option.map_some] at ht
 obtain ⟨f',z,e1,e2,e3⟩:=t8 nx _ _ _ _ _ _ h1
 rw [LW] at e1
 subst e1
 have ht':t=(m,cond f.isEmpty s.2 (s.2++[f])):=by cases ht; rfl
 subst ht'
 cases hf:f with
 | nil=>exact hc
 | cons a f' =>
  rw [← hf]
  have hemp:f.isEmpty=false:=by rw [hf]; rfl
  rw [hemp]
  simp only [cond_false]
  intro g hg
  rcases List.mem_append.1 hg with hg | hg
  ·exact hc g hg
  ·simp only [List.mem_singleton] at hg
   subst hg
   have hne:g≠[]:=by rw [hf]; simp
   have hpos:0 < g.length:=List.length_pos_iff.2 hne
   obtain ⟨p1,p2⟩:=sI e2
   have g0:g[0]=(d:Int):=by
    rw [L8 hpos,A2 hpos] at p1
    exact B4 p1
   -- the dart before the last
   have hlast:=p2 (g.length - 1) (by omega)
   rw [show g.length - 1+1=g.length by omega,List.getElem?_append_right (Nat.le_refl _)] at hlast
   simp only [Nat.sub_self,List.getElem?_cons_zero] at hlast
   obtain ⟨u,hu1,hu2,hu3⟩:=h3 g[g.length - 1] (Lk _)
   obtain ⟨w,hw1,hw2⟩:=hn.2 u hu2
   rw [hu1,B8,hw2] at hlast
   have hz:z=(w:Int):=(B4 hlast).symm
   subst hz
   rw [B8] at e3
   have hzd:(w:Int)=d:=by
    rcases (h4 w hw1).1 e3 with hm | hm
    ·exfalso
     obtain ⟨q,hq,hwq⟩:=MH.1 ((hs.met w hw1).1 hm)
     obtain ⟨j,hj,hjw⟩:=Mj hwq
     have hp:=DB (hc q hq) hj
     have hpl:(j+q.length - 1) % q.length < q.length:=MU _ (by omega)
     rw [hjw] at hp
     have:=hinj _ _ _ hp hw2
     have hmem:q.getD ((j+q.length - 1) % q.length) 0∈q:=by
      rw [B5,A2 hpl]; exact Lk hpl
     obtain ⟨k,hk,_⟩:=(hs.elem q hq).2 _ hmem
     rw [hk,B8] at this
     rw [hk,this] at hmem
     rw [(hs.met u hu2).2 (MH.2 ⟨q,hq,hmem⟩)] at hu3
     cases hu3
    ·obtain ⟨j,hj,hjw⟩:=Mj hm
     cases j with
     | zero=>rw [← hjw,g0]
     | succ j =>
      exfalso
      have hp:=p2 j (by omega)
      rw [L8 hj,A2 hj,hjw] at hp
      obtain ⟨v,hv1,hv2,_⟩:=h3 g[j] (Lk _)
      rw [hv1,B8] at hp
      have:=hinj _ _ _ hp hw2
      have:=gT h5 (i:=j) (j:=g.length - 1) (by omega) (by omega) (by rw [hv1,hu1,this])
      omega
   rw [hzd] at e2
   exact Dp e2 hne
theorem mo {nx:List Int} (hinj:Inj nx) (hn:pZ nx nx.length):∀ (l:List Unit) (d:Nat) (s t:List Bool×List (List Int)),d+l.length=nx.length→FacesInv nx.length d s→(∀ f∈s.2,Cyc nx f) →
  ai (dq nx) d s l=some (.inl t)→∀ f∈t.2,Cyc nx f
 | [],d,s,t,h,hs,hc,ht=>by
  simp only [ai] at ht
  cases ht
  exact hc
 | () :: l,d,s,t,h,hs,hc,ht=>by
  simp only [La] at h
  obtain ⟨u,h1,h2⟩:=iB hn (by omega:d < nx.length) hs
  simp only [ai,h1,gr,K7] at ht
  exact mo hinj hn l (d+1) u t (by omega) h2 (vG hinj hn (by omega) hs hc h1) ht
theorem wx {nx:List Int} (hinj:Inj nx) (hn:pZ nx nx.length):∀ f∈aN nx,Cyc nx f:=by
 obtain ⟨m,h1,_⟩:=ft hn
 exact mo hinj hn _ 0 _ _ (by simp) (iF nx.length) (by simp) h1
def Rel (nx nx':List Int):Prop:=∀ (k y:Nat),nx[k]?=some (y:Int)→nx'[oth y]?=some ((oth k:Nat):Int)
def K6 (f:List Int):Prop:=∀ x∈f,∃ k:Nat,x=(k:Int)
end Go.Vm

namespace Go.Vm
open Go.Proofs
set_option maxRecDepth 100000
attribute [local irreducible] aa
theorem tM {α : Type} (p : α→Bool):∀ (l:List α) (i:Nat),(ai (fun i (_:Unit) a=>some (cond (p a) (.inr (i:Nat)) (.inl ()))) i () l=some (.inl ())∧∀ a∈l,p a=false) ∨
  ∃ k a,l[k]?=some a∧p a=true∧ai (fun i (_:Unit) a=>some (cond (p a) (.inr (i:Nat)) (.inl ()))) i () l=some (.inr (i+k))
 | [],i=>.inl ⟨rfl,by simp⟩
 | a :: l,i=>by
  simp only [ai,gr]
  cases h:p a with
  | true=>exact .inr ⟨0,a,rfl,h,rfl⟩
  | false =>
   simp only [cond_false,K7]
   rcases tM p l (i+1) with ⟨h1,h2⟩ | ⟨k,b,h1,h2,h3⟩
   ·exact .inl ⟨h1,fun b hb=>by
     rcases List.mem_cons.1 hb with rfl | hb
     ·exact h
     ·exact h2 b hb⟩
   ·exact .inr ⟨k+1,b,by simpa using h1,h2,by rw [h3]; congr 2; omega⟩
theorem Fc {i j n:Nat} (hi:i < n) (hj:j < n) (e:(i+1) % n=(j+1) % n):i=j:=by
 rcases Me (i+1) n with a | a <;> rcases Me (j+1) n with b | b
 ·rw [Ms a,Ms b] at e; omega
 ·have:j+1=n:=by omega
  rw [Ms a,this,NT] at e; omega
 ·have:i+1=n:=by omega
  rw [this,NT,Ms b] at e; omega
 ·omega
section
variable {N:Nat} {E:List Arc} {A:List (List Int)} {nx:List Int}
theorem u7 (h:RotOK (N:Nat) E A) (hn:Fol oth E A nx) {a:Nat} {y:Int} (ha:nx[a]?=some y) :
  ∃ (v:Nat) (l:List Int) (i:Nat),A[v]?=some l∧i < l.length∧l.getD i 0=((oth a:Nat):Int)∧y=l.getD ((i+1) % l.length) 0∧y∈l:=by
 have hk:a < 2 * E.length:=by
  have:=(A3.1 ha).1
  rw [hn.len] at this; exact this
 obtain ⟨l,hl,hd⟩:=MH.1 (h.mem (ee hk))
 obtain ⟨v,hv⟩:=LM.1 hl
 obtain ⟨i,hi,hid⟩:=Mj hd
 have g1:=hn.get l hl i hi
 have hm:(i+1) % l.length < l.length:=MU _ (by omega)
 rw [hid,B8,fi,ha] at g1
 have g1:=B4 g1
 refine ⟨v,l,i,hv,hi,?_,g1,?_⟩
 ·rw [B5,A2 hi,hid]; rfl
 ·rw [g1,B5,A2 hm]; exact Lk hm
theorem Cv (h:RotOK (N:Nat) E A) (hn:Fol oth E A nx):Inj nx:=by
 intro a b y ha hb
 obtain ⟨v,l,i,hv,hi,e1,e2,e3⟩:=u7 h hn ha
 obtain ⟨v',l',i',hv',hi',e1',e2',e3'⟩:=u7 h hn hb
 obtain ⟨k,rfl,_,hk⟩:=h.dart v l hv y e3
 obtain ⟨k',hkk,_,hk'⟩:=h.dart v' l' hv' _ e3'
 have:k=k':=by omega
 subst this
 have:v=v':=by omega
 subst this
 rw [hv] at hv'
 have:l=l':=B4 hv'
 subst this
 have hnd:l.Nodup:=h.nodup.sublist (MN (List.mem_of_getElem? hv))
 have hm:(i+1) % l.length < l.length:=MU _ (by omega)
 have hm':(i'+1) % l.length < l.length:=MU _ (by omega)
 rw [e2,B5,B5,A2 hm,A2 hm'] at e2'
 have e2':l[(i+1) % l.length]=l[(i'+1) % l.length]:=e2'
 have e:(i+1) % l.length=(i'+1) % l.length:=by
  rcases Nat.lt_trichotomy ((i+1) % l.length) ((i'+1) % l.length) with c | c | c
  ·exact absurd e2' (Mw.1 hnd _ _ hm hm' c)
  ·exact c
  ·exact absurd e2'.symm (Mw.1 hnd _ _ hm' hm c)
 have:i=i':=Fc hi hi' e
 subst this
 rw [e1] at e1'
 have:oth a=oth b:=by omega
 rw [← fi a,this,fi]
end
end Go.Vm

namespace Go.Vm
open Go.Proofs
set_option maxRecDepth 100000
attribute [local irreducible] aa
theorem vP {nx:List Int}:∀ {f:List Int} {x z:Int},(f++[z])[0]?=some x→(∀ i (h:i < f.length),nx[f[i].toNat]?=(f++[z])[i+1]?)→Path nx x f z
 | [],x,z,h,_=>by simpa [Path] using h.symm
 | a :: f,x,z,h,h2=>by
  have hx:a=x:=by simpa using h
  have h0:=h2 0 (by simp)
  obtain ⟨y,hy⟩ : ∃ y,(f++[z])[0]?=some y:=⟨_,A2 (by simp)⟩
  refine ⟨hx,y,?_,vP hy fun i hi=>?_⟩
  ·rw [← hx]
   rw [show ((a :: f)++[z])[0+1]?=(f++[z])[0]? from rfl,hy] at h0
   simpa using h0
  ·have:=h2 (i+1) (by simpa using hi)
   simpa using this
end Go.Vm

namespace Go.Vm
open Go.Proofs
set_option maxRecDepth 100000
attribute [local irreducible] aa
theorem wJ {l:List Int} (hn:l.Nodup) {k:Nat} {f:Int} (hk:l[k]?=some f):l=l.take k++f :: l.drop (k+1)∧f∉l.take k∧f∉l.drop (k+1):=by
 have hlt:k < l.length:=(A3.1 hk).1
 have hf:l[k]=f:=(A3.1 hk).2
 have e:l=l.take k++f :: l.drop (k+1):=by
  rw [← hf,← List.drop_eq_getElem_cons hlt,List.take_append_drop]
 have h2:=hn
 rw [e,List.nodup_append,List.nodup_cons] at h2
 exact ⟨e,fun hm=>h2.2.2 f hm f (by simp) rfl,h2.2.1.1⟩
theorem RotOK.list_nodup {N:Int} {E:List Arc} {A:List (List Int)} (h:RotOK N E A) {l:List Int} (hl:l∈A):l.Nodup:=h.nodup.sublist (MN hl)
section
variable {N:Nat} {E:List Arc} {A:List (List Int)} {nx:List Int}
theorem RotOK.split (h:RotOK (N:Nat) E A) {k w:Nat} (hk:k < 2 * E.length) (hw:tl E k=w) (hwN:w < N):∃ p q,A[w]?=some (p++(k:Int) :: q)∧aZ A w=p++(k:Int) :: q∧(k:Int)∉p∧(k:Int)∉q:=by
 have hal:A.length=N:=by have:=h.len; omega
 have hlt:w < A.length:=by omega
 have hm:=h.around hk hw (A2 hlt)
 obtain ⟨i,hi⟩:=LM.1 hm
 have hn:=h.list_nodup (Lk hlt)
 obtain ⟨e,n1,n2⟩:=wJ hn hi
 exact ⟨_,_,by rw [A2 hlt]; exact congrArg some e,by rw [fP hlt]; exact e,n1,n2⟩
end
theorem KC (m:Nat):oth (2 * m)=2 * m+1:=by unfold oth; rw [if_pos (by omega)]
theorem Jn (m:Nat):oth (2 * m+1)=2 * m:=by unfold oth; rw [if_neg (by omega)]; rfl
section
variable {N:Nat} {E:List Arc} {A:List (List Int)} {nx:List Int}
theorem sC {nx:List Int} (h:RotOK (N:Nat) E A) (hn:Fol oth E A nx):FsOK (2 * E.length) (aN nx)∧∀ g∈aN nx,Cyc nx g:=by
 have hnx:=Fol.nxOK h hn
 refine ⟨?_,wx (Cv h hn) hnx⟩
 obtain ⟨m,_,hi⟩:=ft hnx
 have hL:nx.length=2 * E.length:=hn.len
 rw [hL] at hi
 refine ⟨hi.elem,hi.nodup,fun k hk=>hi.cover k hk hk,?_⟩
 have:=hi.num
 show (aN nx).length≤_
 have h2:(aN nx).length+unm m≤2 * E.length:=this
 omega
end
def emp (A:List (List Int)):Nat:=A.countP fun l=>l.isEmpty
noncomputable def C8 (N:Nat) (E:List Arc) (A:List (List Int)) (F:Nat):Int:=cQ .i64 (sA N E:Nat) (i7 .i64 ((N:Int) - E.length+(F+emp A:Nat)) 2)
def dV (_:Nat) (n:Int) (l:List Int):Option (Int⊕Empty):=some (.inl (cond (eqI (l.length:Nat) 0) (aC .i64 n 1) n))
theorem sn:∀ (A:List (List Int)) (i n:Nat),n+A.length≤1000000→ai dV i (n:Int) A=some (.inl ((n+emp A:Nat):Int))
 | [],i,n,_=>rfl
 | l :: A,i,n,h=>by
  simp only [La] at h
  cases l with
  | nil =>
   have e:dV i (n:Int) []=some (.inl ((n+1:Nat):Int)):=by
    unfold dV
    rw [kP (by rfl),cond_true,oQ (by omega) (by omega)]; rfl
   simp only [ai,e,gr,K7]
   rw [sn A (i+1) (n+1) (by omega)]
   unfold emp
   simp only [N3,List.isEmpty_nil,if_true]
   rw [show n+1+O6 (fun l=>l.isEmpty) A=n+(O6 (fun l=>l.isEmpty) A+1) by omega]
  | cons a l =>
   have e:dV i (n:Int) (a :: l)=some (.inl (n:Int)):=by
    unfold dV
    rw [iz (by simp; omega),cond_false]
   simp only [ai,e,gr,K7]
   rw [sn A (i+1) n (by omega)]
   unfold emp
   simp [N3]
theorem RotOK.lists {N:Int} {E:List Arc} {A:List (List Int)} (h:RotOK N E A):∀ l∈A,l.length≤9223372036854775807:=fun l hl=>by have:=h.list_len hl; have:=h.m1; omega
section
variable {N:Nat} {E:List Arc} {A:List (List Int)} {nx:List Int}
theorem RotOK.al (h:RotOK (N:Nat) E A):A.length=N:=by have:=h.len; omega
theorem RotOK.n16 (h:RotOK (N:Nat) E A):N≤16384:=by have:=h.n1; omega
theorem sO (h:RotOK (N:Nat) E A) {nx mx:List Int} (hn:Fol oth E A nx) (hm:Fol oth E A mx):mx=nx:=by
 refine List.ext_getElem? fun k=>?_
 by_cases hk:k < 2 * E.length
 ·obtain ⟨fw,_,ff⟩:=jK h ()
  obtain ⟨y,_,h1,h2⟩:=i9 h hn ff hk
  obtain ⟨y',_,h1',h2'⟩:=i9 h hm ff hk
  rw [h2] at h2'
  rw [h1,h1',h2']
 ·rw [Ml (by rw [hm.len]; omega),Ml (by rw [hn.len]; omega)]
theorem oN (h:RotOK (N:Nat) E A) (hn:Fol oth E A nx):Zaq (((N:Int),E,A,()),())=some (aN nx,())∧Zx (((N:Int),E,A,()),())=some (aN nx,()):=by
 obtain ⟨mx,m,_,f1,_,r1,r2⟩:=Ad h h.validB h.lists
 rw [sO h hn f1] at r1 r2
 exact ⟨r1,r2⟩
theorem tK (h:RotOK (N:Nat) E A) (hn:Fol oth E A nx):Zar (((N:Int),E,A,()),())=some (C8 N E A (aN nx).length,())∧Zu (((N:Int),E,A,()),())=some (C8 N E A (aN nx).length,()):=by
 have hal:=h.al
 have hn16:=h.n16
 have hm1:=h.m1
 obtain ⟨r1,r2⟩:=oN h hn
 have hF:=(sC h hn).1.num
 have hemp:emp A≤A.length:=List.countP_le_length
 have k1:=mX (B:=re) (fun n i=>((N:Int),E,A,n,A,((A.length:Nat):Int),(i:Int),())) (fun n=>.inl ((N:Int),E,A,n,())) (fun e=>nomatch e) dV A (by
  intro n i l hd'
  have hi:i < A.length:=(A3.1 hd').1
  simp only [re,dV]
  rw [aM (by omega),cond_true,aq,hd',gr,bj (a:=i) (by omega)]
  cases eqI ((l.length:Nat):Int) 0 <;> rfl) (by
  intro n
  simp only [re]
  rw [aI (by omega)]; rfl) ((aN nx).length:Int)
 have k2:=mX (B:=wn) (fun n i=>(((A.length:Nat):Int),E,A,n,(i:Int),())) (fun n=>.inl (((A.length:Nat):Int),E,A,n,())) (fun e=>nomatch e) dV A (by
  intro n i l hd'
  have hi:i < A.length:=(A3.1 hd').1
  simp only [wn,dV]
  rw [aM (by omega),cond_true,aq,hd',gr,bj (a:=i) (by omega)]
  cases eqI ((l.length:Nat):Int) 0 <;> rfl) (by
  intro n
  simp only [wn]
  rw [aI (by omega)]; rfl) ((aN nx).length:Int)
 rw [sn A 0 _ (by omega)] at k1 k2
 have e1:aC .i64 (cQ .i64 (N:Int) (E.length:Nat)) (((aN nx).length+emp A:Nat):Int)=(N:Int) - E.length+((aN nx).length+emp A:Nat):=by
  rw [kz (by omega) (by omega),oQ (by omega) (by omega)]
 constructor
 ·unfold Zar
  simp only
  rw [kC ((N:Int),E,A,()) h.lists,h.validB,gr]
  simp only [LN,cond_false]
  rw [r1,gr]
  simp only
  rw [show zU ((N:Int),E,A,((aN nx).length:Nat),A,(A.length:Nat),0,())=_ from k1]
  simp only [gr,K7]
  rw [Cm h]
  simp only [gr]
  rw [e1]; rfl
 ·unfold Zu
  simp only
  rw [i8 ((N:Int),E,A,()) h.lists,h.validB,gr]
  simp only [LN,cond_false]
  rw [r2,gr]
  simp only
  have k2':Fo ((N:Int),E,A,((aN nx).length:Nat),0,())=some (.inl ((N:Int),E,A,(((aN nx).length+emp A:Nat):Int),())):=by
   rw [show (N:Int)=((A.length:Nat):Int) by omega]; exact k2
  rw [k2']
  simp only [gr,K7]
  rw [Ar h]
  simp only [gr]
  rw [e1]; rfl
theorem Cy (h:RotOK (N:Nat) E A) (hn:Fol oth E A nx) {k y:Nat} (hy:nx[k]?=some (y:Int)):k < 2 * E.length∧y < 2 * E.length∧tl E y=hd E k:=by
 have hk:k < 2 * E.length:=by
  have:=(A3.1 hy).1
  rw [hn.len] at this; exact this
 obtain ⟨v,l,i,h1,h2,h3,h4,h5⟩:=u7 h hn hy
 obtain ⟨y',e1,e2,e3⟩:=h.dart v l h1 _ h5
 have:y=y':=by omega
 subst this
 have hm:((oth k:Nat):Int)∈l:=by
  rw [← h3,B5,A2 h2]; exact Lk h2
 obtain ⟨o,f1,f2,f3⟩:=h.dart v l h1 _ hm
 have:oth k=o:=by omega
 subst this
 exact ⟨hk,e2,by unfold hd; rw [e3,f3]⟩
end
end Go.Vm

namespace Go.Vm
open Go.Proofs
set_option maxRecDepth 100000
attribute [local irreducible] aa
theorem tX (l:List Int) (v:Int) (hl:l.length≤68719476736):(Zai (l,v,())=some (-1,())∧v∉l) ∨
  ∃ k:Nat,l[k]?=some v∧Zai (l,v,())=some ((k:Int),()):=by
 have h:=mX (B:=qW) (fun (_:Unit) i=>(l,v,((l.length:Nat):Int),(i:Int),()))
  (fun _=>.inr (.inl ())) (fun (k:Nat)=>.inl ((k:Int),())) (fun i (_:Unit) a=>some (cond (eqI v a) (.inr i) (.inl ()))) l (by
   intro _ i a ha
   have hi:i < l.length:=(A3.1 ha).1
   unfold qW
   simp only
   rw [aM (by omega),cond_true,aq,ha,gr,gr]
   cases eqI v a with
   | true=>rfl
   | false=>rw [cond_false,bj (by omega)]; rfl) (by
   intro _
   unfold qW
   simp only
   rw [aI (by omega)]; rfl) ()
 unfold Zai yC
 dsimp only
 rw [show ((0:Int))=((0:Nat):Int) from rfl,h]
 rcases tM (fun a=>eqI v a) l 0 with ⟨h1,h2⟩ | ⟨k,a,h1,h2,h3⟩
 ·rw [h1]
  refine .inl ⟨rfl,fun hm=>?_⟩
  have:=h2 v hm
  simp [eqI] at this
 ·rw [h3]
  have:v=a:=by simpa [eqI] using h2
  subst this
  exact .inr ⟨k,h1,by simp only [gr,Sum.elim_inr,K7,Ln]⟩
theorem tp (l:List Int) (hl:l.length≤68719476736):Zal (l,())=some (l,()):=by
 unfold Zal
 dsimp only
 rw [c9 (by simpa using hl),gr,LW]
 cases l with
 | nil=>simp [ya]
 | cons a l=>rfl
end Go.Vm


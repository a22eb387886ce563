/-
 The shift drawing in program and reference; the law.
-/
import Derived.Test.YtgdkanecejfeiaaGreatDoorKC
import Derived.KernelRfl
open Option renaming bind_some→dn,getD_some→NS
open List renaming getElem?_eq_getElem→gr,getElem?_eq_some_iff→A2,mem_of_getElem?→A5,replicate→A6,getD_eq_getElem?_getD→A8,mem_append→B3,mem_cons→B7,length_cons→LU,range→LX,all_eq_true→LZ,getElem_mem→L3,mem_iff_getElem?→L5,getElem?_take→L7,getElem?_set→Ma,length_append→Mb,getElem?_cons_succ→Mf,length_set→Mk,getElem?_drop→Mq,length_take→Mw,mem_singleton→MA,length_drop→MD,any_eq_true→ME,nil_append→MF,getElem?_replicate→MG,any_eq_false→MK,mem_filter→ML,nodup_append→MT,nodup_cons→MU,getElem?_eq_none→M5,getElem?_set_ne→M6,mem_of_mem_drop→M8,take_length→Na,nodup_iff_pairwise_ne→Nd,mem_flatten→Nf,mem_of_mem_take→Nk,ext_getElem?→Nn,filter_sublist→Nq,filter_cons→Nr,mem_map→Nv,getElem?_set_self→Nz,getElem?_map→NH,pairwise_cons→NO,take_sublist→NP,take_append_drop→NV,length_replicate→NY,drop_append_of_le_length→N4,countP_eq_length_filter→N6,length_map→N8,take_add_one→Oc,take→Oi,pairwise_map→OR,countP_cons→OV,foldl_cons→OW,take_zero→O7,length_erase_of_mem→O8,length_pos_of_mem→Pc,mem_erase_of_ne→Pk,take_succ_cons→Pp,getElem?_range→Pq,drop_sublist→PD,take_take→PV
open Option.some renaming injEq→A1,inj→B6
open Bool renaming and_eq_true→A3,not_eq_true'→Mn,not_true→Mp,or_eq_true→Mt,or_eq_false_iff→N5,not_false→OD,and_true→O9
open Nat renaming le_refl→A7,zero_add→L9,le_trans→Mz,zero_le→MJ,le_of_lt→MQ,add_zero→M4,mod_lt→NA,add_comm→Of,mul_le_mul→Oj,le_of_not_lt→Ok,lt_of_not_le→Oq,sub_zero→OE,sub_self→ON,le_antisymm→OX,pow_le_pow_right→Pr
open Int renaming toNat_natCast→B2,mul_nonpos_of_nonneg_of_nonpos→LY,mul_nonneg→Mx,mul_lt_mul_of_pos_right→MM,lt_trichotomy→M9,le_refl→Nb,mul_comm→Nj,mul_le_mul_of_nonneg_right→Nt,mul_pos→NI,le_of_lt→NK,mul_eq_zero→Ou,le_of_mul_le_mul_right→O6,not_lt→PF,mul_zero→P8,not_le→Qf
open Sum renaming elim_inl→B8,elim→LV,elim_inr→NX
open List.Pairwise renaming nil→MR,cons→Nm
open List.Sublist renaming refl→PN,append→Qb
set_option linter.unusedVariables false
set_option linter.unusedSimpArgs false
/-
 StraightShifts: which vertices are joined; the neighbors of a vertex; the third corner of the first face.
-/
namespace Go.Vm
open Go.Proofs
set_option maxRecDepth 100000
attribute [local irreducible] aa
theorem yw (N:Int) (E:List Arc) (A:List (List Int)) (a b:Int) (hE:E.length≤1000000):Zl ((N,E,A,()),a,b,())=some (ab E a b,()):=by
 have h:=jF (B:=wV) (fun (_:Unit) i=>(N,E,A,a,b,(i:Int),())) (fun _=>.inr (.inl ())) (fun (_:Unit)=>.inl (true,()))
  (fun _ (_:Unit) (x:Arc)=>some (cond (jn a b x) (.inr ()) (.inl ()))) E (by
   intro _ i x hx
   have hi:i < E.length:=(A2.1 hx).1
   unfold wV
   simp only [am,hx,dn]
   rw [aJ (by omega),cond_true,aZ (by omega)]
   unfold jn
   cases eqI x.1 a <;> cases eqI x.2.1 b <;> cases eqI x.1 b <;> cases eqI x.2.1 a <;> rfl) (by
   intro _
   unfold wV
   simp only
   rw [aC (by omega)]; rfl) ()
 unfold Zl EW
 dsimp only
 rw [show ((0:Int))=((0:Nat):Int) from rfl,h,mT]
 unfold ab
 cases E.any (jn a b) <;> rfl
theorem GT (a b:Int) (x:Arc):jn a b x=jn b a x:=by
 unfold jn
 exact Bool.or_comm ..
theorem jE (E:List Arc) (a b:Int):ab E a b=ab E b a:=by
 unfold ab
 congr 1
 funext x
 exact GT a b x
section
variable {N:Nat} {E:List Arc} {A:List (List Int)} {nx fw:List Int}
theorem pc (h:RotOK (N:Nat) E A) (u:Int):ab E u u=false:=by
 unfold ab
 rw [MK]
 intro a ha hj
 obtain ⟨_,_,_,_,h5⟩:=h.edge a ha
 unfold jn at hj
 simp only [Mt,A3,eqI,beq_iff_eq] at hj
 rcases hj with ⟨e1,e2⟩ | ⟨e1,e2⟩
 ·exact h5 (by rw [e1,e2])
 ·exact h5 (by rw [e1,e2])
theorem nV (h:RotOK (N:Nat) E A) {u v:Int} (hj:ab E u v=true):0≤u∧u < (N:Int)∧0≤v∧v < (N:Int):=by
 unfold ab at hj
 obtain ⟨a,ha,hb⟩:=ME.1 hj
 obtain ⟨h1,h2,h3,h4,_⟩:=h.edge a ha
 unfold jn at hb
 simp only [Mt,A3,eqI,beq_iff_eq] at hb
 rcases hb with ⟨e1,e2⟩ | ⟨e1,e2⟩ <;> subst e1 <;> subst e2 <;> exact ⟨by assumption,by assumption,by assumption,by assumption⟩
def eT (E:List Arc) (l:List Int):List Int:=l.map fun d=>tl E (oth d.toNat)
theorem HD (h:RotOK (N:Nat) E A) {v:Nat} {l:List Int} (hv:A[v]?=some l):Zbd (((N:Int),E,A,()),(v:Int),())=some (eT E l,()):=by
 have hll:=h.list_len (A5 hv)
 have hm1:=h.m1
 have key:=dp (B:=sJ) (ε:=Empty) (fun i (s:List Int)=>s.length=i) (fun s i=>((N:Int),E,A,s,l,((l.length:Nat):Int),(i:Int),())) (fun s=>.inl (s,())) (fun e=>nomatch e)
  (fun _ s (d:Int)=>some (.inl (s++[tl E (oth d.toNat)]))) l (by
   intro s i d hs hd
   have hi:i < l.length:=(A2.1 hd).1
   obtain ⟨k,rfl,hk,_⟩:=h.dart v l hv d (A5 hd)
   unfold sJ
   simp only
   rw [aJ (by omega),cond_true,am,hd,dn,FR (by omega),qa h h.validB h.lists (dL hk),dn,da (by simp; omega),dn,aZ (by omega)]
   rfl) (by
   intro s i d t hs hd hg
   cases hg
   simp [hs]) (by
   intro s hs
   unfold sJ
   simp only
   rw [aC (by omega)]; rfl) [] rfl
 have hf:∀ (l:List Int) (i:Nat) (s:List Int),ae (ε:=Empty) (fun _ (s:List Int) (d:Int)=>some (.inl (s++[tl E (oth d.toNat)]))) i s l=some (.inl (s++eT E l)):=by
  intro l
  induction l with
  | nil=>intro i s; simp [ae,eT]
  | cons a l ih =>
   intro i s
   simp only [ae,dn,B8]
   rw [ih]
   simp [eT]
 rw [hf] at key
 unfold Zbd
 simp only
 rw [am,hv,dn]
 rw [show yW ((N:Int),E,A,[],l,((l.length:Nat):Int),0,())=some (.inl (eT E l,())) from key]
 rfl
theorem Gp (h:RotOK (N:Nat) E A) {v:Nat} {l:List Int} (hv:A[v]?=some l) (u:Int):u∈eT E l↔ab E u (v:Int)=true:=by
 unfold eT
 rw [Nv]
 constructor
 ·rintro ⟨d,hd,rfl⟩
  obtain ⟨k,rfl,hk,ht⟩:=h.dart v l hv d hd
  rw [B2]
  have hke:k / 2 < E.length:=by omega
  unfold ab
  rw [ME]
  refine ⟨E[k / 2],L3 hke,?_⟩
  unfold jn
  simp only [Mt,A3,eqI,beq_iff_eq]
  rcases kW (gr hke) with ⟨p1,p2⟩ | ⟨p1,p2⟩
  ·exact .inr ⟨by rw [← p1,ht],p2.symm⟩
  ·exact .inl ⟨p2.symm,by rw [← p1,ht]⟩
 ·intro hj
  obtain ⟨h1,h2,h3,h4⟩:=nV h hj
  obtain ⟨w,rfl⟩ : ∃ w:Nat,u=(w:Int):=⟨u.toNat,by omega⟩
  obtain ⟨x,hx,e1,e2⟩:=xR h hj
  have ho:=dL hx
  have hm:=h.mem ho
  obtain ⟨l',hl',hd'⟩:=Nf.1 hm
  obtain ⟨v',hv'⟩:=L5.1 hl'
  obtain ⟨k,hk,hk2,ht⟩:=h.dart v' l' hv' _ hd'
  have hk:oth x=k:=by omega
  subst hk
  have e3:=(oc h ho).1
  rw [e2] at e3
  have:v'=v:=by omega
  subst this
  rw [hv] at hv'
  cases hv'
  refine ⟨_,hd',?_⟩
  rw [B2,eE,(oc h hx).1,e1]
theorem zZ (h:Tri N E A) {v:Nat} {l:List Int} (hv:A[v]?=some l):(eT E l).Nodup:=by
 have hn:=h.rot.list_nodup (A5 hv)
 unfold eT
 rw [Nd] at hn ⊢
 rw [OR]
 refine hn.imp_of_mem fun {a b} ha hb hne e=>hne ?_
 obtain ⟨x,rfl,hx,tx⟩:=h.rot.dart v l hv a ha
 obtain ⟨y,rfl,hy,ty⟩:=h.rot.dart v l hv b hb
 rw [B2,B2] at e
 have:=h.sdart hx hy (by unfold tln; rw [tx,ty]) (by unfold tln; rw [e])
 rw [this]
theorem F3 (h:RotOK (N:Nat) E A) (hn:Fol oth E A nx) {d y:Nat} (hd:d < 2 * E.length) (hy:nx[d]?=some (y:Int)):Zay (((N:Int),E,A,()),(d:Int),())=some ((y:Int),()):=by
 have hm1:=h.m1
 obtain ⟨v,l,i,h1,h2,h3,h4,_⟩:=uI h hn hy
 obtain ⟨a,a1,a2⟩:=BS h hd
 have hi:l[i]?=some ((oth d:Nat):Int):=by rw [← h3,A8,gr h2]; rfl
 have hmem:((oth d:Nat):Int)∈l:=A5 hi
 obtain ⟨k,hk,hk2,ht⟩:=h.dart v l h1 _ hmem
 have hk:oth d=k:=by omega
 subst hk
 have e1:Go.Vm.hd E d=(v:Int):=ht
 have hll:=h.list_len (A5 h1)
 have hln:=h.list_nodup (A5 h1)
 rcases tq l ((oth d:Nat):Int) (by omega) with ⟨_,q⟩ | ⟨k,k1,k2⟩
 ·exact absurd hmem q
 ·have hkl:k < l.length:=(A2.1 k1).1
  have:k=i:=by
   refine iO hln hkl h2 ?_
   have g1:=(A2.1 k1).2
   have g2:=(A2.1 hi).2
   rw [g1,g2]
  subst this
  have hm:(k+1) % l.length < l.length:=NA _ (by omega)
  have e2:dK .i64 2 (E.length:Nat)=((2 * E.length:Nat):Int):=by rw [gq (by omega) (by omega)]; omega
  unfold Zay
  simp only
  rw [kO ((N:Int),E,A,()) h.lists,h.validB,dn]
  simp only [Mp,cond_false]
  rw [aC (by omega),cond_false,e2,iI (by omega),cond_false,FL (by omega),am,a1,dn,a2,dn]
  simp only
  rw [e1,am,h1,dn,FR (by omega),k2,dn,gL (by omega),cond_false,aZ (by omega),Jr,am,gr hm,h4,A8,gr hm]
  rfl
theorem vq (h:RotOK (N:Nat) E A) {d:Nat} (hd:d < 2 * E.length):Zak (((N:Int),E,A,()),(d:Int),())=some (tl E d,()):=by
 have hm1:=h.m1
 have e2:dK .i64 2 (E.length:Nat)=((2 * E.length:Nat):Int):=by rw [gq (by omega) (by omega)]; omega
 unfold Zak
 simp only
 rw [iw ((N:Int),E,A,()) h.lists,h.validB,dn]
 simp only [Mp,cond_false]
 rw [aC (by omega),cond_false,e2,iI (by omega),cond_false,xG (N:Int) E A () hm1,dn]
 simp only
 rw [ay (by rw [fX]; exact hd),dn,nN E d hd]
 rfl
theorem Hr (h:RotOK (N:Nat) E A) (hn:Fol oth E A nx) {d y:Nat} (hd:d < 2 * E.length) (hy:nx[d]?=some (y:Int)):Zan (((N:Int),E,A,()),(d:Int),())=some ((y:Int),()):=by
 have hm1:=h.m1
 have e2:dK .i64 2 (E.length:Nat)=((2 * E.length:Nat):Int):=by rw [gq (by omega) (by omega)]; omega
 obtain ⟨fw,f1,ff⟩:=jq h ()
 obtain ⟨y',_,g1,g2⟩:=iK h hn ff hd
 rw [hy] at g1
 have:y=y':=by have:=B6 g1; omega
 subst this
 unfold Zan
 simp only
 rw [iw ((N:Int),E,A,()) h.lists,h.validB,dn]
 simp only [Mp,cond_false]
 rw [aC (by omega),cond_false,e2,iI (by omega),cond_false,f1,dn,w8 d (by omega),dn]
 simp only
 rw [ay (by rw [ff.len]; exact dL hd),dn,g2]
 rfl
theorem I0 (h:RotOK (N:Nat) E A) (hE:0 < E.length):∃ c:Int,Zbb (((N:Int),E,A,()),())=some (c,())∧Zam (((N:Int),E,A,()),())=some (tl E 0,tl E 1,c,()) ∧
  Zaz (((N:Int),E,A,()),0,())=some (tl E 0,())∧Zaz (((N:Int),E,A,()),1,())=some (tl E 1,())∧0≤c∧c < (N:Int)∧∃ nx,∃ y:Nat,Fol oth E A nx∧nx[0]?=some (y:Int)∧c=tl E (oth y):=by
 have hm1:=h.m1
 obtain ⟨nx,_,hn⟩:=kY h ()
 obtain ⟨fw,f1,ff⟩:=jq h ()
 have h0:0 < 2 * E.length:=by omega
 obtain ⟨y,hy,n0,_⟩:=iK h hn ff h0
 obtain ⟨z,hz,n1,_⟩:=iK h hn ff hy
 have t1:=(ll h hn n1).2.2
 obtain ⟨v,hv,hvn⟩:=h.tl_lt (dL hy)
 have p0:=qa h h.validB h.lists h0
 have p1:=qa h h.validB h.lists (show 1 < 2 * E.length by omega)
 refine ⟨tl E (oth y),?_,?_,p0,p1,by rw [hv]; omega,by rw [hv]; omega,nx,y,hn,n0,rfl⟩
 ·unfold Zbb
  simp only
  rw [show (0:Int)=((0:Nat):Int) from rfl,F3 h hn h0 n0,dn]
  simp only
  rw [F3 h hn hy n1,dn]
  simp only
  rw [qa h h.validB h.lists hz,t1]
  rfl
 ·unfold Zam
  simp only
  rw [show (0:Int)=((0:Nat):Int) from rfl,Hr h hn h0 n0,dn]
  simp only
  rw [vq h h0,show (1:Int)=((1:Nat):Int) from rfl,vq h (show 1 < 2 * E.length by omega)]
  simp only [dn]
  rw [show ((1:Nat):Int)=1 from rfl,FR (by omega),vq h (dL hy)]
  rfl
end
end Go.Vm

/-
 StraightShifts: a contour with one more vertex, in the reference and in the program.
-/
namespace Go.Vm
open Go.Proofs
set_option maxRecDepth 100000
attribute [local irreducible] aa
def js (P:Int→Bool):Nat→List Int→List Nat
 | _,[]=>[]
 | i,a :: c=>cond (P a) (i :: js P (i+1) c) (js P (i+1) c)
def cT:List Nat→Int
 | []=>-1
 | a :: _=>a
def gC (s:List Nat):Int:=match s.getLast? with
 | none=>-1
 | some a=>a
theorem jU {P:Int→Bool}:∀ {c:List Int} {i j:Nat},j∈js P i c↔i≤j∧∃ a,c[j - i]?=some a∧P a=true
 | [],i,j=>by simp [js]
 | a :: c,i,j=>by
  have h:=jU (P:=P) (c:=c) (i:=i+1) (j:=j)
  have e:(∃ b,(a :: c)[j - i]?=some b∧P b=true)∧i≤j↔(j=i∧P a=true)∨(i+1≤j∧∃ b,c[j - (i+1)]?=some b∧P b=true):=by
   constructor
   ·rintro ⟨⟨b,h1,h2⟩,h3⟩
    by_cases hj:j=i
    ·subst hj
     rw [ON] at h1
     simp at h1
     subst h1
     exact .inl ⟨rfl,h2⟩
    ·right
     refine ⟨by omega,b,?_,h2⟩
     rw [show j - i=(j - (i+1))+1 by omega,Mf] at h1
     exact h1
   ·rintro (⟨rfl,h1⟩ | ⟨h1,b,h2,h3⟩)
    ·exact ⟨⟨a,by rw [ON]; rfl,h1⟩,A7 _⟩
    ·refine ⟨⟨b,?_,h3⟩,by omega⟩
     rw [show j - i=(j - (i+1))+1 by omega,Mf]
     exact h2
  rw [And.comm] at e
  rw [e]
  unfold js
  cases hp:P a with
  | true=>rw [cond_true,B7,h]; simp
  | false=>rw [cond_false,h]; simp
theorem gl {P:Int→Bool}:∀ {c:List Int} {i:Nat},(js P i c).Pairwise (· < ·)
 | [],i=>MR
 | a :: c,i=>by
  unfold js
  cases hp:P a with
  | true =>
   rw [cond_true]
   exact Nm (fun j hj=>by have:=(jU.1 hj).1; omega) gl
  | false=>exact gl
theorem oC {P:Int→Bool}:∀ {c:List Int} {i:Nat},(js P i c).length=c.countP P
 | [],i=>rfl
 | a :: c,i=>by
  unfold js
  rw [OV]
  cases hp:P a with
  | true=>rw [cond_true,LU,oC]; simp
  | false=>rw [cond_false,oC]; simp
theorem BZ {P:Int→Bool}:∀ (l:List Int) (i:Nat) (s:List Nat),ae (ε:=Empty) (fun i (s:List Nat) a=>some (.inl (cond (P a) (s++[i]) s))) i s l=some (.inl (s++js P i l))
 | [],i,s=>by simp [ae,js]
 | a :: l,i,s=>by
  simp only [ae,dn,B8]
  rw [BZ l,show js P i (a :: l)=cond (P a) (i :: js P (i+1) l) (js P (i+1) l) from rfl]
  cases P a <;> simp
theorem nS (s:List Nat) (i:Nat):gC (s++[i])=(i:Int):=by simp [gC]
theorem qI (s:List Nat) (i:Nat):cT (s++[i])=if cT s < 0 then (i:Int) else cT s:=by
 cases s with
 | nil=>rfl
 | cons a s =>
  have h:¬ cT (a :: s) < 0:=by show ¬ ((a:Nat):Int) < 0; omega
  rw [if_neg h]
  rfl
theorem tV {s:List Nat} (hs:s.Pairwise (· < ·)) (hne:s≠[]):∃ m:Nat,cT s=(m:Int)∧m∈s∧∀ x∈s,m≤x:=by
 cases s with
 | nil=>exact absurd rfl hne
 | cons a s =>
  refine ⟨a,rfl,by simp,fun x hx=>?_⟩
  rcases B7.1 hx with rfl | hx
  ·exact A7 _
  ·have:=(NO.1 hs).1 x hx; omega
theorem xK {s:List Nat} (hs:s.Pairwise (· < ·)) (hne:s≠[]):∃ m:Nat,gC s=(m:Int)∧m∈s∧∀ x∈s,x≤m:=by
 obtain ⟨t,m,rfl⟩ : ∃ t m,s=t++[m]:=⟨s.dropLast,s.getLast hne,(List.dropLast_concat_getLast hne).symm⟩
 refine ⟨m,nS t m,by simp,fun x hx=>?_⟩
 rcases B3.1 hx with hx | hx
 ·have:=(List.pairwise_append.1 hs).2.2 x hx m (by simp); omega
 ·simp at hx; omega
def dh (E:List Arc) (bef c:List Int) (w:Int):Option (List Int) :=
 if (js (ab E · w) 0 c).length < 2∨bef.countP (ab E · w)≠(js (ab E · w) 0 c).length∨gC (js (ab E · w) 0 c) - cT (js (ab E · w) 0 c)+1≠((js (ab E · w) 0 c).length:Int) then none
 else some (c.take (cT (js (ab E · w) 0 c)+1).toNat++w :: c.drop (gC (js (ab E · w) 0 c)).toNat)
def sw:Option (List Int)→List Int×Bool×Unit
 | none=>([],false,())
 | some l=>(l,true,())
section
variable {N:Nat} {E:List Arc} {A:List (List Int)}
theorem yZ (hE:E.length≤1000000) (o c:List Int) (w k:Int) (hc:c.length≤1000000) :
  AP ((N:Int),E,A,o,k,c,w,-1,-1,0,0,())=some (.inl ((N:Int),E,A,o,k,c,w,cT (js (ab E · w) 0 c),gC (js (ab E · w) 0 c),((js (ab E · w) 0 c).length:Int),())):=by
 have key:=dp (B:=qx) (ε:=Empty) (fun i (s:List Nat)=>s.length≤i) (fun s i=>((N:Int),E,A,o,k,c,w,cT s,gC s,(s.length:Int),(i:Int),()))
  (fun s=>.inl ((N:Int),E,A,o,k,c,w,cT s,gC s,(s.length:Int),())) (fun e=>nomatch e) (fun i s a=>some (.inl (cond (ab E a w) (s++[i]) s))) c (by
   intro s i a hs ha
   have hi:i < c.length:=(A2.1 ha).1
   unfold qx
   simp only
   rw [aJ (by omega),cond_true,am,ha,dn,yw _ _ _ _ _ hE,dn,aZ (show i < 9223372036854775807 by omega),aZ (show s.length < 9223372036854775807 by omega)]
   cases ab E a w with
   | false=>rfl
   | true =>
    simp only [cond_true,dn,B8]
    by_cases hf:cT s < 0
    ·rw [aJ hf,cond_true,nS,qI,if_pos hf]
     simp
    ·rw [aC (by omega),cond_false,nS,qI,if_neg hf]
     simp) (by
   intro s i a t hs ha hg
   cases hg
   cases ab E a w with
   | true=>simp; omega
   | false=>simp only [cond_false]; omega) (by
   intro s hs
   unfold qx
   simp only
   rw [aC (by omega)]; rfl) [] (A7 _)
 rw [BZ] at key
 exact key
theorem wU (hE:E.length≤1000000) (o c:List Int) (w a b n:Int) (k:Nat) (hk:k≤o.length) (ho:o.length≤1000000) :
  vV ((N:Int),E,A,o,(k:Int),c,w,a,b,n,0,0,())=some (.inl (c,w,a,b,n,((o.take k).countP (ab E · w):Nat),())):=by
 have hlen:(o.take k).length=k:=by rw [Mw]; omega
 have key:=dp (B:=na) (ε:=Empty) (fun i (m:Nat)=>m≤i) (fun m i=>((N:Int),E,A,o,(k:Int),c,w,a,b,n,(m:Int),(i:Int),()))
  (fun m=>.inl (c,w,a,b,n,(m:Int),())) (fun e=>nomatch e) (fun _ m x=>some (.inl (m+cond (ab E x w) 1 0))) (o.take k) (by
   intro m i x hm hx
   have hi:i < k:=by have:=(A2.1 hx).1; omega
   rw [L7,if_pos hi] at hx
   unfold na
   simp only
   rw [aJ (by omega),cond_true,am,hx,dn,yw _ _ _ _ _ hE,dn,aZ (show i < 9223372036854775807 by omega),aZ (show m < 9223372036854775807 by omega)]
   cases ab E x w <;> rfl) (by
   intro m i x t hm hx hg
   cases hg
   cases ab E x w with
   | true=>simp only [cond_true]; omega
   | false=>simp only [cond_false]; omega) (by
   intro m hm
   unfold na
   simp only
   rw [hlen,aC (by omega)]; rfl) 0 (A7 _)
 have hf:∀ (l:List Int) (i m:Nat),ae (ε:=Empty) (fun _ (m:Nat) x=>some (.inl (m+cond (ab E x w) 1 0))) i m l=some (.inl (m+l.countP (ab E · w))):=by
  intro l
  induction l with
  | nil=>intro i m; simp [ae]
  | cons x l ih =>
   intro i m
   simp only [ae,dn,B8]
   rw [ih,OV]
   cases ab E x w with
   | true=>simp; omega
   | false=>simp
 rw [hf,L9] at key
 exact key
theorem places {P:Int→Bool} {c:List Int} (h2:2≤(js P 0 c).length):∃ p q:Nat,cT (js P 0 c)=(p:Int)∧gC (js P 0 c)=(q:Int)∧p < q∧q < c.length∧p∈js P 0 c∧q∈js P 0 c∧(∀ x∈js P 0 c,p≤x∧x≤q):=by
 have hne:js P 0 c≠[]:=by intro e; rw [e] at h2; simp at h2
 have hs:=gl (P:=P) (c:=c) (i:=0)
 obtain ⟨p,p1,p2,p3⟩:=tV hs hne
 obtain ⟨q,q1,q2,q3⟩:=xK hs hne
 refine ⟨p,q,p1,q1,?_,?_,p2,q2,fun x hx=>⟨p3 x hx,q3 x hx⟩⟩
 ·match hj:js P 0 c,h2 with
  | a :: b :: r,_ =>
   rw [hj] at hs p3 q3
   have h1:=(NO.1 hs).1 b (by simp)
   have h3:=p3 a (by simp)
   have h4:=q3 b (by simp)
   omega
 ·obtain ⟨_,a,ha,_⟩:=jU.1 q2
  have:=(A2.1 ha).1
  omega
theorem FU (hE:E.length≤1000000) (o c:List Int) {w:Int} {k:Nat} (hk:o[k]?=some w) (ho:o.length≤1000000) (hc:c.length≤1000000) :
  Zaj (((N:Int),E,A,()),o,(k:Int),c,())=some (sw (dh E (o.take k) c w)):=by
 have hkl:=(A2.1 hk).1
 unfold Zaj
 simp only
 rw [am,hk,dn,yZ hE o c w _ hc]
 simp only [dn,B8]
 rw [wU hE o c w _ _ _ k (by omega) ho]
 simp only [dn,B8]
 unfold dh
 by_cases h1:(js (ab E · w) 0 c).length < 2
 ·rw [aJ (by omega),cond_true,if_pos (.inl h1)]
  rfl
 ·rw [aC (by omega),cond_false]
  by_cases h2:(o.take k).countP (ab E · w)=(js (ab E · w) 0 c).length
  ·rw [dF (by omega),cond_false]
   obtain ⟨p,q,e1,e2,hpq,hq,_⟩:=places (P:=(ab E · w)) (c:=c) (by omega)
   have e3:aA .i64 (bE .i64 (gC (js (ab E · w) 0 c)) (cT (js (ab E · w) 0 c))) 1=gC (js (ab E · w) 0 c) - cT (js (ab E · w) 0 c)+1:=by
    rw [e1,e2,cC (by omega) (by omega),gO (by omega) (by omega)]
   rw [e3]
   by_cases h3:gC (js (ab E · w) 0 c) - cT (js (ab E · w) 0 c)+1=((js (ab E · w) 0 c).length:Int)
   ·rw [dF h3,cond_false,if_neg (by rintro (h | h | h); exact h1 h; exact h h2; exact h h3),e1,e2,aZ (by omega)]
    unfold co
    rw [if_pos ⟨by omega,by omega,by omega⟩,dn]
    have t1:(Oi (((p+1:Nat):Int)).toNat c).drop (0:Int).toNat=c.take (p+1):=by simp
    rw [t1,da (by simp; omega),dn,da (by simp; omega),dn,if_pos ⟨by omega,by omega,by omega⟩,dn]
    have t2:(Oi ((c.length:Nat):Int).toNat c).drop ((q:Int)).toNat=c.drop q:=by
     simp only [B2]
     rw [Na]
    rw [t2,da (by simp; omega),dn]
    unfold sw
    simp only [MF,B2]
    rw [show ((p:Int)+1).toNat=p+1 by omega]
    simp
   ·rw [fT h3,cond_true,if_pos (.inr (.inr h3))]
    rfl
  ·rw [fT (by omega),cond_true,if_pos (.inr (.inl h2))]
   rfl
end
end Go.Vm

/-
 StraightShifts: a contour with one more vertex, in the program.
-/
namespace Go.Vm
open Go.Proofs
set_option maxRecDepth 100000
attribute [local irreducible] aa
theorem cZ {α : Type} [DecidableEq α]:∀ {l r:List α},l.Nodup→(∀ x∈l,x∈r)→l.length≤r.length
 | [],r,_,_=>MJ _
 | a :: l,r,hn,h=>by
  obtain ⟨h1,h2⟩:=MU.1 hn
  have:=cZ (l:=l) (r:=r.erase a) h2 (fun x hx=>by
   have hne:x≠a:=fun e=>h1 (e ▸ hx)
   exact (Pk hne).2 (h x (by simp [hx])))
  have ha:=h a (by simp)
  rw [O8 ha] at this
  have:0 < r.length:=Pc ha
  rw [LU]; omega
theorem nA {α : Type} [DecidableEq α] {l r:List α} (h1:l.Nodup) (h2:r.Nodup) (h:∀ x,x∈l↔x∈r):l.length=r.length :=
 OX (cZ h1 fun x hx=>(h x).1 hx) (cZ h2 fun x hx=>(h x).2 hx)
def mnI (m:Int) (x:Nat):Int:=if m < 0 then (x:Int) else if (x:Int) < m then (x:Int) else m
def mxI (m:Int) (x:Nat):Int:=maxI m (x:Int)
theorem Bz:∀ (T:List Nat) (m:Int),-1≤m→(T=[]∧T.foldl mnI m=m)∨∃ r:Int,T.foldl mnI m=r∧0≤r∧((∃ x∈T,r=(x:Int))∨r=m)∧(∀ x∈T,r≤(x:Int))∧(0≤m→r≤m)
 | [],m,_=>.inl ⟨rfl,rfl⟩
 | x :: T,m,hm=>by
  right
  rw [OW]
  have h0:0≤mnI m x:=by unfold mnI; split <;> first | omega | (split <;> omega)
  have h1:mnI m x=(x:Int)∨mnI m x=m:=by unfold mnI; split <;> first | exact .inl rfl | (split <;> first | exact .inl rfl | exact .inr rfl)
  have h2:mnI m x≤(x:Int):=by unfold mnI; split <;> first | omega | (split <;> omega)
  have h3:0≤m→mnI m x≤m:=by unfold mnI; intro h; split <;> first | omega | (split <;> omega)
  rcases Bz T (mnI m x) (by omega) with ⟨rfl,h⟩ | ⟨r,e,g1,g2,g3,g4⟩
  ·refine ⟨mnI m x,h,h0,?_,?_,h3⟩
   ·rcases h1 with h1 | h1
    ·exact .inl ⟨x,by simp,h1⟩
    ·exact .inr h1
   ·intro y hy; simp at hy; subst hy; exact h2
  ·refine ⟨r,e,g1,?_,?_,?_⟩
   ·rcases g2 with ⟨y,hy,g2⟩ | g2
    ·exact .inl ⟨y,by simp [hy],g2⟩
    ·rcases h1 with h1 | h1
     ·exact .inl ⟨x,by simp,by rw [g2,h1]⟩
     ·exact .inr (by rw [g2,h1])
   ·intro y hy
    rcases B7.1 hy with rfl | hy
    ·have:=g4 h0; omega
    ·exact g3 y hy
   ·intro h; have:=g4 h0; have:=h3 h; omega
theorem Cv:∀ (T:List Nat) (m:Int),m≤T.foldl mxI m∧(T.foldl mxI m=m∨∃ x∈T,T.foldl mxI m=(x:Int))∧∀ x∈T,(x:Int)≤T.foldl mxI m
 | [],m=>⟨Nb _,.inl rfl,by simp⟩
 | x :: T,m=>by
  rw [OW]
  obtain ⟨h1,h2,h3⟩:=Cv T (mxI m x)
  have g1:m≤mxI m x∧(x:Int)≤mxI m x∧(mxI m x=m∨mxI m x=(x:Int)):=by unfold mxI maxI; split <;> omega
  refine ⟨by omega,?_,?_⟩
  ·rcases h2 with h2 | ⟨y,hy,h2⟩
   ·rw [h2]
    rcases g1.2.2 with g | g
    ·exact .inl g
    ·exact .inr ⟨x,by simp,g⟩
   ·exact .inr ⟨y,by simp [hy],h2⟩
  ·intro y hy
   rcases B7.1 hy with rfl | hy
   ·omega
   ·exact h3 y hy
theorem Eo {T s:List Nat} (hs:s.Pairwise (· < ·)) (h:∀ x,x∈T↔x∈s):T.foldl mnI (-1)=cT s:=by
 rcases Bz T (-1) (by omega) with ⟨rfl,e⟩ | ⟨r,e,g1,g2,g3,_⟩
 ·have:s=[]:=by
   cases s with
   | nil=>rfl
   | cons a s=>have:=(h a).2 (by simp); simp at this
  rw [e,this]; rfl
 ·rcases g2 with ⟨x,hx,g2⟩ | g2
  ·have hxs:=(h x).1 hx
   obtain ⟨m,e1,e2,e3⟩:=tV hs (by intro e; rw [e] at hxs; simp at hxs)
   have:=g3 m ((h m).2 e2)
   have:=e3 x hxs
   rw [e,e1]; omega
  ·omega
theorem Hs {T s:List Nat} (hs:s.Pairwise (· < ·)) (h:∀ x,x∈T↔x∈s):T.foldl mxI (-1)=gC s:=by
 obtain ⟨h1,h2,h3⟩:=Cv T (-1)
 by_cases hne:s=[]
 ·have:T=[]:=by
   cases T with
   | nil=>rfl
   | cons a T=>have:=(h a).1 (by simp); rw [hne] at this; simp at this
  rw [this,hne]; rfl
 ·obtain ⟨m,e1,e2,e3⟩:=xK hs hne
  have hm:=h3 m ((h m).2 e2)
  rcases h2 with h2 | ⟨x,hx,h2⟩
  ·omega
  ·have:=e3 x ((h x).1 hx)
   rw [e1]; omega
section
variable {N:Nat} {E:List Arc} {A:List (List Int)}
def fO (ea:List Bool) (c:List Int) (_:Nat) (T:List Nat) (u:Int):Option (List Nat⊕Unit) :=
 if ea.getD u.toNat false=true then (if u∈c then some (.inl (T++[c.idxOf u])) else some (.inr ())) else some (.inl T)
theorem zR (l c:List Int) (ea:List Bool) (w:Int) (hl:∀ u∈l,0≤u∧u < (ea.length:Int)) (hlen:l.length≤1000000) (hc:c.length≤1000000) (hcn:c.Nodup) :
  yR (l,c,ea,w,-1,-1,0,(l.length:Nat),0,())=(ae (fO ea c) 0 [] l).bind (LV (fun T=>some (.inr (.inl (c,w,T.foldl mnI (-1),T.foldl mxI (-1),(T.length:Int),())))) (fun _=>some (.inl (false,())))):=by
 refine dp (B:=qU) (fun i (T:List Nat)=>T.length≤i) (fun T i=>(l,c,ea,w,T.foldl mnI (-1),T.foldl mxI (-1),(T.length:Int),((l.length:Nat):Int),(i:Int),()))
  (fun T=>.inr (.inl (c,w,T.foldl mnI (-1),T.foldl mxI (-1),(T.length:Int),()))) (fun _=>.inl (false,())) (fO ea c) l ?_ ?_ ?_ [] (A7 _)
 ·intro T i u hT hu
  have hi:i < l.length:=(A2.1 hu).1
  obtain ⟨u0,u1⟩:=hl u (A5 hu)
  have hul:u.toNat < ea.length:=by omega
  unfold qU
  simp only
  rw [aJ (by omega),cond_true,ay hi,dn,hu,dn,yu u0,gr hul,dn]
  unfold fO
  rw [A8,gr hul,NS]
  cases hb:ea[u.toNat] with
  | false=>simp only [OD,cond_true,aZ (show i < 9223372036854775807 by omega)]; rfl
  | true =>
   simp only [Mp,cond_false,if_true]
   rcases tq c u (by omega) with ⟨k1,k2⟩ | ⟨k,k1,k2⟩
   ·rw [k1,dn,if_neg k2]
    rfl
   ·have hk:=(A2.1 k1).1
    have hku:c[k]=u:=(A2.1 k1).2
    have hm:u∈c:=by rw [← hku]; exact L3 hk
    have hidx:c.idxOf u=k:=by rw [← hku]; exact hcn.idxOf_getElem k hk
    rw [k2,dn,if_pos hm,hidx]
    simp only [dn,B8,List.foldl_append,OW,List.foldl_nil,Mb,LU,List.length_nil]
    rw [aC (show (0:Int)≤(k:Int) by omega),cond_false,aZ (show i < 9223372036854775807 by omega),aZ (show T.length < 9223372036854775807 by omega)]
    generalize T.foldl mnI (-1)=m0
    generalize T.foldl mxI (-1)=x0
    unfold mnI mxI
    by_cases h1:m0 < 0
    ·rw [aJ h1,cond_true,if_pos h1]
    ·rw [aC (by omega),cond_false,if_neg h1]
     by_cases h2:(k:Int) < m0
     ·rw [aJ h2,cond_true,if_pos h2]
     ·rw [aC (by omega),cond_false,if_neg h2]
 ·intro T i u t hT hu hg
  unfold fO at hg
  split at hg
  ·split at hg
   ·cases hg; simp; omega
   ·cases hg
  ·cases hg; omega
 ·intro T hT
  unfold qU
  simp only
  rw [aC (by omega)]; rfl
theorem BF {ea:List Bool} {c:List Int} {i:Nat} {T:List Nat} {u:Int} (h:ea.getD u.toNat false=false):fO ea c i T u=some (.inl T):=by unfold fO; rw [h]; rfl
theorem Bl {ea:List Bool} {c:List Int} {i:Nat} {T:List Nat} {u:Int} (h:ea.getD u.toNat false=true) (hu:u∈c):fO ea c i T u=some (.inl (T++[c.idxOf u])):=by unfold fO; rw [if_pos h,if_pos hu]
theorem GV {ea:List Bool} {c:List Int} {i:Nat} {T:List Nat} {u:Int} (h:ea.getD u.toNat false=true) (hu:u∉c):fO ea c i T u=some (.inr ()):=by unfold fO; rw [if_pos h,if_neg hu]
theorem vO {ea:List Bool} {c:List Int}:∀ (l:List Int) (i:Nat) (T:List Nat),(∀ u∈l.filter fun u=>ea.getD u.toNat false,u∈c)→ae (fO ea c) i T l=some (.inl (T++(l.filter fun u=>ea.getD u.toNat false).map (c.idxOf ·)))
 | [],i,T,_=>by simp [ae]
 | u :: l,i,T,h=>by
  simp only [ae]
  cases hb:ea.getD u.toNat false with
  | false =>
   rw [BF hb,dn,B8,vO l (i+1) T (fun x hx=>h x (by rw [Nr,hb]; exact hx)),Nr,hb]
   rfl
  | true =>
   have hu:u∈c:=h u (by rw [Nr,hb]; simp)
   rw [Bl hb hu,dn,B8,vO l (i+1) _ (fun x hx=>h x (by rw [Nr,hb]; simp only [if_true]; exact List.mem_cons_of_mem _ hx)),Nr,hb]
   simp
theorem AI {ea:List Bool} {c:List Int}:∀ (l:List Int) (i:Nat) (T:List Nat),(∃ u∈l.filter fun u=>ea.getD u.toNat false,u∉c)→ae (fO ea c) i T l=some (.inr ())
 | [],i,T,h=>by obtain ⟨u,hu,_⟩:=h; simp at hu
 | u :: l,i,T,h=>by
  simp only [ae]
  obtain ⟨x,hx,hxc⟩:=h
  cases hb:ea.getD u.toNat false with
  | false =>
   rw [Nr,hb] at hx
   rw [BF hb,dn,B8]
   exact AI l (i+1) T ⟨x,hx,hxc⟩
  | true =>
   rw [Nr,hb] at hx
   by_cases hu:u∈c
   ·rw [Bl hb hu,dn,B8]
    rcases B7.1 (show x∈u :: l.filter (fun u=>ea.getD u.toNat false) by simpa only [if_true] using hx) with rfl | hx
    ·exact absurd hu hxc
    ·exact AI l (i+1) _ ⟨x,hx,hxc⟩
   ·rw [GV hb hu]
    rfl
structure BefOK (N:Nat) (ea:List Bool) (bef c:List Int):Prop where
 len:ea.length=N
 mem:∀ u:Nat,u < N→(ea.getD u false=true↔(u:Int)∈bef)
 lt:∀ u∈bef,0≤u∧u < (N:Int)
 nodup:bef.Nodup
 cnodup:c.Nodup
 csub:∀ u∈c,u∈bef
theorem FE (h:Tri N E A) {ea:List Bool} {bef c:List Int} (hB:BefOK N ea bef c) {w:Nat} (hw:w < N) :
  Zbc (((N:Int),E,A,()),c,ea,(w:Int),())=some (sw (dh E bef c (w:Int))):=by
 have hN:=h.rot.n16
 have hbl:bef.length≤N:=by
  have:=jO N (bef.map Int.toNat) (by
   rw [Nd,OR]
   refine (Nd.1 hB.nodup).imp_of_mem fun {a b} ha hb hne e=>hne ?_
   have:=hB.lt a ha; have:=hB.lt b hb; omega) (fun x hx=>by
   obtain ⟨u,hu,rfl⟩:=Nv.1 hx
   have:=hB.lt u hu; omega)
  rwa [N8] at this
 have hcl:c.length≤N:=Mz (cZ hB.cnodup hB.csub) hbl
 obtain ⟨l,hl⟩ : ∃ l,A[w]?=some l:=⟨_,gr (by rw [h.rot.al]; exact hw)⟩
 have hll:=h.rot.list_len (A5 hl)
 have hm1:=h.rot.m1
 have hmem:=Gp h.rot hl
 have hnl:(eT E l).length=l.length:=by unfold eT; rw [N8]
 unfold Zbc
 simp only
 rw [HD h.rot hl,dn]
 simp only
 rw [zR (eT E l) c ea (w:Int) (fun u hu=>by
  have:=nV h.rot ((hmem u).1 hu)
  rw [hB.len]; exact ⟨this.1,this.2.1⟩) (by omega) (by omega) hB.cnodup]
 -- the neighbors that came before
 have ht:∀ u,u∈(eT E l).filter (fun u=>ea.getD u.toNat false)↔u∈bef∧ab E u (w:Int)=true:=by
  intro u
  rw [ML,hmem]
  constructor
  ·rintro ⟨h1,h2⟩
   have:=nV h.rot h1
   have h3:=(hB.mem u.toNat (by omega)).1 h2
   rw [show ((u.toNat:Nat):Int)=u by omega] at h3
   exact ⟨h3,h1⟩
  ·rintro ⟨h1,h2⟩
   have:=hB.lt u h1
   exact ⟨h2,(hB.mem u.toNat (by omega)).2 (by rw [show ((u.toNat:Nat):Int)=u by omega]; exact h1)⟩
 have htn:((eT E l).filter (fun u=>ea.getD u.toNat false)).Nodup:=(zZ h hl).sublist Nq
 have hfb:∀ r:List Int,r.countP (ab E · (w:Int))=(r.filter (ab E · (w:Int))).length:=fun r=>N6 ..
 have htl:((eT E l).filter (fun u=>ea.getD u.toNat false)).length=bef.countP (ab E · (w:Int)):=by
  rw [hfb]
  refine nA htn (hB.nodup.sublist Nq) fun x=>?_
  rw [ht,ML]
 unfold dh
 by_cases hall:∀ u∈(eT E l).filter (fun u=>ea.getD u.toNat false),u∈c
 ·rw [vO _ 0 [] hall]
  simp only [dn,B8,NX,MF,N8]
  -- the places are the same
  have hset:∀ x,x∈((eT E l).filter (fun u=>ea.getD u.toNat false)).map (c.idxOf ·)↔x∈js (ab E · (w:Int)) 0 c:=by
   intro x
   rw [Nv,jU]
   constructor
   ·rintro ⟨u,hu,rfl⟩
    have huc:=hall u hu
    exact ⟨MJ _,u,by rw [OE,gr (List.idxOf_lt_length_iff.2 huc),List.getElem_idxOf],((ht u).1 hu).2⟩
   ·rintro ⟨_,u,hu,hj⟩
    rw [OE] at hu
    have hx:=(A2.1 hu).1
    have hxu:c[x]=u:=(A2.1 hu).2
    have huc:u∈c:=by rw [← hxu]; exact L3 hx
    exact ⟨u,(ht u).2 ⟨hB.csub u huc,hj⟩,by rw [← hxu]; exact hB.cnodup.idxOf_getElem x hx⟩
  have hcnt:bef.countP (ab E · (w:Int))=(js (ab E · (w:Int)) 0 c).length:=by
   rw [oC,hfb,hfb]
   refine nA (hB.nodup.sublist Nq) (hB.cnodup.sublist Nq) fun x=>?_
   rw [ML,ML]
   constructor
   ·rintro ⟨h1,h2⟩
    exact ⟨hall x ((ht x).2 ⟨h1,h2⟩),h2⟩
   ·rintro ⟨h1,h2⟩
    exact ⟨hB.csub x h1,h2⟩
  rw [Eo gl hset,Hs gl hset,htl,hcnt]
  by_cases h1:(js (ab E · (w:Int)) 0 c).length < 2
  ·rw [aJ (by omega),cond_true,if_pos (.inl h1)]
   rfl
  ·rw [aC (by omega),cond_false]
   obtain ⟨p,q,e1,e2,hpq,hq,_⟩:=places (P:=(ab E · (w:Int))) (c:=c) (by omega)
   have hjl:(js (ab E · (w:Int)) 0 c).length≤c.length:=by rw [oC]; exact List.countP_le_length
   by_cases h3:gC (js (ab E · (w:Int)) 0 c) - cT (js (ab E · (w:Int)) 0 c)+1=((js (ab E · (w:Int)) 0 c).length:Int)
   ·rw [dF (by rw [cC (by omega) (by omega),cC (by omega) (by omega)]; omega),cond_false,if_neg (by rintro (h | h | h); exact h1 h; exact h rfl; exact h h3),e1,e2,aZ (by omega)]
    unfold co
    rw [if_pos ⟨by omega,by omega,by omega⟩,dn]
    have t1:(Oi (((p+1:Nat):Int)).toNat c).drop (0:Int).toNat=c.take (p+1):=by simp
    rw [t1,tv _ (by simp; omega),dn]
    simp only
    rw [da (by simp; omega),dn,if_pos ⟨by omega,by omega,by omega⟩,dn]
    have t2:(Oi ((c.length:Nat):Int).toNat c).drop ((q:Int)).toNat=c.drop q:=by
     simp only [B2]
     rw [Na]
    rw [t2,da (by simp; omega),dn]
    unfold sw
    simp only [B2]
    rw [show ((p:Int)+1).toNat=p+1 by omega]
    simp
   ·rw [fT (by rw [cC (by omega) (by omega),cC (by omega) (by omega)]; omega),cond_true,if_pos (.inr (.inr h3))]
    rfl
 ·have hbad:∃ u∈(eT E l).filter (fun u=>ea.getD u.toNat false),u∉c:=Classical.byContradiction fun hn=>hall fun u hu=>Classical.byContradiction fun hc=>hn ⟨u,hu,hc⟩
  rw [AI _ 0 [] hbad]
  obtain ⟨u,hu,huc⟩:=hbad
  obtain ⟨hu1,hu2⟩:=(ht u).1 hu
  have hlt:(js (ab E · (w:Int)) 0 c).length < bef.countP (ab E · (w:Int)):=by
   rw [oC,hfb,hfb]
   have:=cZ (l:=u :: c.filter (ab E · (w:Int))) (r:=bef.filter (ab E · (w:Int))) (MU.2 ⟨fun hm=>huc (ML.1 hm).1,hB.cnodup.sublist Nq⟩) (fun x hx=>by
    rcases B7.1 hx with rfl | hx
    ·exact ML.2 ⟨hu1,hu2⟩
    ·obtain ⟨g1,g2⟩:=ML.1 hx
     exact ML.2 ⟨hB.csub x g1,g2⟩)
   rw [LU] at this
   omega
  rw [if_pos (.inr (.inl (by omega)))]
  rfl
end
end Go.Vm

/-
 StraightShifts: the contours of an order, and whether it is canonical, in both.
-/
namespace Go.Vm
open Go.Proofs
set_option maxRecDepth 100000
attribute [local irreducible] aa
def bV (E:List Arc):List Int→List Int→List Int→Option (List Int)
 | _,c,[]=>some c
 | bef,c,w :: r=>(dh E bef c w).bind fun c'=>bV E (bef++[w]) c' r
theorem fb {E:List Arc} {bef c c':List Int} {w:Int} (h:dh E bef c w=some c'):∃ p q:Nat,cT (js (ab E · w) 0 c)=(p:Int)∧gC (js (ab E · w) 0 c)=(q:Int)∧p < q∧q < c.length ∧
  c'=c.take (p+1)++w :: c.drop q∧(js (ab E · w) 0 c).length=q - p+1∧(∀ x∈js (ab E · w) 0 c,p≤x∧x≤q)∧bef.countP (ab E · w)=q - p+1:=by
 unfold dh at h
 split at h
 ·cases h
 ·rename_i hn
  simp only [not_or,Nat.not_lt,ne_eq,Classical.not_not] at hn
  obtain ⟨h1,h2,h3⟩:=hn
  obtain ⟨p,q,e1,e2,hpq,hq,_,_,hx⟩:=places (P:=(ab E · w)) (c:=c) h1
  rw [e1,e2] at h h3
  refine ⟨p,q,e1,e2,hpq,hq,?_,by omega,hx,by omega⟩
  have:=B6 h
  rw [← this,B2,show ((p:Int)+1).toNat=p+1 by omega]
theorem oa {E:List Arc} {bef c c':List Int} {w:Int} (h:dh E bef c w=some c'):c'.length≤c.length+1:=by
 obtain ⟨p,q,_,_,h1,h2,rfl,_⟩:=fb h
 simp only [Mb,LU,Mw,MD]
 omega
theorem uy {E:List Arc} {bef c c':List Int} {w:Int} (h:dh E bef c w=some c') (hc:c.Nodup) (hs:∀ u∈c,u∈bef) (hw:w∉bef):c'.Nodup∧∀ u∈c',u∈bef++[w]:=by
 obtain ⟨p,q,_,_,h1,h2,rfl,_⟩:=fb h
 have hd:c.take (p+1)++c.drop q=c.take (p+1)++(c.drop (p+1)).drop (q - (p+1)):=by rw [List.drop_drop]; congr 2; omega
 have hsub:(c.take (p+1)++c.drop q).Sublist c:=by
  rw [hd]
  have:=Qb (PN (c.take (p+1))) (PD (q - (p+1)) (c.drop (p+1)))
  rwa [NV] at this
 have hn:=hc.sublist hsub
 obtain ⟨n1,n2,n3⟩:=MT.1 hn
 have hwc:w∉c:=fun hm=>hw (hs w hm)
 refine ⟨?_,?_⟩
 ·refine MT.2 ⟨n1,MU.2 ⟨fun hm=>hwc (M8 hm),n2⟩,?_⟩
  intro a ha b hb
  rcases B7.1 hb with rfl | hb
  ·exact fun e=>hwc (e ▸ Nk ha)
  ·exact n3 a ha b hb
 ·intro u hu
  rcases B3.1 hu with hu | hu
  ·exact B3.2 (.inl (hs u (Nk hu)))
  ·rcases B7.1 hu with rfl | hu
   ·simp
   ·exact B3.2 (.inl (hs u (M8 hu)))
section
variable {N:Nat} {E:List Arc} {A:List (List Int)}
theorem Im (o:List Int):∀ (r:List Int) (i:Nat) (c:List Int),(∀ j,r[j]?=o[i+2+j]?∨r[j]?=none) →
  ae (fun i c w=>(match dh E (o.take (i+2)) c w with | some c'=>some (.inl c') | none=>some (.inr ()):Option (List Int⊕Unit))) i c r=(match bV E (o.take (i+2)) c r with | some c'=>some (.inl c') | none=>some (.inr ()))
 | [],i,c,_=>rfl
 | w :: r,i,c,h=>by
  simp only [ae,bV]
  have hw:o[i+2]?=some w:=by
   rcases h 0 with h0 | h0
   ·simpa using h0.symm
   ·simp at h0
  cases hs:dh E (o.take (i+2)) c w with
  | none=>rfl
  | some c' =>
   simp only [dn,B8]
   have ht:o.take (i+2)++[w]=o.take (i+1+2):=by
    rw [show i+1+2=(i+2)+1 by omega,Oc (i:=i+2),hw]; rfl
   rw [ht]
   exact Im o r (i+1) c' (fun j=>by
    have:=h (j+1)
    rw [show i+2+(j+1)=i+1+2+j by omega] at this
    simpa using this)
theorem FA (hE:E.length≤1000000) (o:List Int) {k:Nat} (h2:2≤k) (hk:k≤o.length) (ho:o.length≤100000) :
  Zh (((N:Int),E,A,()),o,(k:Int),())=some (sw (bV E (o.take 2) (o.take 2) ((o.take k).drop 2))):=by
 have hl:((o.take k).drop 2).length=k - 2:=by rw [MD,Mw]; omega
 have hget:∀ j w,((o.take k).drop 2)[j]?=some w→o[j+2]?=some w∧j+2 < k:=by
  intro j w hj
  have hlt:=(A2.1 hj).1
  rw [Mq,L7] at hj
  rw [hl] at hlt
  rw [if_pos (by omega)] at hj
  exact ⟨by rw [Of]; exact hj,by omega⟩
 have key:=dp (B:=wd) (fun i (c:List Int)=>c.length≤i+2) (fun c i=>((N:Int),E,A,c,o,(k:Int),((i+2:Nat):Int),()))
  (fun c=>.inr (.inl (c,()))) (fun (_:Unit)=>.inl (false,())) (fun i c w=>(match dh E (o.take (i+2)) c w with | some c'=>some (.inl c') | none=>some (.inr ()):Option (List Int⊕Unit))) ((o.take k).drop 2) (by
   intro c i w hc hw
   obtain ⟨h3,h4⟩:=hget i w hw
   unfold wd
   simp only
   rw [aJ (by omega),cond_true,FU hE o c h3 (by omega) (by omega),dn]
   cases dh E (o.take (i+2)) c w with
   | none=>rfl
   | some c'=>simp only [sw,Mp,cond_false,dn,B8,aZ (show i+2 < 9223372036854775807 by omega)]) (by
   intro c i w t hc hw hg
   cases hs:dh E (o.take (i+2)) c w with
   | none=>rw [hs] at hg; cases hg
   | some c' =>
    rw [hs] at hg
    cases hg
    have:=oa hs
    omega) (by
   intro c hc
   unfold wd
   simp only
   rw [hl,show k - 2+2=k by omega,aC (by omega)]; rfl) (o.take 2) (by simp; omega)
 rw [Im o _ 0 (o.take 2) (fun j=>by
  cases hj:((o.take k).drop 2)[j]? with
  | none=>exact .inr rfl
  | some w=>left; rw [show 0+2+j=j+2 by omega]; exact (hget j w hj).1.symm)] at key
 obtain ⟨a,b,r,rfl⟩ : ∃ a b r,o=a :: b :: r:=by
  match o,hk with
  | a :: b :: r,_=>exact ⟨a,b,r,rfl⟩
  | [a],hk=>simp at hk; omega
  | [],hk=>simp at hk; omega
 unfold Zh
 simp only
 rw [show aF (a :: b :: r) 0=some a from rfl,show aF (a :: b :: r) 1=some b from rfl,dn,dn]
 rw [show DV ((N:Int),E,A,[a,b],a :: b :: r,(k:Int),2,())=_ from key]
 simp only [L9,Pp,O7]
 cases bV E [a,b] [a,b] ((Oi k (a :: b :: r)).drop 2) <;> rfl
def qF (N:Nat) (E:List Arc):List Int→List Int→List Int→Option (List Int)
 | _,c,[]=>some c
 | bef,c,w :: r=>if w < 0∨(N:Int)≤w∨w∈bef then none else (dh E bef c w).bind fun c'=>qF N E (bef++[w]) c' r
theorem ux:∀ {r bef c:List Int},(qF N E bef c r).isSome=true↔(bV E bef c r).isSome=true∧∀ (i:Nat) (w:Int),r[i]?=some w→0≤w∧w < (N:Int)∧w∉bef++r.take i
 | [],bef,c=>by simp [qF,bV]
 | w :: r,bef,c=>by
  unfold qF bV
  have hsplit:(∀ (i:Nat) (x:Int),(w :: r)[i]?=some x→0≤x∧x < (N:Int)∧x∉bef++(w :: r).take i)↔(0≤w∧w < (N:Int)∧w∉bef)∧∀ (i:Nat) (x:Int),r[i]?=some x→0≤x∧x < (N:Int)∧x∉bef++[w]++r.take i:=by
   constructor
   ·intro h
    refine ⟨by simpa using h 0 w rfl,fun i x hx=>?_⟩
    have:=h (i+1) x (by simpa using hx)
    simpa using this
   ·rintro ⟨h1,h2⟩ i x hx
    cases i with
    | zero=>simp at hx; subst hx; simpa using h1
    | succ i=>have:=h2 i x (by simpa using hx); simpa using this
  rw [hsplit]
  by_cases hw:w < 0∨(N:Int)≤w∨w∈bef
  ·rw [if_pos hw]
   simp only [Option.isSome_none,Bool.false_eq_true,false_iff]
   rintro ⟨_,⟨h1,h2,h3⟩,_⟩
   rcases hw with hw | hw | hw
   ·omega
   ·omega
   ·exact h3 hw
  ·rw [if_neg hw]
   simp only [not_or,PF,Qf] at hw
   cases dh E bef c w with
   | none=>simp
   | some c' =>
    simp only [dn]
    rw [ux]
    exact ⟨fun ⟨a,b⟩=>⟨a,⟨hw.1,hw.2.1,hw.2.2⟩,b⟩,fun ⟨a,_,b⟩=>⟨a,b⟩⟩
theorem sa (h:Tri N E A):∀ (r p:List Int) (ea:List Bool) (bef c:List Int) (out:List (List Int)) (g:List Int),p++r=g→BefOK N ea bef c→c.length≤p.length+2→out.length=p.length+1→g.length≤10000 →
  ∃ x,uN ((N:Int),E,A,ea,out,c,g,(g.length:Nat),(p.length:Int),())=some x∧((qF N E bef c r=none∧x=.inl (false,()))∨∃ e,(qF N E bef c r).isSome=true∧x=.inr (.inl (e,())))
 | [],p,ea,bef,c,out,g,hg,hB,hc,ho,hl=>by
  refine ⟨.inr (.inl (out,())),cf ?_,.inr ⟨out,rfl,rfl⟩⟩
  rw [List.append_nil] at hg
  subst hg
  unfold ov
  simp only
  rw [aC (by omega)]; rfl
 | w :: r,p,ea,bef,c,out,g,hg,hB,hc,ho,hl=>by
  have hN:=h.rot.n16
  have hgw:g[p.length]?=some w:=by rw [← hg]; simp
  have hpl:p.length < g.length:=(A2.1 hgw).1
  unfold qF
  by_cases hw:w < 0∨(N:Int)≤w∨w∈bef
  ·rw [if_pos hw]
   refine ⟨.inl (false,()),cf ?_,.inl ⟨rfl,rfl⟩⟩
   unfold ov
   simp only
   rw [aJ (by omega),cond_true,am,hgw,dn]
   by_cases h0:w < 0
   ·rw [aJ h0]; rfl
   ·rw [aC (by omega),cond_false]
    by_cases h1:(N:Int)≤w
    ·rw [tS h1]; rfl
    ·rw [iI (by omega),cond_false]
     have h2:w∈bef:=by rcases hw with hw | hw | hw; exact absurd hw h0; exact absurd hw h1; exact hw
     have hwl:w.toNat < ea.length:=by rw [hB.len]; omega
     have:=(hB.mem w.toNat (by omega)).2 (by rw [show ((w.toNat:Nat):Int)=w by omega]; exact h2)
     rw [A8,gr hwl,NS] at this
     rw [jX (by omega) (by omega),dn,gr hwl,dn,this]
     rfl
  ·rw [if_neg hw]
   simp only [not_or,PF,Qf] at hw
   obtain ⟨k,rfl⟩ : ∃ k:Nat,w=(k:Int):=⟨w.toNat,by omega⟩
   have hkN:k < N:=by omega
   have hkl:k < ea.length:=by rw [hB.len]; exact hkN
   have hek:ea[k]=false:=by
    cases he:ea[k] with
    | false=>rfl
    | true=>exact absurd ((hB.mem k hkN).1 (by rw [A8,gr hkl,he]; rfl)) hw.2.2
   have hstep:∀ y,y=ov ((N:Int),E,A,ea,out,c,g,(g.length:Nat),(p.length:Int),())→y=(match dh E bef c (k:Int) with
     | none=>some (.inr (.inl (false,())))
     | some c'=>some (.inl ((N:Int),E,A,ea.set k true,out++[c'],c',g,(g.length:Nat),((p.length+1:Nat):Int),()))):=by
    intro y hy
    rw [hy]
    unfold ov
    simp only
    rw [aJ (by omega),cond_true,am,hgw,dn,aC (by omega),cond_false,iI (by omega),cond_false,ay hkl,dn,gr hkl,dn,hek,cond_false,FE h hB hkN,dn]
    cases dh E bef c (k:Int) with
    | none=>rfl
    | some c' =>
     simp only [sw,Mp,cond_false]
     rw [dn,gr hkl,dn,da (by simp; omega),dn,aZ (by omega)]
   have hs0:=hstep _ rfl
   cases hs:dh E bef c (k:Int) with
   | none =>
    rw [hs] at hs0
    exact ⟨_,cf hs0,.inl ⟨rfl,rfl⟩⟩
   | some c' =>
    rw [hs] at hs0
    simp only [dn]
    obtain ⟨n1,n2⟩:=uy hs hB.cnodup hB.csub hw.2.2
    have hB':BefOK N (ea.set k true) (bef++[(k:Int)]) c':=by
     refine ⟨by rw [Mk]; exact hB.len,fun u hu=>?_,fun u hu=>?_,?_,n1,n2⟩
     ·rw [A8,Ma]
      by_cases e:k=u
      ·subst e
       rw [if_pos rfl,if_pos hkl]
       simp
      ·rw [if_neg e,← A8,hB.mem u hu]
       simp
       omega
     ·rcases B3.1 hu with hu | hu
      ·exact hB.lt u hu
      ·simp at hu; subst hu; omega
     ·refine MT.2 ⟨hB.nodup,by simp,fun a ha b hb=>?_⟩
      simp at hb
      subst hb
      exact fun e=>hw.2.2 (e ▸ ha)
    have:=oa hs
    obtain ⟨x,x1,x2⟩:=sa h r (p++[(k:Int)]) (ea.set k true) (bef++[(k:Int)]) c' (out++[c']) g (by simp [hg]) hB' (by simp; omega) (by simp; omega) hl
    refine ⟨x,(c7 hs0).trans ?_,x2⟩
    rw [show p.length+1=(p++[(k:Int)]).length by simp]
    exact x1
end
end Go.Vm

/-
 StraightShifts: Check, in the program and in the reference.
-/
namespace Go.Vm
open Go.Proofs
set_option maxRecDepth 100000
attribute [local irreducible] aa
theorem IT (l:List Int) (v:Int) (hl:l.length≤1000000):Zap (l,v,())=some (decide (v∈l),()):=by
 have h:=jF (B:=qX) (fun (_:Unit) i=>(l,v,(i:Int),())) (fun _=>.inr (.inl ())) (fun (_:Unit)=>.inl (true,()))
  (fun _ (_:Unit) (x:Int)=>some (cond (eqI x v) (.inr ()) (.inl ()))) l (by
   intro _ i x hx
   have hi:i < l.length:=(A2.1 hx).1
   unfold qX
   simp only
   rw [aJ (by omega),cond_true,am,hx,dn,aZ (by omega)]
   cases eqI x v <;> rfl) (by
   intro _
   unfold qX
   simp only
   rw [aC (by omega)]; rfl) ()
 unfold Zap zH
 dsimp only
 rw [show ((0:Int))=((0:Nat):Int) from rfl,h,mT]
 have:l.any (fun x=>eqI x v)=decide (v∈l):=by
  rw [Bool.eq_iff_iff,ME,decide_eq_true_eq]
  simp only [eqI,beq_iff_eq]
  exact ⟨fun ⟨x,h1,h2⟩=>h2 ▸ h1,fun h=>⟨v,h,rfl⟩⟩
 rw [this]
 cases decide (v∈l) <;> rfl
def dI (N:Nat) (o:List Int) (i:Nat) (w:Int):Bool:=ltI w 0 || geI w (N:Int) || decide (w∈o.take i)
theorem FZ {N:Nat} {o:List Int}:∀ (r:List Int) (i:Nat),(ae (fun i (_:Unit) w=>(some (cond (dI N o i w) (.inr ()) (.inl ())):Option (Unit⊕Unit))) i () r=some (.inl ())∧∀ (j:Nat) w,r[j]?=some w→dI N o (i+j) w=false) ∨
  (ae (fun i (_:Unit) w=>(some (cond (dI N o i w) (.inr ()) (.inl ())):Option (Unit⊕Unit))) i () r=some (.inr ())∧∃ (j:Nat) (w:Int),r[j]?=some w∧dI N o (i+j) w=true):=fun r i=>m9 (dI N o) r i
section
variable {N:Nat} {E:List Arc} {A:List (List Int)}
theorem Tri.edges70 (h:Tri N E A):0 < E.length:=by
 have h3:=h.three
 have hr:=h.conn 1 (by omega)
 cases hr with
 | step _ hk _ _=>omega
structure Can (N:Nat) (E:List Arc) (o:List Int):Prop where
 len:o.length=N
 ok:∀ (i:Nat) (w:Int),o[i]?=some w→0≤w∧w < (N:Int)∧w∉o.take i
 e0:o[0]?=some (tl E 0)
 e1:o[1]?=some (tl E 1)
 cont:(bV E (o.take 2) (o.take 2) (o.drop 2)).isSome=true
theorem yl (o:List Int) (ho:o.length≤1000):qS ((N:Int),E,A,o,0,())=some (.inl (false,()))∧(∃ (i:Nat) (w:Int),o[i]?=some w∧dI N o i w=true) ∨
  qS ((N:Int),E,A,o,0,())=some (.inr (.inl ((N:Int),E,A,o,())))∧∀ (i:Nat) (w:Int),o[i]?=some w→dI N o i w=false:=by
 have key:=jF (B:=rK) (fun (_:Unit) i=>((N:Int),E,A,o,(i:Int),())) (fun _=>.inr (.inl ((N:Int),E,A,o,()))) (fun (_:Unit)=>.inl (false,()))
  (fun i (_:Unit) w=>(some (cond (dI N o i w) (.inr ()) (.inl ())):Option (Unit⊕Unit))) o (by
   intro _ i w hw
   have hi:i < o.length:=(A2.1 hw).1
   unfold rK
   simp only
   rw [aJ (by omega),cond_true]
   simp only [am,hw,dn]
   unfold dI
   cases ltI w 0 with
   | true=>rfl
   | false =>
    cases geI w (N:Int) with
    | true=>rfl
    | false =>
     simp only [cond_false,Bool.false_or]
     unfold co
     rw [if_pos ⟨by omega,by omega,by omega⟩,dn]
     have t1:(Oi ((i:Int)).toNat o).drop (0:Int).toNat=o.take i:=by simp
     rw [t1,IT _ _ (by simp; omega),dn,aZ (by omega)]
     cases decide (w∈o.take i) <;> rfl) (by
   intro _
   unfold rK
   simp only
   rw [aC (by omega)]; rfl) ()
 rcases FZ (N:=N) (o:=o) o 0 with ⟨h1,h2⟩ | ⟨h1,j,w,h2,h3⟩
 ·rw [h1] at key
  exact .inr ⟨key,fun i w hw=>by have:=h2 i w hw; rwa [L9] at this⟩
 ·rw [h1] at key
  exact .inl ⟨key,j,w,h2,by rwa [L9] at h3⟩
theorem uO {o:List Int} {i:Nat} {w:Int}:dI N o i w=false↔0≤w∧w < (N:Int)∧w∉o.take i:=by
 unfold dI
 simp only [N5,ltI,geI,decide_eq_false_iff_not]
 exact ⟨fun ⟨⟨h1,h2⟩,h3⟩=>⟨by omega,by omega,h3⟩,fun ⟨h1,h2,h3⟩=>⟨⟨by omega,by omega⟩,h3⟩⟩
theorem AB (h:Tri N E A) (ht:Zc (((N:Int),E,A,()),())=some (true,())) (hr:Zb (((N:Int),E,A,()),())=some (true,())) (o:List Int) (ho:o.length≤20) :
  ∃ b,Zba (((N:Int),E,A,()),o,())=some (b,())∧Zac (((N:Int),E,A,()),o,())=some (b,())∧(b=true→Can N E o∧∃ nx,∃ y:Nat,Fol oth E A nx∧nx[0]?=some (y:Int)∧o[N - 1]?=some (tl E (oth y))):=by
 have h3:=h.three
 have hm1:=h.rot.m1
 obtain ⟨c,c1,c2,c3,c4,c5,c6,nx,y,n1,n2,n3⟩:=I0 h.rot h.edges70
 have hE:=h.edges70
 obtain ⟨v0,d0,v0n⟩:=h.rot.tl_lt (show 0 < 2 * E.length by omega)
 obtain ⟨v1,d1,v1n⟩:=h.rot.tl_lt (show 1 < 2 * E.length by omega)
 have hne:tl E 0≠tl E 1:=by
  have:=DW h.rot (show 0 < 2 * E.length by omega)
  have e:oth 0=1:=rfl
  rw [e] at this
  unfold tln at this
  intro e'
  exact this (by rw [e'])
 unfold Zba Zav Zac
 simp only
 rw [ht,hr,dn,dn]
 simp only [Mp,cond_false]
 by_cases hl:o.length=N
 ·rw [dF (by omega),cond_false,cond_false]
  obtain ⟨a,b,r,rfl⟩ : ∃ a b r,o=a :: b :: r:=by
   match o,hl with
   | a :: b :: r,_=>exact ⟨a,b,r,rfl⟩
   | [a],hl=>simp at hl; omega
   | [],hl=>simp at hl; omega
  have g0:aF (a :: b :: r) 0=some a:=rfl
  have g1:aF (a :: b :: r) 1=some b:=rfl
  obtain ⟨z,gz⟩ : ∃ z,(a :: b :: r)[N - 1]?=some z:=⟨_,gr (by omega)⟩
  have gN:aF (a :: b :: r) (bE .i64 (N:Int) 1)=some z:=by
   rw [pD (by omega),show ((N:Int) - 1)=((N - 1:Nat):Int) by omega,am,gz]
  rw [g0,c3,c1,g1,c4,gN]
  simp only [dn]
  -- the reference
  have href:∀ y,y=(qS ((N:Int),E,A,a :: b :: r,0,())).bind (LV (fun z3=>some (z3.1,())) (LV (fun (a_4,b_4,c_4,d_4,_)=>(Zam ((a_4,b_4,c_4,()),())).bind fun r5=>(aF d_4 0).bind fun y6=>cond (neI y6 r5.1) (some (false,())) ((aF d_4 1).bind fun y7=>cond (neI y7 r5.2.1) (some (false,())) ((aF d_4 (bE .i64 a_4 1)).bind fun y8=>cond (neI y8 r5.2.2.1) (some (false,())) ((Zh ((a_4,b_4,c_4,()),d_4,a_4,())).bind fun r9=>some (r9.2.1,()))))) (fun _=>none))) →
    ((∀ (i:Nat) (w:Int),(a :: b :: r)[i]?=some w→dI N (a :: b :: r) i w=false)→y=cond (neI a (tl E 0)) (some (false,())) (cond (neI b (tl E 1)) (some (false,())) (cond (neI z c) (some (false,())) (some ((bV E [a,b] [a,b] r).isSome,()))))) ∧
    ((∃ (i:Nat) (w:Int),(a :: b :: r)[i]?=some w∧dI N (a :: b :: r) i w=true)→y=some (false,())):=by
   intro y hy
   rcases yl (N:=N) (E:=E) (A:=A) (a :: b :: r) (by omega) with ⟨k1,j,w,k2,k3⟩ | ⟨k1,k2⟩
   ·rw [k1] at hy
    refine ⟨fun hh=>?_,fun _=>hy⟩
    rw [hh j w k2] at k3; cases k3
   ·rw [k1] at hy
    refine ⟨fun _=>?_,fun ⟨j,w,k3,k4⟩=>by rw [k2 j w k3] at k4; cases k4⟩
    rw [hy]
    simp only [dn,NX,B8]
    rw [c2,g0,g1,gN]
    simp only [dn]
    rw [FA (by omega) (a :: b :: r) (by omega) (by omega) (by omega)]
    have e1:((a :: b :: r).take N).drop 2=r:=by rw [← hl,Na]; rfl
    rw [e1]
    simp only [dn,Pp,O7]
    cases bV E [a,b] [a,b] r <;> rfl
  obtain ⟨href1,href2⟩:=href _ rfl
  by_cases ha:a=tl E 0
  ·rw [dF ha] at href1 ⊢
   by_cases hb:b=tl E 1
   ·rw [dF hb] at href1 ⊢
    by_cases hz:z=c
    ·rw [dF hz] at href1 ⊢
     simp only [cond_false] at href1 ⊢
     have e8:eN .bool (N:Int) (N:Int)=some (A6 N false):=dr (A7 _) (by have:=h.rot.n16; omega)
     rw [e8,dn]
     have ea:a=(v0:Int):=by rw [ha,d0]
     have eb:b=(v1:Int):=by rw [hb,d1]
     have hv:v0≠v1:=by intro e; exact hne (by rw [d0,d1,e])
     have i1:(aO (A6 N false).length a)=some v0:=by rw [ea]; exact ay (by simpa using v0n)
     have i2:(aO ((A6 N false).set v0 true).length b)=some v1:=by rw [eb]; exact ay (by simpa using v1n)
     obtain ⟨q1,hq1⟩ : ∃ q,(A6 N false)[v0]?=some q:=⟨_,gr (by simpa using v0n)⟩
     obtain ⟨q2,hq2⟩ : ∃ q,((A6 N false).set v0 true)[v1]?=some q:=⟨_,gr (by simpa using v1n)⟩
     rw [i1,dn,hq1,dn,i2,dn,hq2,dn]
     have s1:co (a :: b :: r) 0 2=some [a,b]:=by
      unfold co
      rw [if_pos ⟨by omega,by omega,by simp; omega⟩]
      rfl
     have s2:co (a :: b :: r) 2 ((a :: b :: r).length:Nat)=some r:=by
      unfold co
      rw [if_pos ⟨by omega,by simp; omega,by omega⟩,B2,Na]
      rfl
     rw [s1,dn,tv _ (by simp),dn,s2,dn]
     have hB:BefOK N (((A6 N false).set v0 true).set v1 true) [a,b] [a,b]:=by
      refine ⟨by simp,fun u hu=>?_,fun u hu=>?_,?_,?_,fun u hu=>hu⟩
      ·rw [A8,Ma,Ma,MG]
       rw [ea,eb]
       by_cases k1:v1=u
       ·subst k1; simp [v1n]
       ·rw [if_neg k1]
        by_cases k2:v0=u
        ·subst k2; simp [v0n]
        ·rw [if_neg k2,if_pos hu]
         simp; omega
      ·rw [ea,eb] at hu
       simp at hu
       rcases hu with rfl | rfl <;> omega
      ·rw [ea,eb]; simp; omega
      ·rw [ea,eb]; simp; omega
     obtain ⟨x,x1,x2⟩:=sa h r [] _ [a,b] [a,b] [[a,b]] r rfl hB (by simp) rfl (by simp at ho; omega)
     rw [show uN ((N:Int),E,A,((A6 N false).set v0 true).set v1 true,[[a,b]],[a,b],r,(r.length:Nat),0,())=some x from x1]
     have hiff:=ux (N:=N) (E:=E) (r:=r) (bef:=[a,b]) (c:=[a,b])
     have hbadiff:(∀ (i:Nat) (w:Int),(a :: b :: r)[i]?=some w→dI N (a :: b :: r) i w=false)↔∀ (i:Nat) (w:Int),r[i]?=some w→0≤w∧w < (N:Int)∧w∉[a,b]++r.take i:=by
      constructor
      ·intro hh i w hw
       have:=uO.1 (hh (i+2) w (by simpa using hw))
       simpa using this
      ·intro hh i w hw
       rw [uO]
       match i,hw with
       | 0,hw=>simp at hw; subst hw; rw [ea]; simp; omega
       | 1,hw=>simp at hw; subst hw; rw [ea,eb]; simp; omega
       | i+2,hw=>have:=hh i w (by simpa using hw); simpa using this
     rcases x2 with ⟨y1,rfl⟩ | ⟨e,y1,rfl⟩
     ·refine ⟨false,rfl,?_,fun hh=>by cases hh⟩
      by_cases hall:∀ (i:Nat) (w:Int),(a :: b :: r)[i]?=some w→dI N (a :: b :: r) i w=false
      ·rw [href1 hall]
       cases hc:(bV E [a,b] [a,b] r).isSome with
       | false=>rfl
       | true =>
        have:=hiff.2 ⟨hc,hbadiff.1 hall⟩
        rw [y1] at this
        cases this
      ·refine href2 ?_
       refine Classical.byContradiction fun hn=>hall fun i w hw=>?_
       cases hq:dI N (a :: b :: r) i w with
       | false=>rfl
       | true=>exact absurd ⟨i,w,hw,hq⟩ hn
     ·obtain ⟨y2,y3⟩:=hiff.1 y1
      refine ⟨true,rfl,?_,fun _=>⟨⟨hl,fun i w hw=>uO.1 (hbadiff.2 y3 i w hw),by rw [← ha]; rfl,by rw [← hb]; rfl,y2⟩,nx,y,n1,n2,by rw [gz,hz,n3]⟩⟩
      rw [href1 (hbadiff.2 y3),y2]
    ·rw [fT hz] at href1 ⊢
     refine ⟨false,rfl,?_,fun hh=>by cases hh⟩
     by_cases hall:∀ (i:Nat) (w:Int),(a :: b :: r)[i]?=some w→dI N (a :: b :: r) i w=false
     ·exact href1 hall
     ·refine href2 (Classical.byContradiction fun hn=>hall fun i w hw=>?_)
      cases hq:dI N (a :: b :: r) i w with
      | false=>rfl
      | true=>exact absurd ⟨i,w,hw,hq⟩ hn
   ·rw [fT hb] at href1 ⊢
    refine ⟨false,rfl,?_,fun hh=>by cases hh⟩
    by_cases hall:∀ (i:Nat) (w:Int),(a :: b :: r)[i]?=some w→dI N (a :: b :: r) i w=false
    ·exact href1 hall
    ·refine href2 (Classical.byContradiction fun hn=>hall fun i w hw=>?_)
     cases hq:dI N (a :: b :: r) i w with
     | false=>rfl
     | true=>exact absurd ⟨i,w,hw,hq⟩ hn
  ·rw [fT ha] at href1 ⊢
   refine ⟨false,rfl,?_,fun hh=>by cases hh⟩
   by_cases hall:∀ (i:Nat) (w:Int),(a :: b :: r)[i]?=some w→dI N (a :: b :: r) i w=false
   ·exact href1 hall
   ·refine href2 (Classical.byContradiction fun hn=>hall fun i w hw=>?_)
    cases hq:dI N (a :: b :: r) i w with
    | false=>rfl
    | true=>exact absurd ⟨i,w,hw,hq⟩ hn
 ·rw [fT (by omega)]
  exact ⟨false,rfl,rfl,fun hh=>by cases hh⟩
end
end Go.Vm

/-
 StraightShifts: a round of the shift, in both: what moves, and by how much.
-/
namespace Go.Vm
open Go.Proofs
set_option maxRecDepth 100000
attribute [local irreducible] aa
abbrev PtS:=Int×(Int×Unit)
def mvT (b:Int) (at_:List PtS) (u:Int):List PtS:=at_.set u.toNat (aA .i64 (at_.getD u.toNat (0,0,())).1 b,(at_.getD u.toNat (0,0,())).2)
def gZ (at_:List PtS) (us:List Int) (b:Int):List PtS:=us.foldl (mvT b) at_
theorem vD (b:Int) (at_:List PtS) (u:Int):(mvT b at_ u).length=at_.length:=by simp [mvT]
theorem lD (b:Int):∀ (us:List Int) (at_:List PtS),(gZ at_ us b).length=at_.length
 | [],_=>rfl
 | u :: us,at_=>by
  show (gZ (mvT b at_ u) us b).length=_
  rw [lD b us,vD]
theorem uz (b:Int):∀ (us:List Int) (i:Nat) (s:List PtS),ae (ε:=Empty) (fun _ (s:List PtS) u=>some (.inl (mvT b s u))) i s us=some (.inl (gZ s us b))
 | [],i,s=>rfl
 | u :: us,i,s=>by
  simp only [ae,dn,B8]
  exact uz b us (i+1) (mvT b s u)
theorem IH (a:List (List Bool)) (at_:List PtS) (c:List (List Int)) (d:List Int) (e f g h:Int) (r:List Int) (k l:Int) (m n:Nat) (o p:Int) (j:Nat) (hv:∀ u∈aV c j,0≤u∧u < (at_.length:Int)) (hlen:(aV c j).length≤100000000000) :
  pP (a,at_,c,d,e,f,g,h,r,k,l,(m:Int),(n:Int),o,p,(j:Int),((aV c j).length:Nat),0,())=some (.inl (a,gZ at_ (aV c j) h,c,d,e,f,g,r,k,l,(m:Int),(n:Int),o,p,())):=by
 have key:=dp (B:=nH) (ε:=Empty) (fun _ (s:List PtS)=>s.length=at_.length) (fun s i=>(a,s,c,d,e,f,g,h,r,k,l,(m:Int),(n:Int),o,p,(j:Int),(((aV c j).length:Nat):Int),(i:Int),()))
  (fun s=>.inl (a,s,c,d,e,f,g,r,k,l,(m:Int),(n:Int),o,p,())) (fun e=>nomatch e) (fun _ (s:List PtS) u=>some (.inl (mvT h s u))) (aV c j) (by
   intro s i u hs hu
   have hi:i < (aV c j).length:=(A2.1 hu).1
   obtain ⟨u0,u1⟩:=hv u (A5 hu)
   have hul:u.toNat < s.length:=by omega
   unfold nH
   simp only [B2]
   rw [aJ (by omega),cond_true,ay hi,dn,hu,dn,jX u0 (by omega),dn,gr hul,dn,dn,dn,aZ (by omega)]
   simp only [dn,B8]
   unfold mvT
   rw [A8,gr hul]
   rfl) (by
   intro s i u t hs hu hg
   cases hg
   rw [vD]; exact hs) (by
   intro s hs
   unfold nH
   simp only [B2]
   rw [aC (by omega)]; rfl) at_ rfl
 rw [uz] at key
 exact key
def vk (mv:List (List Int)) (p q:Nat) (i:Nat) (s:List PtS×List Int) (u:Int):Option ((List PtS×List Int)⊕Empty) :=
 some (.inl (if p+1+i < q then (gZ s.1 (aV mv u.toNat) 1,s.2++aV mv u.toNat) else (gZ s.1 (aV mv u.toNat) 2,s.2)))
structure MvOK (N L:Nat) (mv:List (List Int)):Prop where
 len:mv.length=N
 mem:∀ w:Nat,w < N→(∀ u∈aV mv w,0≤u∧u < (N:Int))∧(aV mv w).length≤L
theorem g8 {mv:List (List Int)} {v w:Nat} {l:List Int} (h:v≠w):aV (mv.set v l) w=aV mv w:=by unfold aV; rw [M6 h]
theorem kT {mv:List (List Int)} {v:Nat} {l:List Int} (h:v < mv.length):aV (mv.set v l) v=l:=by unfold aV; rw [Nz h]; rfl
theorem MvOK.put {N L M:Nat} {mv:List (List Int)} {v:Nat} {l:List Int} (h:MvOK N L mv) (hv:v < N) (hl:∀ u∈l,0≤u∧u < (N:Int)) (hM:l.length≤M) (hLM:L≤M):MvOK N M (mv.set v l):=by
 refine ⟨by rw [Mk]; exact h.len,fun w hw=>?_⟩
 by_cases e:v=w
 ·subst e
  rw [kT (by rw [h.len]; exact hv)]
  exact ⟨hl,hM⟩
 ·rw [g8 e]
  exact ⟨(h.mem w hw).1,Mz (h.mem w hw).2 hLM⟩
def Dv (N L:Nat) (i:Nat) (s:List PtS×List Int):Prop:=s.1.length=N∧(∀ u∈s.2,0≤u∧u < (N:Int))∧s.2.length≤1+i * L
theorem xn {N L:Nat} {mv:List (List Int)} (h:MvOK N L mv) {p q i:Nat} {s t:List PtS×List Int} {u:Int} (hu:0≤u∧u < (N:Int)) (hs:Dv N L i s) (hg:vk mv p q i s u=some (.inl t)):Dv N L (i+1) t:=by
 obtain ⟨h1,h2,h3⟩:=hs
 obtain ⟨m1,m2⟩:=h.mem u.toNat (by omega)
 unfold vk at hg
 have hg:=B6 hg
 have hg:=Sum.inl.inj hg
 unfold Dv
 rw [Nat.add_mul,Nat.one_mul]
 split at hg
 ·subst hg
  refine ⟨by rw [lD]; exact h1,fun x hx=>?_,by rw [Mb]; omega⟩
  rcases B3.1 hx with hx | hx
  ·exact h2 x hx
  ·exact m1 x hx
 ·subst hg
  exact ⟨by rw [lD]; exact h1,h2,by show s.2.length≤_; omega⟩
theorem xE {mv:List (List Int)} {p q:Nat}:∀ (l:List Int) (i:Nat) (s:List PtS×List Int),∃ t,ae (vk mv p q) i s l=some (.inl t)
 | [],i,s=>⟨s,rfl⟩
 | u :: l,i,s=>by
  simp only [ae]
  unfold vk
  simp only [dn,B8]
  exact xE l (i+1) _
section
variable {N L:Nat} {mv:List (List Int)} {c:List Int} {v p q:Nat}
theorem K2 (h:MvOK N L mv) (hL:L≤100000000) (hcv:∀ u∈c,0≤u∧u < (N:Int)) (hvc:(v:Int)∉c) (hv:v < N) (hp:p < c.length) (hq:q < c.length) (hcl:c.length≤100)
  (a:List (List Bool)) (at_:List PtS) (hat:at_.length=N) (r:List Int) (rl ri:Int) (own:List Int) (hown:∀ u∈own,0≤u∧u < (N:Int)) (ho1:own.length≤1) :
  vX (a,at_,mv.set v own,c,(v:Int),(p:Int),(q:Int),r,rl,ri,((p+1:Nat):Int),((c.length - (p+1):Nat):Int),((c.length - (p+1):Nat):Int),0,()) =
   (ae (vk mv p q) 0 (at_,own) (c.drop (p+1))).bind (LV (fun t=>some (.inl (a,t.1,mv.set v t.2,c,(v:Int),(p:Int),(q:Int),r,rl,ri,()))) (fun e=>some (nomatch e))):=by
 have hdl:(c.drop (p+1)).length=c.length - (p+1):=by rw [MD]
 refine dp (B:=ng) (Dv N L) (fun s i=>(a,s.1,mv.set v s.2,c,(v:Int),(p:Int),(q:Int),r,rl,ri,((p+1:Nat):Int),((c.length - (p+1):Nat):Int),((c.length - (p+1):Nat):Int),(i:Int),()))
  (fun s=>.inl (a,s.1,mv.set v s.2,c,(v:Int),(p:Int),(q:Int),r,rl,ri,())) (fun e=>nomatch e) (vk mv p q) (c.drop (p+1)) ?_ ?_ ?_ (at_,own) ⟨hat,hown,by simpa using ho1⟩
 ·rintro ⟨s1,s2⟩ i u ⟨h1,h2,h3⟩ hu
  simp only at h1 h2 h3
  have hi:i < c.length - (p+1):=by have:=(A2.1 hu).1; omega
  rw [Mq] at hu
  have huc:=A5 hu
  obtain ⟨u0,u1⟩:=hcv u huc
  obtain ⟨w,rfl⟩ : ∃ w:Nat,u=(w:Int):=⟨u.toNat,by omega⟩
  have hw:w < N:=by omega
  have hne:v≠w:=fun e=>hvc (by rw [e]; exact huc)
  obtain ⟨m1,m2⟩:=h.mem w hw
  have hml:∀ x:List Int,(mv.set v x).length=N:=fun x=>by rw [Mk,h.len]
  have hsw:∀ x:List Int,aV (mv.set v x) w=aV mv w:=fun x=>g8 hne
  have hsv:∀ x:List Int,aV (mv.set v x) v=x:=fun x=>kT (by rw [h.len]; exact hv)
  have hbound:s2.length+(aV mv w).length≤68719476736:=by
   have:i * L≤100 * 100000000:=Oj (by omega) hL
   omega
  unfold ng
  simp only [B2]
  rw [aJ (by omega),cond_true,ay hi,dn,hu,dn]
  have e1:aA .i64 (aA .i64 (p:Int) 1) (i:Int)=((p+1+i:Nat):Int):=by rw [aZ (by omega),gO (by omega) (by omega)]; omega
  rw [e1]
  unfold vk
  simp only [B2]
  by_cases hlt:p+1+i < q
  ·rw [iI (by omega),cond_false,if_pos hlt,ay (by rw [hml]; exact hv),dn,ay (by rw [hml]; exact hw),dn,hsv,hsw,da hbound,dn,dn,if_pos rfl,List.set_set,ay (by rw [hml]; exact hw),dn]
   have:=IH a s1 (mv.set v (s2++aV mv w)) c (v:Int) (p:Int) (q:Int) 1 r rl ri (p+1) (c.length - (p+1)) ((c.length - (p+1):Nat):Int) (i:Int) w (by rw [hsw,h1]; exact m1) (by rw [hsw]; omega)
   rw [this]
   simp only [dn,B8,B2,hsw]
   rw [aZ (by omega)]
  ·rw [tS (by omega),cond_true,if_neg hlt,ay (by rw [hml]; exact hw),dn]
   have:=IH a s1 (mv.set v s2) c (v:Int) (p:Int) (q:Int) 2 r rl ri (p+1) (c.length - (p+1)) ((c.length - (p+1):Nat):Int) (i:Int) w (by rw [hsw,h1]; exact m1) (by rw [hsw]; omega)
   rw [this]
   simp only [dn,B8,B2,hsw]
   rw [aZ (by omega)]
 ·intro s i u t hs hu hg
  rw [Mq] at hu
  exact xn h (hcv u (A5 hu)) hs hg
 ·intro s hs
  unfold ng
  simp only [B2]
  rw [hdl,aC (by omega)]; rfl
def ptS (a b:PtS):PtS:=(iq .i64 (bE .i64 (aA .i64 (aA .i64 a.1 b.1) b.2.1) a.2.1) 2,iq .i64 (aA .i64 (aA .i64 (bE .i64 b.1 a.1) b.2.1) a.2.1) 2,())
end
end Go.Vm

/-
 StraightShifts: what is near, the places where a new vertex is joined, in both.
-/
namespace Go.Vm
open Go.Proofs
set_option maxRecDepth 100000
attribute [local irreducible] aa
theorem k9 {σ ρ S:Type} {B : σ→Option (σ⊕ρ)} (I:Nat→S→Prop) (st:S→Nat→σ) (out:S→ρ) (n:Nat) (step:∀ s i,i < n→I i s→∃ t,B (st s i)=some (.inl (st t (i+1)))∧I (i+1) t)
  (fin:∀ s,I n s→B (st s n)=some (.inr (out s))):∀ s,I 0 s→∃ t,I n t∧aa B (st s 0)=some (out t):=by
 have key:∀ (k i:Nat) (s:S),i+k=n→I i s→∃ t,I n t∧aa B (st s i)=some (out t):=by
  intro k
  induction k with
  | zero =>
   intro i s hi hs
   have:i=n:=by omega
   subst this
   exact ⟨s,hs,cf (fin s hs)⟩
  | succ k ih =>
   intro i s hi hs
   obtain ⟨t,h1,h2⟩:=step s i (by omega) hs
   rw [c7 h1]
   exact ih (i+1) t (by omega) h2
 exact fun s hs=>key n 0 s (by omega) hs
section
variable {N:Nat} {E:List Arc} {A:List (List Int)}
structure NearOK (N:Nat) (E:List Arc) (near:List (List Bool)):Prop where
 len:near.length=N
 row:∀ u:Nat,u < N→(aV near u).length=N
 at_:∀ u v:Nat,u < N→v < N→(aV near u)[v]?=some (ab E (u:Int) (v:Int))
theorem CN (hN:N≤100000) (o:List Int):∃ near:List (List Bool),(near.length=N∧∀ u:Nat,u < N→aV near u=A6 N false) ∧
  vn ((N:Int),E,A,A6 N [],o,((A6 N ([]:List Bool)).length:Nat),0,())=some (.inl ((N:Int),E,A,near,o,())):=by
 obtain ⟨t,h1,h2⟩:=k9 (B:=rj) (fun i (s:List (List Bool))=>s.length=N∧∀ u:Nat,u < i→aV s u=A6 N false) (fun s i=>((N:Int),E,A,s,o,((N:Nat):Int),(i:Int),()))
  (fun s=>.inl ((N:Int),E,A,s,o,())) N (by
   rintro s i hi ⟨h1,h2⟩
   refine ⟨s.set i (A6 N false),?_,by rw [Mk]; exact h1,fun u hu=>?_⟩
   ·unfold rj
    simp only
    rw [aJ (by omega),cond_true,dr (A7 _) (by omega),dn,ay (by omega),dn,aZ (by omega)]
    rfl
   ·unfold aV
    rw [Ma]
    by_cases e:i=u
    ·subst e
     rw [if_pos rfl,if_pos (by omega)]
     rfl
    ·rw [if_neg e]
     exact h2 u (by omega)) (by
   rintro s ⟨h1,h2⟩
   unfold rj
   simp only
   rw [aC (by omega)]; rfl) (A6 N []) ⟨by simp,fun u hu=>by omega⟩
 refine ⟨t,h1,?_⟩
 rw [NY]
 exact h2
theorem xy {l:List Arc} {e:Arc} {u v:Int}:ab (l++[e]) u v=(ab l u v || jn u v e):=by
 unfold ab
 simp
theorem CW (h:RotOK (N:Nat) E A) (o:List Int) (near0:List (List Bool)) (h0:near0.length=N∧∀ u:Nat,u < N→aV near0 u=A6 N false):∃ near,NearOK N E near ∧
  vp ((N:Int),E,A,near0,o,E,(E.length:Nat),0,())=some (.inl ((N:Int),E,A,near,o,())):=by
 have hm1:=h.m1
 obtain ⟨t,h1,h2⟩:=k9 (B:=mX) (fun i (s:List (List Bool))=>NearOK N (E.take i) s) (fun s i=>((N:Int),E,A,s,o,E,((E.length:Nat):Int),(i:Int),()))
  (fun s=>.inl ((N:Int),E,A,s,o,())) E.length (by
   rintro s i hi ⟨n1,n2,n3⟩
   have he:=gr hi
   obtain ⟨p1,p2,p3,p4,p5⟩:=h.edge E[i] (L3 hi)
   obtain ⟨x,hx⟩ : ∃ x:Nat,E[i].1=(x:Int):=⟨E[i].1.toNat,by omega⟩
   obtain ⟨y,hy⟩ : ∃ y:Nat,E[i].2.1=(y:Int):=⟨E[i].2.1.toNat,by omega⟩
   have hxN:x < N:=by omega
   have hyN:y < N:=by omega
   have hxy:x≠y:=by intro e; exact p5 (by rw [hx,hy,e])
   have hsy:aV (s.set x ((aV s x).set y true)) y=aV s y:=by unfold aV; rw [M6 hxy]
   refine ⟨(s.set x ((aV s x).set y true)).set y ((aV s y).set x true),?_,?_⟩
   ·unfold mX
    simp only
    rw [aJ (by omega),cond_true,am,he,dn,hx,hy,ay (by omega),dn,ay (by omega),dn,ay (by rw [n2 x hxN]; exact hyN),dn,hsy,ay (by rw [n2 y hyN]; exact hxN),dn,aZ (by omega)]
   ·have hrow:∀ u:Nat,aV ((s.set x ((aV s x).set y true)).set y ((aV s y).set x true)) u=if y=u then (aV s y).set x true else if x=u then (aV s x).set y true else aV s u:=by
     intro u
     unfold aV
     rw [Ma,Mk]
     by_cases e1:y=u
     ·rw [if_pos e1,if_pos (by omega),if_pos e1]; rfl
     ·rw [if_neg e1,if_neg e1,Ma]
      by_cases e2:x=u
      ·rw [if_pos e2,if_pos (by omega),if_pos e2]; rfl
      ·rw [if_neg e2,if_neg e2]
    refine ⟨by rw [Mk,Mk]; exact n1,fun u hu=>?_,fun u v hu hv=>?_⟩
    ·rw [hrow]
     split
     ·rw [Mk]; exact n2 y hyN
     ·split
      ·rw [Mk]; exact n2 x hxN
      ·exact n2 u hu
    ·rw [hrow,Oc,he]
     show _=some (ab (Oi i E++[E[i]]) _ _)
     rw [xy]
     unfold jn
     rw [hx,hy]
     by_cases e1:y=u
     ·subst e1
      rw [if_pos rfl,Ma,n2 y hu]
      by_cases e2:x=v
      ·subst e2
       rw [if_pos rfl,if_pos hv,gH (show ((x:Nat):Int)=(x:Int) from rfl),gH (show ((y:Nat):Int)=(y:Int) from rfl)]
       simp
      ·rw [if_neg e2,n3 y v hu hv,gL (show ((x:Nat):Int)≠(y:Int) by omega),gL (show ((x:Nat):Int)≠(v:Int) by omega)]
       simp
     ·rw [if_neg e1]
      by_cases e2:x=u
      ·subst e2
       rw [if_pos rfl,Ma,n2 x hu]
       by_cases e3:y=v
       ·subst e3
        rw [if_pos rfl,if_pos hv,gH (show ((x:Nat):Int)=(x:Int) from rfl),gH (show ((y:Nat):Int)=(y:Int) from rfl)]
        simp
       ·rw [if_neg e3,n3 x v hu hv,gL (show ((y:Nat):Int)≠(v:Int) by omega),gL (show ((y:Nat):Int)≠(x:Int) by omega)]
        simp
      ·rw [if_neg e2,n3 u v hu hv,gL (show ((x:Nat):Int)≠(u:Int) by omega),gL (show ((y:Nat):Int)≠(u:Int) by omega)]
       simp) (by
   rintro s hs
   unfold mX
   simp only
   rw [aC (by omega)]; rfl) near0 ⟨h0.1,fun u hu=>by rw [h0.2 u hu]; simp,fun u v hu hv=>by rw [h0.2 u hu]; simp [hv,ab]⟩
 rw [Na] at h1
 exact ⟨t,h1,h2⟩
theorem tt {P:Int→Bool}:∀ (l:List Int) (i:Nat),ae (fun i (_:Unit) a=>(some (cond (P a) (.inr i) (.inl ())):Option (Unit⊕Nat))) i () l=(match js P i l with | []=>some (.inl ()) | a :: _=>some (.inr a))
 | [],i=>rfl
 | a :: l,i=>by
  simp only [ae]
  rw [show js P i (a :: l)=cond (P a) (i :: js P (i+1) l) (js P (i+1) l) from rfl]
  cases P a with
  | true=>rfl
  | false =>
   simp only [cond_false,dn,B8]
   exact tt l (i+1)
theorem GW {near:List (List Bool)} (hn:NearOK N E near) {v:Nat} (hv:v < N) {u:Int} (hu:0≤u∧u < (N:Int)):aF near (v:Int)=some (aV near v)∧aF (aV near v) u=some (ab E u (v:Int)):=by
 obtain ⟨w,rfl⟩ : ∃ w:Nat,u=(w:Int):=⟨u.toNat,by omega⟩
 have hl:v < near.length:=by rw [hn.len]; exact hv
 refine ⟨?_,?_⟩
 ·rw [am,gr hl,fi hl]
 ·rw [am,hn.at_ v w hv (by omega),jE]
theorem JA {near:List (List Bool)} (hn:NearOK N E near) {v:Nat} (hv:v < N) (c:List Int) (hc:∀ u∈c,0≤u∧u < (N:Int)) (hcl:c.length≤1000000) :
  Za (c,(near,(v:Int),()),())=some (cT (js (ab E · (v:Int)) 0 c),()):=by
 have key:=jF (B:=yi) (fun (_:Unit) i=>(c,(near,(v:Int),()),((c.length:Nat):Int),(i:Int),()))
  (fun _=>.inr (.inl ())) (fun (k:Nat)=>.inl ((k:Int),())) (fun i (_:Unit) a=>some (cond (ab E a (v:Int)) (.inr i) (.inl ()))) c (by
   intro _ i u hu
   have hi:i < c.length:=(A2.1 hu).1
   obtain ⟨n1,n2⟩:=GW hn hv (hc u (A5 hu))
   unfold yi
   simp only
   rw [aJ (by omega),cond_true,am,hu,dn]
   unfold Zai
   simp only
   rw [n1,dn,n2,dn,aZ (by omega)]
   cases ab E u (v:Int) <;> rfl) (by
   intro _
   unfold yi
   simp only
   rw [aC (by omega)]; rfl) ()
 rw [tt] at key
 unfold Za
 simp only
 rw [show D6 (c,(near,(v:Int),()),((c.length:Nat):Int),0,())=_ from key]
 cases hj:js (ab E · (v:Int)) 0 c <;> rfl
theorem GR {s:List Nat} {p q:Nat} (hs:s.Pairwise (· < ·)) (hx:∀ x∈s,p≤x∧x≤q) (hl:s.length=q - p+1) (hpq:p≤q):∀ x,p≤x→x≤q→x∈s:=by
 intro x h1 h2
 refine Classical.byContradiction fun hn=>?_
 have hnd:s.Nodup:=by
  rw [Nd]
  exact hs.imp fun h=>by omega
 have:=cZ (l:=x :: s) (r:=List.range' p (q - p+1)) (MU.2 ⟨hn,hnd⟩) (fun y hy=>by
  rw [List.mem_range'_1]
  rcases B7.1 hy with rfl | hy
  ·omega
  ·have:=hx y hy; omega)
 rw [LU,List.length_range',hl] at this
 omega
theorem Kz {near:List (List Bool)} (hn:NearOK N E near) {v:Nat} (hv:v < N) (c:List Int) (hc:∀ u∈c,0≤u∧u < (N:Int)) (hcl:c.length≤1000000) {p q:Nat} (hpq:p≤q) (hq:q < c.length)
  (hin:∀ x,p≤x→x≤q→x∈js (ab E · (v:Int)) 0 c) (hout:∀ x∈js (ab E · (v:Int)) 0 c,x≤q) (at_:List PtS) (mv:List (List Int)) (r:List Int) (k l:Int) :
  pW (near,at_,mv,c,(v:Int),(p:Int),(p:Int),r,k,l,())=some (.inl (near,at_,mv,c,(v:Int),(p:Int),(q:Int),r,k,l,())):=by
 obtain ⟨z,z1,z2⟩:=oM (f:=qg) (fun s=>∃ g:Nat,s=(near,at_,mv,c,(v:Int),(p:Int),(g:Int),r,k,l,())∧p≤g∧g≤q) (fun s=>q - s.2.2.2.2.2.2.1.toNat)
  (fun z=>z=.inl (near,at_,mv,c,(v:Int),(p:Int),(q:Int),r,k,l,())) (by
  rintro s ⟨g,rfl,g1,g2⟩
  have hvl:v < near.length:=by rw [hn.len]; exact hv
  unfold qg
  simp only
  rw [aZ (show g < 9223372036854775807 by omega)]
  by_cases hg:g+1 < c.length
  ·have hgc:=hc c[g+1] (L3 hg)
   obtain ⟨w,hw⟩ : ∃ w:Nat,c[g+1]=(w:Int):=⟨c[g+1].toNat,by omega⟩
   have hwN:w < N:=by omega
   have hat:=hn.at_ v w hv hwN
   rw [aJ (by omega),cond_true,ay hvl,dn,ay hg,dn,gr hg,dn,hw,ay (by rw [hn.row v hv]; exact hwN),dn,hat,dn,jE]
   have hjs:(g+1)∈js (ab E · (v:Int)) 0 c↔ab E (w:Int) (v:Int)=true:=by
    rw [jU,OE,gr hg,hw]
    simp
   by_cases hgq:g < q
   ·rw [hjs.1 (hin (g+1) (by omega) (by omega)),cond_true]
    exact .inl ⟨_,rfl,⟨g+1,rfl,by omega,by omega⟩,by show q - ((g+1:Nat):Int).toNat < q - (g:Int).toNat; omega⟩
   ·have hb:ab E (w:Int) (v:Int)=false:=by
     cases hb:ab E (w:Int) (v:Int) with
     | false=>rfl
     | true=>have:=hout (g+1) (hjs.2 hb); omega
    rw [hb,cond_false]
    have:g=q:=by omega
    exact .inr ⟨_,rfl,by rw [this]⟩
  ·rw [aC (by omega),cond_false]
   have:g=q:=by omega
   exact .inr ⟨_,rfl,by rw [this]⟩) (near,at_,mv,c,(v:Int),(p:Int),(p:Int),r,k,l,()) ⟨p,rfl,A7 _,hpq⟩
 rw [show pW (near,at_,mv,c,(v:Int),(p:Int),(p:Int),r,k,l,())=some z from z1,z2]
end
end Go.Vm

/-
 StraightShifts: the shift drawing in both; the law.
-/
namespace Go.Vm
open Go.Proofs
set_option maxRecDepth 100000
attribute [local irreducible] aa
theorem oG {E:List Arc}:∀ {r1 r2 bef c:List Int},bV E bef c (r1++r2)=(bV E bef c r1).bind fun c'=>bV E (bef++r1) c' r2
 | [],r2,bef,c=>by simp [bV]
 | w :: r1,r2,bef,c=>by
  simp only [List.cons_append,bV]
  cases dh E bef c w with
  | none=>rfl
  | some c' =>
   simp only [dn]
   rw [oG (r1:=r1)]
   simp
theorem sb {E:List Arc}:∀ {r bef c c':List Int},bV E bef c r=some c'→c.Nodup→(∀ u∈c,u∈bef)→(bef++r).Nodup→c'.Nodup∧(∀ u∈c',u∈bef++r)∧c'.length≤c.length+r.length
 | [],bef,c,c',h,h1,h2,_=>by
  simp only [bV,A1] at h
  subst h
  exact ⟨h1,fun u hu=>by simp [h2 u hu],by simp⟩
 | w :: r,bef,c,c',h,h1,h2,h3=>by
  simp only [bV] at h
  cases hs:dh E bef c w with
  | none=>rw [hs] at h; cases h
  | some d =>
   rw [hs,dn] at h
   have hw:w∉bef:=by
    have:=(MT.1 h3).2.2
    exact fun hm=>this w hm w (by simp) rfl
   obtain ⟨n1,n2⟩:=uy hs h1 h2 hw
   obtain ⟨m1,m2,m3⟩:=sb h n1 n2 (by simpa using h3)
   have:=oa hs
   exact ⟨m1,fun u hu=>by have:=m2 u hu; simpa using this,by rw [LU]; omega⟩
section
variable {N:Nat} {E:List Arc} {A:List (List Int)} {o:List Int}
theorem Can.nodup (h:Can N E o):o.Nodup:=by
 rw [Nd,List.pairwise_iff_getElem]
 intro i j hi hj hij e
 refine (h.ok j o[j] (gr hj)).2.2 ?_
 rw [← e]
 exact A5 (i:=i) (by rw [L7,if_pos hij]; exact gr hi)
theorem Can.lt (h:Can N E o) {u:Int} (hu:u∈o):0≤u∧u < (N:Int):=by
 obtain ⟨i,hi⟩:=L5.1 hu
 have:=h.ok i u hi
 exact ⟨this.1,this.2.1⟩
theorem rz {k:Nat} (h2:2≤k) {w:Int} (hk:o[k]?=some w):(o.take (k+1)).drop 2=(o.take k).drop 2++[w]:=by
 have hl:=(A2.1 hk).1
 rw [Oc,hk]
 show (o.take k++[w]).drop 2=_
 rw [N4 (by rw [Mw]; omega)]
theorem Can.step (h:Can N E o) {k:Nat} (h2:2≤k) (hk:k < N):∃ (w c c':_),o[k]?=some w∧bV E (o.take 2) (o.take 2) ((o.take k).drop 2)=some c∧dh E (o.take k) c w=some c' ∧
  bV E (o.take 2) (o.take 2) ((o.take (k+1)).drop 2)=some c'∧(∀ u∈c,u∈o.take k)∧c.length≤k:=by
 have hkl:k < o.length:=by rw [h.len]; exact hk
 have hw:=gr hkl
 have hsplit:o.drop 2=(o.take k).drop 2++(o[k] :: o.drop (k+1)):=by
  have e1:o=o.take k++(o[k] :: o.drop (k+1)):=by rw [List.getElem_cons_drop,NV]
  have e2:(o.take k++(o[k] :: o.drop (k+1))).drop 2=(o.take k).drop 2++(o[k] :: o.drop (k+1)):=N4 (by rw [Mw]; omega)
  rw [← e2,← e1]
 have hbef:o.take 2++(o.take k).drop 2=o.take k:=by
  have:o.take 2=(o.take k).take 2:=by rw [PV]; congr 1; omega
  rw [this,NV]
 have hc:=h.cont
 rw [hsplit,oG] at hc
 cases hc1:bV E (o.take 2) (o.take 2) ((o.take k).drop 2) with
 | none=>rw [hc1] at hc; simp at hc
 | some c =>
  rw [hc1,dn,hbef] at hc
  simp only [bV] at hc
  cases hs:dh E (o.take k) c o[k] with
  | none=>rw [hs] at hc; simp at hc
  | some c' =>
   have hm:=sb hc1 (h.nodup.sublist (NP _ _)) (fun u hu=>hu) (by rw [hbef]; exact h.nodup.sublist (NP _ _))
   refine ⟨o[k],c,c',hw,rfl,hs,?_,?_,?_⟩
   ·rw [rz h2 hw,oG,hc1,dn,hbef]
    simp only [bV,hs,dn]
   ·intro u hu; have:=hm.2.1 u hu; rwa [hbef] at this
   ·have:=hm.2.2
    rw [MD,Mw,Mw] at this
    omega
def ic (N:Nat):List (List Int):=(LX N).map fun (j:Nat)=>[(j:Int)]
theorem oN {N w:Nat} (hw:w < N):aV (ic N) w=[(w:Int)]:=by
 unfold aV ic
 rw [NH,Pq hw]
 rfl
theorem Jm (a:List (List Bool)) (at_:List PtS) (hN:N≤100000) (o:List Int):qc (a,at_,A6 N [],o,((A6 N ([]:List Int)).length:Nat),0,())=some (.inl (a,at_,ic N,o,())):=by
 obtain ⟨t,h1,h2⟩:=k9 (B:=nj) (fun i (s:List (List Int))=>s.length=N∧∀ u:Nat,u < i→s[u]?=some [(u:Int)]) (fun s i=>(a,at_,s,o,((N:Nat):Int),(i:Int),()))
  (fun s=>.inl (a,at_,s,o,())) N (by
   rintro s i hi ⟨h1,h2⟩
   refine ⟨s.set i [(i:Int)],?_,by rw [Mk]; exact h1,fun u hu=>?_⟩
   ·unfold nj
    simp only
    rw [aJ (by omega),cond_true,ay (by omega),dn,aZ (by omega)]
   ·rw [Ma]
    by_cases e:i=u
    ·subst e
     rw [if_pos rfl,if_pos (by omega)]
    ·rw [if_neg e]
     exact h2 u (by omega)) (by
   rintro s ⟨h1,h2⟩
   unfold nj
   simp only
   rw [aC (by omega)]; rfl) (A6 N []) ⟨by simp,fun u hu=>by omega⟩
 have:t=ic N:=by
  refine Nn fun u=>?_
  unfold ic
  rw [NH]
  by_cases hu:u < N
  ·rw [h1.2 u hu,Pq hu]; rfl
  ·rw [M5 (by omega),M5 (by simp; omega)]; rfl
 rw [NY,← this]
 exact h2
theorem C3 {mv:List (List Int)} {v:Nat} {l:List Int} (hv:v < mv.length) (h:aV mv v=l):mv.set v l=mv:=by
 refine Nn fun u=>?_
 rw [Ma]
 by_cases e:v=u
 ·subst e
  rw [if_pos rfl,if_pos hv,← h,fi hv,gr hv]
 ·rw [if_neg e]
def LS (N:Nat) (E:List Arc) (A:List (List Int)) (o:List Int) (near:List (List Bool)) (i:Nat) (s:(List (List Bool))×(List PtS)×(List (List Int))×List Int×List Int×Int×Int×Unit) (t:Int×(List PtS)×(List (List Int))×(List PtS)×(List (List Int))×List Int×Int×Unit):Prop :=
 ∃ (at_:List PtS) (mv:List (List Int)) (c:List Int),s=(near,at_,mv,c,o.drop 3,(((o.drop 3).length:Nat):Int),(i:Int),())∧t=((N:Int),E,A,at_,mv,o,((i+4:Nat):Int),())∧at_.length=N∧MvOK N (10 ^ i) mv ∧
  (∀ (j:Nat) (v:Nat),i+3≤j→o[j]?=some (v:Int)→aV mv v=[(v:Int)])∧bV E (o.take 2) (o.take 2) ((o.take (i+3)).drop 2)=some c
theorem Dg (h:Can N E o) (h3:3≤N):∃ (a b c:Int) (r:List Int),o=a :: b :: c :: r∧bV E (o.take 2) (o.take 2) ((o.take 3).drop 2)=some [a,c,b]:=by
 obtain ⟨w,c,c',hw,hc,hs,hc2,_⟩:=h.step (k:=2) (by omega) (by omega)
 obtain ⟨x,y,z,r,rfl⟩ : ∃ x y z r,o=x :: y :: z :: r:=by
  have:=h.len
  match o,this with
  | x :: y :: z :: r,_=>exact ⟨x,y,z,r,rfl⟩
  | [x,y],hl=>simp at hl; omega
  | [x],hl=>simp at hl; omega
  | [],hl=>simp at hl; omega
 refine ⟨x,y,z,r,rfl,?_⟩
 rw [hc2]
 simp at hw
 subst hw
 have hcc:c=[x,y]:=by simpa [bV] using hc.symm
 subst hcc
 obtain ⟨p,q,_,_,hpq,hq,ec,_⟩:=fb hs
 simp at hq
 have hp0:p=0:=by omega
 have hq1:q=1:=by omega
 subst hp0
 subst hq1
 rw [ec]
 rfl
end
end Go.Vm

/-
 Points and segments, in the reference.
-/
namespace Go.Vm
namespace Cnt
open Go.Proofs
set_option maxRecDepth 100000
attribute [local irreducible] aa
abbrev Pt:=Int×(Int×Unit)
def pv (p:Pt):Bool:=geI p.1 (-268435456) && (leI p.1 268435456 && (geI p.2.1 (-268435456) && leI p.2.1 268435456))
theorem ed (p:Pt):Zad (p,())=some (pv p,()):=by
 unfold Zad pv
 dsimp only
 cases geI p.1 (-268435456) <;> cases leI p.1 268435456 <;> cases geI p.2.1 (-268435456) <;> rfl
def pC (a b p:Pt):Int:=bE .i64 (dK .i64 (bE .i64 b.1 a.1) (bE .i64 p.2.1 a.2.1)) (dK .i64 (bE .i64 b.2.1 a.2.1) (bE .i64 p.1 a.1))
def sd (a b p:Pt):Int:=cond (gtI (pC a b p) 0) 1 (cond (ltI (pC a b p) 0) (-1) 0)
theorem iL {a b p:Pt} (h1:pv a=true) (h2:pv b=true) (h3:pv p=true):Zp (a,b,p,())=some (sd a b p,()):=by
 unfold Zp
 change (Zad (a,())).bind (fun r1=>cond (!r1.1) (some (0,())) ((Zad (b,())).bind fun r2=>cond (!r2.1) (some (0,())) ((Zad (p,())).bind fun r3=>cond (!r3.1) (some (0,())) ((Zao (pC a b p,())).bind fun r4=>some (r4.1,())))))=_
 rw [ed,ed,ed,h1,h2,h3]
 simp only [dn,Mp,cond_false]
 unfold Zao sd
 generalize pC a b p=t
 rcases M9 t 0 with h | h | h
 ·simp only [aJ h,eC (NK h)]; rfl
 ·subst h; rfl
 ·simp only [aC (NK h),iX h]; rfl
def jm (a b c d:Pt):Bool:=ltI (dK .i64 (sd a b c) (sd a b d)) 0
def spB (a b p:Pt):Bool:=geI p.1 (eR a.1 b.1) && (leI p.1 (maxI a.1 b.1) && (geI p.2.1 (eR a.2.1 b.2.1) && leI p.2.1 (maxI a.2.1 b.2.1)))
def onB (a b p:Pt):Bool:=spB a b p && eqI (sd a b p) 0
theorem kq {a b:Pt} (h1:pv a=true) (h2:pv b=true):Zy ((a,b,()),())=some (true,()):=by
 change (Zad (a,())).bind (fun r1=>cond r1.1 ((Zad (b,())).bind fun r2=>some (r2.1,())) (some (false,())))=_
 rw [ed,ed,h1,h2]; rfl
theorem sC {a b p:Pt} (h1:pv a=true) (h2:pv b=true) (h3:pv p=true):Zau (p,(a,b,()),())=some (onB a b p,()):=by
 unfold Zau
 change (Zad (p,())).bind (fun r1=>cond (!r1.1) (some (false,())) ((Zy ((a,b,()),())).bind fun r2=>cond (!r2.1) (some (false,())) ((Zp (a,b,p,())).bind fun r3=>cond (neI r3.1 0) (some (false,())) (cond (geI p.1 (eR a.1 b.1)) (cond (leI p.1 (maxI a.1 b.1)) (cond (geI p.2.1 (eR a.2.1 b.2.1)) (some ((leI p.2.1 (maxI a.2.1 b.2.1)),())) (some (false,()))) (some (false,()))) (some (false,()))))))=_
 rw [ed,kq h1 h2,iL h1 h2 h3,h3]
 simp only [dn,Mp,cond_false]
 unfold onB spB
 by_cases h:sd a b p=0
 ·rw [dF h,gH h]
  cases geI p.1 (eR a.1 b.1) <;> cases leI p.1 (maxI a.1 b.1) <;> cases geI p.2.1 (eR a.2.1 b.2.1) <;> cases leI p.2.1 (maxI a.2.1 b.2.1) <;> rfl
 ·rw [fT h,gL h,Bool.and_false]; rfl
def pf (a b c d:Pt):Bool:=(jm a b c d && jm c d a b) || (onB a b c || (onB a b d || (onB c d a || onB c d b)))
theorem D5 {a b c d:Pt} (h1:pv a=true) (h2:pv b=true) (h3:pv c=true) (h4:pv d=true):Zae ((a,b,()),(c,d,()),())=some (jm a b c d && jm c d a b,()):=by
 unfold Zae
 change (Zy ((a,b,()),())).bind (fun r1=>cond (!r1.1) (some (false,())) ((Zy ((c,d,()),())).bind fun r2=>cond (!r2.1) (some (false,())) ((Zp (a,b,c,())).bind fun r3=>(Zp (a,b,d,())).bind fun r4=>cond (ltI (dK .i64 r3.1 r4.1) 0) ((Zp (c,d,a,())).bind fun r5=>(Zp (c,d,b,())).bind fun r6=>some ((ltI (dK .i64 r5.1 r6.1) 0),())) (some (false,())))))=_
 rw [kq h1 h2,kq h3 h4,iL h1 h2 h3,iL h1 h2 h4,iL h3 h4 h1,iL h3 h4 h2]
 simp only [dn,Mp,cond_false,jm]
 cases ltI (dK .i64 (sd a b c) (sd a b d)) 0 <;> rfl
theorem E6 {a b c d:Pt} (h1:pv a=true) (h2:pv b=true) (h3:pv c=true) (h4:pv d=true):Zaf ((a,b,()),(c,d,()),())=some (pf a b c d,()):=by
 unfold Zaf
 have e1:=D5 h1 h2 h3 h4
 have e2:=sC h3 h4 h1
 have e3:=sC h3 h4 h2
 have e4:=sC h1 h2 h3
 have e5:=sC h1 h2 h4
 have e6:=kq h1 h2
 have e7:=kq h3 h4
 obtain ⟨a1,a2,a3⟩:=a
 obtain ⟨b1,b2,b3⟩:=b
 obtain ⟨c1,c2,c3⟩:=c
 obtain ⟨d1,d2,d3⟩:=d
 simp only [e1,e2,e3,e4,e5,e6,e7,dn,pf,cond_true]
 generalize (jm (a1,a2,a3) (b1,b2,b3) (c1,c2,c3) (d1,d2,d3) && jm (c1,c2,c3) (d1,d2,d3) (a1,a2,a3) (b1,b2,b3))=x1
 generalize onB (a1,a2,a3) (b1,b2,b3) (c1,c2,c3)=x2
 generalize onB (a1,a2,a3) (b1,b2,b3) (d1,d2,d3)=x3
 generalize onB (c1,c2,c3) (d1,d2,d3) (a1,a2,a3)=x4
 generalize onB (c1,c2,c3) (d1,d2,d3) (b1,b2,b3)=x5
 cases x1 <;> cases x2 <;> cases x3 <;> cases x4 <;> cases x5 <;> rfl
end Cnt
end Go.Vm

/-
 Crossings, in the reference.
-/
namespace Go.Vm
namespace Cnt
open Go.Proofs
set_option maxRecDepth 100000
attribute [local irreducible] aa
def nc (N:Int) (a:Pt):Bool:=ltI a.1 0 || (geI a.1 N || (ltI a.2.1 0 || geI a.2.1 N))
def dvB (N:Int) (E:List Pt):Bool:=!ltI N 0 && (!gtI N 64 && (!gtI (E.length:Nat) 256 && !E.any (nc N)))
def Bn (N:Int) (_:Nat) (_:Unit) (a:Pt):Option (Unit⊕Unit):=some (cond (nc N a) (.inr ()) (.inl ()))
theorem Fa (N:Int):∀ (E:List Pt) (i:Nat),ae (Bn N) i () E=some (cond (E.any (nc N)) (.inr ()) (.inl ()))
 | [],_=>rfl
 | a :: E,i=>by
  simp only [ae,Bn,dn,List.any_cons]
  cases nc N a with
  | true=>rfl
  | false=>exact Fa N E (i+1)
theorem Ez (N:Int) (E:List Pt) (hE:E.length≤256):AV (N,E,0,())=some (cond (E.any (nc N)) (.inl (false,())) (.inr (.inl ()))):=by
 have:=jF (B:=qk) (fun (_:Unit) i=>(N,E,(i:Int),())) (fun _=>.inr (.inl ())) (fun (_:Unit)=>.inl (false,())) (Bn N) E (by
  intro s i a ha
  have hi:i < E.length:=(A2.1 ha).1
  simp only [qk]
  rw [aJ (by omega),cond_true,am,ha,dn,aZ (by omega)]
  simp only [Bn,nc]
  cases ltI a.1 0 <;> cases geI a.1 N <;> cases ltI a.2.1 0 <;> cases geI a.2.1 N <;> rfl) (by
  intro s
  simp only [qk]
  rw [aC (by omega)]; rfl) ()
 rw [Fa] at this
 show aa _ _=_
 refine this.trans ?_
 cases E.any (nc N) <;> rfl
theorem JC (N:Int) (E:List Pt) (u:Unit):Zab ((N,E,u),())=some (dvB N E,()):=by
 unfold Zab dvB
 simp only
 cases ltI N 0 with
 | true=>rfl
 | false =>
  cases gtI N 64 with
  | true=>rfl
  | false =>
   by_cases h:E.length≤256
   ·rw [eC (by omega)]
    simp only [cond_false,OD,Bool.true_and]
    rw [Ez N E h]
    cases E.any (nc N) <;> rfl
   ·rw [iX (by omega)]; rfl
def wo (i:Nat) (_:Unit) (q:Pt):Option (Unit⊕Nat):=some (cond (pv q) (.inl ()) (.inr i))
theorem FM:∀ (P:List Pt) (i:Nat),(P.all pv=true∧ae wo i () P=some (.inl ()))∨(P.all pv=false∧∃ j,ae wo i () P=some (.inr j))
 | [],_=>.inl ⟨rfl,rfl⟩
 | a :: P,i=>by
  simp only [ae,wo,List.all_cons]
  cases pv a with
  | true=>exact FM P (i+1)
  | false=>exact .inr ⟨rfl,_,rfl⟩
theorem wy (N:Int) (E P:List Pt) (hN:(P.length:Int)=N) (hP:P.length≤100):By (N,E,P,0,())=some (cond (P.all pv) (.inr (.inl (N,E,P,()))) (.inl (-1,()))):=by
 have hs:=jF (B:=wM) (fun (_:Unit) i=>(N,E,P,(i:Int),())) (fun _=>.inr (.inl (N,E,P,()))) (fun (_:Nat)=>.inl (-1,())) wo P (by
  intro s i a ha
  have hi:i < P.length:=(A2.1 ha).1
  simp only [wM]
  rw [aJ (by omega),cond_true,am,ha,dn,aZ (by omega),ed]
  simp only [dn,wo]
  cases pv a <;> rfl) (by
  intro s
  simp only [wM]
  rw [aC (by omega)]; rfl) ()
 unfold By
 rw [show ((0:Int))=((0:Nat):Int) from rfl,hs]
 rcases FM P 0 with ⟨h1,h2⟩ | ⟨h1,j,h2⟩
 ·rw [h1,h2]; rfl
 ·rw [h1,h2]; rfl
def apB (a b:Pt):Bool:=neI a.1 b.1 && (neI a.1 b.2.1 && (neI a.2.1 b.1 && neI a.2.1 b.2.1))
def at_ (P:List Pt) (i:Int):Pt:=P.getD i.toNat (0,0,())
def s1 (P:List Pt) (a:Pt) (_:Nat) (n:Int) (b:Pt):Option (Int⊕Empty):=some (.inl (cond (apB a b && pf (at_ P a.1) (at_ P a.2.1) (at_ P b.1) (at_ P b.2.1)) (aA .i64 n 1) n))
def s2 (P:List Pt) (a:Pt) (v:Nat) (n:Int) (q:Pt):Option (Int⊕Empty):=some (.inl (cond (neI (v:Int) a.1 && (neI (v:Int) a.2.1 && onB (at_ P a.1) (at_ P a.2.1) q)) (aA .i64 n 1) n))
def s3 (P E:List Pt) (i:Nat) (n:Int) (a:Pt):Option (Int⊕Empty):=(ae (s1 P a) 0 n (E.take i)).bind (LV (fun m=>ae (s2 P a) 0 m P) (fun _=>none))
structure CntOK (N:Int) (E P:List Pt):Prop where
 hN:(P.length:Int)=N
 hP:P.length≤100
 hE:E.length≤256
 hv:P.all pv=true
 hb:E.any (nc N)=false
section
variable {N:Int} {E P:List Pt}
theorem GX (H:CntOK N E P) {a:Pt} (ha:a∈E):aF P a.1=some (at_ P a.1)∧aF P a.2.1=some (at_ P a.2.1)∧pv (at_ P a.1)=true∧pv (at_ P a.2.1)=true:=by
 have hN:=H.hN; have hP:=H.hP; have hE:=H.hE; have hv:=H.hv; have hb:=H.hb
 have h:nc N a=false:=by
  cases h:nc N a with
  | false=>rfl
  | true=>rw [ME.2 ⟨a,ha,h⟩] at hb; cases hb
 simp only [nc,N5,ltI,geI,decide_eq_false_iff_not] at h
 have one:∀ i:Int,0≤i→i < N→aF P i=some (at_ P i)∧pv (at_ P i)=true:=by
  intro i h0 h1
  have hi:i.toNat < P.length:=by omega
  have e:P[i.toNat]?=some (at_ P i):=by simp [at_,hi]
  exact ⟨by rw [yu h0,e],LZ.1 hv _ (A5 e)⟩
 obtain ⟨k1,k2⟩:=one a.1 (by omega) (by omega)
 obtain ⟨k3,k4⟩:=one a.2.1 (by omega) (by omega)
 exact ⟨k1,k3,k2,k4⟩
theorem Ju (H:CntOK N E P) {a:Pt} (ha:a∈E) (i:Nat) (hi:i≤E.length) (n:Int) :
  AS (N,E,a.1,a.2.1,(at_ P a.1).1,(at_ P a.1).2.1,(at_ P a.2.1).1,(at_ P a.2.1).2.1,P,n,(i:Int),0,()) =
   (ae (s1 P a) 0 n (E.take i)).bind (LV (fun m=>some (.inl (N,E,a.1,a.2.1,(at_ P a.1).1,(at_ P a.1).2.1,(at_ P a.2.1).1,(at_ P a.2.1).2.1,P,m,(i:Int),()))) (fun _=>none)):=by
 have hN:=H.hN; have hP:=H.hP; have hE:=H.hE; have hv:=H.hv; have hb:=H.hb
 obtain ⟨q1,q2,q3,q4⟩:=GX H ha
 have hl:(E.take i).length=i:=by rw [Mw]; omega
 have hs:=jF (B:=rn) (fun (n:Int) k=>(N,E,a.1,a.2.1,(at_ P a.1).1,(at_ P a.1).2.1,(at_ P a.2.1).1,(at_ P a.2.1).2.1,P,n,(i:Int),(k:Int),()))
  (fun m=>.inl (N,E,a.1,a.2.1,(at_ P a.1).1,(at_ P a.1).2.1,(at_ P a.2.1).1,(at_ P a.2.1).2.1,P,m,(i:Int),())) (fun (e:Empty)=>nomatch e) (s1 P a) (E.take i) (by
  intro n k b hk
  have hkl:k < (E.take i).length:=(A2.1 hk).1
  have hki:k < i:=by omega
  have hkE:E[k]?=some b:=by rw [L7,if_pos hki] at hk; exact hk
  have hbE:b∈E:=A5 hkE
  obtain ⟨r1,r2,r3,r4⟩:=GX H hbE
  have hm:=E6 q3 q4 r3 r4
  simp only [rn]
  rw [aJ (by omega),cond_true,am,hkE,dn,aZ (by omega),r1,r2]
  change (cond (neI a.1 b.1) (cond (neI a.1 b.2.1) (cond (neI a.2.1 b.1) (some (neI a.2.1 b.2.1,())) (some (false,()))) (some (false,()))) (some (false,()))).bind _=_
  simp only [dn,s1,apB]
  rw [show Zaf (((((at_ P a.1).1,(at_ P a.1).2.1,()),((at_ P a.2.1).1,(at_ P a.2.1).2.1,()),())),((((at_ P b.1).1,(at_ P b.1).2.1,()),((at_ P b.2.1).1,(at_ P b.2.1).2.1,()),())),())=_ from hm]
  simp only [dn]
  cases neI a.1 b.1 <;> cases neI a.1 b.2.1 <;> cases neI a.2.1 b.1 <;> cases neI a.2.1 b.2.1 <;> cases pf (at_ P a.1) (at_ P a.2.1) (at_ P b.1) (at_ P b.2.1) <;> rfl) (by
  intro s
  simp only [rn]
  rw [aC (by omega)]; rfl) n
 refine hs.trans ?_
 cases ae (s1 P a) 0 n (E.take i) with
 | none=>rfl
 | some x=>cases x with
  | inl t=>rfl
  | inr e=>cases e
theorem Jq (H:CntOK N E P) {a:Pt} (ha:a∈E) (n:Int) (d:Int) :
  zA (N,E,a.1,a.2.1,(at_ P a.1).1,(at_ P a.1).2.1,(at_ P a.2.1).1,(at_ P a.2.1).2.1,P,n,d,0,()) =
   (ae (s2 P a) 0 n P).bind (LV (fun m=>some (.inl (N,E,P,m,d,()))) (fun _=>none)):=by
 have hN:=H.hN; have hP:=H.hP; have hE:=H.hE; have hv:=H.hv; have hb:=H.hb
 obtain ⟨q1,q2,q3,q4⟩:=GX H ha
 have hs:=jF (B:=sA) (fun (n:Int) k=>(N,E,a.1,a.2.1,(at_ P a.1).1,(at_ P a.1).2.1,(at_ P a.2.1).1,(at_ P a.2.1).2.1,P,n,d,(k:Int),()))
  (fun m=>.inl (N,E,P,m,d,())) (fun (e:Empty)=>nomatch e) (s2 P a) P (by
  intro n k b hk
  have hkl:k < P.length:=(A2.1 hk).1
  have hm:=sC q3 q4 (LZ.1 hv _ (A5 hk))
  simp only [sA]
  rw [aJ (by omega),cond_true,am,hk,dn,aZ (by omega)]
  simp only [s2]
  rw [show Zau (b,((((at_ P a.1).1,(at_ P a.1).2.1,()),((at_ P a.2.1).1,(at_ P a.2.1).2.1,()),())),())=_ from hm]
  simp only [dn]
  cases neI (k:Int) a.1 <;> cases neI (k:Int) a.2.1 <;> cases onB (at_ P a.1) (at_ P a.2.1) b <;> rfl) (by
  intro s
  simp only [sA]
  rw [aC (by omega)]; rfl) n
 refine hs.trans ?_
 cases ae (s2 P a) 0 n P with
 | none=>rfl
 | some x=>cases x with
  | inl t=>rfl
  | inr e=>cases e
theorem I5 (H:CntOK N E P):zn (N,E,P,0,0,())=(ae (s3 P E) 0 0 E).bind (LV (fun m=>some (.inl (m,()))) (fun _=>none)):=by
 have hN:=H.hN; have hP:=H.hP; have hE:=H.hE; have hv:=H.hv; have hb:=H.hb
 have hs:=jF (B:=sE) (fun (n:Int) k=>(N,E,P,n,(k:Int),())) (fun m=>.inl (m,())) (fun (e:Empty)=>nomatch e) (s3 P E) E (by
  intro n k a hk
  have hkl:k < E.length:=(A2.1 hk).1
  have ha:a∈E:=A5 hk
  obtain ⟨q1,q2,q3,q4⟩:=GX H ha
  simp only [sE]
  rw [aJ (by omega),cond_true,am,hk,dn,q1,q2]
  simp only [dn]
  rw [Ju H ha k (by omega)]
  unfold s3
  cases ae (s1 P a) 0 n (E.take k) with
  | none=>rfl
  | some x=>cases x with
   | inr e=>cases e
   | inl m =>
    simp only [dn,B8]
    rw [Jq H ha]
    have h1k:aA .i64 (k:Int) 1=((k+1:Nat):Int):=aZ (by omega)
    cases ae (s2 P a) 0 m P with
    | none=>rfl
    | some x=>cases x with
     | inr e=>cases e
     | inl m=>simp only [dn,B8,h1k]) (by
  intro s
  simp only [sE]
  rw [aC (by omega)]; rfl) 0
 refine hs.trans ?_
 cases ae (s3 P E) 0 0 E with
 | none=>rfl
 | some x=>cases x with
  | inl t=>rfl
  | inr e=>cases e
end
end Cnt
end Go.Vm

/-
 Straight drawings that grow: a new vertex above a contour whose places grow to the right; what lies below the contour; no two parts meet.
-/
namespace Go.Shift
section
variable (X Y:Int→Int)
def ori (a b c:Int):Int:=(X b - X a) * (Y c - Y a) - (Y b - Y a) * (X c - X a)
def orh (a b zx zy d:Int):Int:=(X b - X a) * (zy - Y a * d) - (Y b - Y a) * (zx - X a * d)
def Seg (a b zx zy d:Int):Prop:=0 < d∧∃ t,0≤t∧t≤d∧zx=X a * (d - t)+X b * t∧zy=Y a * (d - t)+Y b * t
def Adj (c:List Int) (a b:Int):Prop:=∃ j:Nat,c[j]?=some a∧c[j+1]?=some b
def se (c:List Int) (zx zy d:Int):Prop:=∃ a b,Adj c a b∧X a * d≤zx∧zx≤X b * d∧orh X Y a b zx zy d≤0
def Obj (J:Int→Int→Prop) (bef:List Int) (a b:Int):Prop:=a∈bef∧b∈bef∧(a=b∨J a b)
structure PlanC (J:Int→Int→Prop) (bef c:List Int):Prop where
 mono:∀ a b,Adj c a b→X a < X b
 below:∀ a b zx zy d,Obj J bef a b→Seg X Y a b zx zy d→se X Y c zx zy d
 apart:∀ a b a' b',Obj J bef a b→Obj J bef a' b'→a≠a'→a≠b'→b≠a'→b≠b'→∀ zx zy d,Seg X Y a b zx zy d→Seg X Y a' b' zx zy d→False
end
section
variable {X Y:Int→Int} {J:Int→Int→Prop} {bef c:List Int}
theorem Seg.swap {a b zx zy d:Int} (h:Seg X Y a b zx zy d):Seg X Y b a zx zy d:=by
 obtain ⟨h0,t,h1,h2,h3,h4⟩:=h
 exact ⟨h0,d - t,by omega,by omega,by rw [h3]; grind,by rw [h4]; grind⟩
theorem k8 (h:∀ a b,Adj c a b→X a < X b):∀ (k i:Nat) (a b:Int),c[i]?=some a→c[i+k]?=some b→X a≤X b∧(0 < k→X a < X b)
 | 0,i,a,b,ha,hb=>by
  rw [M4,ha] at hb
  cases hb
  exact ⟨Nb _,fun h=>absurd h (Nat.lt_irrefl _)⟩
 | k+1,i,a,b,ha,hb=>by
  have hl:=(A2.1 hb).1
  have h1:c[i+1]?=some c[i+1]:=gr (by omega)
  have:=h a _ ⟨i,ha,h1⟩
  have h2:=(k8 h k (i+1) _ b h1 (by rw [← hb]; congr 1; omega)).1
  exact ⟨by omega,fun _=>by omega⟩
theorem pQ (a b u v zx zy d:Int):(X b - X a) * orh X Y u v zx zy d=(d * X b - zx) * ori X Y u v a+(zx - d * X a) * ori X Y u v b+(X v - X u) * orh X Y a b zx zy d:=by
 unfold orh ori; grind
theorem nD (a b v:Int):ori X Y a v b=- ori X Y a b v:=by unfold ori; grind
theorem pK (a b v:Int):ori X Y v b a=- ori X Y a b v:=by unfold ori; grind
theorem Dp (a b v:Int):ori X Y a b v=(X v - X a) * (Y v - Y b) - (X v - X b) * (Y v - Y a):=by unfold ori; grind
theorem wT {a b c d e f:Int} (hb:0 < b) (hd:0 < d) (hf:0 < f) (h1:c * b < a * d) (h2:e * d < c * f):e * b < a * f:=by
 have g1:(c * b) * f < (a * d) * f:=MM h1 hf
 have g2:(e * d) * b < (c * f) * b:=MM h2 hb
 have g3:d * (e * b) < d * (a * f):=by grind
 exact Int.lt_of_mul_lt_mul_left g3 (NK hd)
structure Sees (X Y:Int→Int) (c:List Int) (p q:Nat) (v:Int):Prop where
 pq:p < q
 ql:q < c.length
 lo:∀ a,c[p]?=some a→X a < X v
 hi:∀ a,c[q]?=some a→X v < X a
 up:∀ (i:Nat) a,p≤i→i≤q→c[i]?=some a→Y a < Y v
 or:∀ (i:Nat) a b,p≤i→i < q→c[i]?=some a→c[i+1]?=some b→0 < ori X Y a b v
theorem Sees.far {p q:Nat} {v:Int} (h:Sees X Y c p q v):∀ (k i:Nat) (a b:Int),p≤i→i+k+1≤q→c[i]?=some a→c[i+k+1]?=some b→0 < ori X Y a b v
 | 0,i,a,b,h1,h2,ha,hb=>h.or i a b h1 (by omega) ha hb
 | k+1,i,a,b,h1,h2,ha,hb=>by
  have hl:=(A2.1 hb).1
  have hm:c[i+k+1]?=some c[i+k+1]:=gr (by omega)
  have g1:=Sees.far h k i a _ h1 (by omega) ha hm
  have g2:=h.or (i+k+1) _ b (by omega) (by omega) hm hb
  have y1:=h.up i a h1 (by omega) ha
  have y2:=h.up _ _ (by omega) (by omega) hm
  have y3:=h.up _ _ (by omega) (by omega) hb
  rw [Dp] at g1 g2 ⊢
  have:=wT (a:=X v - X a) (b:=Y v - Y a) (c:=X v - X c[i+k+1]) (d:=Y v - Y c[i+k+1]) (e:=X v - X b) (f:=Y v - Y b) (by omega) (by omega) (by omega) (by omega) (by omega)
  omega
theorem JO {p q:Nat} {v:Int} (hm:∀ a b,Adj c a b→X a < X b) (h:Sees X Y c p q v) {i:Nat} {w:Int} (hi:p≤i) (hq:i≤q) (hw:c[i]?=some w) {zx zy d t:Int} (hd:0 < d) (ht:0 < t) (htd:t≤d)
  (ex:zx=X w * (d - t)+X v * t) (ey:zy=Y w * (d - t)+Y v * t):¬ se X Y c zx zy d:=by
 rintro ⟨a,b,⟨j,ha,hb⟩,l1,l2,l3⟩
 have hab:=hm a b ⟨j,ha,hb⟩
 have hyw:=h.up i w hi hq hw
 have hjl:=(A2.1 hb).1
 have hil:=(A2.1 hw).1
 have hql:=h.ql
 have hpq:=h.pq
 have cp:c[p]?=some c[p]:=gr (by omega)
 have cq:c[q]?=some c[q]:=gr hql
 have lo:=h.lo _ cp
 have hi':=h.hi _ cq
 have hX:∀ (m n:Nat) x y,m≤n→c[m]?=some x→c[n]?=some y→X x≤X y:=fun m n x y hmn hx hy=>(k8 hm (n - m) m x y hx (by rw [← hy]; congr 1; omega)).1
 have hdd:∀ u w:Int,u * d < w * d→u < w:=fun u w h=>Int.lt_of_mul_lt_mul_right h (NK hd)
 rcases M9 (X w) (X v) with hlt | heq | hgt
 ·-- to the right
  have hpos:0 < (X v - X w) * t:=NI (by omega) ht
  have hnn:0≤(X v - X w) * (d - t):=Mx (by omega) (by omega)
  have z1:X w * d < zx:=by rw [ex]; grind
  have z2:zx≤X v * d:=by rw [ex]; grind
  have hji:i≤j:=by
   refine Ok fun hlt=>?_
   have:=hX (j+1) i b w hlt hb hw
   have:=Nt this (NK hd)
   omega
  have hjq:j < q:=by
   refine Oq fun hle=>?_
   have:=hX q j _ a hle cq ha
   have:=MM (show X v < X a by omega) hd
   omega
  have id:=pQ (X:=X) (Y:=Y) a b w v zx zy d
  have z0:orh X Y w v zx zy d=0:=by unfold orh; rw [ex,ey]; grind
  rw [z0,P8] at id
  have s2:ori X Y w v b < 0:=by
   have:=h.far (j - i) i w b hi (by omega) hw (by rw [← hb]; congr 1; omega)
   rw [nD]; omega
  have s1:ori X Y w v a≤0:=by
   by_cases e:i=j
   ·subst e
    rw [hw] at ha
    cases ha
    unfold ori
    grind
   ·have:=h.far (j - i - 1) i w a hi (by omega) hw (by rw [← ha]; congr 1; omega)
    rw [nD]; omega
  have t1:(d * X b - zx) * ori X Y w v a≤0:=LY (by rw [Nj]; omega) s1
  have t3:(X v - X w) * orh X Y a b zx zy d≤0:=LY (by omega) l3
  have t2:(zx - d * X a) * ori X Y w v b≤0:=LY (by rw [Nj]; omega) (by omega)
  have e2:(zx - d * X a) * ori X Y w v b=0:=by omega
  have e1:(d * X b - zx) * ori X Y w v a=0:=by omega
  have k2:zx - d * X a=0:=by
   rcases Ou.1 e2 with k | k
   ·exact k
   ·omega
  have k2':zx=X a * d:=by rw [Nj]; omega
  by_cases e:i=j
  ·subst e
   rw [hw] at ha
   cases ha
   omega
  ·have s1':ori X Y w v a < 0:=by
    have:=h.far (j - i - 1) i w a hi (by omega) hw (by rw [← ha]; congr 1; omega)
    rw [nD]; omega
   rcases Ou.1 e1 with k | k
   ·have:X b * d=X a * d:=by rw [Nj (X b) d]; omega
    have:=MM hab hd
    omega
   ·omega
 ·-- straight up
  have zz:zx=X w * d:=by rw [ex,← heq]; grind
  have zy':0 < zy - Y w * d:=by
   have:0 < (Y v - Y w) * t:=NI (by omega) ht
   rw [ey]; grind
  by_cases e:i≤j
  ·have:X w=X a:=by
    have h1:=hX i j w a e hw ha
    have h2:X a * d≤X w * d:=by omega
    have:=O6 h2 hd
    omega
   have ea:i=j:=by
    refine OX e (Ok fun hlt=>?_)
    have:=(k8 hm (j - i) i w a hw (by rw [← ha]; congr 1; omega)).2 (by omega)
    omega
   subst ea
   rw [hw] at ha
   cases ha
   have:0 < (X b - X w) * (zy - Y w * d):=NI (by omega) zy'
   unfold orh at l3
   rw [zz] at l3
   grind
  ·have hbw:X b≤X w:=hX (j+1) i b w (by omega) hb hw
   have h2:X w * d≤X b * d:=by omega
   have h3:=O6 h2 hd
   have ea:i=j+1:=by
    refine OX (Ok fun hlt=>?_) (by omega)
    have:=(k8 hm (i - (j+1)) (j+1) b w hb (by rw [← hw]; congr 1; omega)).2 (by omega)
    omega
   subst ea
   rw [hw] at hb
   cases hb
   have:0 < (X w - X a) * (zy - Y w * d):=NI (by omega) zy'
   unfold orh at l3
   rw [zz] at l3
   grind
 ·-- to the left
  have hpos:0 < (X w - X v) * t:=NI (by omega) ht
  have hnn:0≤(X w - X v) * (d - t):=Mx (by omega) (by omega)
  have z1:zx < X w * d:=by rw [ex]; grind
  have z2:X v * d≤zx:=by rw [ex]; grind
  have hji:j < i:=by
   refine Oq fun hle=>?_
   have:=hX i j w a hle hw ha
   have:=Nt this (NK hd)
   omega
  have hjp:p≤j:=by
   refine Ok fun hlt=>?_
   have:=hX (j+1) p b _ hlt hb cp
   have:=MM (show X b < X v by omega) hd
   omega
  have id:=pQ (X:=X) (Y:=Y) a b v w zx zy d
  have z0:orh X Y v w zx zy d=0:=by unfold orh; rw [ex,ey]; grind
  rw [z0,P8] at id
  have s1:ori X Y v w a < 0:=by
   have:=h.far (i - j - 1) j a w hjp (by omega) ha (by rw [← hw]; congr 1; omega)
   rw [pK]; omega
  have s2:ori X Y v w b≤0:=by
   by_cases e:i=j+1
   ·subst e
    rw [hw] at hb
    cases hb
    unfold ori
    grind
   ·have:=h.far (i - (j+1) - 1) (j+1) b w (by omega) (by omega) hb (by rw [← hw]; congr 1; omega)
    rw [pK]; omega
  have t1:(d * X b - zx) * ori X Y v w a≤0:=LY (by rw [Nj]; omega) (by omega)
  have t3:(X w - X v) * orh X Y a b zx zy d≤0:=LY (by omega) l3
  have t2:(zx - d * X a) * ori X Y v w b≤0:=LY (by rw [Nj]; omega) s2
  have e2:(zx - d * X a) * ori X Y v w b=0:=by omega
  have e1:(d * X b - zx) * ori X Y v w a=0:=by omega
  have k2:d * X b - zx=0:=by
   rcases Ou.1 e1 with k | k
   ·exact k
   ·omega
  have k2':zx=X b * d:=by rw [Nj]; omega
  by_cases e:i=j+1
  ·subst e
   rw [hw] at hb
   cases hb
   omega
  ·have s2':ori X Y v w b < 0:=by
    have:=h.far (i - (j+1) - 1) (j+1) b w (by omega) (by omega) hb (by rw [← hw]; congr 1; omega)
    rw [pK]; omega
   rcases Ou.1 e2 with k | k
   ·have:X b * d=X a * d:=by rw [Nj (X a) d]; omega
    have:=MM hab hd
    omega
   ·omega
end
end Go.Shift

/-
 Straight drawings that grow: one more vertex.
-/
namespace Go.Shift
section
variable {X Y:Int→Int} {J:Int→Int→Prop} {bef c:List Int}
theorem cy {p q:Nat} (hpq:p < q) (hq:q < c.length) (v:Int) (j:Nat):(c.take (p+1)++v :: c.drop q)[j]?=if j≤p then c[j]? else if j=p+1 then some v else c[j - (p+2)+q]?:=by
 have hl:(c.take (p+1)).length=p+1:=by rw [Mw]; omega
 by_cases h:j≤p
 ·rw [if_pos h,List.getElem?_append_left (by omega),L7,if_pos (by omega)]
 ·rw [if_neg h,List.getElem?_append_right (by omega),hl]
  by_cases e:j=p+1
  ·subst e
   rw [if_pos rfl,ON]
   rfl
  ·rw [if_neg e]
   obtain ⟨k,rfl⟩ : ∃ k,j=p+2+k:=⟨j - (p+2),by omega⟩
   rw [show p+2+k - (p+1)=k+1 by omega,Mf,Mq,show p+2+k - (p+2)+q=q+k by omega]
theorem BE (a b w v d t:Int):orh X Y a b (X w * (d - t)+X v * t) (Y w * (d - t)+Y v * t) d=(d - t) * ori X Y a b w+t * ori X Y a b v:=by
 unfold orh ori; grind
theorem Gb {a b:Int} (ha:0 < a) (h:a * b≤0):b≤0:=by
 refine PF.1 fun hb=>?_
 have:=NI ha hb
 omega
section
variable {p q:Nat} {v:Int}
theorem Sees.left (h:Sees X Y c p q v) {cp:Int} (hp:c[p]?=some cp) {j:Nat} {w:Int} (h1:p≤j) (h2:j≤q) (hw:c[j]?=some w):ori X Y cp v w≤0:=by
 by_cases e:p=j
 ·subst e
  rw [hp] at hw
  cases hw
  unfold ori; grind
 ·have:=h.far (j - p - 1) p cp w (A7 _) (by omega) hp (by rw [← hw]; congr 1; omega)
  rw [nD]; omega
theorem Sees.right (h:Sees X Y c p q v) {cq:Int} (hp:c[q]?=some cq) {j:Nat} {w:Int} (h1:p≤j) (h2:j≤q) (hw:c[j]?=some w):ori X Y v cq w≤0:=by
 by_cases e:j=q
 ·subst e
  rw [hp] at hw
  cases hw
  unfold ori; grind
 ·have:=h.far (q - j - 1) j w cq h1 (by omega) hw (by rw [← hp]; congr 1; omega)
  rw [pK]; omega
theorem DS (hm:∀ a b,Adj c a b→X a < X b) (h:Sees X Y c p q v) {zx zy d:Int} (hd:0 < d) (hb:se X Y c zx zy d):se X Y (c.take (p+1)++v :: c.drop q) zx zy d:=by
 have hql:=h.ql
 have hpq:=h.pq
 have cp:c[p]?=some c[p]:=gr (by omega)
 have cq:c[q]?=some c[q]:=gr hql
 have lo:=h.lo _ cp
 have hi:=h.hi _ cq
 obtain ⟨a,b,⟨j,ha,hbj⟩,l1,l2,l3⟩:=hb
 have hab:=hm a b ⟨j,ha,hbj⟩
 have hX:∀ (m n:Nat) x y,m≤n→c[m]?=some x→c[n]?=some y→X x≤X y:=fun m n x y hmn hx hy=>(k8 hm (n - m) m x y hx (by rw [← hy]; congr 1; omega)).1
 by_cases h1:j < p
 ·refine ⟨a,b,⟨j,?_,?_⟩,l1,l2,l3⟩
  ·rw [cy hpq hql,if_pos (by omega)]; exact ha
  ·rw [cy hpq hql,if_pos (by omega)]; exact hbj
 ·by_cases h2:q≤j
  ·refine ⟨a,b,⟨j - q+(p+2),?_,?_⟩,l1,l2,l3⟩
   ·rw [cy hpq hql,if_neg (by omega),if_neg (by omega),← ha]; congr 1; omega
   ·rw [cy hpq hql,if_neg (by omega),if_neg (by omega),← hbj]; congr 1; omega
  ·have t1:0≤d * X b - zx:=by rw [Nj]; omega
   have t2:0≤zx - d * X a:=by rw [Nj]; omega
   by_cases h3:zx≤X v * d
   ·refine ⟨c[p],v,⟨p,?_,?_⟩,?_,h3,?_⟩
    ·rw [cy hpq hql,if_pos (A7 _)]; exact cp
    ·rw [cy hpq hql,if_neg (by omega),if_pos rfl]
    ·have:=Nt (hX p j _ a (by omega) cp ha) (NK hd)
     omega
    ·have id:=pQ (X:=X) (Y:=Y) a b c[p] v zx zy d
     have s1:=LY t1 (h.left cp (by omega) (by omega) ha)
     have s2:=LY t2 (h.left cp (by omega) (by omega) hbj)
     have s3:=LY (show 0≤X v - X c[p] by omega) l3
     exact Gb (a:=X b - X a) (by omega) (by omega)
   ·refine ⟨v,c[q],⟨p+1,?_,?_⟩,by omega,?_,?_⟩
    ·rw [cy hpq hql,if_neg (by omega),if_pos rfl]
    ·rw [cy hpq hql,if_neg (by omega),if_neg (by omega),← cq]; congr 1; omega
    ·have:=Nt (hX (j+1) q b _ (by omega) hbj cq) (NK hd)
     omega
    ·have id:=pQ (X:=X) (Y:=Y) a b v c[q] zx zy d
     have s1:=LY t1 (h.right cq (by omega) (by omega) ha)
     have s2:=LY t2 (h.right cq (by omega) (by omega) hbj)
     have s3:=LY (show 0≤X c[q] - X v by omega) l3
     exact Gb (a:=X b - X a) (by omega) (by omega)
theorem CY (hm:∀ a b,Adj c a b→X a < X b) (h:Sees X Y c p q v) {i:Nat} {w:Int} (h1:p≤i) (h2:i≤q) (hw:c[i]?=some w) {d t:Int} (hd:0 < d) (ht:0≤t) (htd:t≤d) :
  se X Y (c.take (p+1)++v :: c.drop q) (X w * (d - t)+X v * t) (Y w * (d - t)+Y v * t) d:=by
 have hql:=h.ql
 have hpq:=h.pq
 have cp:c[p]?=some c[p]:=gr (by omega)
 have cq:c[q]?=some c[q]:=gr hql
 have lo:=h.lo _ cp
 have hi:=h.hi _ cq
 have hX:∀ (m n:Nat) x y,m≤n→c[m]?=some x→c[n]?=some y→X x≤X y:=fun m n x y hmn hx hy=>(k8 hm (n - m) m x y hx (by rw [← hy]; congr 1; omega)).1
 have x1:=hX p i _ w h1 cp hw
 have x2:=hX i q w _ h2 hw cq
 by_cases h3:X w * (d - t)+X v * t≤X v * d
 ·refine ⟨c[p],v,⟨p,?_,?_⟩,?_,h3,?_⟩
  ·rw [cy hpq hql,if_pos (A7 _)]; exact cp
  ·rw [cy hpq hql,if_neg (by omega),if_pos rfl]
  ·have k1:0≤(X w - X c[p]) * (d - t):=Mx (by omega) (by omega)
   have k2:0≤(X v - X c[p]) * t:=Mx (by omega) ht
   grind
  ·rw [BE]
   have s1:=LY (show 0≤d - t by omega) (h.left cp h1 h2 hw)
   have s2:ori X Y c[p] v v=0:=by unfold ori; grind
   rw [s2]
   omega
 ·refine ⟨v,c[q],⟨p+1,?_,?_⟩,by omega,?_,?_⟩
  ·rw [cy hpq hql,if_neg (by omega),if_pos rfl]
  ·rw [cy hpq hql,if_neg (by omega),if_neg (by omega),← cq]; congr 1; omega
  ·have k1:0≤(X c[q] - X w) * (d - t):=Mx (by omega) (by omega)
   have k2:0≤(X c[q] - X v) * t:=Mx (by omega) ht
   grind
  ·rw [BE]
   have s1:=LY (show 0≤d - t by omega) (h.right cq h1 h2 hw)
   have s2:ori X Y v c[q] v=0:=by unfold ori; grind
   rw [s2]
   omega
theorem t6 (hP:PlanC X Y J bef c) (h:Sees X Y c p q v) (hc:∀ u∈c,u∈bef) {i:Nat} {w:Int} (h1:p≤i) (h2:i≤q) (hw:c[i]?=some w) {zx zy d t:Int} (hd:0 < d) (ht:0≤t) (htd:t≤d)
  (ex:zx=X w * (d - t)+X v * t) (ey:zy=Y w * (d - t)+Y v * t) {a b:Int} (ho:Obj J bef a b) (hn:t=0→w≠a∧w≠b) (hs:Seg X Y a b zx zy d):False:=by
 by_cases e:t=0
 ·subst e
  obtain ⟨n1,n2⟩:=hn rfl
  have hwb:=hc w (A5 hw)
  refine hP.apart w w a b ⟨hwb,hwb,.inl rfl⟩ ho n1 n2 n1 n2 zx zy d ⟨hd,0,Nb _,by omega,?_,?_⟩ hs
  ·rw [ex]; grind
  ·rw [ey]; grind
 ·exact JO hP.mono h h1 h2 hw hd (by omega) htd ex ey (hP.below a b zx zy d ho hs)
theorem qe (hJs:∀ a b,J a b→J b a) (hvv:¬ J v v) (hJ:∀ u∈bef,J u v→∃ i,p≤i∧i≤q∧c[i]?=some u) (hpq:p < q) (hql:q < c.length) {a b:Int} (ho:Obj J (bef++[v]) a b) :
  Obj J bef a b∨∃ (i:Nat) (w:Int),p≤i∧i≤q∧c[i]?=some w∧(a=v∨b=v) ∧
   ∀ zx zy d,Seg X Y a b zx zy d→∃ t,0 < d∧0≤t∧t≤d∧zx=X w * (d - t)+X v * t∧zy=Y w * (d - t)+Y v * t∧(t=0→w=a∨w=b):=by
 obtain ⟨h1,h2,h3⟩:=ho
 rw [B3,MA] at h1 h2
 have cp:c[p]?=some c[p]:=gr (by omega)
 rcases h1 with h1 | rfl
 ·rcases h2 with h2 | rfl
  ·exact .inl ⟨h1,h2,h3⟩
  ·rcases h3 with rfl | h3
   ·refine .inr ⟨p,c[p],A7 _,by omega,cp,.inl rfl,?_⟩
    rintro zx zy d ⟨h0,t,t1,t2,e1,e2⟩
    exact ⟨d,h0,by omega,Nb _,by rw [e1]; grind,by rw [e2]; grind,fun h=>by omega⟩
   ·obtain ⟨i,i1,i2,i3⟩:=hJ a h1 h3
    refine .inr ⟨i,a,i1,i2,i3,.inr rfl,?_⟩
    rintro zx zy d ⟨h0,t,t1,t2,e1,e2⟩
    exact ⟨t,h0,t1,t2,e1,e2,fun _=>.inl rfl⟩
 ·rcases h2 with h2 | rfl
  ·rcases h3 with rfl | h3
   ·refine .inr ⟨p,c[p],A7 _,by omega,cp,.inl rfl,?_⟩
    rintro zx zy d ⟨h0,t,t1,t2,e1,e2⟩
    exact ⟨d,h0,by omega,Nb _,by rw [e1]; grind,by rw [e2]; grind,fun h=>by omega⟩
   ·obtain ⟨i,i1,i2,i3⟩:=hJ b h2 (hJs _ _ h3)
    refine .inr ⟨i,b,i1,i2,i3,.inl rfl,?_⟩
    rintro zx zy d hs
    obtain ⟨h0,t,t1,t2,e1,e2⟩:=hs.swap
    exact ⟨t,h0,t1,t2,e1,e2,fun _=>.inr rfl⟩
  ·refine .inr ⟨p,c[p],A7 _,by omega,cp,.inl rfl,?_⟩
   rintro zx zy d ⟨h0,t,t1,t2,e1,e2⟩
   exact ⟨d,h0,by omega,Nb _,by rw [e1]; grind,by rw [e2]; grind,fun h=>by omega⟩
theorem PlanC.grow (hP:PlanC X Y J bef c) (hJs:∀ a b,J a b→J b a) (hvv:¬ J v v) (hc:∀ u∈c,u∈bef) (hv:v∉bef) (h:Sees X Y c p q v) (hJ:∀ u∈bef,J u v→∃ i,p≤i∧i≤q∧c[i]?=some u) :
  PlanC X Y J (bef++[v]) (c.take (p+1)++v :: c.drop q):=by
 have hql:=h.ql
 have hpq:=h.pq
 have cp:c[p]?=some c[p]:=gr (by omega)
 have cq:c[q]?=some c[q]:=gr hql
 refine ⟨?_,?_,?_⟩
 ·rintro a b ⟨j,ha,hb⟩
  rw [cy hpq hql] at ha hb
  by_cases h1:j < p
  ·rw [if_pos (by omega)] at ha hb
   exact hP.mono a b ⟨j,ha,hb⟩
  ·by_cases h2:j=p
   ·subst h2
    rw [if_pos (A7 _)] at ha
    rw [if_neg (by omega),if_pos rfl] at hb
    cases hb
    exact h.lo a ha
   ·by_cases h3:j=p+1
    ·subst h3
     rw [if_neg (by omega),if_pos rfl] at ha
     rw [if_neg (by omega),if_neg (by omega),show p+1+1 - (p+2)+q=q by omega] at hb
     cases ha
     exact h.hi b hb
    ·rw [if_neg (by omega),if_neg (by omega)] at ha hb
     exact hP.mono a b ⟨j - (p+2)+q,ha,by rw [← hb]; congr 1; omega⟩
 ·intro a b zx zy d ho hs
  rcases qe (X:=X) (Y:=Y) hJs hvv hJ hpq hql ho with ho | ⟨i,w,i1,i2,i3,_,hz⟩
  ·exact DS hP.mono h hs.1 (hP.below a b zx zy d ho hs)
  ·obtain ⟨t,h0,t1,t2,rfl,rfl,_⟩:=hz zx zy d hs
   exact CY hP.mono h i1 i2 i3 h0 t1 t2
 ·intro a b a' b' ho ho' n1 n2 n3 n4 zx zy d hs hs'
  rcases qe (X:=X) (Y:=Y) hJs hvv hJ hpq hql ho with ho | ⟨i,w,i1,i2,i3,hv1,hz⟩
  ·rcases qe (X:=X) (Y:=Y) hJs hvv hJ hpq hql ho' with ho' | ⟨i',w',i1',i2',i3',hv1',hz'⟩
   ·exact hP.apart a b a' b' ho ho' n1 n2 n3 n4 zx zy d hs hs'
   ·obtain ⟨t,h0,t1,t2,e1,e2,e3⟩:=hz' zx zy d hs'
    refine t6 hP h hc i1' i2' i3' h0 t1 t2 e1 e2 ho (fun e=>?_) hs
    rcases e3 e with rfl | rfl
    ·exact ⟨fun e=>n1 e.symm,fun e=>n3 e.symm⟩
    ·exact ⟨fun e=>n2 e.symm,fun e=>n4 e.symm⟩
  ·rcases qe (X:=X) (Y:=Y) hJs hvv hJ hpq hql ho' with ho' | ⟨i',w',i1',i2',i3',hv1',hz'⟩
   ·obtain ⟨t,h0,t1,t2,e1,e2,e3⟩:=hz zx zy d hs
    refine t6 hP h hc i1 i2 i3 h0 t1 t2 e1 e2 ho' (fun e=>?_) hs'
    rcases e3 e with rfl | rfl
    ·exact ⟨n1,n2⟩
    ·exact ⟨n3,n4⟩
   ·rcases hv1 with rfl | rfl
    ·rcases hv1' with rfl | rfl
     ·exact n1 rfl
     ·exact n2 rfl
    ·rcases hv1' with rfl | rfl
     ·exact n3 rfl
     ·exact n4 rfl
end
end
end Go.Shift

/-
 Straight drawings that grow: the shift; what it keeps.
-/
namespace Go.Shift
section
variable {X Y:Int→Int} {J:Int→Int→Prop} {bef c:List Int}
def Slopes (X Y:Int→Int) (c:List Int):Prop:=∀ a b,Adj c a b→X a < X b∧(Y b - Y a=X b - X a∨Y b - Y a=X a - X b)
theorem ut (h:Slopes X Y c):∀ (k i:Nat) (a b:Int),c[i]?=some a→c[i+k]?=some b→X a - Y a≤X b - Y b∧X a+Y a≤X b+Y b∧∃ m,(X b - Y b) - (X a - Y a)=2 * m
 | 0,i,a,b,ha,hb=>by
  rw [M4,ha] at hb
  cases hb
  exact ⟨Nb _,Nb _,0,by omega⟩
 | k+1,i,a,b,ha,hb=>by
  have hl:=(A2.1 hb).1
  have h1:c[i+1]?=some c[i+1]:=gr (by omega)
  obtain ⟨g1,g2⟩:=h a _ ⟨i,ha,h1⟩
  obtain ⟨k1,k2,m,k3⟩:=ut h k (i+1) _ b h1 (by rw [← hb]; congr 1; omega)
  rcases g2 with g2 | g2
  ·exact ⟨by omega,by omega,m,by omega⟩
  ·exact ⟨by omega,by omega,m+(X c[i+1] - X a),by omega⟩
theorem Slopes.le (h:Slopes X Y c) {i j:Nat} {a b:Int} (hij:i≤j) (ha:c[i]?=some a) (hb:c[j]?=some b):X a - Y a≤X b - Y b∧X a+Y a≤X b+Y b∧∃ m,(X b - Y b) - (X a - Y a)=2 * m :=
 ut h (j - i) i a b ha (by rw [← hb]; congr 1; omega)
theorem IP {D e H W:Int} (hD:0 < D) (he:0≤e) (hH:0 < H) (h:1≤H - W):0 < (D+e) * H - D * W:=by
 have h1:0 < D * (H - W):=NI hD (by omega)
 have h2:0≤e * H:=Mx he (by omega)
 grind
theorem J2 {D e H W δ : Int} (hD:0 < D) (hδ : 0≤δ) (he:1+δ≤e) (hH:D < H) (h:W=H+δ):0 < (D+e) * H - D * W:=by
 subst h
 have h1:0≤(e - (1+δ)) * H:=Mx (by omega) (by omega)
 have h2:0≤δ * (H - D):=Mx hδ (by omega)
 grind
theorem DP {D e H W:Int} (hD:0 < D) (he:0≤e) (hH:0 < H) (h:1≤H+W):0 < (D+e) * H - (-D) * W:=by
 have h1:0 < D * (H+W):=NI hD (by omega)
 have h2:0≤e * H:=Mx he (by omega)
 grind
theorem dq (hS:Slopes X Y c) {p q:Nat} (hpq:p < q) (hql:q < c.length) {s:Nat→Int} {σ : Int} (hp:s p≤σ) (hq : σ≤s q) (hin:∀ j,p < j→j < q→s j=σ) {X' Y':Int→Int}
  (hX:∀ (j:Nat) a,c[j]?=some a→X' a=X a+(if j≤p then 0 else if j < q then 1 else 2)+s j) (hY:∀ (j:Nat) a,c[j]?=some a→Y' a=Y a) {v xv cp cq:Int} (hcp:c[p]?=some cp) (hcq:c[q]?=some cq)
  (hv:X' v=xv+σ) (e1:xv - Y' v=X cp - Y cp) (e2:xv+Y' v=X cq+2+Y cq):Sees X' Y' c p q v:=by
 have up:∀ (i:Nat) a,p≤i→i≤q→c[i]?=some a→Y' a < Y' v:=by
  intro i a h1 h2 ha
  rw [hY i a ha]
  obtain ⟨a1,a2,_⟩:=hS.le h1 hcp ha
  obtain ⟨b1,b2,_⟩:=hS.le h2 ha hcq
  omega
 refine ⟨hpq,hql,?_,?_,up,?_⟩
 ·intro a ha
  rw [hcp] at ha
  cases ha
  have:=hX p _ hcp
  rw [if_pos (A7 _)] at this
  obtain ⟨a1,a2,_⟩:=hS.le (MQ hpq) hcp hcq
  omega
 ·intro a ha
  rw [hcq] at ha
  cases ha
  have:=hX q _ hcq
  rw [if_neg (by omega),if_neg (by omega)] at this
  obtain ⟨a1,a2,_⟩:=hS.le (MQ hpq) hcp hcq
  omega
 ·intro i a b h1 h2 ha hb
  obtain ⟨g1,g2⟩:=hS a b ⟨i,ha,hb⟩
  have xa:=hX i a ha
  have xb:=hX (i+1) b hb
  have ya:=hY i a ha
  have yb:=hY (i+1) b hb
  have ua:=up i a h1 (by omega) ha
  have ub:=up (i+1) b (by omega) (by omega) hb
  obtain ⟨a1,a2,_⟩:=hS.le h1 hcp ha
  obtain ⟨b1,b2,_⟩:=hS.le (show i≤q by omega) ha hcq
  have key:∀ D e H W:Int,D=X b - X a→X' b - X' a=D+e→H=Y' v - Y' a→W=X' v - X' a→0 < (D+e) * H - (Y' b - Y' a) * W→0 < ori X' Y' a b v:=by
   intro D e H W r1 r2 r3 r4 h
   unfold ori
   rw [r2,← r3,← r4]
   exact h
  by_cases hi:i=p
  ·subst hi
   rw [hcp] at ha
   cases ha
   rw [if_pos (A7 _)] at xa
   rw [if_neg (by omega)] at xb
   have he:∃ e,X' b - X' cp=(X b - X cp)+e∧1+(σ - s i)≤e:=by
    by_cases hq1:i+1=q
    ·rw [if_neg (by omega)] at xb
     rw [hq1] at xb
     exact ⟨2+(s q - s i),by omega,by omega⟩
    ·rw [if_pos (by omega)] at xb
     have:=hin (i+1) (by omega) (by omega)
     exact ⟨1+(σ - s i),by omega,by omega⟩
   obtain ⟨e,r,he⟩:=he
   refine key _ e _ _ rfl r rfl rfl ?_
   rcases g2 with g2 | g2
   ·rw [show Y' b - Y' cp=X b - X cp by omega]
    exact J2 (δ:=σ - s i) (by omega) (by omega) he (by omega) (by omega)
   ·rw [show Y' b - Y' cp=-(X b - X cp) by omega]
    exact DP (by omega) (by omega) (by omega) (by omega)
  ·rw [if_neg (by omega),if_pos (by omega)] at xa
   rw [if_neg (by omega)] at xb
   have hsi:=hin i (by omega) h2
   have he:∃ e,X' b - X' a=(X b - X a)+e∧0≤e:=by
    by_cases hq1:i+1=q
    ·rw [if_neg (by omega)] at xb
     rw [hq1] at xb
     exact ⟨1+(s q - σ),by omega,by omega⟩
    ·rw [if_pos (by omega)] at xb
     have:=hin (i+1) (by omega) (by omega)
     exact ⟨0,by omega,by omega⟩
   obtain ⟨e,r,he⟩:=he
   refine key _ e _ _ rfl r rfl rfl ?_
   rcases g2 with g2 | g2
   ·rw [show Y' b - Y' a=X b - X a by omega]
    exact IP (by omega) he (by omega) (by omega)
   ·rw [show Y' b - Y' a=-(X b - X a) by omega]
    exact DP (by omega) he (by omega) (by omega)
structure Dyn (J:Int→Int→Prop) (X Y:Int→Int) (M:Int→List Int) (bef c:List Int):Prop where
 sl:Slopes X Y c
 c0:∀ a,c[0]?=some a→X a=0∧Y a=0
 c1:∀ a,c[c.length - 1]?=some a→X a=2 * (bef.length:Int) - 4∧Y a=0
 box:∀ u∈bef,0≤X u∧X u≤2 * (bef.length:Int) - 4∧0≤Y u∧Y u≤(bef.length:Int) - 2
 len2:2≤c.length
 sub:∀ u∈c,u∈bef
 cnd:c.Nodup
 own:∀ u∈c,u∈M u
 mem:∀ u∈c,∀ x∈M u,x∈bef
 cov:∀ x∈bef,∃ u∈c,x∈M u
 dis:∀ u∈c,∀ u'∈c,∀ x,x∈M u→x∈M u'→u=u'
 nd:∀ u∈c,(M u).Nodup
 plan:∀ (s:Nat→Int),(∀ i,i+1 < c.length→s i≤s (i+1))→∀ X' Y',(∀ (j:Nat) u,c[j]?=some u→∀ x∈M u,X' x=X x+s j)→(∀ x∈bef,Y' x=Y x)→PlanC X' Y' J bef c
theorem idx_eq (h:c.Nodup) {i j:Nat} {a:Int} (hi:c[i]?=some a) (hj:c[j]?=some a):i=j:=by
 obtain ⟨i1,i2⟩:=A2.1 hi
 obtain ⟨j1,j2⟩:=A2.1 hj
 exact (List.getElem_inj h).1 (by rw [i2,j2])
theorem jz {p q:Nat} {v u:Int} (hu:u∈c.take (p+1)++v :: c.drop q):u=v∨∃ j:Nat,c[j]?=some u∧(j≤p∨q≤j):=by
 rcases B3.1 hu with hu | hu
 ·obtain ⟨j,hj⟩:=L5.1 hu
  rw [L7] at hj
  split at hj
  ·exact .inr ⟨j,hj,.inl (by omega)⟩
  ·cases hj
 ·rcases B7.1 hu with hu | hu
  ·exact .inl hu
  ·obtain ⟨j,hj⟩:=L5.1 hu
   rw [Mq] at hj
   exact .inr ⟨q+j,hj,.inr (by omega)⟩
theorem Hy {p q:Nat} {v u:Int} {j:Nat} (hj:c[j]?=some u) (h:j≤p∨q≤j):u∈c.take (p+1)++v :: c.drop q:=by
 rcases h with h | h
 ·exact B3.2 (.inl (L5.2 ⟨j,by rw [L7,if_pos (by omega)]; exact hj⟩))
 ·exact B3.2 (.inr (B7.2 (.inr (L5.2 ⟨j - q,by rw [Mq,← hj]; congr 1; omega⟩))))
theorem Dyn.step {M:Int→List Int} (h:Dyn J X Y M bef c) (hJs:∀ a b,J a b→J b a) {v:Int} (hvv:¬ J v v) (hv:v∉bef) {p q:Nat} (hpq:p < q) (hql:q < c.length)
  (hJ:∀ u∈bef,J u v→∃ i,p≤i∧i≤q∧c[i]?=some u) (hcn:(c.take (p+1)++v :: c.drop q).Nodup) {cp cq:Int} (hcp:c[p]?=some cp) (hcq:c[q]?=some cq) {X1 Y1:Int→Int} {M1:Int→List Int}
  (hX1:∀ (j:Nat) u,c[j]?=some u→∀ x∈M u,X1 x=X x+(if j≤p then 0 else if j < q then 1 else 2)) (hY1:∀ x∈bef,Y1 x=Y x)
  (e1:X1 v - Y1 v=X cp - Y cp) (e2:X1 v+Y1 v=X cq+2+Y cq)
  (hMv:∀ x,x∈M1 v↔x=v∨∃ (j:Nat) (u:Int),p < j∧j < q∧c[j]?=some u∧x∈M u) (hMn:(M1 v).Nodup) (hM:∀ u∈bef,M1 u=M u) :
  Dyn J X1 Y1 M1 (bef++[v]) (c.take (p+1)++v :: c.drop q):=by
 have gn:=cy (c:=c) hpq hql v
 have hbl:(((bef++[v]).length:Nat):Int)=(bef.length:Int)+1:=by simp
 have hlen:(c.take (p+1)++v :: c.drop q).length=p+2+(c.length - q):=by
  rw [Mb,Mw,LU,MD]; omega
 have xc:∀ (j:Nat) u,c[j]?=some u→X1 u=X u+(if j≤p then 0 else if j < q then 1 else 2):=fun j u hu=>hX1 j u hu u (h.own u (A5 hu))
 have yc:∀ (j:Nat) u,c[j]?=some u→Y1 u=Y u:=fun j u hu=>hY1 u (h.sub u (A5 hu))
 obtain ⟨w1,w2,_⟩:=h.sl.le (MQ hpq) hcp hcq
 have h00:c[0]?=some c[0]:=gr (by omega)
 have hll:c[c.length - 1]?=some c[c.length - 1]:=gr (by omega)
 obtain ⟨z1,z2⟩:=h.c0 _ h00
 obtain ⟨z3,z4⟩:=h.c1 _ hll
 obtain ⟨v1,v2,_⟩:=h.sl.le (MJ p) h00 hcp
 obtain ⟨v3,v4,_⟩:=h.sl.le (show q≤c.length - 1 by omega) hcq hll
 obtain ⟨bp1,bp2,bp3,bp4⟩:=h.box cp (h.sub cp (A5 hcp))
 obtain ⟨bq1,bq2,bq3,bq4⟩:=h.box cq (h.sub cq (A5 hcq))
 refine ⟨?_,?_,?_,?_,?_,?_,hcn,?_,?_,?_,?_,?_,?_⟩
 ·rintro a b ⟨j,ha,hb⟩
  rw [gn] at ha hb
  by_cases k1:j < p
  ·rw [if_pos (by omega)] at ha hb
   have:=xc j a ha
   have:=xc (j+1) b hb
   rw [if_pos (by omega)] at *
   rw [yc j a ha,yc (j+1) b hb,xc j a ha,xc (j+1) b hb,if_pos (by omega),if_pos (by omega)]
   have:=h.sl a b ⟨j,ha,hb⟩
   omega
  ·by_cases k2:j=p
   ·subst k2
    rw [if_pos (A7 _)] at ha
    rw [if_neg (by omega),if_pos rfl] at hb
    cases hb
    rw [hcp] at ha
    cases ha
    have xx:=xc j _ hcp
    rw [if_pos (A7 _)] at xx
    have yy:=yc j _ hcp
    exact ⟨by omega,.inl (by omega)⟩
   ·by_cases k3:j=p+1
    ·subst k3
     rw [if_neg (by omega),if_pos rfl] at ha
     rw [if_neg (by omega),if_neg (by omega),show p+1+1 - (p+2)+q=q by omega,hcq] at hb
     cases ha
     cases hb
     have xx:=xc q _ hcq
     rw [if_neg (by omega),if_neg (by omega)] at xx
     have yy:=yc q _ hcq
     exact ⟨by omega,.inr (by omega)⟩
    ·rw [if_neg (by omega),if_neg (by omega)] at ha hb
     have hb':c[j - (p+2)+q+1]?=some b:=by rw [← hb]; congr 1; omega
     rw [yc _ a ha,yc _ b hb',xc _ a ha,xc _ b hb',if_neg (by omega),if_neg (by omega),if_neg (by omega),if_neg (by omega)]
     have:=h.sl a b ⟨_,ha,hb'⟩
     omega
 ·intro a ha
  rw [gn,if_pos (MJ _)] at ha
  rw [xc 0 a ha,yc 0 a ha,if_pos (MJ _)]
  have:=h.c0 a ha
  omega
 ·intro a ha
  rw [hlen,gn,if_neg (by omega),if_neg (by omega),show p+2+(c.length - q) - 1 - (p+2)+q=c.length - 1 by omega] at ha
  rw [xc _ a ha,yc _ a ha,if_neg (by omega),if_neg (by omega),hbl]
  have:=h.c1 a ha
  omega
 ·intro u hu
  rw [hbl]
  rcases B3.1 hu with hu | hu
  ·obtain ⟨w,hw,hx⟩:=h.cov u hu
   obtain ⟨j,hj⟩:=L5.1 hw
   have k1:=hX1 j w hj u hx
   have k2:=hY1 u hu
   have:=h.box u hu
   split at k1
   ·omega
   ·split at k1 <;> omega
  ·rw [MA] at hu
   subst hu
   omega
 ·rw [hlen]; omega
 ·intro u hu
  rcases jz hu with rfl | ⟨j,hj,_⟩
  ·simp
  ·exact B3.2 (.inl (h.sub u (A5 hj)))
 ·intro u hu
  rcases jz hu with rfl | ⟨j,hj,_⟩
  ·exact (hMv u).2 (.inl rfl)
  ·have:=A5 hj
   rw [hM u (h.sub u this)]
   exact h.own u this
 ·intro u hu x hx
  rcases jz hu with rfl | ⟨j,hj,_⟩
  ·rcases (hMv x).1 hx with rfl | ⟨j,w,_,_,hw,hxw⟩
   ·simp
   ·exact B3.2 (.inl (h.mem w (A5 hw) x hxw))
  ·have hc:=A5 hj
   rw [hM u (h.sub u hc)] at hx
   exact B3.2 (.inl (h.mem u hc x hx))
 ·intro x hx
  rcases B3.1 hx with hx | hx
  ·obtain ⟨w,hw,hxw⟩:=h.cov x hx
   obtain ⟨j,hj⟩:=L5.1 hw
   by_cases k:j≤p∨q≤j
   ·exact ⟨w,Hy hj k,by rw [hM w (h.sub w hw)]; exact hxw⟩
   ·exact ⟨v,by simp,(hMv x).2 (.inr ⟨j,w,by omega,by omega,hj,hxw⟩)⟩
  ·rw [MA] at hx
   subst hx
   exact ⟨x,by simp,(hMv x).2 (.inl rfl)⟩
 ·have one:∀ u:Int,∀ j:Nat,c[j]?=some u→(j≤p∨q≤j)→∀ x,x∈M1 v→x∈M1 u→False:=by
   intro u j hj k x hx hxu
   have hu:=A5 hj
   rw [hM u (h.sub u hu)] at hxu
   rcases (hMv x).1 hx with rfl | ⟨j',w,k1,k2,hw,hxw⟩
   ·exact hv (h.mem u hu x hxu)
   ·have:=h.dis w (A5 hw) u hu x hxw hxu
    subst this
    have:=idx_eq h.cnd hj hw
    omega
  intro u hu u' hu' x hx hx'
  rcases jz hu with rfl | ⟨j,hj,k⟩
  ·rcases jz hu' with rfl | ⟨j',hj',k'⟩
   ·rfl
   ·exact (one u' j' hj' k' x hx hx').elim
  ·rcases jz hu' with rfl | ⟨j',hj',k'⟩
   ·exact (one u j hj k x hx' hx).elim
   ·have h1:=A5 hj
    have h2:=A5 hj'
    rw [hM u (h.sub u h1)] at hx
    rw [hM u' (h.sub u' h2)] at hx'
    exact h.dis u h1 u' h2 x hx hx'
 ·intro u hu
  rcases jz hu with rfl | ⟨j,hj,k⟩
  ·exact hMn
  ·have h1:=A5 hj
   rw [hM u (h.sub u h1)]
   exact h.nd u h1
 ·intro s1 hs1 X' Y' hX' hY'
  rw [hlen] at hs1
  have pv:(c.take (p+1)++v :: c.drop q)[p+1]?=some v:=by rw [gn,if_neg (by omega),if_pos rfl]
  have lowp:∀ (j:Nat) u,j≤p→c[j]?=some u→(c.take (p+1)++v :: c.drop q)[j]?=some u:=fun j u hj hu=>by rw [gn,if_pos hj]; exact hu
  have highq:∀ (j:Nat) u,q≤j→c[j]?=some u→(c.take (p+1)++v :: c.drop q)[j - q+(p+2)]?=some u:=fun j u hj hu=>by rw [gn,if_neg (by omega),if_neg (by omega),← hu]; congr 1; omega
  have mono1:∀ k i,i+k < p+2+(c.length - q)→s1 i≤s1 (i+k):=by
   intro k
   induction k with
   | zero=>intro i _; exact Nb _
   | succ k ih=>intro i hi; have:=ih i (by omega); have:=hs1 (i+k) (by omega); rw [← Nat.add_assoc]; omega
  -- the old contour's shift
  have hXx:∀ (j:Nat) u,c[j]?=some u→∀ x∈M u,X' x=X x+(if j≤p then 0 else if j < q then 1 else 2)+(if j≤p then s1 j else if j < q then s1 (p+1) else s1 (j - q+(p+2))):=by
   intro j u hu x hx
   have hc:=A5 hu
   have hx1:x∈M1 u:=by rw [hM u (h.sub u hc)]; exact hx
   rw [← hX1 j u hu x hx]
   by_cases k1:j≤p
   ·rw [if_pos k1]; exact hX' j u (lowp j u k1 hu) x hx1
   ·rw [if_neg k1]
    by_cases k2:j < q
    ·rw [if_pos k2]; exact hX' (p+1) v pv x ((hMv x).2 (.inr ⟨j,u,by omega,k2,hu,hx⟩))
    ·rw [if_neg k2]; exact hX' _ u (highq j u (by omega) hu) x hx1
  have hPl:=h.plan (fun j=>(if j≤p then 0 else if j < q then 1 else 2)+(if j≤p then s1 j else if j < q then s1 (p+1) else s1 (j - q+(p+2)))) (by
   intro i hi
   have hcl:=(show i+1 < c.length from hi)
   by_cases k1:i+1≤p
   ·have:=hs1 i (by omega)
    rw [if_pos (by omega),if_pos (by omega),if_pos k1,if_pos k1]
    omega
   ·by_cases k2:i≤p
    ·have hip:i=p:=by omega
     rw [if_pos k2,if_pos k2,if_neg k1,if_neg k1]
     by_cases k3:i+1 < q
     ·have:=hs1 i (by omega)
      rw [if_pos k3,if_pos k3,← hip]
      omega
     ·have:=mono1 2 i (by omega)
      rw [if_neg k3,if_neg k3,show i+1 - q+(p+2)=i+2 by omega]
      omega
    ·rw [if_neg k2,if_neg k2,if_neg k1,if_neg k1]
     by_cases k3:i+1 < q
     ·rw [if_pos (by omega),if_pos (by omega),if_pos k3,if_pos k3]
      exact Nb _
     ·rw [if_neg k3,if_neg k3]
      by_cases k4:i < q
      ·have:=hs1 (p+1) (by omega)
       rw [if_pos k4,if_pos k4,show i+1 - q+(p+2)=p+1+1 by omega]
       omega
      ·have:=hs1 (i - q+(p+2)) (by omega)
       rw [if_neg k4,if_neg k4,show i+1 - q+(p+2)=i - q+(p+2)+1 by omega]
       omega) X' Y' (by
   intro j u hu x hx
   rw [hXx j u hu x hx,Int.add_assoc]) (fun x hx=>by rw [hY' x (B3.2 (.inl hx)),hY1 x hx])
  have hvX:X' v=X1 v+s1 (p+1):=hX' (p+1) v pv v ((hMv v).2 (.inl rfl))
  have hvY:Y' v=Y1 v:=hY' v (by simp)
  refine hPl.grow hJs hvv h.sub hv ?_ hJ
  refine dq (X:=X) (Y:=Y) (s:=fun j=>if j≤p then s1 j else if j < q then s1 (p+1) else s1 (j - q+(p+2))) (σ:=s1 (p+1)) (xv:=X1 v) h.sl hpq hql ?_ ?_ ?_ ?_ ?_ hcp hcq hvX (by rw [hvY]; exact e1) (by rw [hvY]; exact e2)
  ·rw [if_pos (A7 _)]
   exact hs1 p (by omega)
  ·rw [if_neg (by omega),if_neg (by omega),ON,L9]
   exact hs1 (p+1) (by omega)
  ·intro j k1 k2
   rw [if_neg (by omega),if_pos k2]
  ·intro j a ha
   exact hXx j a ha a (h.own a (A5 ha))
  ·intro j a ha
   have:=h.sub a (A5 ha)
   rw [hY' a (B3.2 (.inl this)),hY1 a this]
end
end Go.Shift

/-
 Segments that meet have a point in common.
-/
namespace Go.Shift
section
variable {X Y:Int→Int}
theorem Ja {u d:Int} (hd:0 < d):Seg X Y u u (X u * d) (Y u * d) d:=⟨hd,0,Nb _,by omega,by grind,by grind⟩
theorem xM {a b u:Int} (h0:ori X Y a b u=0) (h:X a < X b) (h1:X a≤X u) (h2:X u≤X b):Seg X Y a b (X u * (X b - X a)) (Y u * (X b - X a)) (X b - X a):=by
 unfold ori at h0
 refine ⟨by omega,X u - X a,by omega,by omega,by grind,by grind⟩
theorem yr {a b u:Int} (hx:X a=X b) (hu:X u=X a) (h:Y a < Y b) (h1:Y a≤Y u) (h2:Y u≤Y b):Seg X Y a b (X u * (Y b - Y a)) (Y u * (Y b - Y a)) (Y b - Y a):=by
 refine ⟨by omega,Y u - Y a,by omega,by omega,by rw [hu,← hx]; grind,by grind⟩
theorem C2 {a b u:Int} (h0:ori X Y a b u=0) (x1:min (X a) (X b)≤X u) (x2:X u≤max (X a) (X b)) (y1:min (Y a) (Y b)≤Y u) (y2:Y u≤max (Y a) (Y b)):∃ d,Seg X Y a b (X u * d) (Y u * d) d∧Seg X Y u u (X u * d) (Y u * d) d:=by
 have h0':ori X Y b a u=0:=by unfold ori at h0 ⊢; grind
 have fin:∀ d,Seg X Y a b (X u * d) (Y u * d) d→∃ d,Seg X Y a b (X u * d) (Y u * d) d∧Seg X Y u u (X u * d) (Y u * d) d:=fun d h=>⟨d,h,Ja h.1⟩
 rcases M9 (X a) (X b) with hx | hx | hx
 ·exact fin _ (xM h0 hx (by omega) (by omega))
 ·have hu:X u=X a:=by omega
  rcases M9 (Y a) (Y b) with hy | hy | hy
  ·exact fin _ (yr hx hu hy (by omega) (by omega))
  ·have hv:Y u=Y a:=by omega
   exact fin 1 ⟨by omega,0,by omega,by omega,by rw [hu]; grind,by rw [hv]; grind⟩
  ·exact fin _ (yr hx.symm (by omega) hy (by omega) (by omega)).swap
 ·exact fin _ (xM h0' hx (by omega) (by omega)).swap
theorem lR {a b:Int} (h:a * b < 0):(0 < a∧b < 0)∨(a < 0∧0 < b):=by
 rcases M9 a 0 with ha | ha | ha
 ·rcases M9 b 0 with hb | hb | hb
  ·have:=Int.mul_pos_of_neg_of_neg ha hb; omega
  ·subst hb; omega
  ·exact .inr ⟨ha,hb⟩
 ·subst ha; omega
 ·rcases M9 b 0 with hb | hb | hb
  ·exact .inl ⟨ha,hb⟩
  ·subst hb; omega
  ·have:=NI ha hb; omega
theorem sH {a b c e:Int} (h1:0 < ori X Y a b c) (h2:ori X Y a b e < 0) (h:ori X Y c e a * ori X Y c e b < 0):∃ zx zy d,Seg X Y a b zx zy d∧Seg X Y c e zx zy d:=by
 have hd:ori X Y c e b - ori X Y c e a=ori X Y a b c - ori X Y a b e:=by unfold ori; grind
 have hs:ori X Y c e a < 0∧0 < ori X Y c e b:=by
  rcases lR h with ⟨k1,k2⟩ | k
  ·omega
  ·exact k
 obtain ⟨s1,s2⟩:=hs
 refine ⟨X c * (-ori X Y a b e)+X e * ori X Y a b c,Y c * (-ori X Y a b e)+Y e * ori X Y a b c,ori X Y a b c - ori X Y a b e,⟨by omega,-ori X Y c e a,by omega,by omega,?_,?_⟩,⟨by omega,ori X Y a b c,by omega,by omega,?_,?_⟩⟩
 ·rw [← hd]; unfold ori; grind
 ·rw [← hd]; unfold ori; grind
 ·grind
 ·grind
theorem vS {a b c e:Int} (h1:ori X Y a b c * ori X Y a b e < 0) (h2:ori X Y c e a * ori X Y c e b < 0):∃ zx zy d,Seg X Y a b zx zy d∧Seg X Y c e zx zy d:=by
 rcases lR h1 with ⟨k1,k2⟩ | ⟨k1,k2⟩
 ·exact sH k1 k2 h2
 ·have e1:ori X Y e c a=- ori X Y c e a:=by unfold ori; grind
  have e2:ori X Y e c b=- ori X Y c e b:=by unfold ori; grind
  obtain ⟨zx,zy,d,s1,s2⟩:=sH (X:=X) (Y:=Y) (a:=a) (b:=b) (c:=e) (e:=c) k2 k1 (by rw [e1,e2]; grind)
  exact ⟨zx,zy,d,s1,s2.swap⟩
end
end Go.Shift

/-
 StraightGrid: what a round of the shift does to the points.
-/
namespace Go.Vm
open Go.Proofs Go.Shift
set_option maxRecDepth 100000
attribute [local irreducible] aa
def xs (l:List PtS) (u:Int):Int:=(l.getD u.toNat (0,0,())).1
def ys (l:List PtS) (u:Int):Int:=(l.getD u.toNat (0,0,())).2.1
def gR (mv:List (List Int)) (u:Int):List Int:=aV mv u.toNat
theorem eW {l:List PtS} {i j:Nat} {x d:PtS} (h:i≠j):(l.set i x).getD j d=l.getD j d:=by
 rw [A8,M6 h,← A8]
theorem gu {l:List PtS} {i:Nat} {x d:PtS} (h:i < l.length):(l.set i x).getD i d=x:=by
 rw [A8,Nz h]; rfl
theorem Jl {b:Int} (hb:0≤b∧b≤2) {at_:List PtS} {u:Int} (hu:0≤u∧u < (at_.length:Int)) (hx:0≤xs at_ u∧xs at_ u≤1000) {x:Int} (h0:0≤x) :
  xs (mvT b at_ u) x=(if x=u then xs at_ x+b else xs at_ x)∧ys (mvT b at_ u) x=ys at_ x:=by
 unfold mvT
 by_cases e:x=u
 ·subst e
  rw [if_pos rfl]
  unfold xs ys at *
  rw [gu (by omega)]
  simp only
  rw [gO (by omega) (by omega)]
  exact ⟨rfl,by trivial⟩
 ·rw [if_neg e]
  unfold xs ys
  rw [eW (by omega)]
  exact ⟨rfl,rfl⟩
theorem rL {b:Int} (hb:0≤b∧b≤2):∀ (us:List Int) (at_:List PtS),us.Nodup→(∀ u∈us,0≤u∧u < (at_.length:Int)∧0≤xs at_ u∧xs at_ u≤1000)→∀ x,0≤x →
  (x∈us→xs (gZ at_ us b) x=xs at_ x+b)∧(x∉us→xs (gZ at_ us b) x=xs at_ x)∧ys (gZ at_ us b) x=ys at_ x
 | [],at_,_,_,x,_=>⟨fun h=>(by cases h),fun _=>rfl,rfl⟩
 | u :: us,at_,hn,hu,x,h0=>by
  obtain ⟨n1,n2⟩:=MU.1 hn
  obtain ⟨u1,u2,u3,u4⟩:=hu u (by simp)
  have hm:∀ x:Int,0≤x→xs (mvT b at_ u) x=(if x=u then xs at_ x+b else xs at_ x)∧ys (mvT b at_ u) x=ys at_ x:=fun x h0=>Jl hb ⟨u1,u2⟩ ⟨u3,u4⟩ h0
  obtain ⟨k1,k2,k3⟩:=rL hb us (mvT b at_ u) n2 (by
   intro w hw
   obtain ⟨w1,w2,w3,w4⟩:=hu w (by simp [hw])
   have:=(hm w w1).1
   rw [if_neg (by rintro rfl; exact n1 hw)] at this
   rw [vD]
   exact ⟨w1,w2,by omega,by omega⟩) x h0
  obtain ⟨m1,m2⟩:=hm x h0
  show (_→xs (gZ (mvT b at_ u) us b) x=_)∧(_→xs (gZ (mvT b at_ u) us b) x=_)∧ys (gZ (mvT b at_ u) us b) x=_
  refine ⟨fun hx=>?_,fun hx=>?_,by rw [k3,m2]⟩
  ·by_cases e:x=u
   ·rw [k2 (by rw [e]; exact n1),m1,if_pos e]
   ·rw [k1 (by rcases B7.1 hx with h | h; exact absurd h e; exact h),m1,if_neg e]
  ·rw [k2 (fun h=>hx (by simp [h])),m1,if_neg (fun e=>hx (by simp [e]))]
theorem DK {mv:List (List Int)} {p q:Nat}:∀ (l:List Int) (i:Nat) (s t:List PtS×List Int),ae (vk mv p q) i s l=some (.inl t)→l.Nodup →
  (∀ u∈l,∀ u'∈l,∀ x,x∈gR mv u→x∈gR mv u'→u=u')→(∀ u∈l,(gR mv u).Nodup∧∀ x∈gR mv u,0≤x∧x < (s.1.length:Int)∧0≤xs s.1 x∧xs s.1 x≤1000) →
  (∀ x,0≤x→ys t.1 x=ys s.1 x)∧(∀ x,0≤x→(∀ u∈l,x∉gR mv u)→xs t.1 x=xs s.1 x) ∧
  (∀ (j:Nat) u,l[j]?=some u→∀ x∈gR mv u,xs t.1 x=xs s.1 x+(if p+1+i+j < q then 1 else 2)) ∧
  (∀ x,x∈t.2↔x∈s.2∨∃ (j:Nat) (u:Int),l[j]?=some u∧p+1+i+j < q∧x∈gR mv u) ∧
  (s.2.Nodup→(∀ u∈l,∀ x∈gR mv u,x∉s.2)→t.2.Nodup)
 | [],i,s,t,h,_,_,_=>by
  simp only [ae] at h
  cases h
  exact ⟨fun _ _=>rfl,fun _ _ _=>rfl,fun j u hu=>by simp at hu,fun x=>by simp,fun h _=>h⟩
 | u :: l,i,s,t,h,hn,hd,hs=>by
  obtain ⟨n1,n2⟩:=MU.1 hn
  simp only [ae] at h
  unfold vk at h
  simp only [dn,B8] at h
  obtain ⟨u1,u2⟩:=hs u (by simp)
  have dj:∀ u'∈l,∀ x∈gR mv u',x∉gR mv u:=fun u' hu' x hx hxu=>n1 (by
   have:=hd u (by simp) u' (by simp [hu']) x hxu hx
   rw [this]; exact hu')
  generalize hs':(if p+1+i < q then (gZ s.1 (aV mv u.toNat) 1,s.2++aV mv u.toNat) else (gZ s.1 (aV mv u.toNat) 2,s.2))=s' at h
  have hm:∀ x,0≤x→(x∈gR mv u→xs s'.1 x=xs s.1 x+(if p+1+i < q then 1 else 2))∧(x∉gR mv u→xs s'.1 x=xs s.1 x)∧ys s'.1 x=ys s.1 x:=by
   intro x hx
   rw [← hs']
   by_cases c:p+1+i < q
   ·rw [if_pos c,if_pos c]
    exact rL (by omega) (gR mv u) s.1 u1 u2 x hx
   ·rw [if_neg c,if_neg c]
    exact rL (by omega) (gR mv u) s.1 u1 u2 x hx
  have hl:s'.1.length=s.1.length:=by
   rw [← hs']
   split <;> exact lD _ _ _
  have h2:s'.2=if p+1+i < q then s.2++gR mv u else s.2:=by
   rw [← hs']
   split <;> rfl
  obtain ⟨r1,r2,r3,r4,r5⟩:=DK l (i+1) s' t h n2 (fun a ha b hb=>hd a (by simp [ha]) b (by simp [hb])) (by
   intro w hw
   obtain ⟨w1,w2⟩:=hs w (by simp [hw])
   refine ⟨w1,fun x hx=>?_⟩
   obtain ⟨x1,x2,x3,x4⟩:=w2 x hx
   rw [hl,(hm x x1).2.1 (dj w hw x hx)]
   exact ⟨x1,x2,x3,x4⟩)
  refine ⟨fun x hx=>by rw [r1 x hx,(hm x hx).2.2],fun x hx hnx=>by rw [r2 x hx fun w hw=>hnx w (by simp [hw]),(hm x hx).2.1 (hnx u (by simp))],?_,?_,?_⟩
  ·intro j w hw x hx
   match j,hw with
   | 0,hw =>
    simp at hw
    subst hw
    obtain ⟨x1,_⟩:=u2 x hx
    rw [r2 x x1 fun w hw hxw=>dj w hw x hxw hx,(hm x x1).1 hx]
    rfl
   | j+1,hw =>
    have hw':l[j]?=some w:=by simpa using hw
    have hwl:=A5 hw'
    obtain ⟨x1,_⟩:=(hs w (by simp [hwl])).2 x hx
    rw [r3 j w hw' x hx,(hm x x1).2.1 (dj w hwl x hx),show p+1+(i+1)+j=p+1+i+(j+1) by omega]
  ·intro x
   rw [r4 x,h2]
   constructor
   ·rintro (h | ⟨j,w,w1,w2,w3⟩)
    ·split at h
     ·rename_i c
      rcases B3.1 h with h | h
      ·exact .inl h
      ·exact .inr ⟨0,u,rfl,c,h⟩
     ·exact .inl h
    ·exact .inr ⟨j+1,w,by simpa using w1,by omega,w3⟩
   ·rintro (h | ⟨j,w,w1,w2,w3⟩)
    ·left
     split
     ·exact B3.2 (.inl h)
     ·exact h
    ·match j,w1 with
     | 0,w1 =>
      simp at w1
      subst w1
      left
      rw [if_pos (by omega)]
      exact B3.2 (.inr w3)
     | j+1,w1=>exact .inr ⟨j,w,by simpa using w1,by omega,w3⟩
  ·intro k1 k2
   refine r5 ?_ ?_
   ·rw [h2]
    split
    ·exact MT.2 ⟨k1,u1,fun a ha b hb e=>k2 u (by simp) b hb (by rw [← e]; exact ha)⟩
    ·exact k1
   ·intro w hw x hx hx2
    rw [h2] at hx2
    split at hx2
    ·rcases B3.1 hx2 with h | h
     ·exact k2 w (by simp [hw]) x hx h
     ·exact dj w hw x hx h
    ·exact k2 w (by simp [hw]) x hx hx2
theorem KO {a m:Int} (h:a=2 * m) (h0:0≤a) (h1:a≤100000):iq .i64 a 2=m:=by
 have e:a.tdiv 2=m:=by
  rw [Int.tdiv_eq_ediv_of_nonneg h0]
  omega
 unfold iq
 rw [e]
 exact IntWalk.i64_in _ ⟨by omega,by omega⟩
theorem HJ {a b:PtS} {m:Int} (ha:0≤a.1∧a.1≤1000∧0≤a.2.1∧a.2.1≤1000) (hb:0≤b.1∧b.1≤1000∧0≤b.2.1∧b.2.1≤1000) (h1:0≤b.1+b.2.1+a.1 - a.2.1) (h2:0≤b.1+b.2.1 - a.1+a.2.1)
  (hm:(b.1 - b.2.1) - (a.1 - a.2.1)=2 * m):(ptS a b).1 - (ptS a b).2.1=a.1 - a.2.1∧(ptS a b).1+(ptS a b).2.1=b.1+b.2.1:=by
 unfold ptS
 simp only
 rw [gO (a:=a.1) (b:=b.1) (by omega) (by omega),gO (by omega) (by omega),cC (by omega) (by omega),cC (a:=b.1) (b:=a.1) (by omega) (by omega),gO (a:=b.1 - a.1) (by omega) (by omega),gO (by omega) (by omega)]
 rw [KO (m:=m+a.1 - a.2.1+b.2.1) (by omega) (by omega) (by omega),KO (m:=m+b.2.1) (by omega) (by omega) (by omega)]
 omega
end Go.Vm

/-
 StraightGrid: the shift drawing of the program is plane.
-/
namespace Go.Shift
section
variable {X Y:Int→Int} {J:Int→Int→Prop}
theorem Kg {a b:Int} (hab:X a < X b) (hy:Y b=Y a):PlanC X Y J [a,b] [a,b]:=by
 have two:∀ {u:Int},u∈[a,b]→u=a∨u=b:=fun h=>by simpa using h
 have pt:∀ {x y zx zy d:Int},x∈[a,b]→y∈[a,b]→Seg X Y x y zx zy d→X a * d≤zx∧zx≤X b * d∧zy=Y a * d:=by
  rintro x y zx zy d hx hy' ⟨h0,t,t1,t2,e1,e2⟩
  have k1:0≤(X b - X a) * t:=Mx (by omega) t1
  have k2:0≤(X b - X a) * (d - t):=Mx (by omega) (by omega)
  have k3:0≤(X b - X a) * d:=Mx (by omega) (by omega)
  rcases two hx with rfl | rfl <;> rcases two hy' with rfl | rfl
  ·exact ⟨by rw [e1]; grind,by rw [e1]; grind,by rw [e2]; grind⟩
  ·exact ⟨by rw [e1]; grind,by rw [e1]; grind,by rw [e2,hy]; grind⟩
  ·exact ⟨by rw [e1]; grind,by rw [e1]; grind,by rw [e2,hy]; grind⟩
  ·exact ⟨by rw [e1]; grind,by rw [e1]; grind,by rw [e2,hy]; grind⟩
 refine ⟨?_,?_,?_⟩
 ·rintro x y ⟨j,h1,h2⟩
  match j,h1,h2 with
  | 0,h1,h2=>simp at h1 h2; subst h1; subst h2; exact hab
  | j+1,h1,h2=>simp at h2
 ·rintro x y zx zy d ⟨h1,h2,_⟩ hs
  obtain ⟨k1,k2,k3⟩:=pt h1 h2 hs
  refine ⟨a,b,⟨0,rfl,rfl⟩,k1,k2,?_⟩
  unfold orh
  rw [hy,k3]
  grind
 ·rintro x y x' y' ⟨h1,h2,_⟩ ⟨h3,h4,_⟩ n1 n2 n3 n4 zx zy d hs hs'
  obtain ⟨h0,t,t1,t2,e1,e2⟩:=hs
  obtain ⟨_,t',t1',t2',e1',e2'⟩:=hs'
  have hab':=MM hab h0
  have:∀ w:Int,X w * (d - t)+X w * t=X w * d:=fun w=>by grind
  have:∀ w:Int,X w * (d - t')+X w * t'=X w * d:=fun w=>by grind
  rcases two h1 with rfl | rfl <;> rcases two h2 with rfl | rfl <;> rcases two h3 with rfl | rfl <;> rcases two h4 with rfl | rfl <;> first | exact n1 rfl | exact n2 rfl | exact n3 rfl | exact n4 rfl | grind
theorem Lh {M:Int→List Int} {a b c:Int} (hJs:∀ a b,J a b→J b a) (hcc:¬ J c c) (hab:a≠b) (hac:a≠c) (hbc:b≠c) (xa:X a=0) (ya:Y a=0) (xb:X b=2) (yb:Y b=0) (xc:X c=1) (yc:Y c=1)
  (hM:∀ u∈[a,b,c],M u=[u]):Dyn J X Y M [a,b,c] [a,c,b]:=by
 have ma:M a=[a]:=hM a (by simp)
 have mb:M b=[b]:=hM b (by simp)
 have mc:M c=[c]:=hM c (by simp)
 have all:∀ {u:Int},u∈[a,c,b]→M u=[u]:=fun h=>hM _ (by simp at h ⊢; rcases h with h | h | h <;> simp [h])
 refine ⟨?_,?_,?_,?_,by simp,?_,?_,?_,?_,?_,?_,?_,?_⟩
 ·rintro x y ⟨j,h1,h2⟩
  match j,h1,h2 with
  | 0,h1,h2=>simp at h1 h2; subst h1; subst h2; omega
  | 1,h1,h2=>simp at h1 h2; subst h1; subst h2; omega
  | j+2,h1,h2=>simp at h2
 ·intro x hx
  simp at hx
  subst hx
  exact ⟨xa,ya⟩
 ·intro x hx
  simp at hx
  subst hx
  simp [xb,yb]
 ·intro u hu
  simp at hu
  rcases hu with rfl | rfl | rfl <;> simp [xa,ya,xb,yb,xc,yc]
 ·intro u hu
  simp at hu ⊢
  rcases hu with h | h | h <;> simp [h]
 ·simp
  exact ⟨⟨hac,hab⟩,fun e=>hbc e.symm⟩
 ·intro u hu
  rw [all hu]; simp
 ·intro u hu x hx
  rw [all hu] at hx
  simp at hx
  subst hx
  simp at hu ⊢
  rcases hu with h | h | h <;> simp [h]
 ·intro x hx
  simp at hx
  rcases hx with rfl | rfl | rfl
  ·exact ⟨x,by simp,by rw [ma]; simp⟩
  ·exact ⟨x,by simp,by rw [mb]; simp⟩
  ·exact ⟨x,by simp,by rw [mc]; simp⟩
 ·intro u hu u' hu' x hx hx'
  rw [all hu] at hx
  rw [all hu'] at hx'
  simp at hx hx'
  rw [← hx,← hx']
 ·intro u hu
  rw [all hu]; simp
 ·intro s hs X' Y' hX' hY'
  have s0:s 0≤s 1:=hs 0 (by simp)
  have s1:s 1≤s 2:=hs 1 (by simp)
  have x0:X' a=X a+s 0:=hX' 0 a rfl a (by rw [ma]; simp)
  have x1:X' c=X c+s 1:=hX' 1 c rfl c (by rw [mc]; simp)
  have x2:X' b=X b+s 2:=hX' 2 b rfl b (by rw [mb]; simp)
  have y0:=hY' a (by simp)
  have y1:=hY' c (by simp)
  have y2:=hY' b (by simp)
  have hp:PlanC X' Y' J [a,b] [a,b]:=Kg (by omega) (by omega)
  refine hp.grow (p:=0) (q:=1) hJs hcc (fun u hu=>hu) (by simp; omega) ⟨by omega,by simp,?_,?_,?_,?_⟩ ?_
  ·intro u hu; simp at hu; subst hu; omega
  ·intro u hu; simp at hu; subst hu; omega
  ·intro i u _ h hu
   match i,hu with
   | 0,hu=>simp at hu; subst hu; omega
   | 1,hu=>simp at hu; subst hu; omega
   | i+2,hu=>simp at hu
  ·intro i u w _ h hu hw
   match i,hu,hw with
   | 0,hu,hw =>
    simp at hu hw
    subst hu; subst hw
    unfold ori
    rw [show Y' b - Y' a=0 by omega,show Y' c - Y' a=1 by omega]
    omega
   | i+1,hu,hw=>omega
  ·intro u hu _
   simp at hu
   rcases hu with rfl | rfl
   ·exact ⟨0,by omega,by omega,rfl⟩
   ·exact ⟨1,by omega,by omega,rfl⟩
end
end Go.Shift
namespace Go.Vm
open Go.Proofs Go.Shift
set_option maxRecDepth 100000
attribute [local irreducible] aa
def JE (E:List Arc) (a b:Int):Prop:=ab E a b=true
theorem tg {E:List Arc}:∀ {r bef c c':List Int},bV E bef c r=some c'→2≤c.length→c'[0]?=c[0]?∧c'[c'.length - 1]?=c[c.length - 1]?∧2≤c'.length
 | [],bef,c,c',h,h2=>by
  simp only [bV,A1] at h
  subst h
  exact ⟨rfl,rfl,h2⟩
 | w :: r,bef,c,c',h,h2=>by
  simp only [bV] at h
  cases hs:dh E bef c w with
  | none=>rw [hs] at h; cases h
  | some d =>
   rw [hs,dn] at h
   obtain ⟨p,q,_,_,hpq,hq,rfl,_⟩:=fb hs
   have hlen:(c.take (p+1)++w :: c.drop q).length=p+2+(c.length - q):=by
    rw [Mb,Mw,LU,MD]; omega
   obtain ⟨k1,k2,k3⟩:=tg h (by rw [hlen]; omega)
   refine ⟨?_,?_,k3⟩
   ·rw [k1,cy hpq hq,if_pos (MJ _)]
   ·rw [k2,hlen,cy hpq hq,if_neg (by omega),if_neg (by omega)]
    congr 1; omega
theorem oK:∀ {a b:List Int},a.Nodup→(∀ x∈a,x∈b)→a.length≤b.length
 | [],b,_,_=>MJ _
 | x :: a,b,h,hs=>by
  obtain ⟨h1,h2⟩:=MU.1 h
  have hx:=hs x (by simp)
  have:=oK (b:=b.erase x) h2 fun y hy=>by
   rw [Pk (by rintro rfl; exact h1 hy)]
   exact hs y (by simp [hy])
  rw [O8 hx] at this
  have:=Pc hx
  rw [LU]
  omega
theorem AN {E:List Arc} {bef c:List Int} {w:Int} {p q:Nat} (hb:bef.Nodup) (hc:c.Nodup) (hsub:∀ u∈c,u∈bef) (h1:(js (ab E · w) 0 c).length=q - p+1) (h2:∀ x∈js (ab E · w) 0 c,p≤x∧x≤q)
  (h3:bef.countP (ab E · w)=q - p+1) {u:Int} (hu:u∈bef) (hj:ab E u w=true):∃ i,p≤i∧i≤q∧c[i]?=some u:=by
 have hin:u∈c:=by
  refine Classical.byContradiction fun hn=>?_
  have e1:(bef.filter (ab E · w)).length=q - p+1:=by rw [← N6]; exact h3
  have e2:(c.filter (ab E · w)).length=q - p+1:=by rw [← N6,← oC (i:=0)]; exact h1
  have hnd:(u :: c.filter (ab E · w)).Nodup:=MU.2 ⟨fun h=>hn (ML.1 h).1,hc.sublist Nq⟩
  have hle:(u :: c.filter (ab E · w)).length≤(bef.filter (ab E · w)).length:=by
   refine oK hnd ?_
   intro x hx
   rcases B7.1 hx with rfl | hx
   ·exact ML.2 ⟨hu,hj⟩
   ·obtain ⟨x1,x2⟩:=ML.1 hx
    exact ML.2 ⟨hsub x x1,x2⟩
  rw [LU] at hle
  omega
 obtain ⟨i,hi⟩:=L5.1 hin
 have hm:i∈js (ab E · w) 0 c:=jU.2 ⟨MJ _,u,by simpa using hi,hj⟩
 obtain ⟨k1,k2⟩:=h2 i hm
 exact ⟨i,k1,k2,hi⟩
end Go.Vm

/-
 StraightGrid: the loop of the shift, with what it keeps.
-/
namespace Go.Vm
open Go.Proofs Go.Shift
set_option maxRecDepth 100000
attribute [local irreducible] aa
section
variable {N:Nat} {E:List Arc} {A:List (List Int)} {o:List Int}
structure RunI (N:Nat) (E:List Arc) (o:List Int) (i:Nat) (s:List PtS×List (List Int)×List Int):Prop where
 len:s.1.length=N
 mv:MvOK N (10 ^ i) s.2.1
 alone:∀ (j:Nat) (v:Nat),i+3≤j→o[j]?=some (v:Int)→aV s.2.1 v=[(v:Int)]
 cont:bV E (o.take 2) (o.take 2) ((o.take (i+3)).drop 2)=some s.2.2
 dyn:Dyn (JE E) (xs s.1) (ys s.1) (gR s.2.1) (o.take (i+3)) s.2.2
theorem vj (E:List Arc) (a b:Int) (h:JE E a b):JE E b a:=by
 unfold JE at h ⊢
 rw [jE]; exact h
theorem DY (h:Tri N E A) (hC:Can N E o) (hN:N≤10) (near:List (List Bool)) (hn:NearOK N E near) (s:List PtS×List (List Int)×List Int) (i:Nat) (hi:i < N - 3) (hs:RunI N E o i s) :
  ∃ t,jj (near,s.1,s.2.1,s.2.2,o.drop 3,(((o.drop 3).length:Nat):Int),(i:Int),())=some (.inl (near,t.1,t.2.1,t.2.2,o.drop 3,(((o.drop 3).length:Nat):Int),((i+1:Nat):Int),()))∧RunI N E o (i+1) t:=by
 obtain ⟨at_,mv,c⟩:=s
 obtain ⟨ha,hmv,hal,hc,hD⟩:=hs
 simp only at ha hmv hal hc hD ⊢
 have h3:=h.three
 have hol:=hC.len
 obtain ⟨w,c1,c',hw,hc1,hs,hc2,hmem,hcl⟩:=hC.step (k:=i+3) (by omega) (by omega)
 rw [hc] at hc1
 cases hc1
 obtain ⟨w0,w1,w2⟩:=hC.ok (i+3) w hw
 obtain ⟨v,rfl⟩ : ∃ v:Nat,w=(v:Int):=⟨w.toNat,by omega⟩
 have hv:v < N:=by omega
 have hcv:∀ u∈c,0≤u∧u < (N:Int):=fun u hu=>hC.lt (Nk (hmem u hu))
 have hvc:(v:Int)∉c:=fun hm=>w2 (hmem _ hm)
 obtain ⟨p,q,e1,e2,hpq,hq,ec,ej,ex,hcp⟩:=fb hs
 have hp:p < c.length:=by omega
 have hL:10 ^ i≤100000000:=Mz (Pr (by omega) (show i≤8 by omega)) (by decide)
 have hself:aV mv v=[(v:Int)]:=hal (i+3) v (A7 _) hw
 have hvm:v < mv.length:=by rw [hmv.len]; exact hv
 obtain ⟨t,t1⟩:=xE (mv:=mv) (p:=p) (q:=q) (c.drop (p+1)) 0 (at_,[(v:Int)])
 have hI:=gk (I:=Dv N (10 ^ i)) (fun s j u t' h1 h2 h3=>xn hmv (hcv u (M8 (A5 h2))) h1 h3) (show Dv N (10 ^ i) 0 (at_,[(v:Int)]) from ⟨ha,by simp; omega,by simp⟩) t1
 rw [L9,MD] at hI
 obtain ⟨i1,i2,i3⟩:=hI
 have hown:t.2.length≤10 ^ (i+1):=by
  have h1:(c.length - (p+1)) * 10 ^ i≤9 * 10 ^ i:=Oj (by omega) (A7 _)
  have h2:1≤10 ^ i:=Nat.one_le_pow _ _ (by omega)
  rw [Nat.pow_succ]
  omega
 have hmv':MvOK N (10 ^ (i+1)) (mv.set v t.2):=hmv.put hv i2 hown (Pr (by omega) (by omega))
 have hal':∀ (j:Nat) (u:Nat),i+1+3≤j→o[j]?=some (u:Int)→aV (mv.set v t.2) u=[(u:Int)]:=by
  intro j u hj hu
  have hne:v≠u:=by
   intro e
   subst e
   have:=Go.Shift.idx_eq hC.nodup hu hw
   omega
  rw [g8 hne]
  exact hal j u (by omega) hu
 have hd3:(o.drop 3)[i]?=some (v:Int):=by rw [Mq,Of]; exact hw
 have hd3l:(o.drop 3).length=N - 3:=by rw [MD,hol]
 have gcp:c[p]?=some c[p]:=gr hp
 have gcq:c[q]?=some c[q]:=gr hq
 have hpv:=hcv c[p] (L3 hp)
 have hqv:=hcv c[q] (L3 hq)
 have lp:c[p].toNat < t.1.length:=by omega
 have lq:c[q].toNat < t.1.length:=by omega
 have lv:v < t.1.length:=by omega
 -- where all is
 have hbl:(o.take (i+3)).length=i+3:=by rw [Mw]; omega
 have b0:∀ x∈o.take (i+3),0≤x∧x < (N:Int):=fun x hx=>hC.lt (Nk hx)
 have bx:∀ x∈o.take (i+3),0≤xs at_ x∧xs at_ x≤100∧0≤ys at_ x∧ys at_ x≤100:=by
  intro x hx
  have:=hD.box x hx
  rw [hbl] at this
  omega
 have hdm:∀ u,u∈c.drop (p+1)→u∈c:=fun u hu=>M8 hu
 obtain ⟨r1,r2,r3,r4,r5⟩:=DK (c.drop (p+1)) 0 (at_,[(v:Int)]) t t1 (hD.cnd.sublist (PD _ _)) (fun u hu u' hu' x hx hx'=>hD.dis u (hdm u hu) u' (hdm u' hu') x hx hx') (by
  intro u hu
  refine ⟨hD.nd u (hdm u hu),fun x hx=>?_⟩
  have hxb:=hD.mem u (hdm u hu) x hx
  have:=b0 x hxb
  have:=bx x hxb
  show 0≤x∧x < (at_.length:Int)∧0≤xs at_ x∧xs at_ x≤1000
  rw [ha]
  omega)
 simp only at r1 r2 r3 r4 r5
 generalize hpt:ptS (t.1.getD c[p].toNat (0,0,())) (t.1.getD c[q].toNat (0,0,()))=pt
 have nv:∀ x∈o.take (i+3),x.toNat≠v:=by
  intro x hx e
  have:=b0 x hx
  exact w2 (by rw [show (v:Int)=x by omega]; exact hx)
 have xs1:∀ x∈o.take (i+3),xs (t.1.set v pt) x=xs t.1 x∧ys (t.1.set v pt) x=ys t.1 x:=by
  intro x hx
  unfold xs ys
  rw [eW (fun e=>nv x hx e.symm)]
  exact ⟨rfl,rfl⟩
 have hX1:∀ (j:Nat) u,c[j]?=some u→∀ x∈gR mv u,xs (t.1.set v pt) x=xs at_ x+(if j≤p then 0 else if j < q then 1 else 2):=by
  intro j u hu x hx
  have huc:=A5 hu
  have hxb:=hD.mem u huc x hx
  rw [(xs1 x hxb).1]
  by_cases k:j≤p
  ·rw [if_pos k,r2 x (b0 x hxb).1 ?_]
   ·omega
   ·intro u' hu' hxu'
    have:=hD.dis u huc u' (hdm u' hu') x hx hxu'
    subst this
    obtain ⟨j',hj'⟩:=L5.1 hu'
    rw [Mq] at hj'
    have:=Go.Shift.idx_eq hD.cnd hu hj'
    omega
  ·rw [if_neg k,r3 (j - (p+1)) u (by rw [Mq,← hu]; congr 1; omega) x hx]
   rw [show p+1+0+(j - (p+1))=j by omega]
 have hY1:∀ x∈o.take (i+3),ys (t.1.set v pt) x=ys at_ x:=fun x hx=>by rw [(xs1 x hx).2,r1 x (b0 x hx).1]
 have xp:xs t.1 c[p]=xs at_ c[p]:=by
  have:=hX1 p _ gcp c[p] (hD.own _ (L3 hp))
  rw [(xs1 _ (hmem _ (L3 hp))).1,if_pos (A7 _)] at this
  omega
 have xq:xs t.1 c[q]=xs at_ c[q]+2:=by
  have:=hX1 q _ gcq c[q] (hD.own _ (L3 hq))
  rw [(xs1 _ (hmem _ (L3 hq))).1,if_neg (by omega),if_neg (by omega)] at this
  exact this
 have yp:ys t.1 c[p]=ys at_ c[p]:=r1 _ hpv.1
 have yq:ys t.1 c[q]=ys at_ c[q]:=r1 _ hqv.1
 have bp:=bx _ (hmem _ (L3 hp))
 have bq:=bx _ (hmem _ (L3 hq))
 obtain ⟨s1,s2,m,s3⟩:=hD.sl.le (MQ hpq) gcp gcq
 have g00:c[0]?=some c[0]:=gr (by omega)
 obtain ⟨z1,z2⟩:=hD.c0 _ g00
 obtain ⟨s4,_,_⟩:=hD.sl.le (MJ p) g00 gcp
 obtain ⟨f1,f2⟩:=HJ (a:=t.1.getD c[p].toNat (0,0,())) (b:=t.1.getD c[q].toNat (0,0,())) (m:=m+1) (by
   change 0≤xs t.1 c[p]∧xs t.1 c[p]≤1000∧0≤ys t.1 c[p]∧ys t.1 c[p]≤1000; omega) (by
   change 0≤xs t.1 c[q]∧xs t.1 c[q]≤1000∧0≤ys t.1 c[q]∧ys t.1 c[q]≤1000; omega) (by
   change 0≤xs t.1 c[q]+ys t.1 c[q]+xs t.1 c[p] - ys t.1 c[p]; omega) (by
   change 0≤xs t.1 c[q]+ys t.1 c[q] - xs t.1 c[p]+ys t.1 c[p]; omega) (by
   change (xs t.1 c[q] - ys t.1 c[q]) - (xs t.1 c[p] - ys t.1 c[p])=2 * (m+1); omega)
 rw [hpt] at f1 f2
 change pt.1 - pt.2.1=xs t.1 c[p] - ys t.1 c[p] at f1
 change pt.1+pt.2.1=xs t.1 c[q]+ys t.1 c[q] at f2
 have xv:xs (t.1.set v pt) (v:Int)=pt.1∧ys (t.1.set v pt) (v:Int)=pt.2.1:=by
  unfold xs ys
  rw [B2,gu lv]
  exact ⟨rfl,rfl⟩
 have sv:gR (mv.set v t.2) (v:Int)=t.2:=by
  unfold gR
  rw [B2,kT hvm]
 have hcn:(c.take (p+1)++(v:Int) :: c.drop q).Nodup:=by
  rw [← ec]
  exact (sb hc2 (hC.nodup.sublist (NP _ _)) (fun u hu=>hu) (by
   have:o.take 2++(o.take (i+3+1)).drop 2=o.take (i+3+1):=by
    have:o.take 2=(o.take (i+3+1)).take 2:=by rw [PV,Nat.min_eq_left (by omega)]
    rw [this,NV]
   rw [this]
   exact hC.nodup.sublist (NP _ _))).1
 have htk:o.take (i+1+3)=o.take (i+3)++[(v:Int)]:=by
  rw [show i+1+3=i+3+1 by omega,Oc,hw]; rfl
 have hD':=hD.step (v:=(v:Int)) (p:=p) (q:=q) (X1:=xs (t.1.set v pt)) (Y1:=ys (t.1.set v pt)) (M1:=gR (mv.set v t.2)) (vj E) (by
   unfold JE; rw [pc h.rot]; simp) w2 hpq hq (by
   intro u hu hj
   exact AN (hC.nodup.sublist (NP _ _)) hD.cnd hD.sub ej ex hcp hu hj) hcn gcp gcq hX1 hY1 (by
   rw [xv.1,xv.2]; omega) (by
   rw [xv.1,xv.2]; omega) (by
   intro x
   rw [sv,r4 x,MA]
   constructor
   ·rintro (h | ⟨j,u,k1,k2,k3⟩)
    ·exact .inl h
    ·rw [Mq] at k1
     exact .inr ⟨p+1+j,u,by omega,by omega,k1,k3⟩
   ·rintro (h | ⟨j,u,k1,k2,k3,k4⟩)
    ·exact .inl h
    ·exact .inr ⟨j - (p+1),u,by rw [Mq,← k3]; congr 1; omega,by omega,k4⟩) (by
   rw [sv]
   exact r5 (by simp) fun u hu x hx hxv=>by
    rw [MA] at hxv
    subst hxv
    exact w2 (hD.mem u (hdm u hu) _ hx)) (by
   intro u hu
   unfold gR
   rw [g8 (fun e=>nv u hu e.symm)])
 refine ⟨(t.1.set v pt,mv.set v t.2,c'),?_,⟨by rw [Mk]; exact i1,hmv',hal',by rw [show i+1+3=i+3+1 by omega]; exact hc2,by rw [htk,ec]; exact hD'⟩⟩
 unfold jj
 simp only
 rw [aJ (by omega),cond_true,am,hd3,dn,JA hn hv c hcv (by omega),dn]
 simp only
 rw [e1,Kz hn hv c hcv (by omega) (by omega) hq (GR gl ex ej (by omega)) (fun x hx=>(ex x hx).2)]
 simp only [dn,B8]
 rw [aZ (by omega)]
 have hvw:jV c.length ((p+1:Nat):Int) ((c.length:Nat):Int)=some (p+1,c.length - (p+1)):=by
  unfold jV
  rw [if_pos ⟨by omega,by omega,by omega⟩]
  simp only [B2]
 rw [hvw,dn]
 simp only
 have:=K2 hmv hL hcv hvc hv hp hq (by omega) near at_ ha (o.drop 3) ((o.drop 3).length:Nat) (i:Int) [(v:Int)] (by simp; omega) (by simp)
 rw [C3 hvm hself] at this
 rw [this,t1]
 simp only [dn,B8]
 rw [ay hp,dn,gr hp,dn,jX hpv.1 (by omega),dn,gr lp,dn,ay hq,dn,gr hq,dn,jX hqv.1 (by omega),dn,gr lq,dn,
  ay lv,dn,gr lv,dn,aZ (by omega)]
 have hrep:Zo (c,((p+1:Nat):Int),(q:Int),[(v:Int)],())=some (c',()):=by
  show E4 c ((p+1:Nat):Int) (q:Int) [(v:Int)]=_
  unfold E4
  rw [if_pos ⟨by omega,by omega,by omega,rfl,by rw [v9]; omega⟩,ec]
  simp
 rw [hrep,dn,← hpt,A8,gr lp,A8,gr lq,aZ (by omega)]
 rfl
theorem Fv (h:Tri N E A) (hC:Can N E o) (hN:N≤10) (near:List (List Bool)) (hn:NearOK N E near) (s:List PtS×List (List Int)×List Int) (hs:RunI N E o 0 s) :
  ∃ t,RunI N E o (N - 3) t∧aa jj (near,s.1,s.2.1,s.2.2,o.drop 3,(((o.drop 3).length:Nat):Int),0,())=some (.inl (t.1,())):=by
 have hd3l:(o.drop 3).length=N - 3:=by rw [MD,hC.len]
 exact k9 (B:=jj) (RunI N E o) (fun s i=>(near,s.1,s.2.1,s.2.2,o.drop 3,(((o.drop 3).length:Nat):Int),(i:Int),())) (fun s=>.inl (s.1,())) (N - 3)
  (fun s i hi hs=>DY h hC hN near hn s i hi hs) (by
   intro s hs
   have h3:=h.three
   unfold jj
   simp only
   rw [aC (by omega)]; rfl) s hs
theorem Ds (at_:List PtS) (ha:at_.length=N) (hN:N≤100000) (hb:∀ u:Int,0≤u→u < (N:Int)→0≤ys at_ u∧ys at_ u≤1000):∃ l,l.length=N∧(∀ u:Int,0≤u→u < (N:Int)→xs l u=xs at_ u∧ys l u=- ys at_ u)∧v7 (at_,(at_.length:Nat),0,())=some (.inl (l,())):=by
 obtain ⟨l,⟨l1,l2⟩,l3⟩:=k9 (B:=nl) (fun i (x:List PtS)=>x.length=N∧∀ u:Int,0≤u→u < (N:Int)→xs x u=xs at_ u∧ys x u=if u < (i:Int) then - ys at_ u else ys at_ u) (fun x i=>(x,((N:Nat):Int),(i:Int),())) (fun x=>.inl (x,())) N (by
   rintro x i hi ⟨h1,h2⟩
   have hxi:i < x.length:=by omega
   refine ⟨x.set i (x[i].1,bE .i64 0 x[i].2.1,x[i].2.2),?_,by rw [Mk]; exact h1,fun u hu hu'=>?_⟩
   ·unfold nl
    simp only
    rw [aJ (by omega),cond_true,ay hxi,dn,gr hxi,dn,dn,gr hxi,dn,aZ (by omega)]
   ·obtain ⟨k1,k2⟩:=h2 u hu hu'
    by_cases e:u=(i:Int)
    ·subst e
     rw [if_neg (by omega)] at k2
     rw [if_pos (by omega)]
     have hbi:=hb (i:Int) hu hu'
     have gx:xs x (i:Int)=x[i].1∧ys x (i:Int)=x[i].2.1:=by
      unfold xs ys
      rw [B2,A8,gr hxi]
      exact ⟨rfl,rfl⟩
     unfold xs ys
     rw [B2,gu hxi]
     simp only
     rw [cC (by omega) (by omega)]
     unfold xs at gx k1
     unfold ys at gx k2 hbi
     rw [B2] at gx k1 k2 hbi
     omega
    ·have hne:i≠u.toNat:=by omega
     have gx:xs (x.set i (x[i].1,bE .i64 0 x[i].2.1,x[i].2.2)) u=xs x u∧ys (x.set i (x[i].1,bE .i64 0 x[i].2.1,x[i].2.2)) u=ys x u:=by
      unfold xs ys
      rw [eW hne]
      exact ⟨rfl,rfl⟩
     rw [gx.1,gx.2,k1,k2]
     refine ⟨rfl,?_⟩
     by_cases c:u < (i:Int)
     ·rw [if_pos c,if_pos (by omega)]
     ·rw [if_neg c,if_neg (by omega)]) (by
   rintro x ⟨h1,h2⟩
   unfold nl
   simp only
   rw [aC (by omega)]; rfl) at_ ⟨ha,fun u _ h0=>⟨rfl,by rw [if_neg (by simp; omega)]⟩⟩
 refine ⟨l,l1,fun u h0 h1=>?_,by rw [ha]; exact l3⟩
 obtain ⟨k1,k2⟩:=l2 u h0 h1
 rw [if_pos h1] at k2
 exact ⟨k1,k2⟩
end
end Go.Vm

/-
 StraightGrid: the drawing's last vertex; nothing meets.
-/
namespace Go.Vm
open Go.Proofs Go.Shift
set_option maxRecDepth 100000
attribute [local irreducible] aa
section
variable {N:Nat} {E:List Arc} {A:List (List Int)} {o:List Int}
theorem Cb {x:Nat} (hx:x < 2 * E.length):JE E (tl E x) (tl E (oth x)):=by
 have ha:E[x / 2]?=some E[x / 2]:=gr (by omega)
 unfold JE ab
 refine ME.2 ⟨_,A5 ha,?_⟩
 unfold jn
 simp only [Mt,A3,eqI,beq_iff_eq]
 rcases kW ha with ⟨e1,e2⟩ | ⟨e1,e2⟩
 ·exact .inl ⟨e1.symm,e2.symm⟩
 ·exact .inr ⟨e2.symm,e1.symm⟩
theorem EF (h:RotOK (N:Nat) E A) (hf:∀ nx,Fol oth E A nx→∀ f∈aI nx,f.length=3) {nx:List Int} {y:Nat} (hn:Fol oth E A nx) (hy:nx[0]?=some (y:Int)) :
  JE E (tl E 0) (tl E (oth y))∧JE E (tl E 1) (tl E (oth y)):=by
 obtain ⟨k0,ky,e1⟩:=ll h hn hy
 have one:JE E (tl E 1) (tl E (oth y)):=by
  have e2:tl E y=tl E 1:=e1
  rw [← e2]
  exact Cb ky
 refine ⟨?_,one⟩
 obtain ⟨fs,cyc⟩:=mC h hn
 obtain ⟨f,hfm,h0⟩:=Nf.1 (fs.cover 0 k0)
 have h3:=hf nx hn f hfm
 obtain ⟨_,hc⟩:=cyc f hfm
 obtain ⟨i,hi,hfi⟩:=List.getElem_of_mem h0
 -- the dart before
 have hj:(i+2) % 3 < f.length:=by rw [h3]; exact NA _ (by omega)
 obtain ⟨z,hz,_⟩:=(fs.elem f hfm).2 _ (L3 hj)
 have c0:=hc i hi
 have hi1:(i+1) % 3 < f.length:=by rw [h3]; exact NA _ (by omega)
 have c1:=hc ((i+1) % 3) hi1
 have c2:=hc ((i+2) % 3) hj
 rw [h3] at c0 c1 c2
 rw [show ((i+1) % 3+1) % 3=(i+2) % 3 by omega] at c1
 rw [show ((i+2) % 3+1) % 3=i by omega] at c2
 rw [A8,gr hi1] at c0
 rw [A8,gr hj] at c1
 rw [A8,gr hi] at c2
 simp only [NS] at c0 c1 c2
 rw [hfi] at c0 c2
 have c0':nx[0]?=some f[(i+1) % 3]:=c0
 rw [hy] at c0'
 have ey:f[(i+1) % 3]=(y:Int):=(B6 c0').symm
 rw [ey,B2,hz] at c1
 rw [hz,B2] at c2
 obtain ⟨_,kz,e2⟩:=ll h hn c1
 obtain ⟨_,_,e3⟩:=ll h hn (y:=0) c2
 have j:=Cb kz
 rw [show tl E (oth z)=tl E 0 from e3.symm,e2] at j
 exact vj E _ _ j
theorem wS (h:RotOK (N:Nat) E A) (h3:3≤N) (hC:Can N E o) {w:Int} (hw:o[N - 1]?=some w) (j0:JE E (tl E 0) w) (j1:JE E (tl E 1) w) {X Y:Int→Int} {M:Int→List Int} {cF:List Int}
  (hc:bV E (o.take 2) (o.take 2) (o.drop 2)=some cF) (hD:Dyn (JE E) X Y M o cF):X w=(N:Int) - 2∧Y w=(N:Int) - 2∧(X (tl E 0)=0∧Y (tl E 0)=0)∧(X (tl E 1)=2 * (N:Int) - 4∧Y (tl E 1)=0):=by
 have hol:=hC.len
 obtain ⟨w',c,c',hw',hc1,hs,hc2,_⟩:=hC.step (k:=N - 1) (by omega) (by omega)
 rw [hw] at hw'
 cases hw'
 rw [show N - 1+1=N by omega,← hol,Na,hc] at hc2
 cases hc2
 obtain ⟨p,q,_,_,hpq,hq,rfl,_,ex,_⟩:=fb hs
 have e2l:(o.take 2).length=2:=by rw [Mw]; omega
 obtain ⟨k1,k2,_⟩:=tg hc1 (by omega)
 rw [L7,if_pos (by omega),hC.e0] at k1
 rw [e2l,L7,if_pos (by omega),hC.e1] at k2
 have p0:p=0:=by
  have:=(ex 0 (jU.2 ⟨MJ _,tl E 0,by simpa using k1,j0⟩)).1
  omega
 have q0:q=c.length - 1:=by
  have:=(ex (c.length - 1) (jU.2 ⟨MJ _,tl E 1,by simpa using k2,j1⟩)).2
  omega
 subst p0
 have gn:=cy hpq hq w
 have hlen:(c.take (0+1)++w :: c.drop q).length=0+2+(c.length - q):=by
  rw [Mb,Mw,LU,MD]; omega
 have a0:(c.take (0+1)++w :: c.drop q)[0]?=some (tl E 0):=by rw [gn,if_pos (by omega)]; exact k1
 have a1:(c.take (0+1)++w :: c.drop q)[1]?=some w:=by rw [gn,if_neg (by omega),if_pos rfl]
 have a2:(c.take (0+1)++w :: c.drop q)[2]?=some (tl E 1):=by rw [gn,if_neg (by omega),if_neg (by omega),← k2]; congr 1; omega
 have b0:=hD.c0 _ a0
 have b2:=hD.c1 (tl E 1) (by rw [hlen,show 0+2+(c.length - q) - 1=2 by omega]; exact a2)
 have s0:=hD.sl _ _ ⟨0,a0,a1⟩
 have s1:=hD.sl _ _ ⟨1,a1,a2⟩
 have bw:=hD.box w (A5 hw)
 rw [hol] at b2 bw
 omega
open Cnt
theorem qT {P:List PtS} {a b c:Int} (hb:∀ u,u=a∨u=b∨u=c→-1000≤xs P u∧xs P u≤1000∧-1000≤ys P u∧ys P u≤1000):pC (Cnt.at_ P a) (Cnt.at_ P b) (Cnt.at_ P c)=ori (xs P) (ys P) a b c:=by
 have ha:=hb a (.inl rfl)
 have hb':=hb b (.inr (.inl rfl))
 have hc:=hb c (.inr (.inr rfl))
 unfold pC ori
 change bE .i64 (dK .i64 (bE .i64 (xs P b) (xs P a)) (bE .i64 (ys P c) (ys P a))) (dK .i64 (bE .i64 (ys P b) (ys P a)) (bE .i64 (xs P c) (xs P a)))=_
 rw [cC (a:=xs P b) (b:=xs P a) (by omega) (by omega),cC (a:=ys P c) (b:=ys P a) (by omega) (by omega),cC (a:=ys P b) (b:=ys P a) (by omega) (by omega),cC (a:=xs P c) (b:=xs P a) (by omega) (by omega)]
 have bd:∀ x y:Int,-2000≤x→x≤2000→-2000≤y→y≤2000→-4000000≤x * y∧x * y≤4000000:=by
  intro x y h1 h2 h3 h4
  have k1:0≤(x+2000) * (2000 - y):=Mx (by omega) (by omega)
  have k2:0≤(2000 - x) * (2000+y):=Mx (by omega) (by omega)
  have k3:0≤(2000 - x) * (2000 - y):=Mx (by omega) (by omega)
  have k4:0≤(x+2000) * (2000+y):=Mx (by omega) (by omega)
  constructor <;> grind
 have m1:=bd (xs P b - xs P a) (ys P c - ys P a) (by omega) (by omega) (by omega) (by omega)
 have m2:=bd (ys P b - ys P a) (xs P c - xs P a) (by omega) (by omega) (by omega) (by omega)
 rw [gq (a:=xs P b - xs P a) (b:=ys P c - ys P a) (by omega) (by omega),gq (a:=ys P b - ys P a) (b:=xs P c - xs P a) (by omega) (by omega),cC (by omega) (by omega)]
theorem rH {a b c:Pt}:(sd a b c=1∧0 < pC a b c)∨(sd a b c=-1∧pC a b c < 0)∨(sd a b c=0∧pC a b c=0):=by
 unfold sd
 rcases M9 (pC a b c) 0 with h | h | h
 ·rw [eC (by omega),aJ h]; exact .inr (.inl ⟨rfl,h⟩)
 ·rw [eC (by omega),aC (by omega)]; exact .inr (.inr ⟨rfl,h⟩)
 ·rw [iX h]; exact .inl ⟨rfl,h⟩
theorem tF {a b c d:Pt} (h:jm a b c d=true):pC a b c * pC a b d < 0:=by
 unfold jm at h
 rcases rH (a:=a) (b:=b) (c:=c) with ⟨e1,k1⟩ | ⟨e1,k1⟩ | ⟨e1,k1⟩ <;> rcases rH (a:=a) (b:=b) (c:=d) with ⟨e2,k2⟩ | ⟨e2,k2⟩ | ⟨e2,k2⟩ <;> rw [e1,e2] at h <;> first | (exact absurd h (by decide)) | skip
 ·exact Int.mul_neg_of_pos_of_neg k1 k2
 ·exact Int.mul_neg_of_neg_of_pos k1 k2
theorem Hu (a b:Int):eR a b=min a b:=by unfold eR; split <;> omega
theorem G5 (a b:Int):maxI a b=max a b:=by unfold maxI; split <;> omega
theorem rq {P:List PtS} {a b u:Int} (hb:∀ w,w=a∨w=b∨w=u→-1000≤xs P w∧xs P w≤1000∧-1000≤ys P w∧ys P w≤1000) (h:onB (Cnt.at_ P a) (Cnt.at_ P b) (Cnt.at_ P u)=true) :
  ∃ zx zy d,Seg (xs P) (ys P) a b zx zy d∧Seg (xs P) (ys P) u u zx zy d:=by
 unfold onB spB at h
 simp only [A3,geI,leI,decide_eq_true_eq,Hu,G5,eqI,beq_iff_eq] at h
 obtain ⟨⟨h1,h2,h3,h4⟩,h5⟩:=h
 have h0:ori (xs P) (ys P) a b u=0:=by
  rw [← qT hb]
  rcases rH (a:=Cnt.at_ P a) (b:=Cnt.at_ P b) (c:=Cnt.at_ P u) with ⟨e,_⟩ | ⟨e,_⟩ | ⟨_,e⟩
  ·rw [e] at h5; omega
  ·rw [e] at h5; omega
  ·exact e
 obtain ⟨d,s1,s2⟩:=C2 (X:=xs P) (Y:=ys P) h0 h1 h2 h3 h4
 exact ⟨_,_,d,s1,s2⟩
theorem D2 {P:List PtS} {a b c d:Int} (hb:∀ w,w=a∨w=b∨w=c∨w=d→-1000≤xs P w∧xs P w≤1000∧-1000≤ys P w∧ys P w≤1000) (h:pf (Cnt.at_ P a) (Cnt.at_ P b) (Cnt.at_ P c) (Cnt.at_ P d)=true) :
  ∃ u u' v v' zx zy e,(u=a∨u=b)∧(u'=a∨u'=b)∧(v=c∨v=d)∧(v'=c∨v'=d)∧(u=u'∨u=a∧u'=b)∧(v=v'∨v=c∧v'=d)∧Seg (xs P) (ys P) u u' zx zy e∧Seg (xs P) (ys P) v v' zx zy e:=by
 unfold pf at h
 simp only [Mt,A3] at h
 rcases h with ⟨h1,h2⟩ | h | h | h | h
 ·have k1:=tF h1
  have k2:=tF h2
  rw [qT fun w hw=>hb w (by rcases hw with h | h | h <;> simp [h]),qT fun w hw=>hb w (by rcases hw with h | h | h <;> simp [h])] at k1 k2
  obtain ⟨zx,zy,e,s1,s2⟩:=vS k1 k2
  exact ⟨a,b,c,d,zx,zy,e,.inl rfl,.inr rfl,.inl rfl,.inr rfl,.inr ⟨rfl,rfl⟩,.inr ⟨rfl,rfl⟩,s1,s2⟩
 ·obtain ⟨zx,zy,e,s1,s2⟩:=rq (fun w hw=>hb w (by rcases hw with h | h | h <;> simp [h])) h
  exact ⟨a,b,c,c,zx,zy,e,.inl rfl,.inr rfl,.inl rfl,.inl rfl,.inr ⟨rfl,rfl⟩,.inl rfl,s1,s2⟩
 ·obtain ⟨zx,zy,e,s1,s2⟩:=rq (fun w hw=>hb w (by rcases hw with h | h | h <;> simp [h])) h
  exact ⟨a,b,d,d,zx,zy,e,.inl rfl,.inr rfl,.inr rfl,.inr rfl,.inr ⟨rfl,rfl⟩,.inl rfl,s1,s2⟩
 ·obtain ⟨zx,zy,e,s1,s2⟩:=rq (fun w hw=>hb w (by rcases hw with h | h | h <;> simp [h])) h
  exact ⟨a,a,c,d,zx,zy,e,.inl rfl,.inl rfl,.inl rfl,.inr rfl,.inl rfl,.inr ⟨rfl,rfl⟩,s2,s1⟩
 ·obtain ⟨zx,zy,e,s1,s2⟩:=rq (fun w hw=>hb w (by rcases hw with h | h | h <;> simp [h])) h
  exact ⟨b,b,c,d,zx,zy,e,.inr rfl,.inr rfl,.inl rfl,.inr rfl,.inl rfl,.inr ⟨rfl,rfl⟩,s2,s1⟩
end
end Go.Vm

/-
 StraightGrid: the law.
-/
namespace Go.Vm
open Go.Proofs Go.Shift
set_option maxRecDepth 100000
attribute [local irreducible] aa
section
variable {N:Nat} {E:List Arc} {A:List (List Int)} {o:List Int}
theorem Can.mem (hC:Can N E o) {u:Int} (h0:0≤u) (h1:u < (N:Int)):u∈o:=by
 refine Classical.byContradiction fun hn=>?_
 have:=oK (a:=u :: o) (b:=(LX N).map fun (j:Nat)=>(j:Int)) (MU.2 ⟨hn,hC.nodup⟩) (by
  intro x hx
  have hx':0≤x∧x < (N:Int):=by
   rcases B7.1 hx with rfl | hx
   ·exact ⟨h0,h1⟩
   ·exact hC.lt hx
  exact Nv.2 ⟨x.toNat,List.mem_range.2 (by omega),by omega⟩)
 rw [LU,N8,List.length_range,hC.len] at this
 omega
theorem Du (h:Tri N E A) (ht:Zc (((N:Int),E,A,()),())=some (true,())) (hk:Zba (((N:Int),E,A,()),o,())=some (true,())) (hC:Can N E o) (hN:N≤10) :
  ∃ (l:List PtS) (X Y:Int→Int) (M:Int→List Int) (cF:List Int),Zaw (((N:Int),E,A,()),o,())=some (l,0,())∧l.length=N∧Dyn (JE E) X Y M o cF∧bV E (o.take 2) (o.take 2) (o.drop 2)=some cF ∧
   ∀ u:Int,0≤u→u < (N:Int)→xs l u=X u∧ys l u=- Y u:=by
 have h3:=h.three
 have hm1:=h.rot.m1
 obtain ⟨a,b,c,r,rfl,hc3⟩:=Dg hC h3
 have hnd:=hC.nodup
 have g1:aF (a :: b :: c :: r) 1=some b:=rfl
 have g2:aF (a :: b :: c :: r) 2=some c:=rfl
 have g0:aF (a :: b :: c :: r) 0=some a:=rfl
 obtain ⟨a0,a1⟩:=hC.lt (u:=a) (by simp)
 obtain ⟨b0,b1⟩:=hC.lt (u:=b) (by simp)
 obtain ⟨c0,c1⟩:=hC.lt (u:=c) (by simp)
 obtain ⟨bn,rfl⟩ : ∃ k:Nat,b=(k:Int):=⟨b.toNat,by omega⟩
 obtain ⟨cn,rfl⟩ : ∃ k:Nat,c=(k:Int):=⟨c.toNat,by omega⟩
 have hbn:bn < N:=by omega
 have hcn:cn < N:=by omega
 have hne:a≠(bn:Int)∧a≠(cn:Int)∧(bn:Int)≠(cn:Int):=by
  simp only [MU,B7,not_or] at hnd
  exact ⟨hnd.1.1,hnd.1.2.1,hnd.2.1.1⟩
 have eP:∀ {e:Ty},eN e (N:Int) (N:Int)=some (A6 N (az e)):=dr (A7 _) (by omega)
 obtain ⟨near0,hn0,k0⟩:=CN (N:=N) (E:=E) (A:=A) (by omega) (a :: (bn:Int) :: (cn:Int) :: r)
 obtain ⟨near,hn,k1⟩:=CW h.rot (a :: (bn:Int) :: (cn:Int) :: r) near0 hn0
 let P0:List PtS:=A6 N (az (.prod I (.prod I .unit)))
 have hP0:P0.length=N:=by simp [P0]
 obtain ⟨z1,q1⟩ : ∃ z,P0[bn]?=some z:=⟨_,gr (by omega)⟩
 obtain ⟨z2,q2⟩ : ∃ z,(P0.set bn (2,0,()))[cn]?=some z:=⟨_,gr (by rw [Mk]; omega)⟩
 let at0:List PtS:=(P0.set bn (2,0,())).set cn (1,1,())
 have hat0:at0.length=N:=by simp [at0,hP0]
 have x0:∀ u:Int,0≤u→u≠(bn:Int)→u≠(cn:Int)→xs at0 u=0∧ys at0 u=0:=by
  intro u hu e1 e2
  unfold xs ys
  simp only [at0]
  rw [eW (by omega),eW (by omega),A8]
  simp only [P0]
  rw [MG]
  split <;> exact ⟨rfl,rfl⟩
 have xb:xs at0 (bn:Int)=2∧ys at0 (bn:Int)=0:=by
  unfold xs ys
  simp only [at0,B2]
  rw [eW (by omega),gu (by omega)]
  exact ⟨rfl,rfl⟩
 have xc:xs at0 (cn:Int)=1∧ys at0 (cn:Int)=1:=by
  unfold xs ys
  simp only [at0,B2]
  rw [gu (by rw [Mk]; omega)]
  exact ⟨rfl,rfl⟩
 have xa:=x0 a a0 hne.1 hne.2.1
 have hR:RunI N E (a :: (bn:Int) :: (cn:Int) :: r) 0 (at0,ic N,[a,(cn:Int),(bn:Int)]):=by
  refine ⟨hat0,⟨by simp [ic],fun w hw=>?_⟩,fun j v hj hv=>?_,hc3,?_⟩
  ·rw [show aV (at0,ic N,[a,(cn:Int),(bn:Int)]).2.1 w=_ from oN hw]
   refine ⟨fun u hu=>?_,by simp⟩
   simp at hu
   omega
  ·have:=hC.ok j _ hv
   exact oN (by omega)
  ·exact Lh (vj E) (by unfold JE; rw [pc h.rot]; simp) hne.1 hne.2.1 hne.2.2 xa.1 xa.2 xb.1 xb.2 xc.1 xc.2 (by
    intro u hu
    have hu':=hC.lt (u:=u) (by simp at hu ⊢; rcases hu with h | h | h <;> simp [h])
    show aV (ic N) u.toNat=_
    rw [oN (by omega)]
    rw [Int.toNat_of_nonneg hu'.1])
 obtain ⟨⟨at_,mv,cF⟩,t1,t2⟩:=Fv h hC hN near hn _ hR
 obtain ⟨i1,i2,i3,i4,i5⟩:=t1
 have hol:=hC.len
 rw [show N - 3+3=N by omega] at i4 i5
 have e5:(a :: (bn:Int) :: (cn:Int) :: r).take N=a :: (bn:Int) :: (cn:Int) :: r:=by rw [← hol,Na]
 rw [e5] at i4 i5
 obtain ⟨l,l0,l1,l2⟩:=Ds at_ i1 (by omega) (by
  intro u u0 u1
  have:=i5.box u (hC.mem u0 u1)
  rw [hol] at this
  simp only at this
  omega)
 refine ⟨l,xs at_,ys at_,gR mv,cF,?_,l0,i5,i4,l1⟩
 unfold Zaw
 simp only
 rw [ht,dn,hk,dn]
 simp only [Mp,cond_false]
 rw [eP,dn]
 rw [show vn ((N:Int),E,A,A6 N (az (Ty.slice .bool)),a :: (bn:Int) :: (cn:Int) :: r,((A6 N (az (Ty.slice .bool))).length:Nat),0,())=_ from k0]
 simp only [dn,B8]
 rw [k1]
 simp only [dn,B8]
 rw [eP,dn,g1,dn,g2,dn]
 rw [show aO (A6 N (az (Ty.prod I (.prod I .unit)))).length (bn:Int)=some bn from ay (by simpa using hbn),dn]
 rw [show (A6 N (az (Ty.prod I (.prod I .unit))))[bn]?=some z1 from q1,dn]
 rw [show aO ((A6 N (az (Ty.prod I (.prod I .unit)))).set bn ((2,0,()):PtS)).length (cn:Int)=some cn from ay (by simpa using hcn),dn]
 rw [show ((A6 N (az (Ty.prod I (.prod I .unit)))).set bn ((2,0,()):PtS))[cn]?=some z2 from q2,dn]
 rw [eP,dn]
 rw [show qc (near,((A6 N (az (Ty.prod I (.prod I .unit)))).set bn ((2,0,()):PtS)).set cn ((1,1,()):PtS),A6 N (az (Ty.slice I)),a :: (bn:Int) :: (cn:Int) :: r,((A6 N (az (Ty.slice I))).length:Nat),0,())=_ from Jm near at0 (by omega) (a :: (bn:Int) :: (cn:Int) :: r)]
 simp only [dn,B8]
 rw [g0,dn,g2,dn,g1,dn]
 have s2:co (a :: (bn:Int) :: (cn:Int) :: r) 3 ((a :: (bn:Int) :: (cn:Int) :: r).length:Nat)=some r:=by
  unfold co
  rw [if_pos ⟨by omega,by simp; omega,by omega⟩,B2,Na]
  rfl
 rw [s2,dn]
 rw [show uB (near,at0,ic N,[a,(cn:Int),(bn:Int)],r,(r.length:Nat),0,())=_ from t2]
 simp only [dn,B8]
 rw [l2]
 rfl
open Cnt
theorem mM {X Y:Int→Int} {P:List PtS} {a b zx zy d:Int} (ha:xs P a=X a∧ys P a=- Y a) (hb:xs P b=X b∧ys P b=- Y b) (h:Seg (xs P) (ys P) a b zx zy d):Seg X Y a b zx (-zy) d:=by
 obtain ⟨h0,t,h1,h2,h3,h4⟩:=h
 rw [ha.1,hb.1] at h3
 rw [ha.2,hb.2] at h4
 exact ⟨h0,t,h1,h2,h3,by rw [h4]; grind⟩
theorem lk {ε α : Type} {f:Nat→Int→α→Option (Int⊕ε)}:∀ (l:List α) (i:Nat),(∀ k a,l[k]?=some a→f (i+k) 0 a=some (.inl 0))→ae f i 0 l=some (.inl 0)
 | [],i,_=>rfl
 | a :: l,i,h=>by
  simp only [ae]
  rw [show f i 0 a=some (.inl 0) from h 0 a rfl]
  simp only [dn,B8]
  exact lk l (i+1) fun k b hk=>by
   have:=h (k+1) b (by simpa using hk)
   rw [show i+1+k=i+(k+1) by omega]; exact this
theorem Cx (hrot:RotOK (N:Nat) E A) (hC:Can N E o) (hN:N≤10) (hE:E.length≤40) {l:List PtS} (hl:l.length=N) {X Y:Int→Int} {M:Int→List Int} {cF:List Int} (hD:Dyn (JE E) X Y M o cF)
  (hx:∀ u:Int,0≤u→u < (N:Int)→xs l u=X u∧ys l u=- Y u):Zf (((N:Int),E,()),l,())=some (0,()):=by
 have hP:PlanC X Y (JE E) o cF:=hD.plan (fun _=>0) (fun _ _=>Nb _) X Y (fun j u _ x _=>by simp) fun _ _=>rfl
 have hbd:∀ u:Int,0≤u→u < (N:Int)→-1000≤xs l u∧xs l u≤1000∧-1000≤ys l u∧ys l u≤1000:=by
  intro u u0 u1
  have:=hD.box u (hC.mem u0 u1)
  rw [hC.len] at this
  have:=hx u u0 u1
  omega
 have hed:=hrot.edge
 have hobj:∀ a∈E,Go.Shift.Obj (JE E) o a.1 a.2.1:=by
  intro a ha
  obtain ⟨e1,e2,e3,e4,_⟩:=hed a ha
  refine ⟨hC.mem e1 e2,hC.mem e3 e4,.inr ?_⟩
  unfold JE ab
  refine ME.2 ⟨a,ha,?_⟩
  unfold jn
  simp [eqI]
 have hself:∀ u:Int,0≤u→u < (N:Int)→Go.Shift.Obj (JE E) o u u:=fun u u0 u1=>⟨hC.mem u0 u1,hC.mem u0 u1,.inl rfl⟩
 have key1:∀ a∈E,∀ b∈E,(apB a b && pf (Cnt.at_ l a.1) (Cnt.at_ l a.2.1) (Cnt.at_ l b.1) (Cnt.at_ l b.2.1))=false:=by
  intro a ha b hb
  cases hq:(apB a b && pf (Cnt.at_ l a.1) (Cnt.at_ l a.2.1) (Cnt.at_ l b.1) (Cnt.at_ l b.2.1)) with
  | false=>rfl
  | true =>
   exfalso
   rw [A3] at hq
   obtain ⟨h1,h2⟩:=hq
   unfold apB at h1
   simp only [A3,neI,Mn,beq_eq_false_iff_ne,bne_iff_ne,ne_eq,decide_eq_true_eq] at h1
   obtain ⟨n1,n2,n3,n4⟩:=h1
   obtain ⟨e1,e2,e3,e4,_⟩:=hed a ha
   obtain ⟨f1,f2,f3,f4,_⟩:=hed b hb
   obtain ⟨u,u',v,v',zx,zy,e,k1,k2,k3,k4,k5,k6,s1,s2⟩:=D2 (P:=l) (by
    intro w hw
    rcases hw with rfl | rfl | rfl | rfl
    ·exact hbd _ e1 e2
    ·exact hbd _ e3 e4
    ·exact hbd _ f1 f2
    ·exact hbd _ f3 f4) h2
   have ru:∀ w,w=a.1∨w=a.2.1→0≤w∧w < (N:Int):=by rintro w (rfl | rfl); exact ⟨e1,e2⟩; exact ⟨e3,e4⟩
   have rv:∀ w,w=b.1∨w=b.2.1→0≤w∧w < (N:Int):=by rintro w (rfl | rfl); exact ⟨f1,f2⟩; exact ⟨f3,f4⟩
   have o1:Go.Shift.Obj (JE E) o u u':=by
    rcases k5 with rfl | ⟨rfl,rfl⟩
    ·exact hself u (ru u k1).1 (ru u k1).2
    ·exact hobj a ha
   have o2:Go.Shift.Obj (JE E) o v v':=by
    rcases k6 with rfl | ⟨rfl,rfl⟩
    ·exact hself v (rv v k3).1 (rv v k3).2
    ·exact hobj b hb
   have nn:∀ x y,(x=a.1∨x=a.2.1)→(y=b.1∨y=b.2.1)→x≠y:=by
    rintro x y (rfl | rfl) (rfl | rfl) <;> assumption
   exact hP.apart u u' v v' o1 o2 (nn _ _ k1 k3) (nn _ _ k1 k4) (nn _ _ k2 k3) (nn _ _ k2 k4) zx (-zy) e (mM (hx u (ru u k1).1 (ru u k1).2) (hx u' (ru u' k2).1 (ru u' k2).2) s1) (mM (hx v (rv v k3).1 (rv v k3).2) (hx v' (rv v' k4).1 (rv v' k4).2) s2)
 have key2:∀ a∈E,∀ (k:Nat) (y:PtS),l[k]?=some y→(neI (k:Int) a.1 && (neI (k:Int) a.2.1 && onB (Cnt.at_ l a.1) (Cnt.at_ l a.2.1) y))=false:=by
  intro a ha k y hk
  have hkl:=(A2.1 hk).1
  have hy:y=Cnt.at_ l (k:Int):=by
   unfold Cnt.at_
   rw [B2,A8,hk]; rfl
  cases hq:(neI (k:Int) a.1 && (neI (k:Int) a.2.1 && onB (Cnt.at_ l a.1) (Cnt.at_ l a.2.1) y)) with
  | false=>rfl
  | true =>
   exfalso
   rw [hy] at hq
   simp only [A3,neI,Mn,beq_eq_false_iff_ne,bne_iff_ne,ne_eq,decide_eq_true_eq] at hq
   obtain ⟨n1,n2,h2⟩:=hq
   obtain ⟨e1,e2,e3,e4,_⟩:=hed a ha
   obtain ⟨zx,zy,d,s1,s2⟩:=rq (P:=l) (by
    intro w hw
    rcases hw with rfl | rfl | rfl
    ·exact hbd _ e1 e2
    ·exact hbd _ e3 e4
    ·exact hbd _ (by omega) (by omega)) h2
   exact hP.apart a.1 a.2.1 (k:Int) (k:Int) (hobj a ha) (hself _ (by omega) (by omega)) (fun e=>n1 e.symm) (fun e=>n1 e.symm) (fun e=>n2 e.symm) (fun e=>n2 e.symm) zx (-zy) d
    (mM (hx _ e1 e2) (hx _ e3 e4) s1) (mM (hx _ (by omega) (by omega)) (hx _ (by omega) (by omega)) s2)
 have hdb:E.any (nc (N:Int))=false:=by
  rw [MK]
  intro a ha
  obtain ⟨e1,e2,e3,e4,_⟩:=hed a ha
  unfold nc
  rw [aC (by omega),iI (by omega),aC (by omega),iI (by omega)]
  simp
 have hdv:dvB (N:Int) E=true:=by
  unfold dvB
  rw [aC (by omega),eC (by omega),eC (by omega),hdb]
  rfl
 have hall:l.all pv=true:=by
  rw [LZ]
  intro y hy
  obtain ⟨k,hk⟩:=L5.1 hy
  have hkl:=(A2.1 hk).1
  have:=hbd (k:Int) (by omega) (by omega)
  have e1:xs l (k:Int)=y.1∧ys l (k:Int)=y.2.1:=by
   unfold xs ys
   rw [B2,A8,hk]
   exact ⟨rfl,rfl⟩
  unfold pv
  rw [tS (by omega),IE (by omega),tS (by omega),IE (by omega)]
  rfl
 have hs:ae (s3 l E) 0 0 E=some (.inl 0):=by
  refine lk E 0 fun k a hk=>?_
  have ha:=A5 hk
  unfold s3
  rw [lk (ε:=Empty) (f:=s1 l a) (E.take (0+k)) 0 fun j b hj=>by
   have hb:=Nk (A5 hj)
   unfold s1
   rw [key1 a ha b hb]; rfl]
  simp only [dn,B8]
  exact lk (ε:=Empty) (f:=s2 l a) l 0 fun j y hj=>by
   unfold s2
   rw [L9,key2 a ha j y hj]; rfl
 unfold Zf
 simp only
 rw [JC,hdv]
 simp only [dn,Mp,cond_false]
 rw [dF (by omega),cond_false,wy (N:Int) E l (by omega) (by omega),hall]
 simp only [dn,cond_true,NX,B8]
 rw [I5 ⟨by omega,by omega,by omega,hall,hdb⟩,hs]
 rfl
end
end Go.Vm

/-
 StraightGrid: the law, joined.
-/
namespace Go.Vm
open Go.Proofs Go.Shift
set_option maxRecDepth 100000
attribute [local irreducible] aa
theorem Gk (N:Int) (E:List Arc) (A:List (List Int)):∃ b,Zs ((N,E,A,()),())=some (b,())∧(b=true→N≤10∧E.length≤40):=by
 unfold Zs
 simp only
 by_cases h1:N≤10
 ·rw [eC h1,cond_false]
  by_cases h2:((E.length:Nat):Int)≤40
  ·rw [eC h2,cond_false]
   by_cases h3:((A.length:Nat):Int)≤10
   ·rw [eC h3,cond_false]
    have key:=jF (B:=yx) (fun (_:Unit) i=>(N,E,A,(i:Int),())) (fun _=>.inr (.inl ())) (fun (_:Unit)=>.inl (false,()))
     (fun _ (_:Unit) (l:List Int)=>some (cond (gtI (l.length:Nat) 80) (.inr ()) (.inl ()))) A (by
      intro _ i l hl
      have hi:i < A.length:=(A2.1 hl).1
      unfold yx
      simp only
      rw [aJ (by omega),cond_true,am,hl,dn,aZ (by omega)]
      cases gtI (l.length:Nat) 80 <;> rfl) (by
      intro _
      unfold yx
      simp only
      rw [aC (by omega)]; rfl) ()
    rw [mT] at key
    rw [show Gn (N,E,A,0,())=_ from key]
    cases A.any fun l=>gtI (l.length:Nat) 80 with
    | true=>exact ⟨false,rfl,fun h=>by cases h⟩
    | false=>exact ⟨true,rfl,fun _=>⟨h1,by omega⟩⟩
   ·rw [iX (by omega)]; exact ⟨false,rfl,fun h=>by cases h⟩
  ·rw [iX (by omega)]; exact ⟨false,rfl,fun h=>by cases h⟩
 ·rw [iX (by omega)]; exact ⟨false,rfl,fun h=>by cases h⟩
theorem Dn {N:Nat} (hN:N≤10) {l:List PtS} (hl:l.length=N) (o:List Int) (hb:∀ u:Int,0≤u→u < (N:Int)→0≤xs l u∧xs l u≤2 * (N:Int) - 4∧ys l u≤0∧2 - (N:Int)≤ys l u) :
  EG (l,o,(N:Int),0,())=some (.inr (.inl (l,o,(N:Int),()))):=by
 obtain ⟨_,_,h⟩:=k9 (B:=xo) (fun _ (_:Unit)=>True) (fun _ i=>(l,o,(N:Int),(i:Int),())) (fun _=>.inr (.inl (l,o,(N:Int),()))) N (by
  rintro ⟨⟩ i hi _
  refine ⟨(),?_,trivial⟩
  have hil:i < l.length:=by omega
  have hq:=hb (i:Int) (by omega) (by omega)
  have e1:xs l (i:Int)=l[i].1∧ys l (i:Int)=l[i].2.1:=by
   unfold xs ys
   rw [B2,A8,gr hil]
   exact ⟨rfl,rfl⟩
  rw [e1.1,e1.2] at hq
  unfold xo
  simp only
  rw [aJ (by omega),cond_true,ay hil]
  simp only [dn]
  rw [gr hil]
  simp only [dn]
  rw [gq (a:=2) (b:=(N:Int)) (by omega) (by omega),cC (a:=2 * (N:Int)) (b:=4) (by omega) (by omega),cC (a:=2) (b:=(N:Int)) (by omega) (by omega)]
  rw [aC (by omega),cond_false,eC (by omega),cond_false,eC (by omega),cond_false,aC (by omega),cond_false,aZ (by omega)]) (by
  rintro ⟨⟩ _
  unfold xo
  simp only
  rw [aC (by omega)]; rfl) () trivial
 exact h
theorem ow (N:Int) (E:List Arc) (A:List (List Int)) (hl:∀ l∈A,l.length≤9223372036854775807) (o:List Int):Zd ((N,E,A,()),o,())=some (true,()):=by
 have aw:Zq ()=some (true,()):=rfl
 unfold Zd
 simp only
 obtain ⟨b,b1,b2⟩:=Gk N E A
 rw [b1,dn]
 cases b with
 | false=>rw [aw]; rfl
 | true =>
  simp only [Mp,cond_false]
  obtain ⟨hN,hE⟩:=b2 rfl
  by_cases ho:o.length≤20
  ·rw [eC (by omega),cond_false]
   obtain ⟨b,t1,t2,t3⟩:=E7 N E A hl
   rw [t2,dn]
   cases b with
   | false=>rw [aw]; rfl
   | true =>
    simp only [Mp,cond_false]
    obtain ⟨c0,hfaces⟩:=t3.1 rfl
    obtain ⟨e,c1,_,c3⟩:=Bc N E A hl
    rw [c0] at c1
    have he:e=0:=by
     have:=B6 c1
     exact (congrArg Prod.fst this).symm
    obtain ⟨n,rfl,hr,h3,hcn,hsimp,hpl⟩:=c3 he
    have hT:Tri n E A:=⟨hr,h3,hcn,hsimp,hpl⟩
    obtain ⟨b,k1,k2,k3⟩:=AB hT t1 t2 o ho
    rw [k2,dn]
    cases b with
    | false=>rw [aw]; rfl
    | true =>
     simp only [Mp,cond_false]
     obtain ⟨hC,nx,y,n1,n2,n3⟩:=k3 rfl
     obtain ⟨l,X,Y,M,cF,p1,p2,hD,hc,hx⟩:=Du hT t1 k1 hC (by omega)
     obtain ⟨j0,j1⟩:=EF hr hfaces n1 n2
     obtain ⟨w1,w2,⟨w3,w4⟩,w5,w6⟩:=wS hr h3 hC n3 j0 j1 hc hD
     have hol:=hC.len
     have hbox:∀ u:Int,0≤u→u < (n:Int)→0≤xs l u∧xs l u≤2 * (n:Int) - 4∧ys l u≤0∧2 - (n:Int)≤ys l u:=by
      intro u u0 u1
      have:=hD.box u (hC.mem u0 u1)
      have:=hx u u0 u1
      rw [hol] at *
      omega
     rw [p1,dn]
     simp only
     rw [dF rfl,cond_false,dF (by omega),cond_false,Cx hr hC (by omega) hE p2 hD hx,dn]
     simp only
     rw [dF rfl,cond_false,Dn (by omega) p2 o hbox]
     simp only [dn,NX,B8]
     have pt:∀ (k:Nat) (u:Int),o[k]?=some u→∃ j z,aF o (k:Int)=some u∧aO l.length u=some j∧l[j]?=some z∧z.1=X u∧z.2.1=- Y u:=by
      intro k u hk
      obtain ⟨u0,u1⟩:=hC.lt (A5 hk)
      have hj:u.toNat < l.length:=by omega
      refine ⟨u.toNat,l[u.toNat],by rw [am,hk],jX u0 (by omega),gr hj,?_⟩
      have:=hx u u0 u1
      unfold xs ys at this
      rw [A8,gr hj] at this
      exact this
     obtain ⟨i0,z0,a1,a2,a3,a4,a5⟩:=pt 0 _ hC.e0
     obtain ⟨i1,z1,d1,d2,d3,d4,d5⟩:=pt 1 _ hC.e1
     obtain ⟨i2,z2,f1,f2,f3,f4,f5⟩:=pt (n - 1) _ n3
     rw [show aF o 0=_ from a1,dn,a2,dn,a3,dn,gH (by omega),gH (by omega)]
     simp only [O9,cond_true]
     rw [show aF o 1=_ from d1,dn,d2,dn,d3,dn,gq (a:=2) (b:=(n:Int)) (by omega) (by omega),cC (a:=2 * (n:Int)) (b:=4) (by omega) (by omega),gH (by omega),gH (by omega)]
     simp only [O9,cond_true]
     rw [pD (by omega),show ((n:Int) - 1)=((n - 1:Nat):Int) by omega,f1,dn,f2,dn,f3,dn,cC (a:=(n:Int)) (b:=2) (by omega) (by omega),cC (a:=2) (b:=(n:Int)) (by omega) (by omega),gH (by omega),gH (by omega)]
     simp only [O9,cond_true]
     rw [aw]
     rfl
  ·rw [iX (by omega),cond_true,aw]; rfl
theorem mJ (x:(aM (Zd_c.ins.map (·.2))).den) (h:xT Zd_c.ins x):Zd x=some (true,()):=by
 obtain ⟨⟨N,E,A,u1⟩,o,u2⟩:=x
 refine ow N E A (fun l hl=>?_) o
 have h1:Wf (.slice (.slice (.int .i64))) A:=h.1.2.2.1
 exact (h1.2 l hl).1
end Go.Vm


/-
 The shift drawing in program and reference; the law.
-/
import Derived.Test.YtgdkanecejfeiaaGreatDoorSKC
open Option renaming bind_some→gr,getD_some→Nl
open Option.some renaming injEq→A1,inj→B4
open List renaming getElem?_eq_getElem→A2,getElem?_eq_some_iff→A3,replicate→A6,mem_append→B1,mem_of_getElem?→B2,mem_cons→B3,getD_eq_getElem?_getD→B5,length_cons→La,getElem_mem→Lk,getElem?_set→Lm,getElem?_cons_succ→Lp,pairwise_cons→Lr,getElem?_take→Ls,length_append→Lu,length_set→LF,mem_iff_getElem?→LM,nil_append→LW,length_drop→LY,getElem?_drop→L5,any_eq_true→L9,nodup_append→Mi,getElem?_eq_none→Ml,mem_filter→Mp,length_take→Mt,nodup_iff_pairwise_ne→Mu,getElem?_set_ne→Mz,ext_getElem?→MA,mem_of_mem_drop→MB,filter_cons→MF,mem_map→MO,getElem?_map→MP,take_length→MQ,filter_sublist→MS,length_replicate→M7,mem_of_mem_take→Nb,drop_append_of_le_length→Nc,nodup_cons→Nf,length_map→Nh,take→Nr,take_append_drop→Nz,take_add_one→NS,pairwise_map→NW,countP_cons→N3,foldl_cons→N4,take_zero→Oe,take_succ_cons→Ox,getElem?_range→Oy,take_sublist→OK
open Bool renaming and_eq_true→A4,not_true→LN,or_eq_true→LV
open Nat renaming le_refl→A7,zero_add→Ln,le_trans→LQ,zero_le→Mr,mul_le_mul→Na,sub_zero→Nv,add_comm→NM,pow_le_pow_right→Oz,sub_self→O7
open Int renaming toNat_natCast→B8,not_lt→Pe,not_le→Pf
open Sum renaming elim_inl→K7,elim→K8,elim_inr→NF
open List.Pairwise renaming nil→Mo,cons→M6
open List.Sublist renaming refl→NG,append→Pa
set_option linter.unusedVariables false
set_option linter.unusedSimpArgs false
/-
 StraightShifts: which vertices are joined; the neighbors of a vertex; the third corner of the first face.
-/
namespace Go.Vm
open Go.Proofs
set_option maxRecDepth 100000
attribute [local irreducible] aa
theorem xT (N:Int) (E:List Arc) (A:List (List Int)) (a b:Int) (hE:E.length≤1000000):Zq ((N,E,A,()),a,b,())=some (ab E a b,()):=by
 have h:=mX (B:=wG) (fun (_:Unit) i=>(N,E,A,a,b,(i:Int),())) (fun _=>.inr (.inl ())) (fun (_:Unit)=>.inl (true,()))
  (fun _ (_:Unit) (x:Arc)=>some (cond (jn a b x) (.inr ()) (.inl ()))) E (by
   intro _ i x hx
   have hi:i < E.length:=(A3.1 hx).1
   unfold wG
   simp only [aq,hx,gr]
   rw [aM (by omega),cond_true,bj (by omega)]
   unfold jn
   cases eqI x.1 a <;> cases eqI x.2.1 b <;> cases eqI x.1 b <;> cases eqI x.2.1 a <;> rfl) (by
   intro _
   unfold wG
   simp only
   rw [aI (by omega)]; rfl) ()
 unfold Zq FW
 dsimp only
 rw [show ((0:Int))=((0:Nat):Int) from rfl,h,l6]
 unfold ab
 cases E.any (jn a b) <;> rfl
theorem EM (N:Int) (E:List Arc) (A:List (List Int)) (a b:Int) (hE:E.length≤1000000):Zl ((N,E,A,()),a,b,())=some (ab E a b,()):=by
 have h:=mX (B:=wT) (fun (_:Unit) i=>(N,E,A,a,b,(i:Int),())) (fun _=>.inr (.inl ())) (fun (_:Unit)=>.inl (true,()))
  (fun _ (_:Unit) (x:Arc)=>some (cond (jn a b x) (.inr ()) (.inl ()))) E (by
   intro _ i x hx
   have hi:i < E.length:=(A3.1 hx).1
   unfold wT
   simp only [aq,hx,gr]
   rw [aM (by omega),cond_true,bj (by omega)]
   unfold jn
   cases eqI x.1 a <;> cases eqI x.2.1 b <;> cases eqI x.1 b <;> cases eqI x.2.1 a <;> rfl) (by
   intro _
   unfold wT
   simp only
   rw [aI (by omega)]; rfl) ()
 unfold Zl Et
 dsimp only
 rw [show ((0:Int))=((0:Nat):Int) from rfl,h,l6]
 unfold ab
 cases E.any (jn a b) <;> rfl
theorem Ge (a b:Int) (x:Arc):jn a b x=jn b a x:=by
 unfold jn
 exact Bool.or_comm ..
theorem kf (E:List Arc) (a b:Int):ab E a b=ab E b a:=by
 unfold ab
 congr 1
 funext x
 exact Ge a b x
section
variable {N:Nat} {E:List Arc} {A:List (List Int)} {nx fw:List Int}
theorem oG (h:RotOK (N:Nat) E A) {u v:Int} (hj:ab E u v=true):0≤u∧u < (N:Int)∧0≤v∧v < (N:Int):=by
 unfold ab at hj
 obtain ⟨a,ha,hb⟩:=L9.1 hj
 obtain ⟨h1,h2,h3,h4,_⟩:=h.edge a ha
 unfold jn at hb
 simp only [LV,A4,eqI,beq_iff_eq] at hb
 rcases hb with ⟨e1,e2⟩ | ⟨e1,e2⟩ <;> subst e1 <;> subst e2 <;> exact ⟨by assumption,by assumption,by assumption,by assumption⟩
def fy (E:List Arc) (l:List Int):List Int:=l.map fun d=>tl E (oth d.toNat)
theorem Gh (h:RotOK (N:Nat) E A) {v:Nat} {l:List Int} (hv:A[v]?=some l):Zaz (((N:Int),E,A,()),(v:Int),())=some (fy E l,()):=by
 have hll:=h.list_len (B2 hv)
 have hm1:=h.m1
 have key:=df (B:=su) (ε:=Empty) (fun i (s:List Int)=>s.length=i) (fun s i=>((N:Int),E,A,s,l,((l.length:Nat):Int),(i:Int),())) (fun s=>.inl (s,())) (fun e=>nomatch e)
  (fun _ s (d:Int)=>some (.inl (s++[tl E (oth d.toNat)]))) l (by
   intro s i d hs hd
   have hi:i < l.length:=(A3.1 hd).1
   obtain ⟨k,rfl,hk,_⟩:=h.dart v l hv d (B2 hd)
   unfold su
   simp only
   rw [aM (by omega),cond_true,aq,hd,gr,EC (by omega),qe h h.validB h.lists (ee hk),gr,c9 (by simp; omega),gr,bj (by omega)]
   rfl) (by
   intro s i d t hs hd hg
   cases hg
   simp [hs]) (by
   intro s hs
   unfold su
   simp only
   rw [aI (by omega)]; rfl) [] rfl
 have hf:∀ (l:List Int) (i:Nat) (s:List Int),ai (ε:=Empty) (fun _ (s:List Int) (d:Int)=>some (.inl (s++[tl E (oth d.toNat)]))) i s l=some (.inl (s++fy E l)):=by
  intro l
  induction l with
  | nil=>intro i s; simp [ai,fy]
  | cons a l ih =>
   intro i s
   simp only [ai,gr,K7]
   rw [ih]
   simp [fy]
 rw [hf] at key
 unfold Zaz
 simp only
 rw [aq,hv,gr]
 rw [show zD ((N:Int),E,A,[],l,((l.length:Nat):Int),0,())=some (.inl (fy E l,())) from key]
 rfl
theorem Fl (h:RotOK (N:Nat) E A) {v:Nat} {l:List Int} (hv:A[v]?=some l) (u:Int):u∈fy E l↔ab E u (v:Int)=true:=by
 unfold fy
 rw [MO]
 constructor
 ·rintro ⟨d,hd,rfl⟩
  obtain ⟨k,rfl,hk,ht⟩:=h.dart v l hv d hd
  rw [B8]
  have hke:k / 2 < E.length:=by omega
  unfold ab
  rw [L9]
  refine ⟨E[k / 2],Lk hke,?_⟩
  unfold jn
  simp only [LV,A4,eqI,beq_iff_eq]
  rcases oj (A2 hke) with ⟨p1,p2⟩ | ⟨p1,p2⟩
  ·exact .inr ⟨by rw [← p1,ht],p2.symm⟩
  ·exact .inl ⟨p2.symm,by rw [← p1,ht]⟩
 ·intro hj
  obtain ⟨h1,h2,h3,h4⟩:=oG h hj
  obtain ⟨w,rfl⟩ : ∃ w:Nat,u=(w:Int):=⟨u.toNat,by omega⟩
  obtain ⟨x,hx,e1,e2⟩:=yw h hj
  have ho:=ee hx
  have hm:=h.mem ho
  obtain ⟨l',hl',hd'⟩:=List.mem_flatten.1 hm
  obtain ⟨v',hv'⟩:=LM.1 hl'
  obtain ⟨k,hk,hk2,ht⟩:=h.dart v' l' hv' _ hd'
  have hk:oth x=k:=by omega
  subst hk
  have e3:=(oO h ho).1
  rw [e2] at e3
  have:v'=v:=by omega
  subst this
  rw [hv] at hv'
  cases hv'
  refine ⟨_,hd',?_⟩
  rw [B8,fi,(oO h hx).1,e1]
theorem zx (h:Tri N E A) {v:Nat} {l:List Int} (hv:A[v]?=some l):(fy E l).Nodup:=by
 have hn:=h.rot.list_nodup (B2 hv)
 unfold fy
 rw [Mu] at hn ⊢
 rw [NW]
 refine hn.imp_of_mem fun {a b} ha hb hne e=>hne ?_
 obtain ⟨x,rfl,hx,tx⟩:=h.rot.dart v l hv a ha
 obtain ⟨y,rfl,hy,ty⟩:=h.rot.dart v l hv b hb
 rw [B8,B8] at e
 have:=h.sdart hx hy (by unfold tln; rw [tx,ty]) (by unfold tln; rw [e])
 rw [this]
theorem DZ (h:RotOK (N:Nat) E A) (hn:Fol oth E A nx) {d y:Nat} (hd:d < 2 * E.length) (hy:nx[d]?=some (y:Int)):Zat (((N:Int),E,A,()),(d:Int),())=some ((y:Int),()):=by
 have hm1:=h.m1
 obtain ⟨v,l,i,h1,h2,h3,h4,_⟩:=u7 h hn hy
 obtain ⟨a,a1,a2⟩:=AN h hd
 have hi:l[i]?=some ((oth d:Nat):Int):=by rw [← h3,B5,A2 h2]; rfl
 have hmem:((oth d:Nat):Int)∈l:=B2 hi
 obtain ⟨k,hk,hk2,ht⟩:=h.dart v l h1 _ hmem
 have hk:oth d=k:=by omega
 subst hk
 have e1:Go.Vm.hd E d=(v:Int):=ht
 have hll:=h.list_len (B2 h1)
 have hln:=h.list_nodup (B2 h1)
 rcases tX l ((oth d:Nat):Int) (by omega) with ⟨_,q⟩ | ⟨k,k1,k2⟩
 ·exact absurd hmem q
 ·have hkl:k < l.length:=(A3.1 k1).1
  have:k=i:=by
   refine gT hln hkl h2 ?_
   have g1:=(A3.1 k1).2
   have g2:=(A3.1 hi).2
   rw [g1,g2]
  subst this
  have hm:(k+1) % l.length < l.length:=Nat.mod_lt _ (by omega)
  have e2:jS .i64 2 (E.length:Nat)=((2 * E.length:Nat):Int):=by rw [mQ (by omega) (by omega)]; omega
  unfold Zat
  simp only
  rw [kC ((N:Int),E,A,()) h.lists,h.validB,gr]
  simp only [LN,cond_false]
  rw [aI (by omega),cond_false,e2,lz (by omega),cond_false,Ek (by omega),aq,a1,gr,a2,gr]
  simp only
  rw [e1,aq,h1,gr,EC (by omega),k2,gr,iz (by omega),cond_false,bj (by omega),Iz,aq,A2 hm,h4,B5,A2 hm]
  rfl
theorem vA (h:RotOK (N:Nat) E A) {d:Nat} (hd:d < 2 * E.length):Zah (((N:Int),E,A,()),(d:Int),())=some (tl E d,()):=by
 have hm1:=h.m1
 have e2:jS .i64 2 (E.length:Nat)=((2 * E.length:Nat):Int):=by rw [mQ (by omega) (by omega)]; omega
 unfold Zah
 simp only
 rw [i8 ((N:Int),E,A,()) h.lists,h.validB,gr]
 simp only [LN,cond_false]
 rw [aI (by omega),cond_false,e2,lz (by omega),cond_false,wW (N:Int) E A () hm1,gr]
 simp only
 rw [ao (by rw [gK]; exact hd),gr,ph E d hd]
 rfl
theorem GZ (h:RotOK (N:Nat) E A) (hn:Fol oth E A nx) {d y:Nat} (hd:d < 2 * E.length) (hy:nx[d]?=some (y:Int)):Zaf (((N:Int),E,A,()),(d:Int),())=some ((y:Int),()):=by
 have hm1:=h.m1
 have e2:jS .i64 2 (E.length:Nat)=((2 * E.length:Nat):Int):=by rw [mQ (by omega) (by omega)]; omega
 obtain ⟨fw,f1,ff⟩:=jK h ()
 obtain ⟨y',_,g1,g2⟩:=i9 h hn ff hd
 rw [hy] at g1
 have:y=y':=by have:=B4 g1; omega
 subst this
 unfold Zaf
 simp only
 rw [i8 ((N:Int),E,A,()) h.lists,h.validB,gr]
 simp only [LN,cond_false]
 rw [aI (by omega),cond_false,e2,lz (by omega),cond_false,f1,gr,x7 d (by omega),gr]
 simp only
 rw [ao (by rw [ff.len]; exact ee hd),gr,g2]
 rfl
theorem IJ (h:RotOK (N:Nat) E A) (hE:0 < E.length):∃ c:Int,Zaw (((N:Int),E,A,()),())=some (c,())∧Zaj (((N:Int),E,A,()),())=some (tl E 0,tl E 1,c,()) ∧
  Zau (((N:Int),E,A,()),0,())=some (tl E 0,())∧Zau (((N:Int),E,A,()),1,())=some (tl E 1,())∧0≤c∧c < (N:Int)∧∃ nx,∃ y:Nat,Fol oth E A nx∧nx[0]?=some (y:Int)∧c=tl E (oth y):=by
 have hm1:=h.m1
 obtain ⟨nx,_,hn⟩:=lY h ()
 obtain ⟨fw,f1,ff⟩:=jK h ()
 have h0:0 < 2 * E.length:=by omega
 obtain ⟨y,hy,n0,_⟩:=i9 h hn ff h0
 obtain ⟨z,hz,n1,_⟩:=i9 h hn ff hy
 have t1:=(Cy h hn n1).2.2
 obtain ⟨v,hv,hvn⟩:=h.tl_lt (ee hy)
 have p0:=qe h h.validB h.lists h0
 have p1:=qe h h.validB h.lists (show 1 < 2 * E.length by omega)
 refine ⟨tl E (oth y),?_,?_,p0,p1,by rw [hv]; omega,by rw [hv]; omega,nx,y,hn,n0,rfl⟩
 ·unfold Zaw
  simp only
  rw [show (0:Int)=((0:Nat):Int) from rfl,DZ h hn h0 n0,gr]
  simp only
  rw [DZ h hn hy n1,gr]
  simp only
  rw [qe h h.validB h.lists hz,t1]
  rfl
 ·unfold Zaj
  simp only
  rw [show (0:Int)=((0:Nat):Int) from rfl,GZ h hn h0 n0,gr]
  simp only
  rw [vA h h0,show (1:Int)=((1:Nat):Int) from rfl,vA h (show 1 < 2 * E.length by omega)]
  simp only [gr]
  rw [show ((1:Nat):Int)=1 from rfl,EC (by omega),vA h (ee hy)]
  rfl
end
end Go.Vm

/-
 StraightShifts: a contour with one more vertex, in the reference and in the program.
-/
namespace Go.Vm
open Go.Proofs
set_option maxRecDepth 100000
attribute [local irreducible] aa
def js (P:Int→Bool):Nat→List Int→List Nat
 | _,[]=>[]
 | i,a :: c=>cond (P a) (i :: js P (i+1) c) (js P (i+1) c)
def cC:List Nat→Int
 | []=>-1
 | a :: _=>a
def fx (s:List Nat):Int:=match s.getLast? with
 | none=>-1
 | some a=>a
theorem qD {P:Int→Bool}:∀ {c:List Int} {i j:Nat},j∈js P i c↔i≤j∧∃ a,c[j - i]?=some a∧P a=true
 | [],i,j=>by simp [js]
 | a :: c,i,j=>by
  have h:=qD (P:=P) (c:=c) (i:=i+1) (j:=j)
  have e:(∃ b,(a :: c)[j - i]?=some b∧P b=true)∧i≤j↔(j=i∧P a=true)∨(i+1≤j∧∃ b,c[j - (i+1)]?=some b∧P b=true):=by
   constructor
   ·rintro ⟨⟨b,h1,h2⟩,h3⟩
    by_cases hj:j=i
    ·subst hj
     rw [O7] at h1
     simp at h1
     subst h1
     exact .inl ⟨rfl,h2⟩
    ·right
     refine ⟨by omega,b,?_,h2⟩
     rw [show j - i=(j - (i+1))+1 by omega,Lp] at h1
     exact h1
   ·rintro (⟨rfl,h1⟩ | ⟨h1,b,h2,h3⟩)
    ·exact ⟨⟨a,by rw [O7]; rfl,h1⟩,A7 _⟩
    ·refine ⟨⟨b,?_,h3⟩,by omega⟩
     rw [show j - i=(j - (i+1))+1 by omega,Lp]
     exact h2
  rw [And.comm] at e
  rw [e]
  unfold js
  cases hp:P a with
  | true=>rw [cond_true,B3,h]; simp
  | false=>rw [cond_false,h]; simp
theorem gV {P:Int→Bool}:∀ {c:List Int} {i:Nat},(js P i c).Pairwise (· < ·)
 | [],i=>Mo
 | a :: c,i=>by
  unfold js
  cases hp:P a with
  | true =>
   rw [cond_true]
   exact M6 (fun j hj=>by have:=(qD.1 hj).1; omega) gV
  | false=>exact gV
theorem rA {P:Int→Bool}:∀ {c:List Int} {i:Nat},(js P i c).length=c.countP P
 | [],i=>rfl
 | a :: c,i=>by
  unfold js
  rw [N3]
  cases hp:P a with
  | true=>rw [cond_true,La,rA]; simp
  | false=>rw [cond_false,rA]; simp
theorem u6 {P:Int→Bool}:∀ (l:List Int) (i:Nat) (s:List Nat),ai (ε:=Empty) (fun i (s:List Nat) a=>some (.inl (cond (P a) (s++[i]) s))) i s l=some (.inl (s++js P i l))
 | [],i,s=>by simp [ai,js]
 | a :: l,i,s=>by
  simp only [ai,gr,K7]
  rw [u6 l,show js P i (a :: l)=cond (P a) (i :: js P (i+1) l) (js P (i+1) l) from rfl]
  cases P a <;> simp
theorem iU (s:List Nat) (i:Nat):fx (s++[i])=(i:Int):=by simp [fx]
theorem jw (s:List Nat) (i:Nat):cC (s++[i])=if cC s < 0 then (i:Int) else cC s:=by
 cases s with
 | nil=>rfl
 | cons a s =>
  have h:¬ cC (a :: s) < 0:=by show ¬ ((a:Nat):Int) < 0; omega
  rw [if_neg h]
  rfl
theorem uo {s:List Nat} (hs:s.Pairwise (· < ·)) (hne:s≠[]):∃ m:Nat,cC s=(m:Int)∧m∈s∧∀ x∈s,m≤x:=by
 cases s with
 | nil=>exact absurd rfl hne
 | cons a s =>
  refine ⟨a,rfl,by simp,fun x hx=>?_⟩
  rcases B3.1 hx with rfl | hx
  ·exact A7 _
  ·have:=(Lr.1 hs).1 x hx; omega
theorem xz {s:List Nat} (hs:s.Pairwise (· < ·)) (hne:s≠[]):∃ m:Nat,fx s=(m:Int)∧m∈s∧∀ x∈s,x≤m:=by
 obtain ⟨t,m,rfl⟩ : ∃ t m,s=t++[m]:=⟨s.dropLast,s.getLast hne,(List.dropLast_concat_getLast hne).symm⟩
 refine ⟨m,iU t m,by simp,fun x hx=>?_⟩
 rcases B1.1 hx with hx | hx
 ·have:=(List.pairwise_append.1 hs).2.2 x hx m (by simp); omega
 ·simp at hx; omega
def dN (E:List Arc) (bef c:List Int) (w:Int):Option (List Int) :=
 if (js (ab E · w) 0 c).length < 2∨bef.countP (ab E · w)≠(js (ab E · w) 0 c).length∨fx (js (ab E · w) 0 c) - cC (js (ab E · w) 0 c)+1≠((js (ab E · w) 0 c).length:Int) then none
 else some (c.take (cC (js (ab E · w) 0 c)+1).toNat++w :: c.drop (fx (js (ab E · w) 0 c)).toNat)
def rW:Option (List Int)→List Int×Bool×Unit
 | none=>([],false,())
 | some l=>(l,true,())
section
variable {N:Nat} {E:List Arc} {A:List (List Int)}
theorem zZ (hE:E.length≤1000000) (o c:List Int) (w k:Int) (hc:c.length≤1000000) :
  zI ((N:Int),E,A,o,k,c,w,-1,-1,0,0,())=some (.inl ((N:Int),E,A,o,k,c,w,cC (js (ab E · w) 0 c),fx (js (ab E · w) 0 c),((js (ab E · w) 0 c).length:Int),())):=by
 have key:=df (B:=rE) (ε:=Empty) (fun i (s:List Nat)=>s.length≤i) (fun s i=>((N:Int),E,A,o,k,c,w,cC s,fx s,(s.length:Int),(i:Int),()))
  (fun s=>.inl ((N:Int),E,A,o,k,c,w,cC s,fx s,(s.length:Int),())) (fun e=>nomatch e) (fun i s a=>some (.inl (cond (ab E a w) (s++[i]) s))) c (by
   intro s i a hs ha
   have hi:i < c.length:=(A3.1 ha).1
   unfold rE
   simp only
   rw [aM (by omega),cond_true,aq,ha,gr,xT _ _ _ _ _ hE,gr,bj (show i < 9223372036854775807 by omega),bj (show s.length < 9223372036854775807 by omega)]
   cases ab E a w with
   | false=>rfl
   | true =>
    simp only [cond_true,gr,K7]
    by_cases hf:cC s < 0
    ·rw [aM hf,cond_true,iU,jw,if_pos hf]
     simp
    ·rw [aI (by omega),cond_false,iU,jw,if_neg hf]
     simp) (by
   intro s i a t hs ha hg
   cases hg
   cases ab E a w with
   | true=>simp; omega
   | false=>simp only [cond_false]; omega) (by
   intro s hs
   unfold rE
   simp only
   rw [aI (by omega)]; rfl) [] (A7 _)
 rw [u6] at key
 exact key
theorem xw (hE:E.length≤1000000) (o c:List Int) (w a b n:Int) (k:Nat) (hk:k≤o.length) (ho:o.length≤1000000) :
  vI ((N:Int),E,A,o,(k:Int),c,w,a,b,n,0,0,())=some (.inl (c,w,a,b,n,((o.take k).countP (ab E · w):Nat),())):=by
 have hlen:(o.take k).length=k:=by rw [Mt]; omega
 have key:=df (B:=nL) (ε:=Empty) (fun i (m:Nat)=>m≤i) (fun m i=>((N:Int),E,A,o,(k:Int),c,w,a,b,n,(m:Int),(i:Int),()))
  (fun m=>.inl (c,w,a,b,n,(m:Int),())) (fun e=>nomatch e) (fun _ m x=>some (.inl (m+cond (ab E x w) 1 0))) (o.take k) (by
   intro m i x hm hx
   have hi:i < k:=by have:=(A3.1 hx).1; omega
   rw [Ls,if_pos hi] at hx
   unfold nL
   simp only
   rw [aM (by omega),cond_true,aq,hx,gr,xT _ _ _ _ _ hE,gr,bj (show i < 9223372036854775807 by omega),bj (show m < 9223372036854775807 by omega)]
   cases ab E x w <;> rfl) (by
   intro m i x t hm hx hg
   cases hg
   cases ab E x w with
   | true=>simp only [cond_true]; omega
   | false=>simp only [cond_false]; omega) (by
   intro m hm
   unfold nL
   simp only
   rw [hlen,aI (by omega)]; rfl) 0 (A7 _)
 have hf:∀ (l:List Int) (i m:Nat),ai (ε:=Empty) (fun _ (m:Nat) x=>some (.inl (m+cond (ab E x w) 1 0))) i m l=some (.inl (m+l.countP (ab E · w))):=by
  intro l
  induction l with
  | nil=>intro i m; simp [ai]
  | cons x l ih =>
   intro i m
   simp only [ai,gr,K7]
   rw [ih,N3]
   cases ab E x w with
   | true=>simp; omega
   | false=>simp
 rw [hf,Ln] at key
 exact key
theorem places {P:Int→Bool} {c:List Int} (h2:2≤(js P 0 c).length):∃ p q:Nat,cC (js P 0 c)=(p:Int)∧fx (js P 0 c)=(q:Int)∧p < q∧q < c.length∧p∈js P 0 c∧q∈js P 0 c∧(∀ x∈js P 0 c,p≤x∧x≤q):=by
 have hne:js P 0 c≠[]:=by intro e; rw [e] at h2; simp at h2
 have hs:=gV (P:=P) (c:=c) (i:=0)
 obtain ⟨p,p1,p2,p3⟩:=uo hs hne
 obtain ⟨q,q1,q2,q3⟩:=xz hs hne
 refine ⟨p,q,p1,q1,?_,?_,p2,q2,fun x hx=>⟨p3 x hx,q3 x hx⟩⟩
 ·match hj:js P 0 c,h2 with
  | a :: b :: r,_ =>
   rw [hj] at hs p3 q3
   have h1:=(Lr.1 hs).1 b (by simp)
   have h3:=p3 a (by simp)
   have h4:=q3 b (by simp)
   omega
 ·obtain ⟨_,a,ha,_⟩:=qD.1 q2
  have:=(A3.1 ha).1
  omega
theorem ER (hE:E.length≤1000000) (o c:List Int) {w:Int} {k:Nat} (hk:o[k]?=some w) (ho:o.length≤1000000) (hc:c.length≤1000000) :
  Zag (((N:Int),E,A,()),o,(k:Int),c,())=some (rW (dN E (o.take k) c w)):=by
 have hkl:=(A3.1 hk).1
 unfold Zag
 simp only
 rw [aq,hk,gr,zZ hE o c w _ hc]
 simp only [gr,K7]
 rw [xw hE o c w _ _ _ k (by omega) ho]
 simp only [gr,K7]
 unfold dN
 by_cases h1:(js (ab E · w) 0 c).length < 2
 ·rw [aM (by omega),cond_true,if_pos (.inl h1)]
  rfl
 ·rw [aI (by omega),cond_false]
  by_cases h2:(o.take k).countP (ab E · w)=(js (ab E · w) 0 c).length
  ·rw [fA (by omega),cond_false]
   obtain ⟨p,q,e1,e2,hpq,hq,_⟩:=places (P:=(ab E · w)) (c:=c) (by omega)
   have e3:aC .i64 (cQ .i64 (fx (js (ab E · w) 0 c)) (cC (js (ab E · w) 0 c))) 1=fx (js (ab E · w) 0 c) - cC (js (ab E · w) 0 c)+1:=by
    rw [e1,e2,kz (by omega) (by omega),oQ (by omega) (by omega)]
   rw [e3]
   by_cases h3:fx (js (ab E · w) 0 c) - cC (js (ab E · w) 0 c)+1=((js (ab E · w) 0 c).length:Int)
   ·rw [fA h3,cond_false,if_neg (by rintro (h | h | h); exact h1 h; exact h h2; exact h h3),e1,e2,bj (by omega)]
    unfold cF
    rw [if_pos ⟨by omega,by omega,by omega⟩,gr]
    have t1:(Nr (((p+1:Nat):Int)).toNat c).drop (0:Int).toNat=c.take (p+1):=by simp
    rw [t1,c9 (by simp; omega),gr,c9 (by simp; omega),gr,if_pos ⟨by omega,by omega,by omega⟩,gr]
    have t2:(Nr ((c.length:Nat):Int).toNat c).drop ((q:Int)).toNat=c.drop q:=by
     simp only [B8]
     rw [MQ]
    rw [t2,c9 (by simp; omega),gr]
    unfold rW
    simp only [LW,B8]
    rw [show ((p:Int)+1).toNat=p+1 by omega]
    simp
   ·rw [ik h3,cond_true,if_pos (.inr (.inr h3))]
    rfl
  ·rw [ik (by omega),cond_true,if_pos (.inr (.inl h2))]
   rfl
end
end Go.Vm

/-
 StraightShifts: a contour with one more vertex, in the program.
-/
namespace Go.Vm
open Go.Proofs
set_option maxRecDepth 100000
attribute [local irreducible] aa
theorem du {α : Type} [DecidableEq α]:∀ {l r:List α},l.Nodup→(∀ x∈l,x∈r)→l.length≤r.length
 | [],r,_,_=>Mr _
 | a :: l,r,hn,h=>by
  obtain ⟨h1,h2⟩:=Nf.1 hn
  have:=du (l:=l) (r:=r.erase a) h2 (fun x hx=>by
   have hne:x≠a:=fun e=>h1 (e ▸ hx)
   exact (List.mem_erase_of_ne hne).2 (h x (by simp [hx])))
  have ha:=h a (by simp)
  rw [List.length_erase_of_mem ha] at this
  have:0 < r.length:=List.length_pos_of_mem ha
  rw [La]; omega
theorem oh {α : Type} [DecidableEq α] {l r:List α} (h1:l.Nodup) (h2:r.Nodup) (h:∀ x,x∈l↔x∈r):l.length=r.length :=
 Nat.le_antisymm (du h1 fun x hx=>(h x).1 hx) (du h2 fun x hx=>(h x).2 hx)
def mnI (m:Int) (x:Nat):Int:=if m < 0 then (x:Int) else if (x:Int) < m then (x:Int) else m
def mxI (m:Int) (x:Nat):Int:=maxI m (x:Int)
theorem Bn:∀ (T:List Nat) (m:Int),-1≤m→(T=[]∧T.foldl mnI m=m)∨∃ r:Int,T.foldl mnI m=r∧0≤r∧((∃ x∈T,r=(x:Int))∨r=m)∧(∀ x∈T,r≤(x:Int))∧(0≤m→r≤m)
 | [],m,_=>.inl ⟨rfl,rfl⟩
 | x :: T,m,hm=>by
  right
  rw [N4]
  have h0:0≤mnI m x:=by unfold mnI; split <;> first | omega | (split <;> omega)
  have h1:mnI m x=(x:Int)∨mnI m x=m:=by unfold mnI; split <;> first | exact .inl rfl | (split <;> first | exact .inl rfl | exact .inr rfl)
  have h2:mnI m x≤(x:Int):=by unfold mnI; split <;> first | omega | (split <;> omega)
  have h3:0≤m→mnI m x≤m:=by unfold mnI; intro h; split <;> first | omega | (split <;> omega)
  rcases Bn T (mnI m x) (by omega) with ⟨rfl,h⟩ | ⟨r,e,g1,g2,g3,g4⟩
  ·refine ⟨mnI m x,h,h0,?_,?_,h3⟩
   ·rcases h1 with h1 | h1
    ·exact .inl ⟨x,by simp,h1⟩
    ·exact .inr h1
   ·intro y hy; simp at hy; subst hy; exact h2
  ·refine ⟨r,e,g1,?_,?_,?_⟩
   ·rcases g2 with ⟨y,hy,g2⟩ | g2
    ·exact .inl ⟨y,by simp [hy],g2⟩
    ·rcases h1 with h1 | h1
     ·exact .inl ⟨x,by simp,by rw [g2,h1]⟩
     ·exact .inr (by rw [g2,h1])
   ·intro y hy
    rcases B3.1 hy with rfl | hy
    ·have:=g4 h0; omega
    ·exact g3 y hy
   ·intro h; have:=g4 h0; have:=h3 h; omega
theorem Bm:∀ (T:List Nat) (m:Int),m≤T.foldl mxI m∧(T.foldl mxI m=m∨∃ x∈T,T.foldl mxI m=(x:Int))∧∀ x∈T,(x:Int)≤T.foldl mxI m
 | [],m=>⟨Int.le_refl _,.inl rfl,by simp⟩
 | x :: T,m=>by
  rw [N4]
  obtain ⟨h1,h2,h3⟩:=Bm T (mxI m x)
  have g1:m≤mxI m x∧(x:Int)≤mxI m x∧(mxI m x=m∨mxI m x=(x:Int)):=by unfold mxI maxI; split <;> omega
  refine ⟨by omega,?_,?_⟩
  ·rcases h2 with h2 | ⟨y,hy,h2⟩
   ·rw [h2]
    rcases g1.2.2 with g | g
    ·exact .inl g
    ·exact .inr ⟨x,by simp,g⟩
   ·exact .inr ⟨y,by simp [hy],h2⟩
  ·intro y hy
   rcases B3.1 hy with rfl | hy
   ·omega
   ·exact h3 y hy
theorem FD {T s:List Nat} (hs:s.Pairwise (· < ·)) (h:∀ x,x∈T↔x∈s):T.foldl mnI (-1)=cC s:=by
 rcases Bn T (-1) (by omega) with ⟨rfl,e⟩ | ⟨r,e,g1,g2,g3,_⟩
 ·have:s=[]:=by
   cases s with
   | nil=>rfl
   | cons a s=>have:=(h a).2 (by simp); simp at this
  rw [e,this]; rfl
 ·rcases g2 with ⟨x,hx,g2⟩ | g2
  ·have hxs:=(h x).1 hx
   obtain ⟨m,e1,e2,e3⟩:=uo hs (by intro e; rw [e] at hxs; simp at hxs)
   have:=g3 m ((h m).2 e2)
   have:=e3 x hxs
   rw [e,e1]; omega
  ·omega
theorem GK {T s:List Nat} (hs:s.Pairwise (· < ·)) (h:∀ x,x∈T↔x∈s):T.foldl mxI (-1)=fx s:=by
 obtain ⟨h1,h2,h3⟩:=Bm T (-1)
 by_cases hne:s=[]
 ·have:T=[]:=by
   cases T with
   | nil=>rfl
   | cons a T=>have:=(h a).1 (by simp); rw [hne] at this; simp at this
  rw [this,hne]; rfl
 ·obtain ⟨m,e1,e2,e3⟩:=xz hs hne
  have hm:=h3 m ((h m).2 e2)
  rcases h2 with h2 | ⟨x,hx,h2⟩
  ·omega
  ·have:=e3 x ((h x).1 hx)
   rw [e1]; omega
section
variable {N:Nat} {E:List Arc} {A:List (List Int)}
def gD (ea:List Bool) (c:List Int) (_:Nat) (T:List Nat) (u:Int):Option (List Nat⊕Unit) :=
 if ea.getD u.toNat false=true then (if u∈c then some (.inl (T++[c.idxOf u])) else some (.inr ())) else some (.inl T)
theorem AE (l c:List Int) (ea:List Bool) (w:Int) (hl:∀ u∈l,0≤u∧u < (ea.length:Int)) (hlen:l.length≤1000000) (hc:c.length≤1000000) (hcn:c.Nodup) :
  zW (l,c,ea,w,-1,-1,0,(l.length:Nat),0,())=(ai (gD ea c) 0 [] l).bind (K8 (fun T=>some (.inr (.inl (c,w,T.foldl mnI (-1),T.foldl mxI (-1),(T.length:Int),())))) (fun _=>some (.inl (false,())))):=by
 refine df (B:=sa) (fun i (T:List Nat)=>T.length≤i) (fun T i=>(l,c,ea,w,T.foldl mnI (-1),T.foldl mxI (-1),(T.length:Int),((l.length:Nat):Int),(i:Int),()))
  (fun T=>.inr (.inl (c,w,T.foldl mnI (-1),T.foldl mxI (-1),(T.length:Int),()))) (fun _=>.inl (false,())) (gD ea c) l ?_ ?_ ?_ [] (A7 _)
 ·intro T i u hT hu
  have hi:i < l.length:=(A3.1 hu).1
  obtain ⟨u0,u1⟩:=hl u (B2 hu)
  have hul:u.toNat < ea.length:=by omega
  unfold sa
  simp only
  rw [aM (by omega),cond_true,ao hi,gr,hu,gr,Dy u0,A2 hul,gr]
  unfold gD
  rw [B5,A2 hul,Nl]
  cases hb:ea[u.toNat] with
  | false=>simp only [Bool.not_false,cond_true,bj (show i < 9223372036854775807 by omega)]; rfl
  | true =>
   simp only [LN,cond_false,if_true]
   rcases tX c u (by omega) with ⟨k1,k2⟩ | ⟨k,k1,k2⟩
   ·rw [k1,gr,if_neg k2]
    rfl
   ·have hk:=(A3.1 k1).1
    have hku:c[k]=u:=(A3.1 k1).2
    have hm:u∈c:=by rw [← hku]; exact Lk hk
    have hidx:c.idxOf u=k:=by rw [← hku]; exact hcn.idxOf_getElem k hk
    rw [k2,gr,if_pos hm,hidx]
    simp only [gr,K7,List.foldl_append,N4,List.foldl_nil,Lu,La,List.length_nil]
    rw [aI (show (0:Int)≤(k:Int) by omega),cond_false,bj (show i < 9223372036854775807 by omega),bj (show T.length < 9223372036854775807 by omega)]
    generalize T.foldl mnI (-1)=m0
    generalize T.foldl mxI (-1)=x0
    unfold mnI mxI
    by_cases h1:m0 < 0
    ·rw [aM h1,cond_true,if_pos h1]
    ·rw [aI (by omega),cond_false,if_neg h1]
     by_cases h2:(k:Int) < m0
     ·rw [aM h2,cond_true,if_pos h2]
     ·rw [aI (by omega),cond_false,if_neg h2]
 ·intro T i u t hT hu hg
  unfold gD at hg
  split at hg
  ·split at hg
   ·cases hg; simp; omega
   ·cases hg
  ·cases hg; omega
 ·intro T hT
  unfold sa
  simp only
  rw [aI (by omega)]; rfl
theorem Bk {ea:List Bool} {c:List Int} {i:Nat} {T:List Nat} {u:Int} (h:ea.getD u.toNat false=false):gD ea c i T u=some (.inl T):=by unfold gD; rw [h]; rfl
theorem BT {ea:List Bool} {c:List Int} {i:Nat} {T:List Nat} {u:Int} (h:ea.getD u.toNat false=true) (hu:u∈c):gD ea c i T u=some (.inl (T++[c.idxOf u])):=by unfold gD; rw [if_pos h,if_pos hu]
theorem Gn {ea:List Bool} {c:List Int} {i:Nat} {T:List Nat} {u:Int} (h:ea.getD u.toNat false=true) (hu:u∉c):gD ea c i T u=some (.inr ()):=by unfold gD; rw [if_pos h,if_neg hu]
theorem uK {ea:List Bool} {c:List Int}:∀ (l:List Int) (i:Nat) (T:List Nat),(∀ u∈l.filter fun u=>ea.getD u.toNat false,u∈c)→ai (gD ea c) i T l=some (.inl (T++(l.filter fun u=>ea.getD u.toNat false).map (c.idxOf ·)))
 | [],i,T,_=>by simp [ai]
 | u :: l,i,T,h=>by
  simp only [ai]
  cases hb:ea.getD u.toNat false with
  | false =>
   rw [Bk hb,gr,K7,uK l (i+1) T (fun x hx=>h x (by rw [MF,hb]; exact hx)),MF,hb]
   rfl
  | true =>
   have hu:u∈c:=h u (by rw [MF,hb]; simp)
   rw [BT hb hu,gr,K7,uK l (i+1) _ (fun x hx=>h x (by rw [MF,hb]; simp only [if_true]; exact List.mem_cons_of_mem _ hx)),MF,hb]
   simp
theorem zN {ea:List Bool} {c:List Int}:∀ (l:List Int) (i:Nat) (T:List Nat),(∃ u∈l.filter fun u=>ea.getD u.toNat false,u∉c)→ai (gD ea c) i T l=some (.inr ())
 | [],i,T,h=>by obtain ⟨u,hu,_⟩:=h; simp at hu
 | u :: l,i,T,h=>by
  simp only [ai]
  obtain ⟨x,hx,hxc⟩:=h
  cases hb:ea.getD u.toNat false with
  | false =>
   rw [MF,hb] at hx
   rw [Bk hb,gr,K7]
   exact zN l (i+1) T ⟨x,hx,hxc⟩
  | true =>
   rw [MF,hb] at hx
   by_cases hu:u∈c
   ·rw [BT hb hu,gr,K7]
    rcases B3.1 (show x∈u :: l.filter (fun u=>ea.getD u.toNat false) by simpa only [if_true] using hx) with rfl | hx
    ·exact absurd hu hxc
    ·exact zN l (i+1) _ ⟨x,hx,hxc⟩
   ·rw [Gn hb hu]
    rfl
structure BefOK (N:Nat) (ea:List Bool) (bef c:List Int):Prop where
 len:ea.length=N
 mem:∀ u:Nat,u < N→(ea.getD u false=true↔(u:Int)∈bef)
 lt:∀ u∈bef,0≤u∧u < (N:Int)
 nodup:bef.Nodup
 cnodup:c.Nodup
 csub:∀ u∈c,u∈bef
theorem F4 (h:Tri N E A) {ea:List Bool} {bef c:List Int} (hB:BefOK N ea bef c) {w:Nat} (hw:w < N) :
  Zax (((N:Int),E,A,()),c,ea,(w:Int),())=some (rW (dN E bef c (w:Int))):=by
 have hN:=h.rot.n16
 have hbl:bef.length≤N:=by
  have:=lA N (bef.map Int.toNat) (by
   rw [Mu,NW]
   refine (Mu.1 hB.nodup).imp_of_mem fun {a b} ha hb hne e=>hne ?_
   have:=hB.lt a ha; have:=hB.lt b hb; omega) (fun x hx=>by
   obtain ⟨u,hu,rfl⟩:=MO.1 hx
   have:=hB.lt u hu; omega)
  rwa [Nh] at this
 have hcl:c.length≤N:=LQ (du hB.cnodup hB.csub) hbl
 obtain ⟨l,hl⟩ : ∃ l,A[w]?=some l:=⟨_,A2 (by rw [h.rot.al]; exact hw)⟩
 have hll:=h.rot.list_len (B2 hl)
 have hm1:=h.rot.m1
 have hmem:=Fl h.rot hl
 have hnl:(fy E l).length=l.length:=by unfold fy; rw [Nh]
 unfold Zax
 simp only
 rw [Gh h.rot hl,gr]
 simp only
 rw [AE (fy E l) c ea (w:Int) (fun u hu=>by
  have:=oG h.rot ((hmem u).1 hu)
  rw [hB.len]; exact ⟨this.1,this.2.1⟩) (by omega) (by omega) hB.cnodup]
 -- the neighbors that came before
 have ht:∀ u,u∈(fy E l).filter (fun u=>ea.getD u.toNat false)↔u∈bef∧ab E u (w:Int)=true:=by
  intro u
  rw [Mp,hmem]
  constructor
  ·rintro ⟨h1,h2⟩
   have:=oG h.rot h1
   have h3:=(hB.mem u.toNat (by omega)).1 h2
   rw [show ((u.toNat:Nat):Int)=u by omega] at h3
   exact ⟨h3,h1⟩
  ·rintro ⟨h1,h2⟩
   have:=hB.lt u h1
   exact ⟨h2,(hB.mem u.toNat (by omega)).2 (by rw [show ((u.toNat:Nat):Int)=u by omega]; exact h1)⟩
 have htn:((fy E l).filter (fun u=>ea.getD u.toNat false)).Nodup:=(zx h hl).sublist MS
 have hfb:∀ r:List Int,r.countP (ab E · (w:Int))=(r.filter (ab E · (w:Int))).length:=fun r=>List.countP_eq_length_filter ..
 have htl:((fy E l).filter (fun u=>ea.getD u.toNat false)).length=bef.countP (ab E · (w:Int)):=by
  rw [hfb]
  refine oh htn (hB.nodup.sublist MS) fun x=>?_
  rw [ht,Mp]
 unfold dN
 by_cases hall:∀ u∈(fy E l).filter (fun u=>ea.getD u.toNat false),u∈c
 ·rw [uK _ 0 [] hall]
  simp only [gr,K7,NF,LW,Nh]
  -- the places are the same
  have hset:∀ x,x∈((fy E l).filter (fun u=>ea.getD u.toNat false)).map (c.idxOf ·)↔x∈js (ab E · (w:Int)) 0 c:=by
   intro x
   rw [MO,qD]
   constructor
   ·rintro ⟨u,hu,rfl⟩
    have huc:=hall u hu
    exact ⟨Mr _,u,by rw [Nv,A2 (List.idxOf_lt_length_iff.2 huc),List.getElem_idxOf],((ht u).1 hu).2⟩
   ·rintro ⟨_,u,hu,hj⟩
    rw [Nv] at hu
    have hx:=(A3.1 hu).1
    have hxu:c[x]=u:=(A3.1 hu).2
    have huc:u∈c:=by rw [← hxu]; exact Lk hx
    exact ⟨u,(ht u).2 ⟨hB.csub u huc,hj⟩,by rw [← hxu]; exact hB.cnodup.idxOf_getElem x hx⟩
  have hcnt:bef.countP (ab E · (w:Int))=(js (ab E · (w:Int)) 0 c).length:=by
   rw [rA,hfb,hfb]
   refine oh (hB.nodup.sublist MS) (hB.cnodup.sublist MS) fun x=>?_
   rw [Mp,Mp]
   constructor
   ·rintro ⟨h1,h2⟩
    exact ⟨hall x ((ht x).2 ⟨h1,h2⟩),h2⟩
   ·rintro ⟨h1,h2⟩
    exact ⟨hB.csub x h1,h2⟩
  rw [FD gV hset,GK gV hset,htl,hcnt]
  by_cases h1:(js (ab E · (w:Int)) 0 c).length < 2
  ·rw [aM (by omega),cond_true,if_pos (.inl h1)]
   rfl
  ·rw [aI (by omega),cond_false]
   obtain ⟨p,q,e1,e2,hpq,hq,_⟩:=places (P:=(ab E · (w:Int))) (c:=c) (by omega)
   have hjl:(js (ab E · (w:Int)) 0 c).length≤c.length:=by rw [rA]; exact List.countP_le_length
   by_cases h3:fx (js (ab E · (w:Int)) 0 c) - cC (js (ab E · (w:Int)) 0 c)+1=((js (ab E · (w:Int)) 0 c).length:Int)
   ·rw [fA (by rw [kz (by omega) (by omega),kz (by omega) (by omega)]; omega),cond_false,if_neg (by rintro (h | h | h); exact h1 h; exact h rfl; exact h h3),e1,e2,bj (by omega)]
    unfold cF
    rw [if_pos ⟨by omega,by omega,by omega⟩,gr]
    have t1:(Nr (((p+1:Nat):Int)).toNat c).drop (0:Int).toNat=c.take (p+1):=by simp
    rw [t1,tp _ (by simp; omega),gr]
    simp only
    rw [c9 (by simp; omega),gr,if_pos ⟨by omega,by omega,by omega⟩,gr]
    have t2:(Nr ((c.length:Nat):Int).toNat c).drop ((q:Int)).toNat=c.drop q:=by
     simp only [B8]
     rw [MQ]
    rw [t2,c9 (by simp; omega),gr]
    unfold rW
    simp only [B8]
    rw [show ((p:Int)+1).toNat=p+1 by omega]
    simp
   ·rw [ik (by rw [kz (by omega) (by omega),kz (by omega) (by omega)]; omega),cond_true,if_pos (.inr (.inr h3))]
    rfl
 ·have hbad:∃ u∈(fy E l).filter (fun u=>ea.getD u.toNat false),u∉c:=Classical.byContradiction fun hn=>hall fun u hu=>Classical.byContradiction fun hc=>hn ⟨u,hu,hc⟩
  rw [zN _ 0 [] hbad]
  obtain ⟨u,hu,huc⟩:=hbad
  obtain ⟨hu1,hu2⟩:=(ht u).1 hu
  have hlt:(js (ab E · (w:Int)) 0 c).length < bef.countP (ab E · (w:Int)):=by
   rw [rA,hfb,hfb]
   have:=du (l:=u :: c.filter (ab E · (w:Int))) (r:=bef.filter (ab E · (w:Int))) (Nf.2 ⟨fun hm=>huc (Mp.1 hm).1,hB.cnodup.sublist MS⟩) (fun x hx=>by
    rcases B3.1 hx with rfl | hx
    ·exact Mp.2 ⟨hu1,hu2⟩
    ·obtain ⟨g1,g2⟩:=Mp.1 hx
     exact Mp.2 ⟨hB.csub x g1,g2⟩)
   rw [La] at this
   omega
  rw [if_pos (.inr (.inl (by omega)))]
  rfl
end
end Go.Vm

/-
 StraightShifts: the contours of an order, and whether it is canonical, in both.
-/
namespace Go.Vm
open Go.Proofs
set_option maxRecDepth 100000
attribute [local irreducible] aa
def cW (E:List Arc):List Int→List Int→List Int→Option (List Int)
 | _,c,[]=>some c
 | bef,c,w :: r=>(dN E bef c w).bind fun c'=>cW E (bef++[w]) c' r
theorem jT {E:List Arc} {bef c c':List Int} {w:Int} (h:dN E bef c w=some c'):∃ p q:Nat,cC (js (ab E · w) 0 c)=(p:Int)∧fx (js (ab E · w) 0 c)=(q:Int)∧p < q∧q < c.length ∧
  c'=c.take (p+1)++w :: c.drop q∧(js (ab E · w) 0 c).length=q - p+1∧(∀ x∈js (ab E · w) 0 c,p≤x∧x≤q)∧bef.countP (ab E · w)=q - p+1:=by
 unfold dN at h
 split at h
 ·cases h
 ·rename_i hn
  simp only [not_or,Nat.not_lt,ne_eq,Classical.not_not] at hn
  obtain ⟨h1,h2,h3⟩:=hn
  obtain ⟨p,q,e1,e2,hpq,hq,_,_,hx⟩:=places (P:=(ab E · w)) (c:=c) h1
  rw [e1,e2] at h h3
  refine ⟨p,q,e1,e2,hpq,hq,?_,by omega,hx,by omega⟩
  have:=B4 h
  rw [← this,B8,show ((p:Int)+1).toNat=p+1 by omega]
theorem oZ {E:List Arc} {bef c c':List Int} {w:Int} (h:dN E bef c w=some c'):c'.length≤c.length+1:=by
 obtain ⟨p,q,_,_,h1,h2,rfl,_⟩:=jT h
 simp only [Lu,La,Mt,LY]
 omega
theorem ti {E:List Arc} {bef c c':List Int} {w:Int} (h:dN E bef c w=some c') (hc:c.Nodup) (hs:∀ u∈c,u∈bef) (hw:w∉bef):c'.Nodup∧∀ u∈c',u∈bef++[w]:=by
 obtain ⟨p,q,_,_,h1,h2,rfl,_⟩:=jT h
 have hd:c.take (p+1)++c.drop q=c.take (p+1)++(c.drop (p+1)).drop (q - (p+1)):=by rw [List.drop_drop]; congr 2; omega
 have hsub:(c.take (p+1)++c.drop q).Sublist c:=by
  rw [hd]
  have:=Pa (NG (c.take (p+1))) (List.drop_sublist (q - (p+1)) (c.drop (p+1)))
  rwa [Nz] at this
 have hn:=hc.sublist hsub
 obtain ⟨n1,n2,n3⟩:=Mi.1 hn
 have hwc:w∉c:=fun hm=>hw (hs w hm)
 refine ⟨?_,?_⟩
 ·refine Mi.2 ⟨n1,Nf.2 ⟨fun hm=>hwc (MB hm),n2⟩,?_⟩
  intro a ha b hb
  rcases B3.1 hb with rfl | hb
  ·exact fun e=>hwc (e ▸ Nb ha)
  ·exact n3 a ha b hb
 ·intro u hu
  rcases B1.1 hu with hu | hu
  ·exact B1.2 (.inl (hs u (Nb hu)))
  ·rcases B3.1 hu with rfl | hu
   ·simp
   ·exact B1.2 (.inl (hs u (MB hu)))
section
variable {N:Nat} {E:List Arc} {A:List (List Int)}
theorem H6 (o:List Int):∀ (r:List Int) (i:Nat) (c:List Int),(∀ j,r[j]?=o[i+2+j]?∨r[j]?=none) →
  ai (fun i c w=>(match dN E (o.take (i+2)) c w with | some c'=>some (.inl c') | none=>some (.inr ()):Option (List Int⊕Unit))) i c r=(match cW E (o.take (i+2)) c r with | some c'=>some (.inl c') | none=>some (.inr ()))
 | [],i,c,_=>rfl
 | w :: r,i,c,h=>by
  simp only [ai,cW]
  have hw:o[i+2]?=some w:=by
   rcases h 0 with h0 | h0
   ·simpa using h0.symm
   ·simp at h0
  cases hs:dN E (o.take (i+2)) c w with
  | none=>rfl
  | some c' =>
   simp only [gr,K7]
   have ht:o.take (i+2)++[w]=o.take (i+1+2):=by
    rw [show i+1+2=(i+2)+1 by omega,NS (i:=i+2),hw]; rfl
   rw [ht]
   exact H6 o r (i+1) c' (fun j=>by
    have:=h (j+1)
    rw [show i+2+(j+1)=i+1+2+j by omega] at this
    simpa using this)
theorem yc (hE:E.length≤1000000) (o:List Int) {k:Nat} (h2:2≤k) (hk:k≤o.length) (ho:o.length≤100000) :
  Zi (((N:Int),E,A,()),o,(k:Int),())=some (rW (cW E (o.take 2) (o.take 2) ((o.take k).drop 2))):=by
 have hl:((o.take k).drop 2).length=k - 2:=by rw [LY,Mt]; omega
 have hget:∀ j w,((o.take k).drop 2)[j]?=some w→o[j+2]?=some w∧j+2 < k:=by
  intro j w hj
  have hlt:=(A3.1 hj).1
  rw [L5,Ls] at hj
  rw [hl] at hlt
  rw [if_pos (by omega)] at hj
  exact ⟨by rw [NM]; exact hj,by omega⟩
 have key:=df (B:=wR) (fun i (c:List Int)=>c.length≤i+2) (fun c i=>((N:Int),E,A,c,o,(k:Int),((i+2:Nat):Int),()))
  (fun c=>.inr (.inl (c,()))) (fun (_:Unit)=>.inl (false,())) (fun i c w=>(match dN E (o.take (i+2)) c w with | some c'=>some (.inl c') | none=>some (.inr ()):Option (List Int⊕Unit))) ((o.take k).drop 2) (by
   intro c i w hc hw
   obtain ⟨h3,h4⟩:=hget i w hw
   unfold wR
   simp only
   rw [aM (by omega),cond_true,ER hE o c h3 (by omega) (by omega),gr]
   cases dN E (o.take (i+2)) c w with
   | none=>rfl
   | some c'=>simp only [rW,LN,cond_false,gr,K7,bj (show i+2 < 9223372036854775807 by omega)]) (by
   intro c i w t hc hw hg
   cases hs:dN E (o.take (i+2)) c w with
   | none=>rw [hs] at hg; cases hg
   | some c' =>
    rw [hs] at hg
    cases hg
    have:=oZ hs
    omega) (by
   intro c hc
   unfold wR
   simp only
   rw [hl,show k - 2+2=k by omega,aI (by omega)]; rfl) (o.take 2) (by simp; omega)
 rw [H6 o _ 0 (o.take 2) (fun j=>by
  cases hj:((o.take k).drop 2)[j]? with
  | none=>exact .inr rfl
  | some w=>left; rw [show 0+2+j=j+2 by omega]; exact (hget j w hj).1.symm)] at key
 obtain ⟨a,b,r,rfl⟩ : ∃ a b r,o=a :: b :: r:=by
  match o,hk with
  | a :: b :: r,_=>exact ⟨a,b,r,rfl⟩
  | [a],hk=>simp at hk; omega
  | [],hk=>simp at hk; omega
 unfold Zi
 simp only
 rw [show aL (a :: b :: r) 0=some a from rfl,show aL (a :: b :: r) 1=some b from rfl,gr,gr]
 rw [show Dl ((N:Int),E,A,[a,b],a :: b :: r,(k:Int),2,())=_ from key]
 simp only [Ln,Ox,Oe]
 cases cW E [a,b] [a,b] ((Nr k (a :: b :: r)).drop 2) <;> rfl
def ry (N:Nat) (E:List Arc):List Int→List Int→List Int→Option (List Int)
 | _,c,[]=>some c
 | bef,c,w :: r=>if w < 0∨(N:Int)≤w∨w∈bef then none else (dN E bef c w).bind fun c'=>ry N E (bef++[w]) c' r
theorem tG:∀ {r bef c:List Int},(ry N E bef c r).isSome=true↔(cW E bef c r).isSome=true∧∀ (i:Nat) (w:Int),r[i]?=some w→0≤w∧w < (N:Int)∧w∉bef++r.take i
 | [],bef,c=>by simp [ry,cW]
 | w :: r,bef,c=>by
  unfold ry cW
  have hsplit:(∀ (i:Nat) (x:Int),(w :: r)[i]?=some x→0≤x∧x < (N:Int)∧x∉bef++(w :: r).take i)↔(0≤w∧w < (N:Int)∧w∉bef)∧∀ (i:Nat) (x:Int),r[i]?=some x→0≤x∧x < (N:Int)∧x∉bef++[w]++r.take i:=by
   constructor
   ·intro h
    refine ⟨by simpa using h 0 w rfl,fun i x hx=>?_⟩
    have:=h (i+1) x (by simpa using hx)
    simpa using this
   ·rintro ⟨h1,h2⟩ i x hx
    cases i with
    | zero=>simp at hx; subst hx; simpa using h1
    | succ i=>have:=h2 i x (by simpa using hx); simpa using this
  rw [hsplit]
  by_cases hw:w < 0∨(N:Int)≤w∨w∈bef
  ·rw [if_pos hw]
   simp only [Option.isSome_none,Bool.false_eq_true,false_iff]
   rintro ⟨_,⟨h1,h2,h3⟩,_⟩
   rcases hw with hw | hw | hw
   ·omega
   ·omega
   ·exact h3 hw
  ·rw [if_neg hw]
   simp only [not_or,Pe,Pf] at hw
   cases dN E bef c w with
   | none=>simp
   | some c' =>
    simp only [gr]
    rw [tG]
    exact ⟨fun ⟨a,b⟩=>⟨a,⟨hw.1,hw.2.1,hw.2.2⟩,b⟩,fun ⟨a,_,b⟩=>⟨a,b⟩⟩
theorem sf (h:Tri N E A):∀ (r p:List Int) (ea:List Bool) (bef c:List Int) (out:List (List Int)) (g:List Int),p++r=g→BefOK N ea bef c→c.length≤p.length+2→out.length=p.length+1→g.length≤10000 →
  ∃ x,vV ((N:Int),E,A,ea,out,c,g,(g.length:Nat),(p.length:Int),())=some x∧((ry N E bef c r=none∧x=.inl (false,()))∨∃ e,(ry N E bef c r).isSome=true∧x=.inr (.inl (e,())))
 | [],p,ea,bef,c,out,g,hg,hB,hc,ho,hl=>by
  refine ⟨.inr (.inl (out,())),bW ?_,.inr ⟨out,rfl,rfl⟩⟩
  rw [List.append_nil] at hg
  subst hg
  unfold oR
  simp only
  rw [aI (by omega)]; rfl
 | w :: r,p,ea,bef,c,out,g,hg,hB,hc,ho,hl=>by
  have hN:=h.rot.n16
  have hgw:g[p.length]?=some w:=by rw [← hg]; simp
  have hpl:p.length < g.length:=(A3.1 hgw).1
  unfold ry
  by_cases hw:w < 0∨(N:Int)≤w∨w∈bef
  ·rw [if_pos hw]
   refine ⟨.inl (false,()),bW ?_,.inl ⟨rfl,rfl⟩⟩
   unfold oR
   simp only
   rw [aM (by omega),cond_true,aq,hgw,gr]
   by_cases h0:w < 0
   ·rw [aM h0]; rfl
   ·rw [aI (by omega),cond_false]
    by_cases h1:(N:Int)≤w
    ·rw [Bf h1]; rfl
    ·rw [lz (by omega),cond_false]
     have h2:w∈bef:=by rcases hw with hw | hw | hw; exact absurd hw h0; exact absurd hw h1; exact hw
     have hwl:w.toNat < ea.length:=by rw [hB.len]; omega
     have:=(hB.mem w.toNat (by omega)).2 (by rw [show ((w.toNat:Nat):Int)=w by omega]; exact h2)
     rw [B5,A2 hwl,Nl] at this
     rw [hO (by omega) (by omega),gr,A2 hwl,gr,this]
     rfl
  ·rw [if_neg hw]
   simp only [not_or,Pe,Pf] at hw
   obtain ⟨k,rfl⟩ : ∃ k:Nat,w=(k:Int):=⟨w.toNat,by omega⟩
   have hkN:k < N:=by omega
   have hkl:k < ea.length:=by rw [hB.len]; exact hkN
   have hek:ea[k]=false:=by
    cases he:ea[k] with
    | false=>rfl
    | true=>exact absurd ((hB.mem k hkN).1 (by rw [B5,A2 hkl,he]; rfl)) hw.2.2
   have hstep:∀ y,y=oR ((N:Int),E,A,ea,out,c,g,(g.length:Nat),(p.length:Int),())→y=(match dN E bef c (k:Int) with
     | none=>some (.inr (.inl (false,())))
     | some c'=>some (.inl ((N:Int),E,A,ea.set k true,out++[c'],c',g,(g.length:Nat),((p.length+1:Nat):Int),()))):=by
    intro y hy
    rw [hy]
    unfold oR
    simp only
    rw [aM (by omega),cond_true,aq,hgw,gr,aI (by omega),cond_false,lz (by omega),cond_false,ao hkl,gr,A2 hkl,gr,hek,cond_false,F4 h hB hkN,gr]
    cases dN E bef c (k:Int) with
    | none=>rfl
    | some c' =>
     simp only [rW,LN,cond_false]
     rw [gr,A2 hkl,gr,c9 (by simp; omega),gr,bj (by omega)]
   have hs0:=hstep _ rfl
   cases hs:dN E bef c (k:Int) with
   | none =>
    rw [hs] at hs0
    exact ⟨_,bW hs0,.inl ⟨rfl,rfl⟩⟩
   | some c' =>
    rw [hs] at hs0
    simp only [gr]
    obtain ⟨n1,n2⟩:=ti hs hB.cnodup hB.csub hw.2.2
    have hB':BefOK N (ea.set k true) (bef++[(k:Int)]) c':=by
     refine ⟨by rw [LF]; exact hB.len,fun u hu=>?_,fun u hu=>?_,?_,n1,n2⟩
     ·rw [B5,Lm]
      by_cases e:k=u
      ·subst e
       rw [if_pos rfl,if_pos hkl]
       simp
      ·rw [if_neg e,← B5,hB.mem u hu]
       simp
       omega
     ·rcases B1.1 hu with hu | hu
      ·exact hB.lt u hu
      ·simp at hu; subst hu; omega
     ·refine Mi.2 ⟨hB.nodup,by simp,fun a ha b hb=>?_⟩
      simp at hb
      subst hb
      exact fun e=>hw.2.2 (e ▸ ha)
    have:=oZ hs
    obtain ⟨x,x1,x2⟩:=sf h r (p++[(k:Int)]) (ea.set k true) (bef++[(k:Int)]) c' (out++[c']) g (by simp [hg]) hB' (by simp; omega) (by simp; omega) hl
    refine ⟨x,(cI hs0).trans ?_,x2⟩
    rw [show p.length+1=(p++[(k:Int)]).length by simp]
    exact x1
end
end Go.Vm

/-
 StraightShifts: Check, in the program and in the reference.
-/
namespace Go.Vm
open Go.Proofs
set_option maxRecDepth 100000
attribute [local irreducible] aa
theorem Iv (l:List Int) (v:Int) (hl:l.length≤1000000):Zan (l,v,())=some (decide (v∈l),()):=by
 have h:=mX (B:=qE) (fun (_:Unit) i=>(l,v,(i:Int),())) (fun _=>.inr (.inl ())) (fun (_:Unit)=>.inl (true,()))
  (fun _ (_:Unit) (x:Int)=>some (cond (eqI x v) (.inr ()) (.inl ()))) l (by
   intro _ i x hx
   have hi:i < l.length:=(A3.1 hx).1
   unfold qE
   simp only
   rw [aM (by omega),cond_true,aq,hx,gr,bj (by omega)]
   cases eqI x v <;> rfl) (by
   intro _
   unfold qE
   simp only
   rw [aI (by omega)]; rfl) ()
 unfold Zan zH
 dsimp only
 rw [show ((0:Int))=((0:Nat):Int) from rfl,h,l6]
 have:l.any (fun x=>eqI x v)=decide (v∈l):=by
  rw [Bool.eq_iff_iff,L9,decide_eq_true_eq]
  simp only [eqI,beq_iff_eq]
  exact ⟨fun ⟨x,h1,h2⟩=>h2 ▸ h1,fun h=>⟨v,h,rfl⟩⟩
 rw [this]
 cases decide (v∈l) <;> rfl
def d7 (N:Nat) (o:List Int) (i:Nat) (w:Int):Bool:=ltI w 0 || geI w (N:Int) || decide (w∈o.take i)
theorem EX {N:Nat} {o:List Int}:∀ (r:List Int) (i:Nat),(ai (fun i (_:Unit) w=>(some (cond (d7 N o i w) (.inr ()) (.inl ())):Option (Unit⊕Unit))) i () r=some (.inl ())∧∀ (j:Nat) w,r[j]?=some w→d7 N o (i+j) w=false) ∨
  (ai (fun i (_:Unit) w=>(some (cond (d7 N o i w) (.inr ()) (.inl ())):Option (Unit⊕Unit))) i () r=some (.inr ())∧∃ (j:Nat) (w:Int),r[j]?=some w∧d7 N o (i+j) w=true):=fun r i=>nq (d7 N o) r i
section
variable {N:Nat} {E:List Arc} {A:List (List Int)}
theorem Tri.edges70 (h:Tri N E A):0 < E.length:=by
 have h3:=h.three
 have hr:=h.conn 1 (by omega)
 cases hr with
 | step _ hk _ _=>omega
structure Can (N:Nat) (E:List Arc) (o:List Int):Prop where
 len:o.length=N
 ok:∀ (i:Nat) (w:Int),o[i]?=some w→0≤w∧w < (N:Int)∧w∉o.take i
 e0:o[0]?=some (tl E 0)
 e1:o[1]?=some (tl E 1)
 cont:(cW E (o.take 2) (o.take 2) (o.drop 2)).isSome=true
theorem xK (o:List Int) (ho:o.length≤1000):so ((N:Int),E,A,o,0,())=some (.inl (false,()))∧(∃ (i:Nat) (w:Int),o[i]?=some w∧d7 N o i w=true) ∨
  so ((N:Int),E,A,o,0,())=some (.inr (.inl ((N:Int),E,A,o,())))∧∀ (i:Nat) (w:Int),o[i]?=some w→d7 N o i w=false:=by
 have key:=mX (B:=rg) (fun (_:Unit) i=>((N:Int),E,A,o,(i:Int),())) (fun _=>.inr (.inl ((N:Int),E,A,o,()))) (fun (_:Unit)=>.inl (false,()))
  (fun i (_:Unit) w=>(some (cond (d7 N o i w) (.inr ()) (.inl ())):Option (Unit⊕Unit))) o (by
   intro _ i w hw
   have hi:i < o.length:=(A3.1 hw).1
   unfold rg
   simp only
   rw [aM (by omega),cond_true]
   simp only [aq,hw,gr]
   unfold d7
   cases ltI w 0 with
   | true=>rfl
   | false =>
    cases geI w (N:Int) with
    | true=>rfl
    | false =>
     simp only [cond_false,Bool.false_or]
     unfold cF
     rw [if_pos ⟨by omega,by omega,by omega⟩,gr]
     have t1:(Nr ((i:Int)).toNat o).drop (0:Int).toNat=o.take i:=by simp
     rw [t1,Iv _ _ (by simp; omega),gr,bj (by omega)]
     cases decide (w∈o.take i) <;> rfl) (by
   intro _
   unfold rg
   simp only
   rw [aI (by omega)]; rfl) ()
 rcases EX (N:=N) (o:=o) o 0 with ⟨h1,h2⟩ | ⟨h1,j,w,h2,h3⟩
 ·rw [h1] at key
  exact .inr ⟨key,fun i w hw=>by have:=h2 i w hw; rwa [Ln] at this⟩
 ·rw [h1] at key
  exact .inl ⟨key,j,w,h2,by rwa [Ln] at h3⟩
theorem vO {o:List Int} {i:Nat} {w:Int}:d7 N o i w=false↔0≤w∧w < (N:Int)∧w∉o.take i:=by
 unfold d7
 simp only [Bool.or_eq_false_iff,ltI,geI,decide_eq_false_iff_not]
 exact ⟨fun ⟨⟨h1,h2⟩,h3⟩=>⟨by omega,by omega,h3⟩,fun ⟨h1,h2,h3⟩=>⟨⟨by omega,by omega⟩,h3⟩⟩
theorem zA (h:Tri N E A) (ht:Zc (((N:Int),E,A,()),())=some (true,())) (hr:Zd (((N:Int),E,A,()),())=some (true,())) (o:List Int) (ho:o.length≤20) :
  ∃ b,Zay (((N:Int),E,A,()),o,())=some (b,())∧Zab (((N:Int),E,A,()),o,())=some (b,())∧(b=true→Can N E o∧∃ nx,∃ y:Nat,Fol oth E A nx∧nx[0]?=some (y:Int)∧o[N - 1]?=some (tl E (oth y))):=by
 have h3:=h.three
 have hm1:=h.rot.m1
 obtain ⟨c,c1,c2,c3,c4,c5,c6,nx,y,n1,n2,n3⟩:=IJ h.rot h.edges70
 have hE:=h.edges70
 obtain ⟨v0,d0,v0n⟩:=h.rot.tl_lt (show 0 < 2 * E.length by omega)
 obtain ⟨v1,d1,v1n⟩:=h.rot.tl_lt (show 1 < 2 * E.length by omega)
 have hne:tl E 0≠tl E 1:=by
  have:=Dm h.rot (show 0 < 2 * E.length by omega)
  have e:oth 0=1:=rfl
  rw [e] at this
  unfold tln at this
  intro e'
  exact this (by rw [e'])
 unfold Zay Zas Zab
 simp only
 rw [ht,hr,gr,gr]
 simp only [LN,cond_false]
 by_cases hl:o.length=N
 ·rw [fA (by omega),cond_false,cond_false]
  obtain ⟨a,b,r,rfl⟩ : ∃ a b r,o=a :: b :: r:=by
   match o,hl with
   | a :: b :: r,_=>exact ⟨a,b,r,rfl⟩
   | [a],hl=>simp at hl; omega
   | [],hl=>simp at hl; omega
  have g0:aL (a :: b :: r) 0=some a:=rfl
  have g1:aL (a :: b :: r) 1=some b:=rfl
  obtain ⟨z,gz⟩ : ∃ z,(a :: b :: r)[N - 1]?=some z:=⟨_,A2 (by omega)⟩
  have gN:aL (a :: b :: r) (cQ .i64 (N:Int) 1)=some z:=by
   rw [nJ (by omega),show ((N:Int) - 1)=((N - 1:Nat):Int) by omega,aq,gz]
  rw [g0,c3,c1,g1,c4,gN]
  simp only [gr]
  -- the reference
  have href:∀ y,y=(so ((N:Int),E,A,a :: b :: r,0,())).bind (K8 (fun z3=>some (z3.1,())) (K8 (fun (a_4,b_4,c_4,d_4,_)=>(Zaj ((a_4,b_4,c_4,()),())).bind fun r5=>(aL d_4 0).bind fun y6=>cond (neI y6 r5.1) (some (false,())) ((aL d_4 1).bind fun y7=>cond (neI y7 r5.2.1) (some (false,())) ((aL d_4 (cQ .i64 a_4 1)).bind fun y8=>cond (neI y8 r5.2.2.1) (some (false,())) ((Zi ((a_4,b_4,c_4,()),d_4,a_4,())).bind fun r9=>some (r9.2.1,()))))) (fun _=>none))) →
    ((∀ (i:Nat) (w:Int),(a :: b :: r)[i]?=some w→d7 N (a :: b :: r) i w=false)→y=cond (neI a (tl E 0)) (some (false,())) (cond (neI b (tl E 1)) (some (false,())) (cond (neI z c) (some (false,())) (some ((cW E [a,b] [a,b] r).isSome,()))))) ∧
    ((∃ (i:Nat) (w:Int),(a :: b :: r)[i]?=some w∧d7 N (a :: b :: r) i w=true)→y=some (false,())):=by
   intro y hy
   rcases xK (N:=N) (E:=E) (A:=A) (a :: b :: r) (by omega) with ⟨k1,j,w,k2,k3⟩ | ⟨k1,k2⟩
   ·rw [k1] at hy
    refine ⟨fun hh=>?_,fun _=>hy⟩
    rw [hh j w k2] at k3; cases k3
   ·rw [k1] at hy
    refine ⟨fun _=>?_,fun ⟨j,w,k3,k4⟩=>by rw [k2 j w k3] at k4; cases k4⟩
    rw [hy]
    simp only [gr,NF,K7]
    rw [c2,g0,g1,gN]
    simp only [gr]
    rw [yc (by omega) (a :: b :: r) (by omega) (by omega) (by omega)]
    have e1:((a :: b :: r).take N).drop 2=r:=by rw [← hl,MQ]; rfl
    rw [e1]
    simp only [gr,Ox,Oe]
    cases cW E [a,b] [a,b] r <;> rfl
  obtain ⟨href1,href2⟩:=href _ rfl
  by_cases ha:a=tl E 0
  ·rw [fA ha] at href1 ⊢
   by_cases hb:b=tl E 1
   ·rw [fA hb] at href1 ⊢
    by_cases hz:z=c
    ·rw [fA hz] at href1 ⊢
     simp only [cond_false] at href1 ⊢
     have e8:eV .bool (N:Int) (N:Int)=some (A6 N false):=dL (A7 _) (by have:=h.rot.n16; omega)
     rw [e8,gr]
     have ea:a=(v0:Int):=by rw [ha,d0]
     have eb:b=(v1:Int):=by rw [hb,d1]
     have hv:v0≠v1:=by intro e; exact hne (by rw [d0,d1,e])
     have i1:(aQ (A6 N false).length a)=some v0:=by rw [ea]; exact ao (by simpa using v0n)
     have i2:(aQ ((A6 N false).set v0 true).length b)=some v1:=by rw [eb]; exact ao (by simpa using v1n)
     obtain ⟨q1,hq1⟩ : ∃ q,(A6 N false)[v0]?=some q:=⟨_,A2 (by simpa using v0n)⟩
     obtain ⟨q2,hq2⟩ : ∃ q,((A6 N false).set v0 true)[v1]?=some q:=⟨_,A2 (by simpa using v1n)⟩
     rw [i1,gr,hq1,gr,i2,gr,hq2,gr]
     have s1:cF (a :: b :: r) 0 2=some [a,b]:=by
      unfold cF
      rw [if_pos ⟨by omega,by omega,by simp; omega⟩]
      rfl
     have s2:cF (a :: b :: r) 2 ((a :: b :: r).length:Nat)=some r:=by
      unfold cF
      rw [if_pos ⟨by omega,by simp; omega,by omega⟩,B8,MQ]
      rfl
     rw [s1,gr,tp _ (by simp),gr,s2,gr]
     have hB:BefOK N (((A6 N false).set v0 true).set v1 true) [a,b] [a,b]:=by
      refine ⟨by simp,fun u hu=>?_,fun u hu=>?_,?_,?_,fun u hu=>hu⟩
      ·rw [B5,Lm,Lm,List.getElem?_replicate]
       rw [ea,eb]
       by_cases k1:v1=u
       ·subst k1; simp [v1n]
       ·rw [if_neg k1]
        by_cases k2:v0=u
        ·subst k2; simp [v0n]
        ·rw [if_neg k2,if_pos hu]
         simp; omega
      ·rw [ea,eb] at hu
       simp at hu
       rcases hu with rfl | rfl <;> omega
      ·rw [ea,eb]; simp; omega
      ·rw [ea,eb]; simp; omega
     obtain ⟨x,x1,x2⟩:=sf h r [] _ [a,b] [a,b] [[a,b]] r rfl hB (by simp) rfl (by simp at ho; omega)
     rw [show vV ((N:Int),E,A,((A6 N false).set v0 true).set v1 true,[[a,b]],[a,b],r,(r.length:Nat),0,())=some x from x1]
     have hiff:=tG (N:=N) (E:=E) (r:=r) (bef:=[a,b]) (c:=[a,b])
     have hbadiff:(∀ (i:Nat) (w:Int),(a :: b :: r)[i]?=some w→d7 N (a :: b :: r) i w=false)↔∀ (i:Nat) (w:Int),r[i]?=some w→0≤w∧w < (N:Int)∧w∉[a,b]++r.take i:=by
      constructor
      ·intro hh i w hw
       have:=vO.1 (hh (i+2) w (by simpa using hw))
       simpa using this
      ·intro hh i w hw
       rw [vO]
       match i,hw with
       | 0,hw=>simp at hw; subst hw; rw [ea]; simp; omega
       | 1,hw=>simp at hw; subst hw; rw [ea,eb]; simp; omega
       | i+2,hw=>have:=hh i w (by simpa using hw); simpa using this
     rcases x2 with ⟨y1,rfl⟩ | ⟨e,y1,rfl⟩
     ·refine ⟨false,rfl,?_,fun hh=>by cases hh⟩
      by_cases hall:∀ (i:Nat) (w:Int),(a :: b :: r)[i]?=some w→d7 N (a :: b :: r) i w=false
      ·rw [href1 hall]
       cases hc:(cW E [a,b] [a,b] r).isSome with
       | false=>rfl
       | true =>
        have:=hiff.2 ⟨hc,hbadiff.1 hall⟩
        rw [y1] at this
        cases this
      ·refine href2 ?_
       refine Classical.byContradiction fun hn=>hall fun i w hw=>?_
       cases hq:d7 N (a :: b :: r) i w with
       | false=>rfl
       | true=>exact absurd ⟨i,w,hw,hq⟩ hn
     ·obtain ⟨y2,y3⟩:=hiff.1 y1
      refine ⟨true,rfl,?_,fun _=>⟨⟨hl,fun i w hw=>vO.1 (hbadiff.2 y3 i w hw),by rw [← ha]; rfl,by rw [← hb]; rfl,y2⟩,nx,y,n1,n2,by rw [gz,hz,n3]⟩⟩
      rw [href1 (hbadiff.2 y3),y2]
    ·rw [ik hz] at href1 ⊢
     refine ⟨false,rfl,?_,fun hh=>by cases hh⟩
     by_cases hall:∀ (i:Nat) (w:Int),(a :: b :: r)[i]?=some w→d7 N (a :: b :: r) i w=false
     ·exact href1 hall
     ·refine href2 (Classical.byContradiction fun hn=>hall fun i w hw=>?_)
      cases hq:d7 N (a :: b :: r) i w with
      | false=>rfl
      | true=>exact absurd ⟨i,w,hw,hq⟩ hn
   ·rw [ik hb] at href1 ⊢
    refine ⟨false,rfl,?_,fun hh=>by cases hh⟩
    by_cases hall:∀ (i:Nat) (w:Int),(a :: b :: r)[i]?=some w→d7 N (a :: b :: r) i w=false
    ·exact href1 hall
    ·refine href2 (Classical.byContradiction fun hn=>hall fun i w hw=>?_)
     cases hq:d7 N (a :: b :: r) i w with
     | false=>rfl
     | true=>exact absurd ⟨i,w,hw,hq⟩ hn
  ·rw [ik ha] at href1 ⊢
   refine ⟨false,rfl,?_,fun hh=>by cases hh⟩
   by_cases hall:∀ (i:Nat) (w:Int),(a :: b :: r)[i]?=some w→d7 N (a :: b :: r) i w=false
   ·exact href1 hall
   ·refine href2 (Classical.byContradiction fun hn=>hall fun i w hw=>?_)
    cases hq:d7 N (a :: b :: r) i w with
    | false=>rfl
    | true=>exact absurd ⟨i,w,hw,hq⟩ hn
 ·rw [ik (by omega)]
  exact ⟨false,rfl,rfl,fun hh=>by cases hh⟩
end
end Go.Vm

/-
 StraightShifts: a round of the shift, in both: what moves, and by how much.
-/
namespace Go.Vm
open Go.Proofs
set_option maxRecDepth 100000
attribute [local irreducible] aa
abbrev PtS:=Int×(Int×Unit)
def mvT (b:Int) (at_:List PtS) (u:Int):List PtS:=at_.set u.toNat (aC .i64 (at_.getD u.toNat (0,0,())).1 b,(at_.getD u.toNat (0,0,())).2)
def pF (at_:List PtS) (us:List Int) (b:Int):List PtS:=us.foldl (mvT b) at_
theorem vR (b:Int) (at_:List PtS) (u:Int):(mvT b at_ u).length=at_.length:=by simp [mvT]
theorem pb (b:Int):∀ (us:List Int) (at_:List PtS),(pF at_ us b).length=at_.length
 | [],_=>rfl
 | u :: us,at_=>by
  show (pF (mvT b at_ u) us b).length=_
  rw [pb b us,vR]
theorem o4 (b:Int):∀ (us:List Int) (i:Nat) (s:List PtS),ai (ε:=Empty) (fun _ (s:List PtS) u=>some (.inl (mvT b s u))) i s us=some (.inl (pF s us b))
 | [],i,s=>rfl
 | u :: us,i,s=>by
  simp only [ai,gr,K7]
  exact o4 b us (i+1) (mvT b s u)
theorem Hw (a:List (List Bool)) (at_:List PtS) (c:List (List Int)) (d:List Int) (e f g h:Int) (r:List Int) (k l:Int) (m n:Nat) (o p:Int) (j:Nat) (hv:∀ u∈aZ c j,0≤u∧u < (at_.length:Int)) (hlen:(aZ c j).length≤100000000000) :
  qs (a,at_,c,d,e,f,g,h,r,k,l,(m:Int),(n:Int),o,p,(j:Int),((aZ c j).length:Nat),0,())=some (.inl (a,pF at_ (aZ c j) h,c,d,e,f,g,r,k,l,(m:Int),(n:Int),o,p,())):=by
 have key:=df (B:=n8) (ε:=Empty) (fun _ (s:List PtS)=>s.length=at_.length) (fun s i=>(a,s,c,d,e,f,g,h,r,k,l,(m:Int),(n:Int),o,p,(j:Int),(((aZ c j).length:Nat):Int),(i:Int),()))
  (fun s=>.inl (a,s,c,d,e,f,g,r,k,l,(m:Int),(n:Int),o,p,())) (fun e=>nomatch e) (fun _ (s:List PtS) u=>some (.inl (mvT h s u))) (aZ c j) (by
   intro s i u hs hu
   have hi:i < (aZ c j).length:=(A3.1 hu).1
   obtain ⟨u0,u1⟩:=hv u (B2 hu)
   have hul:u.toNat < s.length:=by omega
   unfold n8
   simp only [B8]
   rw [aM (by omega),cond_true,ao hi,gr,hu,gr,hO u0 (by omega),gr,A2 hul,gr,gr,gr,bj (by omega)]
   simp only [gr,K7]
   unfold mvT
   rw [B5,A2 hul]
   rfl) (by
   intro s i u t hs hu hg
   cases hg
   rw [vR]; exact hs) (by
   intro s hs
   unfold n8
   simp only [B8]
   rw [aI (by omega)]; rfl) at_ rfl
 rw [o4] at key
 exact key
theorem Hy (at_:List PtS) (mv:List (List Int)) (w:Nat) (b:Int) (hw:w < mv.length) (hv:∀ u∈aZ mv w,0≤u∧u < (at_.length:Int)) (hlen:(aZ mv w).length≤100000000000) :
  Ze ((at_,mv,()),(w:Int),b,())=some ((pF at_ (aZ mv w) b,mv,()),()):=by
 have key:=df (B:=wP) (ε:=Empty) (fun _ (s:List PtS)=>s.length=at_.length) (fun s i=>(s,mv,(w:Int),b,(i:Int),()))
  (fun s=>.inl (s,mv,())) (fun e=>nomatch e) (fun _ (s:List PtS) u=>some (.inl (mvT b s u))) (aZ mv w) (by
   intro s i u hs hu
   have hi:i < (aZ mv w).length:=(A3.1 hu).1
   obtain ⟨u0,u1⟩:=hv u (B2 hu)
   have hul:u.toNat < s.length:=by omega
   unfold wP
   simp only
   rw [ao hw,gr,aM (by omega),cond_true,gr,ao hi,gr,hu,gr,hO u0 (by omega),gr,A2 hul,gr,gr,gr,bj (by omega)]
   simp only [gr,K7]
   unfold mvT
   rw [B5,A2 hul]
   rfl) (by
   intro s i u t hs hu hg
   cases hg
   rw [vR]; exact hs) (by
   intro s hs
   unfold wP
   simp only
   rw [ao hw,gr,aI (by omega)]; rfl) at_ rfl
 rw [o4] at key
 unfold Ze
 simp only
 rw [show DM (at_,mv,(w:Int),b,0,())=some (.inl (pF at_ (aZ mv w) b,mv,())) from key]
 rfl
def sX (mv:List (List Int)) (p q:Nat) (i:Nat) (s:List PtS×List Int) (u:Int):Option ((List PtS×List Int)⊕Empty) :=
 some (.inl (if p+1+i < q then (pF s.1 (aZ mv u.toNat) 1,s.2++aZ mv u.toNat) else (pF s.1 (aZ mv u.toNat) 2,s.2)))
structure MvOK (N L:Nat) (mv:List (List Int)):Prop where
 len:mv.length=N
 mem:∀ w:Nat,w < N→(∀ u∈aZ mv w,0≤u∧u < (N:Int))∧(aZ mv w).length≤L
theorem kA {mv:List (List Int)} {v w:Nat} {l:List Int} (h:v≠w):aZ (mv.set v l) w=aZ mv w:=by unfold aZ; rw [Mz h]
theorem pO {mv:List (List Int)} {v:Nat} {l:List Int} (h:v < mv.length):aZ (mv.set v l) v=l:=by unfold aZ; rw [List.getElem?_set_self h]; rfl
theorem MvOK.put {N L M:Nat} {mv:List (List Int)} {v:Nat} {l:List Int} (h:MvOK N L mv) (hv:v < N) (hl:∀ u∈l,0≤u∧u < (N:Int)) (hM:l.length≤M) (hLM:L≤M):MvOK N M (mv.set v l):=by
 refine ⟨by rw [LF]; exact h.len,fun w hw=>?_⟩
 by_cases e:v=w
 ·subst e
  rw [pO (by rw [h.len]; exact hv)]
  exact ⟨hl,hM⟩
 ·rw [kA e]
  exact ⟨(h.mem w hw).1,LQ (h.mem w hw).2 hLM⟩
def xS (N L:Nat) (i:Nat) (s:List PtS×List Int):Prop:=s.1.length=N∧(∀ u∈s.2,0≤u∧u < (N:Int))∧s.2.length≤1+i * L
theorem rQ {N L:Nat} {mv:List (List Int)} (h:MvOK N L mv) {p q i:Nat} {s t:List PtS×List Int} {u:Int} (hu:0≤u∧u < (N:Int)) (hs:xS N L i s) (hg:sX mv p q i s u=some (.inl t)):xS N L (i+1) t:=by
 obtain ⟨h1,h2,h3⟩:=hs
 obtain ⟨m1,m2⟩:=h.mem u.toNat (by omega)
 unfold sX at hg
 have hg:=B4 hg
 have hg:=Sum.inl.inj hg
 unfold xS
 rw [Nat.add_mul,Nat.one_mul]
 split at hg
 ·subst hg
  refine ⟨by rw [pb]; exact h1,fun x hx=>?_,by rw [Lu]; omega⟩
  rcases B1.1 hx with hx | hx
  ·exact h2 x hx
  ·exact m1 x hx
 ·subst hg
  exact ⟨by rw [pb]; exact h1,h2,by show s.2.length≤_; omega⟩
theorem wl {mv:List (List Int)} {p q:Nat}:∀ (l:List Int) (i:Nat) (s:List PtS×List Int),∃ t,ai (sX mv p q) i s l=some (.inl t)
 | [],i,s=>⟨s,rfl⟩
 | u :: l,i,s=>by
  simp only [ai]
  unfold sX
  simp only [gr,K7]
  exact wl l (i+1) _
section
variable {N L:Nat} {mv:List (List Int)} {c:List Int} {v p q:Nat}
theorem KD (h:MvOK N L mv) (hL:L≤100000000) (hcv:∀ u∈c,0≤u∧u < (N:Int)) (hvc:(v:Int)∉c) (hv:v < N) (hp:p < c.length) (hq:q < c.length) (hcl:c.length≤100)
  (a:List (List Bool)) (at_:List PtS) (hat:at_.length=N) (r:List Int) (rl ri:Int) (own:List Int) (hown:∀ u∈own,0≤u∧u < (N:Int)) (ho1:own.length≤1) :
  vT (a,at_,mv.set v own,c,(v:Int),(p:Int),(q:Int),r,rl,ri,((p+1:Nat):Int),((c.length - (p+1):Nat):Int),((c.length - (p+1):Nat):Int),0,()) =
   (ai (sX mv p q) 0 (at_,own) (c.drop (p+1))).bind (K8 (fun t=>some (.inl (a,t.1,mv.set v t.2,c,(v:Int),(p:Int),(q:Int),r,rl,ri,()))) (fun e=>some (nomatch e))):=by
 have hdl:(c.drop (p+1)).length=c.length - (p+1):=by rw [LY]
 refine df (B:=nW) (xS N L) (fun s i=>(a,s.1,mv.set v s.2,c,(v:Int),(p:Int),(q:Int),r,rl,ri,((p+1:Nat):Int),((c.length - (p+1):Nat):Int),((c.length - (p+1):Nat):Int),(i:Int),()))
  (fun s=>.inl (a,s.1,mv.set v s.2,c,(v:Int),(p:Int),(q:Int),r,rl,ri,())) (fun e=>nomatch e) (sX mv p q) (c.drop (p+1)) ?_ ?_ ?_ (at_,own) ⟨hat,hown,by simpa using ho1⟩
 ·rintro ⟨s1,s2⟩ i u ⟨h1,h2,h3⟩ hu
  simp only at h1 h2 h3
  have hi:i < c.length - (p+1):=by have:=(A3.1 hu).1; omega
  rw [L5] at hu
  have huc:=B2 hu
  obtain ⟨u0,u1⟩:=hcv u huc
  obtain ⟨w,rfl⟩ : ∃ w:Nat,u=(w:Int):=⟨u.toNat,by omega⟩
  have hw:w < N:=by omega
  have hne:v≠w:=fun e=>hvc (by rw [e]; exact huc)
  obtain ⟨m1,m2⟩:=h.mem w hw
  have hml:∀ x:List Int,(mv.set v x).length=N:=fun x=>by rw [LF,h.len]
  have hsw:∀ x:List Int,aZ (mv.set v x) w=aZ mv w:=fun x=>kA hne
  have hsv:∀ x:List Int,aZ (mv.set v x) v=x:=fun x=>pO (by rw [h.len]; exact hv)
  have hbound:s2.length+(aZ mv w).length≤68719476736:=by
   have:i * L≤100 * 100000000:=Na (by omega) hL
   omega
  unfold nW
  simp only [B8]
  rw [aM (by omega),cond_true,ao hi,gr,hu,gr]
  have e1:aC .i64 (aC .i64 (p:Int) 1) (i:Int)=((p+1+i:Nat):Int):=by rw [bj (by omega),oQ (by omega) (by omega)]; omega
  rw [e1]
  unfold sX
  simp only [B8]
  by_cases hlt:p+1+i < q
  ·rw [lz (by omega),cond_false,if_pos hlt,ao (by rw [hml]; exact hv),gr,ao (by rw [hml]; exact hw),gr,hsv,hsw,c9 hbound,gr,gr,if_pos rfl,List.set_set,ao (by rw [hml]; exact hw),gr]
   have:=Hw a s1 (mv.set v (s2++aZ mv w)) c (v:Int) (p:Int) (q:Int) 1 r rl ri (p+1) (c.length - (p+1)) ((c.length - (p+1):Nat):Int) (i:Int) w (by rw [hsw,h1]; exact m1) (by rw [hsw]; omega)
   rw [this]
   simp only [gr,K7,B8,hsw]
   rw [bj (by omega)]
  ·rw [Bf (by omega),cond_true,if_neg hlt,ao (by rw [hml]; exact hw),gr]
   have:=Hw a s1 (mv.set v s2) c (v:Int) (p:Int) (q:Int) 2 r rl ri (p+1) (c.length - (p+1)) ((c.length - (p+1):Nat):Int) (i:Int) w (by rw [hsw,h1]; exact m1) (by rw [hsw]; omega)
   rw [this]
   simp only [gr,K7,B8,hsw]
   rw [bj (by omega)]
 ·intro s i u t hs hu hg
  rw [L5] at hu
  exact rQ h (hcv u (B2 hu)) hs hg
 ·intro s hs
  unfold nW
  simp only [B8]
  rw [hdl,aI (by omega)]; rfl
theorem Km (h:MvOK N L mv) (hL:L≤100000000) (hcv:∀ u∈c,0≤u∧u < (N:Int)) (hp:p < c.length) (hq:q < c.length) (hcl:c.length≤100)
  (at_:List PtS) (hat:at_.length=N) (own:List Int) (hown:∀ u∈own,0≤u∧u < (N:Int)) (ho1:own.length≤1) :
  Fq (at_,mv,own,(v:Int),c,(p:Int),(q:Int),((p+1:Nat):Int),()) =
   (ai (sX mv p q) 0 (at_,own) (c.drop (p+1))).bind (K8 (fun t=>some (.inl (t.1,mv,t.2,(v:Int),c,(p:Int),(q:Int),()))) (fun e=>some (nomatch e))):=by
 have hdl:(c.drop (p+1)).length=c.length - (p+1):=by rw [LY]
 refine df (B:=w7) (xS N L) (fun s i=>(s.1,mv,s.2,(v:Int),c,(p:Int),(q:Int),((p+1+i:Nat):Int),()))
  (fun s=>.inl (s.1,mv,s.2,(v:Int),c,(p:Int),(q:Int),())) (fun e=>nomatch e) (sX mv p q) (c.drop (p+1)) ?_ ?_ ?_ (at_,own) ⟨hat,hown,by simpa using ho1⟩
 ·rintro ⟨s1,s2⟩ i u ⟨h1,h2,h3⟩ hu
  simp only at h1 h2 h3
  have hi:i < c.length - (p+1):=by have:=(A3.1 hu).1; omega
  rw [L5] at hu
  have huc:=B2 hu
  obtain ⟨u0,u1⟩:=hcv u huc
  obtain ⟨w,rfl⟩ : ∃ w:Nat,u=(w:Int):=⟨u.toNat,by omega⟩
  have hw:w < N:=by omega
  obtain ⟨m1,m2⟩:=h.mem w hw
  have hbound:s2.length+(aZ mv w).length≤68719476736:=by
   have:i * L≤100 * 100000000:=Na (by omega) hL
   omega
  have hwl:w < mv.length:=by rw [h.len]; exact hw
  unfold w7
  simp only
  rw [aM (by omega),cond_true]
  unfold sX
  simp only [B8]
  by_cases hlt:p+1+i < q
  ·rw [aM (by omega),cond_true,if_pos hlt,aq,hu,gr,Hy s1 mv w 1 hwl (by rw [h1]; exact m1) (by omega),gr]
   simp only
   rw [gr,ao hwl,gr,c9 hbound,gr,bj (by omega)]
   rfl
  ·rw [aI (by omega),cond_false,if_neg hlt,aq,hu,gr,Hy s1 mv w 2 hwl (by rw [h1]; exact m1) (by omega),gr]
   simp only
   rw [bj (by omega)]
   rfl
 ·intro s i u t hs hu hg
  rw [L5] at hu
  exact rQ h (hcv u (B2 hu)) hs hg
 ·intro s hs
  unfold w7
  simp only
  rw [hdl,aI (by omega)]; rfl
def ptS (a b:PtS):PtS:=(i7 .i64 (cQ .i64 (aC .i64 (aC .i64 a.1 b.1) b.2.1) a.2.1) 2,i7 .i64 (aC .i64 (aC .i64 (cQ .i64 b.1 a.1) b.2.1) a.2.1) 2,())
theorem Kk (h:MvOK N L mv) (hL:L≤100000000) (hcv:∀ u∈c,0≤u∧u < (N:Int)) (hv:v < N) (hp:p < c.length) (hq:q < c.length) (hcl:c.length≤100)
  (at_:List PtS) (hat:at_.length=N):∃ t:List PtS×List Int,ai (sX mv p q) 0 (at_,[(v:Int)]) (c.drop (p+1))=some (.inl t)∧xS N L (c.length - (p+1)) t ∧
   Zg ((at_,mv,()),(v:Int),c,(p:Int),(q:Int),())=some ((t.1.set v (ptS (t.1.getD (c.getD p 0).toNat (0,0,())) (t.1.getD (c.getD q 0).toNat (0,0,()))),mv.set v t.2,()),()):=by
 obtain ⟨t,ht⟩:=wl (mv:=mv) (p:=p) (q:=q) (c.drop (p+1)) 0 (at_,[(v:Int)])
 have hI:=gU (I:=xS N L) (fun s j u t' h1 h2 h3=>rQ h (hcv u (MB (B2 h2))) h1 h3) (show xS N L 0 (at_,[(v:Int)]) from ⟨hat,by simp; omega,by simp⟩) ht
 rw [Ln,LY] at hI
 refine ⟨t,ht,hI,?_⟩
 obtain ⟨i1,i2,i3⟩:=hI
 have hpv:=hcv c[p] (Lk hp)
 have hqv:=hcv c[q] (Lk hq)
 have gp:c.getD p 0=c[p]:=by rw [B5,A2 hp]; rfl
 have gq:c.getD q 0=c[q]:=by rw [B5,A2 hq]; rfl
 have lp:c[p].toNat < t.1.length:=by omega
 have lq:c[q].toNat < t.1.length:=by omega
 have lv:v < t.1.length:=by omega
 unfold Zg
 simp only
 rw [bj (by omega),Km h hL hcv hp hq hcl at_ hat [(v:Int)] (by simp; omega) (by simp),ht]
 simp only [gr,K7]
 rw [aq,A2 hp,gr,hO hpv.1 (by omega),gr,A2 lp,gr,aq,A2 hq,gr,hO hqv.1 (by omega),gr,A2 lq,gr,
  ao lv,gr,A2 lv,gr,ao (by rw [h.len]; exact hv),gr,gp,gq,B5,A2 lp,B5,A2 lq]
 rfl
end
end Go.Vm

/-
 StraightShifts: what is near, the places where a new vertex is joined, in both.
-/
namespace Go.Vm
open Go.Proofs
set_option maxRecDepth 100000
attribute [local irreducible] aa
theorem qd {σ ρ S:Type} {B : σ→Option (σ⊕ρ)} (I:Nat→S→Prop) (st:S→Nat→σ) (out:S→ρ) (n:Nat) (step:∀ s i,i < n→I i s→∃ t,B (st s i)=some (.inl (st t (i+1)))∧I (i+1) t)
  (fin:∀ s,I n s→B (st s n)=some (.inr (out s))):∀ s,I 0 s→∃ t,I n t∧aa B (st s 0)=some (out t):=by
 have key:∀ (k i:Nat) (s:S),i+k=n→I i s→∃ t,I n t∧aa B (st s i)=some (out t):=by
  intro k
  induction k with
  | zero =>
   intro i s hi hs
   have:i=n:=by omega
   subst this
   exact ⟨s,hs,bW (fin s hs)⟩
  | succ k ih =>
   intro i s hi hs
   obtain ⟨t,h1,h2⟩:=step s i (by omega) hs
   rw [cI h1]
   exact ih (i+1) t (by omega) h2
 exact fun s hs=>key n 0 s (by omega) hs
theorem HN {σ τ ρ υ : Type} {B : σ→Option (σ⊕ρ)} {C : τ→Option (τ⊕υ)} (R:Nat→σ→τ→Prop) (n:Nat) (S : ρ→υ→Prop)
  (step:∀ i s t,i < n→R i s t→∃ s' t',B s=some (.inl s')∧C t=some (.inl t')∧R (i+1) s' t') (fin:∀ s t,R n s t→∃ r u,B s=some (.inr r)∧C t=some (.inr u)∧S r u) :
  ∀ s t,R 0 s t→∃ r u,aa B s=some r∧aa C t=some u∧S r u:=by
 have key:∀ (k i:Nat) (s : σ) (t : τ),i+k=n→R i s t→∃ r u,aa B s=some r∧aa C t=some u∧S r u:=by
  intro k
  induction k with
  | zero =>
   intro i s t hi hR
   have:i=n:=by omega
   subst this
   obtain ⟨r,u,h1,h2,h3⟩:=fin s t hR
   exact ⟨r,u,bW h1,bW h2,h3⟩
  | succ k ih =>
   intro i s t hi hR
   obtain ⟨s',t',h1,h2,h3⟩:=step i s t (by omega) hR
   rw [cI h1,cI h2]
   exact ih (i+1) s' t' (by omega) h3
 exact fun s t hR=>key n 0 s t (by omega) hR
section
variable {N:Nat} {E:List Arc} {A:List (List Int)}
structure NearOK (N:Nat) (E:List Arc) (near:List (List Bool)):Prop where
 len:near.length=N
 row:∀ u:Nat,u < N→(aZ near u).length=N
 at_:∀ u v:Nat,u < N→v < N→(aZ near u)[v]?=some (ab E (u:Int) (v:Int))
theorem CH (hN:N≤100000) (o:List Int):∃ near:List (List Bool),(near.length=N∧∀ u:Nat,u < N→aZ near u=A6 N false) ∧
  vm ((N:Int),E,A,A6 N [],o,((A6 N ([]:List Bool)).length:Nat),0,())=some (.inl ((N:Int),E,A,near,o,())):=by
 obtain ⟨t,h1,h2⟩:=qd (B:=sk) (fun i (s:List (List Bool))=>s.length=N∧∀ u:Nat,u < i→aZ s u=A6 N false) (fun s i=>((N:Int),E,A,s,o,((N:Nat):Int),(i:Int),()))
  (fun s=>.inl ((N:Int),E,A,s,o,())) N (by
   rintro s i hi ⟨h1,h2⟩
   refine ⟨s.set i (A6 N false),?_,by rw [LF]; exact h1,fun u hu=>?_⟩
   ·unfold sk
    simp only
    rw [aM (by omega),cond_true,dL (A7 _) (by omega),gr,ao (by omega),gr,bj (by omega)]
    rfl
   ·unfold aZ
    rw [Lm]
    by_cases e:i=u
    ·subst e
     rw [if_pos rfl,if_pos (by omega)]
     rfl
    ·rw [if_neg e]
     exact h2 u (by omega)) (by
   rintro s ⟨h1,h2⟩
   unfold sk
   simp only
   rw [aI (by omega)]; rfl) (A6 N []) ⟨by simp,fun u hu=>by omega⟩
 refine ⟨t,h1,?_⟩
 rw [M7]
 exact h2
theorem xN {l:List Arc} {e:Arc} {u v:Int}:ab (l++[e]) u v=(ab l u v || jn u v e):=by
 unfold ab
 simp
theorem Cl (h:RotOK (N:Nat) E A) (o:List Int) (near0:List (List Bool)) (h0:near0.length=N∧∀ u:Nat,u < N→aZ near0 u=A6 N false):∃ near,NearOK N E near ∧
  vD ((N:Int),E,A,near0,o,E,(E.length:Nat),0,())=some (.inl ((N:Int),E,A,near,o,())):=by
 have hm1:=h.m1
 obtain ⟨t,h1,h2⟩:=qd (B:=ny) (fun i (s:List (List Bool))=>NearOK N (E.take i) s) (fun s i=>((N:Int),E,A,s,o,E,((E.length:Nat):Int),(i:Int),()))
  (fun s=>.inl ((N:Int),E,A,s,o,())) E.length (by
   rintro s i hi ⟨n1,n2,n3⟩
   have he:=A2 hi
   obtain ⟨p1,p2,p3,p4,p5⟩:=h.edge E[i] (Lk hi)
   obtain ⟨x,hx⟩ : ∃ x:Nat,E[i].1=(x:Int):=⟨E[i].1.toNat,by omega⟩
   obtain ⟨y,hy⟩ : ∃ y:Nat,E[i].2.1=(y:Int):=⟨E[i].2.1.toNat,by omega⟩
   have hxN:x < N:=by omega
   have hyN:y < N:=by omega
   have hxy:x≠y:=by intro e; exact p5 (by rw [hx,hy,e])
   have hsy:aZ (s.set x ((aZ s x).set y true)) y=aZ s y:=by unfold aZ; rw [Mz hxy]
   refine ⟨(s.set x ((aZ s x).set y true)).set y ((aZ s y).set x true),?_,?_⟩
   ·unfold ny
    simp only
    rw [aM (by omega),cond_true,aq,he,gr,hx,hy,ao (by omega),gr,ao (by omega),gr,ao (by rw [n2 x hxN]; exact hyN),gr,hsy,ao (by rw [n2 y hyN]; exact hxN),gr,bj (by omega)]
   ·have hrow:∀ u:Nat,aZ ((s.set x ((aZ s x).set y true)).set y ((aZ s y).set x true)) u=if y=u then (aZ s y).set x true else if x=u then (aZ s x).set y true else aZ s u:=by
     intro u
     unfold aZ
     rw [Lm,LF]
     by_cases e1:y=u
     ·rw [if_pos e1,if_pos (by omega),if_pos e1]; rfl
     ·rw [if_neg e1,if_neg e1,Lm]
      by_cases e2:x=u
      ·rw [if_pos e2,if_pos (by omega),if_pos e2]; rfl
      ·rw [if_neg e2,if_neg e2]
    refine ⟨by rw [LF,LF]; exact n1,fun u hu=>?_,fun u v hu hv=>?_⟩
    ·rw [hrow]
     split
     ·rw [LF]; exact n2 y hyN
     ·split
      ·rw [LF]; exact n2 x hxN
      ·exact n2 u hu
    ·rw [hrow,NS,he]
     show _=some (ab (Nr i E++[E[i]]) _ _)
     rw [xN]
     unfold jn
     rw [hx,hy]
     by_cases e1:y=u
     ·subst e1
      rw [if_pos rfl,Lm,n2 y hu]
      by_cases e2:x=v
      ·subst e2
       rw [if_pos rfl,if_pos hv,kP (show ((x:Nat):Int)=(x:Int) from rfl),kP (show ((y:Nat):Int)=(y:Int) from rfl)]
       simp
      ·rw [if_neg e2,n3 y v hu hv,iz (show ((x:Nat):Int)≠(y:Int) by omega),iz (show ((x:Nat):Int)≠(v:Int) by omega)]
       simp
     ·rw [if_neg e1]
      by_cases e2:x=u
      ·subst e2
       rw [if_pos rfl,Lm,n2 x hu]
       by_cases e3:y=v
       ·subst e3
        rw [if_pos rfl,if_pos hv,kP (show ((x:Nat):Int)=(x:Int) from rfl),kP (show ((y:Nat):Int)=(y:Int) from rfl)]
        simp
       ·rw [if_neg e3,n3 x v hu hv,iz (show ((y:Nat):Int)≠(v:Int) by omega),iz (show ((y:Nat):Int)≠(x:Int) by omega)]
        simp
      ·rw [if_neg e2,n3 u v hu hv,iz (show ((x:Nat):Int)≠(u:Int) by omega),iz (show ((y:Nat):Int)≠(u:Int) by omega)]
       simp) (by
   rintro s hs
   unfold ny
   simp only
   rw [aI (by omega)]; rfl) near0 ⟨h0.1,fun u hu=>by rw [h0.2 u hu]; simp,fun u v hu hv=>by rw [h0.2 u hu]; simp [hv,ab]⟩
 rw [MQ] at h1
 exact ⟨t,h1,h2⟩
theorem t5 {P:Int→Bool}:∀ (l:List Int) (i:Nat),ai (fun i (_:Unit) a=>(some (cond (P a) (.inr i) (.inl ())):Option (Unit⊕Nat))) i () l=(match js P i l with | []=>some (.inl ()) | a :: _=>some (.inr a))
 | [],i=>rfl
 | a :: l,i=>by
  simp only [ai]
  rw [show js P i (a :: l)=cond (P a) (i :: js P (i+1) l) (js P (i+1) l) from rfl]
  cases P a with
  | true=>rfl
  | false =>
   simp only [cond_false,gr,K7]
   exact t5 l (i+1)
theorem Gf {near:List (List Bool)} (hn:NearOK N E near) {v:Nat} (hv:v < N) {u:Int} (hu:0≤u∧u < (N:Int)):aL near (v:Int)=some (aZ near v)∧aL (aZ near v) u=some (ab E u (v:Int)):=by
 obtain ⟨w,rfl⟩ : ∃ w:Nat,u=(w:Int):=⟨u.toNat,by omega⟩
 have hl:v < near.length:=by rw [hn.len]; exact hv
 refine ⟨?_,?_⟩
 ·rw [aq,A2 hl,fP hl]
 ·rw [aq,hn.at_ v w hv (by omega),kf]
theorem It {near:List (List Bool)} (hn:NearOK N E near) {v:Nat} (hv:v < N) (c:List Int) (hc:∀ u∈c,0≤u∧u < (N:Int)) (hcl:c.length≤1000000) :
  Za (c,(near,(v:Int),()),())=some (cC (js (ab E · (v:Int)) 0 c),()):=by
 have key:=mX (B:=xe) (fun (_:Unit) i=>(c,(near,(v:Int),()),((c.length:Nat):Int),(i:Int),()))
  (fun _=>.inr (.inl ())) (fun (k:Nat)=>.inl ((k:Int),())) (fun i (_:Unit) a=>some (cond (ab E a (v:Int)) (.inr i) (.inl ()))) c (by
   intro _ i u hu
   have hi:i < c.length:=(A3.1 hu).1
   obtain ⟨n1,n2⟩:=Gf hn hv (hc u (B2 hu))
   unfold xe
   simp only
   rw [aM (by omega),cond_true,aq,hu,gr]
   unfold Zak
   simp only
   rw [n1,gr,n2,gr,bj (by omega)]
   cases ab E u (v:Int) <;> rfl) (by
   intro _
   unfold xe
   simp only
   rw [aI (by omega)]; rfl) ()
 rw [t5] at key
 unfold Za
 simp only
 rw [show Em (c,(near,(v:Int),()),((c.length:Nat):Int),0,())=_ from key]
 cases hj:js (ab E · (v:Int)) 0 c <;> rfl
theorem G3 {s:List Nat} {p q:Nat} (hs:s.Pairwise (· < ·)) (hx:∀ x∈s,p≤x∧x≤q) (hl:s.length=q - p+1) (hpq:p≤q):∀ x,p≤x→x≤q→x∈s:=by
 intro x h1 h2
 refine Classical.byContradiction fun hn=>?_
 have hnd:s.Nodup:=by
  rw [Mu]
  exact hs.imp fun h=>by omega
 have:=du (l:=x :: s) (r:=List.range' p (q - p+1)) (Nf.2 ⟨hn,hnd⟩) (fun y hy=>by
  rw [List.mem_range'_1]
  rcases B3.1 hy with rfl | hy
  ·omega
  ·have:=hx y hy; omega)
 rw [La,List.length_range',hl] at this
 omega
theorem JK {near:List (List Bool)} (hn:NearOK N E near) {v:Nat} (hv:v < N) (c:List Int) (hc:∀ u∈c,0≤u∧u < (N:Int)) (hcl:c.length≤1000000) {p q:Nat} (hpq:p≤q) (hq:q < c.length)
  (hin:∀ x,p≤x→x≤q→x∈js (ab E · (v:Int)) 0 c) (hout:∀ x∈js (ab E · (v:Int)) 0 c,x≤q) (at_:List PtS) (mv:List (List Int)) (r:List Int) (k l:Int) :
  qy (near,at_,mv,c,(v:Int),(p:Int),(p:Int),r,k,l,())=some (.inl (near,at_,mv,c,(v:Int),(p:Int),(q:Int),r,k,l,())):=by
 obtain ⟨z,z1,z2⟩:=lN (f:=qb) (fun s=>∃ g:Nat,s=(near,at_,mv,c,(v:Int),(p:Int),(g:Int),r,k,l,())∧p≤g∧g≤q) (fun s=>q - s.2.2.2.2.2.2.1.toNat)
  (fun z=>z=.inl (near,at_,mv,c,(v:Int),(p:Int),(q:Int),r,k,l,())) (by
  rintro s ⟨g,rfl,g1,g2⟩
  have hvl:v < near.length:=by rw [hn.len]; exact hv
  unfold qb
  simp only
  rw [bj (show g < 9223372036854775807 by omega)]
  by_cases hg:g+1 < c.length
  ·have hgc:=hc c[g+1] (Lk hg)
   obtain ⟨w,hw⟩ : ∃ w:Nat,c[g+1]=(w:Int):=⟨c[g+1].toNat,by omega⟩
   have hwN:w < N:=by omega
   have hat:=hn.at_ v w hv hwN
   rw [aM (by omega),cond_true,ao hvl,gr,ao hg,gr,A2 hg,gr,hw,ao (by rw [hn.row v hv]; exact hwN),gr,hat,gr,kf]
   have hjs:(g+1)∈js (ab E · (v:Int)) 0 c↔ab E (w:Int) (v:Int)=true:=by
    rw [qD,Nv,A2 hg,hw]
    simp
   by_cases hgq:g < q
   ·rw [hjs.1 (hin (g+1) (by omega) (by omega)),cond_true]
    exact .inl ⟨_,rfl,⟨g+1,rfl,by omega,by omega⟩,by show q - ((g+1:Nat):Int).toNat < q - (g:Int).toNat; omega⟩
   ·have hb:ab E (w:Int) (v:Int)=false:=by
     cases hb:ab E (w:Int) (v:Int) with
     | false=>rfl
     | true=>have:=hout (g+1) (hjs.2 hb); omega
    rw [hb,cond_false]
    have:g=q:=by omega
    exact .inr ⟨_,rfl,by rw [this]⟩
  ·rw [aI (by omega),cond_false]
   have:g=q:=by omega
   exact .inr ⟨_,rfl,by rw [this]⟩) (near,at_,mv,c,(v:Int),(p:Int),(p:Int),r,k,l,()) ⟨p,rfl,A7 _,hpq⟩
 rw [show qy (near,at_,mv,c,(v:Int),(p:Int),(p:Int),r,k,l,())=some z from z1,z2]
theorem GW (hE:E.length≤1000000) (at_:List PtS) (mv:List (List Int)) (c o:List Int) {w:Int} {k:Nat} (hk:o[k]?=some w) (hkl:k < 1000000) (hcl:c.length≤1000000) :
  As ((N:Int),E,A,at_,mv,c,o,((k+1:Nat):Int),-1,-1,0,())=some (.inl ((N:Int),E,A,at_,mv,c,o,((k+1:Nat):Int),cC (js (ab E · w) 0 c),fx (js (ab E · w) 0 c),())):=by
 have key:=df (B:=sS) (ε:=Empty) (fun i (s:List Nat)=>s.length≤i) (fun s i=>((N:Int),E,A,at_,mv,c,o,((k+1:Nat):Int),cC s,fx s,(i:Int),()))
  (fun s=>.inl ((N:Int),E,A,at_,mv,c,o,((k+1:Nat):Int),cC s,fx s,())) (fun e=>nomatch e) (fun i s a=>some (.inl (cond (ab E a w) (s++[i]) s))) c (by
   intro s i a hs ha
   have hi:i < c.length:=(A3.1 ha).1
   unfold sS
   simp only
   rw [aM (by omega),cond_true,nJ (by omega),show (((k+1:Nat):Int) - 1)=(k:Int) by omega,aq,hk,gr,ao hi,gr,ha,gr,EM _ _ _ _ _ hE,gr,kf,bj (show i < 9223372036854775807 by omega)]
   cases ab E a w with
   | false=>rfl
   | true =>
    simp only [LN,cond_false,cond_true,gr,K7]
    by_cases hf:cC s < 0
    ·rw [aM hf,cond_true,iU,jw,if_pos hf]
    ·rw [aI (by omega),cond_false,iU,jw,if_neg hf]) (by
   intro s i a t hs ha hg
   cases hg
   cases ab E a w with
   | true=>simp; omega
   | false=>simp only [cond_false]; omega) (by
   intro s hs
   unfold sS
   simp only
   rw [aI (by omega)]; rfl) [] (A7 _)
 rw [u6] at key
 exact key
end
end Go.Vm

/-
 StraightShifts: the shift drawing in both; the law.
-/
namespace Go.Vm
open Go.Proofs
set_option maxRecDepth 100000
attribute [local irreducible] aa
theorem oI {E:List Arc}:∀ {r1 r2 bef c:List Int},cW E bef c (r1++r2)=(cW E bef c r1).bind fun c'=>cW E (bef++r1) c' r2
 | [],r2,bef,c=>by simp [cW]
 | w :: r1,r2,bef,c=>by
  simp only [List.cons_append,cW]
  cases dN E bef c w with
  | none=>rfl
  | some c' =>
   simp only [gr]
   rw [oI (r1:=r1)]
   simp
theorem xE {E:List Arc}:∀ {r bef c c':List Int},cW E bef c r=some c'→c.Nodup→(∀ u∈c,u∈bef)→(bef++r).Nodup→c'.Nodup∧(∀ u∈c',u∈bef++r)∧c'.length≤c.length+r.length
 | [],bef,c,c',h,h1,h2,_=>by
  simp only [cW,A1] at h
  subst h
  exact ⟨h1,fun u hu=>by simp [h2 u hu],by simp⟩
 | w :: r,bef,c,c',h,h1,h2,h3=>by
  simp only [cW] at h
  cases hs:dN E bef c w with
  | none=>rw [hs] at h; cases h
  | some d =>
   rw [hs,gr] at h
   have hw:w∉bef:=by
    have:=(Mi.1 h3).2.2
    exact fun hm=>this w hm w (by simp) rfl
   obtain ⟨n1,n2⟩:=ti hs h1 h2 hw
   obtain ⟨m1,m2,m3⟩:=xE h n1 n2 (by simpa using h3)
   have:=oZ hs
   exact ⟨m1,fun u hu=>by have:=m2 u hu; simpa using this,by rw [La]; omega⟩
section
variable {N:Nat} {E:List Arc} {A:List (List Int)} {o:List Int}
theorem Can.nodup (h:Can N E o):o.Nodup:=by
 rw [Mu,List.pairwise_iff_getElem]
 intro i j hi hj hij e
 refine (h.ok j o[j] (A2 hj)).2.2 ?_
 rw [← e]
 exact B2 (i:=i) (by rw [Ls,if_pos hij]; exact A2 hi)
theorem Can.lt (h:Can N E o) {u:Int} (hu:u∈o):0≤u∧u < (N:Int):=by
 obtain ⟨i,hi⟩:=LM.1 hu
 have:=h.ok i u hi
 exact ⟨this.1,this.2.1⟩
theorem sd {k:Nat} (h2:2≤k) {w:Int} (hk:o[k]?=some w):(o.take (k+1)).drop 2=(o.take k).drop 2++[w]:=by
 have hl:=(A3.1 hk).1
 rw [NS,hk]
 show (o.take k++[w]).drop 2=_
 rw [Nc (by rw [Mt]; omega)]
theorem Can.step (h:Can N E o) {k:Nat} (h2:2≤k) (hk:k < N):∃ (w c c':_),o[k]?=some w∧cW E (o.take 2) (o.take 2) ((o.take k).drop 2)=some c∧dN E (o.take k) c w=some c' ∧
  cW E (o.take 2) (o.take 2) ((o.take (k+1)).drop 2)=some c'∧(∀ u∈c,u∈o.take k)∧c.length≤k:=by
 have hkl:k < o.length:=by rw [h.len]; exact hk
 have hw:=A2 hkl
 have hsplit:o.drop 2=(o.take k).drop 2++(o[k] :: o.drop (k+1)):=by
  have e1:o=o.take k++(o[k] :: o.drop (k+1)):=by rw [List.getElem_cons_drop,Nz]
  have e2:(o.take k++(o[k] :: o.drop (k+1))).drop 2=(o.take k).drop 2++(o[k] :: o.drop (k+1)):=Nc (by rw [Mt]; omega)
  rw [← e2,← e1]
 have hbef:o.take 2++(o.take k).drop 2=o.take k:=by
  have:o.take 2=(o.take k).take 2:=by rw [List.take_take]; congr 1; omega
  rw [this,Nz]
 have hc:=h.cont
 rw [hsplit,oI] at hc
 cases hc1:cW E (o.take 2) (o.take 2) ((o.take k).drop 2) with
 | none=>rw [hc1] at hc; simp at hc
 | some c =>
  rw [hc1,gr,hbef] at hc
  simp only [cW] at hc
  cases hs:dN E (o.take k) c o[k] with
  | none=>rw [hs] at hc; simp at hc
  | some c' =>
   have hm:=xE hc1 (h.nodup.sublist (OK _ _)) (fun u hu=>hu) (by rw [hbef]; exact h.nodup.sublist (OK _ _))
   refine ⟨o[k],c,c',hw,rfl,hs,?_,?_,?_⟩
   ·rw [sd h2 hw,oI,hc1,gr,hbef]
    simp only [cW,hs,gr]
   ·intro u hu; have:=hm.2.1 u hu; rwa [hbef] at this
   ·have:=hm.2.2
    rw [LY,Mt,Mt] at this
    omega
def d9 (N:Nat):List (List Int):=(List.range N).map fun (j:Nat)=>[(j:Int)]
theorem um {N w:Nat} (hw:w < N):aZ (d9 N) w=[(w:Int)]:=by
 unfold aZ d9
 rw [MP,Oy hw]
 rfl
theorem Ii (a:List (List Bool)) (at_:List PtS) (hN:N≤100000) (o:List Int):qm (a,at_,A6 N [],o,((A6 N ([]:List Int)).length:Nat),0,())=some (.inl (a,at_,d9 N,o,())):=by
 obtain ⟨t,h1,h2⟩:=qd (B:=nK) (fun i (s:List (List Int))=>s.length=N∧∀ u:Nat,u < i→s[u]?=some [(u:Int)]) (fun s i=>(a,at_,s,o,((N:Nat):Int),(i:Int),()))
  (fun s=>.inl (a,at_,s,o,())) N (by
   rintro s i hi ⟨h1,h2⟩
   refine ⟨s.set i [(i:Int)],?_,by rw [LF]; exact h1,fun u hu=>?_⟩
   ·unfold nK
    simp only
    rw [aM (by omega),cond_true,ao (by omega),gr,bj (by omega)]
   ·rw [Lm]
    by_cases e:i=u
    ·subst e
     rw [if_pos rfl,if_pos (by omega)]
    ·rw [if_neg e]
     exact h2 u (by omega)) (by
   rintro s ⟨h1,h2⟩
   unfold nK
   simp only
   rw [aI (by omega)]; rfl) (A6 N []) ⟨by simp,fun u hu=>by omega⟩
 have:t=d9 N:=by
  refine MA fun u=>?_
  unfold d9
  rw [MP]
  by_cases hu:u < N
  ·rw [h1.2 u hu,Oy hu]; rfl
  ·rw [Ml (by omega),Ml (by simp; omega)]; rfl
 rw [M7,← this]
 exact h2
theorem Ir (at_:List PtS) (hN:N≤100000) (o:List Int):DJ ((N:Int),E,A,at_,[],o,0,())=some (.inl ((N:Int),E,A,at_,d9 N,o,())):=by
 obtain ⟨t,h1,h2⟩:=qd (B:=xp) (fun i (s:List (List Int))=>s=d9 i) (fun s i=>((N:Int),E,A,at_,s,o,(i:Int),()))
  (fun s=>.inl ((N:Int),E,A,at_,s,o,())) N (by
   rintro s i hi rfl
   refine ⟨d9 (i+1),?_,rfl⟩
   unfold xp
   simp only
   rw [aM (by omega),cond_true,c9 (by simp [d9]; omega),gr,bj (by omega)]
   unfold d9
   rw [List.range_succ,List.map_append]
   rfl) (by
   rintro s _
   unfold xp
   simp only
   rw [aI (by omega)]; rfl) [] rfl
 rw [h1] at h2
 exact h2
theorem Db {mv:List (List Int)} {v:Nat} {l:List Int} (hv:v < mv.length) (h:aZ mv v=l):mv.set v l=mv:=by
 refine MA fun u=>?_
 rw [Lm]
 by_cases e:v=u
 ·subst e
  rw [if_pos rfl,if_pos hv,← h,fP hv,A2 hv]
 ·rw [if_neg e]
def Id (N:Nat) (E:List Arc) (A:List (List Int)) (o:List Int) (near:List (List Bool)) (i:Nat) (s:(List (List Bool))×(List PtS)×(List (List Int))×List Int×List Int×Int×Int×Unit) (t:Int×(List PtS)×(List (List Int))×(List PtS)×(List (List Int))×List Int×Int×Unit):Prop :=
 ∃ (at_:List PtS) (mv:List (List Int)) (c:List Int),s=(near,at_,mv,c,o.drop 3,(((o.drop 3).length:Nat):Int),(i:Int),())∧t=((N:Int),E,A,at_,mv,o,((i+4:Nat):Int),())∧at_.length=N∧MvOK N (10 ^ i) mv ∧
  (∀ (j:Nat) (v:Nat),i+3≤j→o[j]?=some (v:Int)→aZ mv v=[(v:Int)])∧cW E (o.take 2) (o.take 2) ((o.take (i+3)).drop 2)=some c
theorem EN (h:Tri N E A) (hr:Zd (((N:Int),E,A,()),())=some (true,())) (hk:Zab (((N:Int),E,A,()),o,())=some (true,())) (hC:Can N E o) (hN:N≤10) (near:List (List Bool)) (hn:NearOK N E near) :
  ∀ s t,Id N E A o near 0 s t→∃ r u,aa od s=some r∧aa sK t=some u∧∃ (at_:List PtS) (mv:List (List Int)),at_.length=N∧r=.inl (at_,())∧u=.inl ((N:Int),E,A,at_,mv,()):=by
 have h3:=h.three
 have hm1:=h.rot.m1
 have hol:=hC.len
 refine HN (Id N E A o near) (N - 3) _ ?_ ?_
 ·rintro i s t hi ⟨at_,mv,c,rfl,rfl,ha,hmv,hal,hc⟩
  obtain ⟨w,c1,c',hw,hc1,hs,hc2,hmem,hcl⟩:=hC.step (k:=i+3) (by omega) (by omega)
  rw [hc] at hc1
  cases hc1
  obtain ⟨w0,w1,w2⟩:=hC.ok (i+3) w hw
  obtain ⟨v,rfl⟩ : ∃ v:Nat,w=(v:Int):=⟨w.toNat,by omega⟩
  have hv:v < N:=by omega
  have hcv:∀ u∈c,0≤u∧u < (N:Int):=fun u hu=>hC.lt (Nb (hmem u hu))
  have hvc:(v:Int)∉c:=fun hm=>w2 (hmem _ hm)
  obtain ⟨p,q,e1,e2,hpq,hq,ec,ej,ex,_⟩:=jT hs
  have hp:p < c.length:=by omega
  have hL:10 ^ i≤100000000:=LQ (Oz (by omega) (show i≤8 by omega)) (by decide)
  have hself:aZ mv v=[(v:Int)]:=hal (i+3) v (A7 _) hw
  have hvm:v < mv.length:=by rw [hmv.len]; exact hv
  obtain ⟨t,t1,⟨i1,i2,i3⟩,t3⟩:=Kk (v:=v) (p:=p) (q:=q) hmv hL hcv hv hp hq (by omega) at_ ha
  -- the new state
  have hown:t.2.length≤10 ^ (i+1):=by
   have h1:(c.length - (p+1)) * 10 ^ i≤9 * 10 ^ i:=Na (by omega) (A7 _)
   have h2:1≤10 ^ i:=Nat.one_le_pow _ _ (by omega)
   rw [Nat.pow_succ]
   omega
  have hmv':MvOK N (10 ^ (i+1)) (mv.set v t.2):=hmv.put hv i2 hown (Oz (by omega) (by omega))
  have hal':∀ (j:Nat) (u:Nat),i+1+3≤j→o[j]?=some (u:Int)→aZ (mv.set v t.2) u=[(u:Int)]:=by
   intro j u hj hu
   have hne:v≠u:=by
    intro e
    subst e
    have hj2:=(A3.1 hu).1
    have hi2:=(A3.1 hw).1
    have g1:=(A3.1 hu).2
    have g2:=(A3.1 hw).2
    have:=gT hC.nodup hj2 hi2 (by rw [g1,g2])
    omega
   rw [kA hne]
   exact hal j u (by omega) hu
  have hd3:(o.drop 3)[i]?=some (v:Int):=by rw [L5,NM]; exact hw
  have hd3l:(o.drop 3).length=N - 3:=by rw [LY,hol]
  have gp:c.getD p 0=c[p]:=by rw [B5,A2 hp]; rfl
  have gq:c.getD q 0=c[q]:=by rw [B5,A2 hq]; rfl
  have hpv:=hcv c[p] (Lk hp)
  have hqv:=hcv c[q] (Lk hq)
  have lp:c[p].toNat < t.1.length:=by omega
  have lq:c[q].toNat < t.1.length:=by omega
  have lv:v < t.1.length:=by omega
  refine ⟨(near,t.1.set v (ptS (t.1.getD (c.getD p 0).toNat (0,0,())) (t.1.getD (c.getD q 0).toNat (0,0,()))),mv.set v t.2,c',o.drop 3,(((o.drop 3).length:Nat):Int),((i+1:Nat):Int),()),
   ((N:Int),E,A,t.1.set v (ptS (t.1.getD (c.getD p 0).toNat (0,0,())) (t.1.getD (c.getD q 0).toNat (0,0,()))),mv.set v t.2,o,((i+1+4:Nat):Int),()),?_,?_,⟨_,_,_,rfl,rfl,by rw [LF]; exact i1,hmv',hal',hc2⟩⟩
  ·unfold od
   simp only
   rw [aM (by omega),cond_true,aq,hd3,gr,It hn hv c hcv (by omega),gr]
   simp only
   rw [e1,JK hn hv c hcv (by omega) (by omega) hq (G3 gV ex ej (by omega)) (fun x hx=>(ex x hx).2)]
   simp only [gr,K7]
   rw [bj (by omega)]
   have hvw:kN c.length ((p+1:Nat):Int) ((c.length:Nat):Int)=some (p+1,c.length - (p+1)):=by
    unfold kN
    rw [if_pos ⟨by omega,by omega,by omega⟩]
    simp only [B8]
   rw [hvw,gr]
   simp only
   have:=KD hmv hL hcv hvc hv hp hq (by omega) near at_ ha (o.drop 3) ((o.drop 3).length:Nat) (i:Int) [(v:Int)] (by simp; omega) (by simp)
   rw [Db hvm hself] at this
   rw [this,t1]
   simp only [gr,K7]
   rw [ao hp,gr,A2 hp,gr,hO hpv.1 (by omega),gr,A2 lp,gr,ao hq,gr,A2 hq,gr,hO hqv.1 (by omega),gr,A2 lq,gr,
    ao lv,gr,A2 lv,gr,bj (by omega)]
   have hrep:Zm (c,((p+1:Nat):Int),(q:Int),[(v:Int)],())=some (c',()):=by
    show Fa c ((p+1:Nat):Int) (q:Int) [(v:Int)]=_
    unfold Fa
    rw [if_pos ⟨by omega,by omega,by omega,rfl,by rw [vj]; omega⟩,ec]
    simp
   rw [hrep,gr,gp,gq,B5,A2 lp,B5,A2 lq,bj (by omega)]
   rfl
  ·unfold sK
   simp only
   have hcont:Zj (((N:Int),E,A,()),o,cQ .i64 ((i+4:Nat):Int) 1,())=some (c,0,()):=by
    rw [nJ (by omega),show (((i+4:Nat):Int) - 1)=((i+3:Nat):Int) by omega]
    unfold Zj
    simp only
    rw [hr,gr,hk,gr]
    simp only [LN,cond_false]
    rw [aI (by omega),cond_false,jp (by omega),cond_false,yc (by omega) o (by omega) (by omega) (by omega),hc]
    rfl
   rw [Ja (by omega),cond_true,hcont,gr]
   simp only
   rw [show ((i+4:Nat):Int)=((i+3+1:Nat):Int) from rfl,GW (by omega) at_ mv c o hw (by omega) (by omega),e1,e2]
   simp only [gr,K7]
   rw [nJ (by omega),show (((i+3+1:Nat):Int) - 1)=((i+3:Nat):Int) by omega,aq,hw,gr,t3,gr,bj (by omega)]
 ·rintro s t ⟨at_,mv,c,rfl,rfl,ha,hmv,hal,hc⟩
  have hd3l:(o.drop 3).length=N - 3:=by rw [LY,hol]
  refine ⟨.inl (at_,()),.inl ((N:Int),E,A,at_,mv,()),?_,?_,at_,mv,ha,rfl,rfl⟩
  ·unfold od
   simp only
   rw [aI (by omega)]; rfl
  ·unfold sK
   simp only
   rw [JA (by omega)]; rfl
theorem CG (mv:List (List Int)) (at_:List PtS) (ha:at_.length=N) (hN:N≤100000):∃ l,l.length=N∧uP (at_,(at_.length:Nat),0,())=some (.inl (l,()))∧zr ((N:Int),E,A,at_,mv,0,())=some (.inl (l,mv,())):=by
 obtain ⟨r,u,h1,h2,l,hl,e1,e2⟩:=HN (B:=nE) (C:=sJ) (fun i s t=>∃ x:List PtS,x.length=N∧s=(x,((N:Nat):Int),(i:Int),())∧t=((N:Int),E,A,x,mv,(i:Int),())) N
  (fun r u=>∃ l:List PtS,l.length=N∧r=.inl (l,())∧u=.inl (l,mv,())) (by
   rintro i s t hi ⟨x,hx,rfl,rfl⟩
   have hxi:i < x.length:=by omega
   refine ⟨_,_,?_,?_,⟨x.set i (x[i].1,cQ .i64 0 x[i].2.1,x[i].2.2),by rw [LF]; exact hx,rfl,rfl⟩⟩
   ·unfold nE
    simp only
    rw [aM (by omega),cond_true,ao hxi,gr,A2 hxi,gr,gr,A2 hxi,gr,bj (by omega)]
   ·unfold sJ
    simp only
    rw [aM (by omega),cond_true,ao hxi,gr,A2 hxi,gr,gr,A2 hxi,gr,bj (by omega)]) (by
   rintro s t ⟨x,hx,rfl,rfl⟩
   refine ⟨_,_,?_,?_,x,hx,rfl,rfl⟩
   ·unfold nE
    simp only
    rw [aI (by omega)]; rfl
   ·unfold sJ
    simp only
    rw [aI (by omega)]; rfl) (at_,((N:Nat):Int),0,()) ((N:Int),E,A,at_,mv,0,()) ⟨at_,ha,rfl,rfl⟩
 refine ⟨l,hl,?_,?_⟩
 ·rw [ha,← e1]; exact h1
 ·rw [← e2]; exact h2
theorem Cs (h:Can N E o) (h3:3≤N):∃ (a b c:Int) (r:List Int),o=a :: b :: c :: r∧cW E (o.take 2) (o.take 2) ((o.take 3).drop 2)=some [a,c,b]:=by
 obtain ⟨w,c,c',hw,hc,hs,hc2,_⟩:=h.step (k:=2) (by omega) (by omega)
 obtain ⟨x,y,z,r,rfl⟩ : ∃ x y z r,o=x :: y :: z :: r:=by
  have:=h.len
  match o,this with
  | x :: y :: z :: r,_=>exact ⟨x,y,z,r,rfl⟩
  | [x,y],hl=>simp at hl; omega
  | [x],hl=>simp at hl; omega
  | [],hl=>simp at hl; omega
 refine ⟨x,y,z,r,rfl,?_⟩
 rw [hc2]
 simp at hw
 subst hw
 have hcc:c=[x,y]:=by simpa [cW] using hc.symm
 subst hcc
 obtain ⟨p,q,_,_,hpq,hq,ec,_⟩:=jT hs
 simp at hq
 have hp0:p=0:=by omega
 have hq1:q=1:=by omega
 subst hp0
 subst hq1
 rw [ec]
 rfl
theorem zB (h:Tri N E A) (ht:Zc (((N:Int),E,A,()),())=some (true,())) (hr:Zd (((N:Int),E,A,()),())=some (true,()))
  (hk:Zay (((N:Int),E,A,()),o,())=some (true,())) (hk2:Zab (((N:Int),E,A,()),o,())=some (true,())) (hC:Can N E o) (hN:N≤10) :
  ∃ l,l.length=N∧Zap (((N:Int),E,A,()),o,())=some (l,0,())∧Zv (((N:Int),E,A,()),o,())=some (l,0,()):=by
 have h3:=h.three
 have hm1:=h.rot.m1
 obtain ⟨a,b,c,r,rfl,hc3⟩:=Cs hC h3
 have g1:aL (a :: b :: c :: r) 1=some b:=rfl
 have g2:aL (a :: b :: c :: r) 2=some c:=rfl
 have g0:aL (a :: b :: c :: r) 0=some a:=rfl
 obtain ⟨b0,b1⟩:=hC.lt (u:=b) (by simp)
 obtain ⟨c0,c1⟩:=hC.lt (u:=c) (by simp)
 obtain ⟨bn,rfl⟩ : ∃ k:Nat,b=(k:Int):=⟨b.toNat,by omega⟩
 obtain ⟨cn,rfl⟩ : ∃ k:Nat,c=(k:Int):=⟨c.toNat,by omega⟩
 have hbn:bn < N:=by omega
 have hcn:cn < N:=by omega
 have eP:∀ {e:Ty},eV e (N:Int) (N:Int)=some (A6 N (az e)):=dL (A7 _) (by omega)
 obtain ⟨near0,hn0,k0⟩:=CH (N:=N) (E:=E) (A:=A) (by omega) (a :: (bn:Int) :: (cn:Int) :: r)
 obtain ⟨near,hn,k1⟩:=Cl h.rot (a :: (bn:Int) :: (cn:Int) :: r) near0 hn0
 let P0:List PtS:=A6 N (az (.prod I (.prod I .unit)))
 have hP0:P0.length=N:=by simp [P0]
 have q1:∃ z,P0[bn]?=some z:=⟨_,A2 (by omega)⟩
 obtain ⟨z1,q1⟩:=q1
 have q2:∃ z,(P0.set bn (2,0,()))[cn]?=some z:=⟨_,A2 (by rw [LF]; omega)⟩
 obtain ⟨z2,q2⟩:=q2
 let at0:List PtS:=(P0.set bn (2,0,())).set cn (1,1,())
 have hat0:at0.length=N:=by simp [at0,hP0]
 have hR:Id N E A (a :: (bn:Int) :: (cn:Int) :: r) near 0 (near,at0,d9 N,[a,(cn:Int),(bn:Int)],r,(r.length:Nat),0,()) ((N:Int),E,A,at0,d9 N,a :: (bn:Int) :: (cn:Int) :: r,4,()):=by
  refine ⟨at0,d9 N,[a,(cn:Int),(bn:Int)],rfl,rfl,hat0,⟨by simp [d9],fun w hw=>?_⟩,fun j v hj hv=>?_,hc3⟩
  ·rw [um hw]
   refine ⟨fun u hu=>?_,by simp⟩
   simp at hu
   omega
  ·have:=hC.ok j _ hv
   exact um (by omega)
 obtain ⟨x,y,x1,y1,at_,mv,hat,rfl,rfl⟩:=EN h hr hk2 hC hN near hn _ _ hR
 obtain ⟨l,l0,l1,l2⟩:=CG (N:=N) (E:=E) (A:=A) mv at_ hat (by omega)
 refine ⟨l,l0,?_,?_⟩
 ·unfold Zap
  simp only
  rw [ht,gr,hk,gr]
  simp only [LN,cond_false]
  rw [eP,gr]
  rw [show vm ((N:Int),E,A,A6 N (az (Ty.slice .bool)),a :: (bn:Int) :: (cn:Int) :: r,((A6 N (az (Ty.slice .bool))).length:Nat),0,())=_ from k0]
  simp only [gr,K7]
  rw [k1]
  simp only [gr,K7]
  rw [eP,gr,g1,gr,g2,gr]
  rw [show aQ (A6 N (az (Ty.prod I (.prod I .unit)))).length (bn:Int)=some bn from ao (by simpa using hbn),gr]
  rw [show (A6 N (az (Ty.prod I (.prod I .unit))))[bn]?=some z1 from q1,gr]
  rw [show aQ ((A6 N (az (Ty.prod I (.prod I .unit)))).set bn ((2,0,()):PtS)).length (cn:Int)=some cn from ao (by simpa using hcn),gr]
  rw [show ((A6 N (az (Ty.prod I (.prod I .unit)))).set bn ((2,0,()):PtS))[cn]?=some z2 from q2,gr]
  rw [eP,gr]
  rw [show qm (near,((A6 N (az (Ty.prod I (.prod I .unit)))).set bn ((2,0,()):PtS)).set cn ((1,1,()):PtS),A6 N (az (Ty.slice I)),a :: (bn:Int) :: (cn:Int) :: r,((A6 N (az (Ty.slice I))).length:Nat),0,())=_ from Ii near at0 (by omega) (a :: (bn:Int) :: (cn:Int) :: r)]
  simp only [gr,K7]
  rw [g0,gr,g2,gr,g1,gr]
  have s2:cF (a :: (bn:Int) :: (cn:Int) :: r) 3 ((a :: (bn:Int) :: (cn:Int) :: r).length:Nat)=some r:=by
   unfold cF
   rw [if_pos ⟨by omega,by simp; omega,by omega⟩,B8,MQ]
   rfl
  rw [s2,gr]
  rw [show uT (near,at0,d9 N,[a,(cn:Int),(bn:Int)],r,(r.length:Nat),0,())=_ from x1]
  simp only [gr,K7]
  rw [l1]
  rfl
 ·unfold Zv
  simp only
  rw [hr,gr,hk2,gr]
  simp only [LN,cond_false]
  rw [eP,gr,Ir _ (by omega) _]
  simp only [gr,K7]
  rw [g1,gr]
  rw [show aQ (A6 N (az (Ty.prod I (.prod I .unit)))).length (bn:Int)=some bn from ao (by simpa using hbn),gr]
  rw [show (A6 N (az (Ty.prod I (.prod I .unit))))[bn]?=some z1 from q1,gr,g2,gr]
  rw [show aQ ((A6 N (az (Ty.prod I (.prod I .unit)))).set bn ((2,0,()):PtS)).length (cn:Int)=some cn from ao (by simpa using hcn),gr]
  rw [show ((A6 N (az (Ty.prod I (.prod I .unit)))).set bn ((2,0,()):PtS))[cn]?=some z2 from q2,gr]
  rw [show AJ ((N:Int),E,A,((A6 N (az (Ty.prod I (.prod I .unit)))).set bn ((2,0,()):PtS)).set cn ((1,1,()):PtS),d9 N,a :: (bn:Int) :: (cn:Int) :: r,4,())=_ from y1]
  simp only [gr,K7]
  rw [l2]
  rfl
end
theorem yg (l:List PtS) (hl:l.length≤1000000):Zae (l,l,())=some (true,()):=by
 obtain ⟨r,h1,h2⟩:=lN (f:=vF) (fun s=>∃ i:Nat,s=(l,l,(i:Int),())∧i≤l.length) (fun s=>l.length - s.2.2.1.toNat) (fun r=>r=.inr (.inl ())) (by
  rintro s ⟨i,rfl,hi⟩
  unfold vF
  simp only
  by_cases h:i < l.length
  ·rw [aM (by omega),cond_true,aq,A2 h,gr,gr,kP rfl,kP rfl,bj (by omega)]
   exact .inl ⟨_,rfl,⟨i+1,rfl,h⟩,by show l.length - ((i+1:Nat):Int).toNat < l.length - (i:Int).toNat; omega⟩
  ·rw [aI (by omega)]
   exact .inr ⟨_,rfl,rfl⟩) (l,l,0,()) ⟨0,rfl,Mr _⟩
 unfold Zae
 simp only
 rw [fA rfl,cond_false,show Am (l,l,0,())=_ from h1,h2]
 rfl
theorem Hf (N:Int) (E:List Arc) (A:List (List Int)):∃ b,Zz ((N,E,A,()),())=some (b,())∧(b=true→N≤10):=by
 unfold Zz
 simp only
 by_cases h1:N≤10
 ·rw [jp h1,cond_false]
  by_cases h2:((E.length:Nat):Int)≤40
  ·rw [jp h2,cond_false]
   by_cases h3:((A.length:Nat):Int)≤10
   ·rw [jp h3,cond_false]
    have key:=mX (B:=xP) (fun (_:Unit) i=>(N,E,A,(i:Int),())) (fun _=>.inr (.inl ())) (fun (_:Unit)=>.inl (false,()))
     (fun _ (_:Unit) (l:List Int)=>some (cond (gtI (l.length:Nat) 80) (.inr ()) (.inl ()))) A (by
      intro _ i l hl
      have hi:i < A.length:=(A3.1 hl).1
      unfold xP
      simp only
      rw [aM (by omega),cond_true,aq,hl,gr,bj (by omega)]
      cases gtI (l.length:Nat) 80 <;> rfl) (by
      intro _
      unfold xP
      simp only
      rw [aI (by omega)]; rfl) ()
    rw [l6] at key
    rw [show ED (N,E,A,0,())=_ from key]
    cases A.any fun l=>gtI (l.length:Nat) 80 with
    | true=>exact ⟨false,rfl,fun h=>by cases h⟩
    | false=>exact ⟨true,rfl,fun _=>h1⟩
   ·rw [mm (by omega)]; exact ⟨false,rfl,fun h=>by cases h⟩
  ·rw [mm (by omega)]; exact ⟨false,rfl,fun h=>by cases h⟩
 ·rw [mm (by omega)]; exact ⟨false,rfl,fun h=>by cases h⟩
theorem xR (N:Int) (E:List Arc) (A:List (List Int)) (hl:∀ l∈A,l.length≤9223372036854775807) (hN:N≤10) (o:List Int) (ho:o.length≤20) :
  ∃ (l:List PtS) (e:Int),l.length≤1000000∧Zap ((N,E,A,()),o,())=some (l,e,())∧Zv ((N,E,A,()),o,())=some (l,e,()):=by
 obtain ⟨b,t1,t2,t3⟩:=DC N E A hl
 cases b with
 | false =>
  refine ⟨[],13,by simp,?_,?_⟩
  ·unfold Zap
   simp only
   rw [t1]; rfl
  ·unfold Zv
   simp only
   rw [t2]; rfl
 | true =>
  obtain ⟨c0,_⟩:=t3.1 rfl
  obtain ⟨e,c1,_,c3⟩:=Bo N E A hl
  rw [c0] at c1
  have he:e=0:=by
   have:=B4 c1
   exact (congrArg Prod.fst this).symm
  obtain ⟨n,rfl,hr,h3,hcn,hsimp,hpl⟩:=c3 he
  have hT:Tri n E A:=⟨hr,h3,hcn,hsimp,hpl⟩
  obtain ⟨b,k1,k2,k3⟩:=zA hT t1 t2 o ho
  cases b with
  | false =>
   refine ⟨[],1,by simp,?_,?_⟩
   ·unfold Zap
    simp only
    rw [t1,gr,k1]; rfl
   ·unfold Zv
    simp only
    rw [t2,gr,k2]; rfl
  | true =>
   obtain ⟨l,l0,l1,l2⟩:=zB hT t1 t2 k1 k2 (k3 rfl).1 (by omega)
   exact ⟨l,0,by omega,l1,l2⟩
theorem nc (N:Int) (E:List Arc) (A:List (List Int)) (hl:∀ l∈A,l.length≤9223372036854775807) (o:List Int):Zb ((N,E,A,()),o,())=some (true,()):=by
 have aw:Zac ()=some (true,()):=rfl
 unfold Zb
 simp only
 obtain ⟨b,b1,b2⟩:=Hf N E A
 rw [b1,gr]
 cases b with
 | false=>rw [aw]; rfl
 | true =>
  simp only [LN,cond_false]
  by_cases ho:o.length≤20
  ·rw [jp (by omega),cond_false]
   obtain ⟨l,e,l0,l1,l2⟩:=xR N E A hl (b2 rfl) o ho
   rw [l1,gr,l2,gr]
   simp only
   rw [yg l l0,gr,kP rfl,aw]
   rfl
  ·rw [mm (by omega),cond_true,aw]; rfl
theorem kQ (x:(aB (Zb_c.ins.map (·.2))).den) (h:wA Zb_c.ins x):Zb x=some (true,()):=by
 obtain ⟨⟨N,E,A,u1⟩,o,u2⟩:=x
 refine nc N E A (fun l hl=>?_) o
 have h1:Wf (.slice (.slice (.int .i64))) A:=h.1.2.2.1
 exact (h1.2 l hl).1
end Go.Vm


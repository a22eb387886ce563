/-
 Triangulated systems.
-/
import Derived.Test.YtgdkanecejfeiaaGreatDoorSKB
import Derived.Test.YtgdkanecejfeiaaGreatDoorSKA
open Option renaming bind_some→gr
open Option.some renaming injEq→A1,inj→B4
open List renaming getElem?_eq_getElem→A2,getElem?_eq_some_iff→A3,replicate→A6,mem_of_getElem?→B2,map_cons→Li,length_append→Lu,mem_cons_self→LL,mem_iff_getElem?→LM,getElem?_replicate→L3,any_eq_false→L4,any_eq_true→L9,length_singleton→ML,any_cons→O0
open Bool renaming and_eq_true→A4,not_true→LN,false_eq_true→LR,or_eq_true→LV
open Int renaming toNat_natCast→B8
open Sum renaming elim_inl→K7,elim→K8
open Nat renaming zero_add→Ln,mod_two_eq_zero_or_one→L6
set_option linter.unusedVariables false
set_option linter.unusedSimpArgs false
namespace Go.Vm
open Go.Proofs
set_option maxRecDepth 100000
attribute [local irreducible] aa
section
variable {N:Nat} {E:List Arc} {A:List (List Int)}
theorem Gd (h:RotOK (N:Nat) E A) {k v:Nat} (hk:k < 2 * E.length) (hv:tl E k=v):∃ a,E[k / 2]?=some a∧∃ w:Nat,hd E k=w∧w < N∧cQ .i64 (aC .i64 a.1 a.2.1) (v:Int)=(w:Int):=by
 have hke:k / 2 < E.length:=by omega
 obtain ⟨a,ha⟩ : ∃ a,E[k / 2]?=some a:=⟨_,A2 hke⟩
 obtain ⟨w,hw,hwN⟩:=h.hd_lt hk
 obtain ⟨v',hv',hvN⟩:=h.tl_lt hk
 have h16:N≤16384:=by have:=h.n1; omega
 have hvv:v=v':=by omega
 subst hvv
 refine ⟨a,ha,w,hw,hwN,?_⟩
 have e:a.1+a.2.1=(v:Int)+w:=by
  unfold hd at hw
  unfold tl at hv hw
  rw [ha] at hv
  rw [jV,ha,jx] at hw
  simp only at hv hw
  rcases L6 k with e | e
  ·rw [e] at hv hw
   simp at hv hw
   omega
  ·rw [e] at hv hw
   simp at hv hw
   omega
 rw [oQ (by omega) (by omega),kz (by omega) (by omega)]
 omega
theorem yl (h:RotOK (N:Nat) E A) (seen:List Bool) (q:List Int) (i v:Nat) (l:List Int) (hs:seen.length=N) (hst:q.length+unm seen≤100000) (hq:q[i]?=some (v:Int)) (hl:∀ d∈l,∃ k:Nat,d=(k:Int)∧k < 2 * E.length∧tl E k=v) (hll:l.length≤65536) :
  zJ ((N:Int),E,A,seen,q,(i:Int),l,(l.length:Nat),0,())=(ai (pY E) 0 (seen,q) l).bind (K8 (fun t=>some (.inl ((N:Int),E,A,t.1,t.2,(i:Int),()))) (fun e=>nomatch e)):=by
 refine (df (B:=sq) (fun _ s=>s.1.length=N∧s.2.length+unm s.1≤100000∧s.2[i]?=some (v:Int)) (fun s j=>((N:Int),E,A,s.1,s.2,(i:Int),l,((l.length:Nat):Int),(j:Int),())) (fun s=>.inl ((N:Int),E,A,s.1,s.2,(i:Int),())) (fun e=>nomatch e) (pY E) l ?_ ?_ ?_ (seen,q) ⟨hs,hst,hq⟩).trans ?_
 ·rintro ⟨seen,st⟩ j d ⟨hs,hst,hq⟩ hd'
  simp only at hs hst hq
  have hi:j < l.length:=(A3.1 hd').1
  have hiq:i < st.length:=(A3.1 hq).1
  have hm1:=h.m1
  obtain ⟨k,rfl,hk,hkv⟩:=hl d (B2 hd')
  obtain ⟨a,ha,w,hw,hwN,hsub⟩:=Gd h hk hkv
  simp only [sq]
  rw [aM (by omega),cond_true,aq,hd',gr,Ek (by omega),aq,ha,gr,ao hiq,gr,hq,gr,hsub]
  obtain ⟨b,hb⟩ : ∃ b,seen[w]?=some b:=⟨_,A2 (by omega)⟩
  rw [ao (by omega),gr,hb,gr,bj (by omega)]
  simp only [pY,B8,hw,hb]
  cases b with
  | true=>rfl
  | false =>
   have:=gH hb
   simp only [Bool.not_false,cond_true,gr,hb]
   rw [c9 (by simp only [ML]; omega)]
   rfl
 ·rintro ⟨seen,st⟩ j d t ⟨hs,hst,hq⟩ hd' hg
  simp only at hs hst hq
  simp only [pY] at hg
  cases hg
  split
  ·rename_i hb
   have:=gH hb
   have hiq:i < st.length:=(A3.1 hq).1
   exact ⟨by simpa using hs,by simp only [Lu,ML]; omega,by rw [List.getElem?_append_left hiq]; exact hq⟩
  ·exact ⟨hs,hst,hq⟩
 ·intro s hs
  simp only [sq]
  rw [aI (by omega)]; rfl
 ·cases ai (pY E) 0 (seen,q) l with
  | none=>rfl
  | some x=>cases x with
   | inl t=>rfl
   | inr e=>exact nomatch e
theorem zg (h:RotOK (N:Nat) E A) (hN0:0 < N) :
  ∃ q,Ej ((N:Int),E,A,(A6 N false).set 0 true,[0],0,())=some (.inl ((N:Int),E,A,q,()))∧(q.length=N↔vW N E):=by
 have h16:N≤16384:=by have:=h.n1; omega
 have hAl:A.length=N:=by have:=h.len; omega
 obtain ⟨r,h1,h2⟩:=lN (f:=wd) (fun s=>∃ seen q,∃ i:Nat,s=((N:Int),E,A,seen,q,(i:Int),())∧Look N E seen (q.drop i)∧q.length+unm seen=N∧i≤q.length)
  (fun s=>N - s.2.2.2.2.2.1.toNat) (fun r=>∃ q,r=.inl ((N:Int),E,A,q,())∧(q.length=N↔vW N E)) (by
   rintro _ ⟨seen,q,i,rfl,hL,hc',hiq⟩
   by_cases hi:i < q.length
   ·left
    have hdrop:q.drop i=q[i] :: q.drop (i+1):=List.drop_eq_getElem_cons hi
    obtain ⟨u,hu,huN,hus⟩:=hL.stk q[i] (by rw [hdrop]; exact LL)
    have hq:q[i]?=some (u:Int):=by rw [A2 hi,hu]
    obtain ⟨l,hl⟩ : ∃ l,A[u]?=some l:=⟨_,A2 (by omega)⟩
    have hlm:=B2 hl
    have hll:=h.list_len hlm
    have hm1:=h.m1
    have hu0:=pd seen
    rw [hL.len] at hu0
    obtain ⟨seen',new,q1,q2,q3,q4,q5,q6⟩:=lV (fun k hk=>h.hd_lt hk) l 0 seen q hL.len (fun d hd'=>h.mem_of hlm hd')
    refine ⟨((N:Int),E,A,seen',q++new,((i+1:Nat):Int),()),?_,⟨seen',q++new,i+1,rfl,?_,?_,by simp; omega⟩,?_⟩
    ·simp only [wd]
     rw [aM (by omega),cond_true,ao hi,gr,hq,gr,aq,hl,gr,
      yl h seen q i u l hL.len (by omega) hq (fun d hd'=>by obtain ⟨k,e1,e2,e3⟩:=h.dart u l hl d hd'; exact ⟨k,e1,e2,e3⟩) (by omega),q1]
     simp only [gr,K7]
     rw [bj (by omega)]
    ·rw [List.drop_append_of_le_length (by omega)]
     exact hL.step h huN (by rw [hdrop,hu]; exact LL) hl (q.drop (i+1)) (fun d=>by rw [hdrop,hu]; exact List.mem_cons) q2 q4 q5 q6
    ·simp only [Lu]; omega
    ·simp only [B8]; omega
   ·right
    refine ⟨.inl ((N:Int),E,A,q,()),?_,q,rfl,?_⟩
    ·simp only [wd]
     rw [aI (by omega)]; rfl
    ·have hd0:q.drop i=[]:=List.drop_eq_nil_of_le (by omega)
     rw [hd0] at hL
     rw [← hL.all h]
     have hz:unm seen=0↔∀ v,v < seen.length→seen[v]?=some true:=DH
     rw [hL.len] at hz
     rw [← hz]
     omega) ((N:Int),E,A,(A6 N false).set 0 true,[0],0,()) (by
   have hr0:(A6 N false)[0]?=some false:=by simp [L3,hN0]
   have hu:=gH hr0
   rw [Bv] at hu
   have hset:∀ v,((A6 N false).set 0 true)[v]?=some true→v=0:=by
    intro v hv
    rw [List.getElem?_set] at hv
    by_cases e:0=v
    ·exact e.symm
    ·rw [if_neg e,L3] at hv
     split at hv <;> simp at hv
   refine ⟨_,[0],0,rfl,⟨by simp,?_,?_,?_,?_⟩,by simp; omega,by simp⟩
   ·intro d hd'
    simp at hd'
    subst hd'
    exact ⟨0,rfl,hN0,by simp [hN0]⟩
   ·intro v hv hs hn
    have:=hset v hs
    subst this
    simp at hn
   ·intro v hv hs
    rw [hset v hs]; exact .refl 0
   ·simp [hN0])
 obtain ⟨q,rfl,h3⟩:=h2
 exact ⟨q,h1,h3⟩
theorem tg (h:RotOK (N:Nat) E A):∃ b,Zh (((N:Int),E,A,()),())=some (b,())∧(b=true↔0 < N∧vW N E):=by
 have h16:N≤16384:=by have:=h.n1; omega
 unfold Zh
 simp only
 by_cases h0:N=0
 ·subst h0
  exact ⟨false,by rw [kP (by rfl)]; rfl,by simp⟩
 ·obtain ⟨q,h1,h2⟩:=zg h (by omega)
  refine ⟨eqI (q.length:Nat) (N:Int),?_,?_⟩
  ·rw [iz (by omega),cond_false,dL (Nat.le_refl _) (by omega),gr]
   have e1:aQ (A6 N (az Ty.bool)).length 0=some 0:=by
    rw [List.length_replicate]; exact ao (i:=0) (by omega)
   have e2:(A6 N (az Ty.bool))[0]?=some (az Ty.bool):=by
    rw [L3,if_pos (by omega)]
   rw [e1,gr,e2,gr,show (A6 N (az Ty.bool)).set 0 true=(A6 N false).set 0 true from rfl,h1]
   rfl
  ·rw [← h2]
   unfold eqI
   simp
   omega
end
end Go.Vm

namespace Go.Vm
open Go.Proofs
set_option maxRecDepth 100000
attribute [local irreducible] aa
end Go.Vm

namespace Go.Vm
open Go.Proofs
set_option maxRecDepth 100000
attribute [local irreducible] aa
def jn (a b:Int) (x:Arc):Bool:=(eqI x.1 a && eqI x.2.1 b) || (eqI x.1 b && eqI x.2.1 a)
def ab (E:List Arc) (a b:Int):Bool:=E.any (jn a b)
theorem nq {α : Type} (p:Nat→α→Bool):∀ (l:List α) (i:Nat),(ai (fun i (_:Unit) a=>(some (cond (p i a) (.inr ()) (.inl ())):Option (Unit⊕Unit))) i () l=some (.inl ())∧∀ j a,l[j]?=some a→p (i+j) a=false) ∨
  (ai (fun i (_:Unit) a=>(some (cond (p i a) (.inr ()) (.inl ())):Option (Unit⊕Unit))) i () l=some (.inr ())∧∃ j a,l[j]?=some a∧p (i+j) a=true)
 | [],i=>.inl ⟨rfl,by simp⟩
 | a :: l,i=>by
  simp only [ai,gr]
  cases h:p i a with
  | true=>exact .inr ⟨rfl,0,a,rfl,h⟩
  | false =>
   simp only [cond_false,K7]
   rcases nq p l (i+1) with ⟨h1,h2⟩ | ⟨h1,j,b,h2,h3⟩
   ·refine .inl ⟨h1,fun j b hb=>?_⟩
    cases j with
    | zero=>simp at hb; subst hb; exact h
    | succ j=>have:=h2 j b (by simpa using hb); rwa [show i+(j+1)=i+1+j by omega]
   ·exact .inr ⟨h1,j+1,b,by simpa using h2,by rwa [show i+(j+1)=i+1+j by omega]⟩
theorem l6 {α : Type} (p : α→Bool) (l:List α):ai (fun _ (_:Unit) a=>(some (cond (p a) (.inr ()) (.inl ())):Option (Unit⊕Unit))) 0 () l=some (cond (l.any p) (.inr ()) (.inl ())):=by
 rcases nq (fun _=>p) l 0 with ⟨h1,h2⟩ | ⟨h1,j,a,h2,h3⟩
 ·rw [h1]
  have:l.any p=false:=by
   rw [L4]
   intro a ha
   obtain ⟨j,hj⟩:=LM.1 ha
   rw [h2 j a hj]; simp
  rw [this]; rfl
 ·rw [h1]
  have:l.any p=true:=L9.2 ⟨a,B2 h2,h3⟩
  rw [this]; rfl
theorem zo (N:Int) (E:List Arc) (A:List (List Int)) (a b:Int) (hE:E.length≤1000000):Zp ((N,E,A,()),a,b,())=some (ab E a b,()):=by
 have h:=mX (B:=xX) (fun (_:Unit) i=>(N,E,A,a,b,(i:Int),())) (fun _=>.inr (.inl ())) (fun (_:Unit)=>.inl (true,()))
  (fun _ (_:Unit) (x:Arc)=>some (cond (jn a b x) (.inr ()) (.inl ()))) E (by
   intro _ i x hx
   have hi:i < E.length:=(A3.1 hx).1
   unfold xX
   simp only
   rw [aM (by omega),cond_true,aq,hx,gr,bj (by omega)]
   unfold jn
   cases eqI x.1 a <;> cases eqI x.2.1 b <;> cases eqI x.1 b <;> cases eqI x.2.1 a <;> rfl) (by
   intro _
   unfold xX
   simp only
   rw [aI (by omega)]; rfl) ()
 unfold Zp DR
 dsimp only
 rw [show ((0:Int))=((0:Nat):Int) from rfl,h,l6]
 unfold ab
 cases E.any (jn a b) <;> rfl
def Ik (E:List Arc):Prop:=∀ (i:Nat) (b:Arc),E[i]?=some b→ab (E.take i) b.1 b.2.1=false
theorem GC (x y:Arc):eqK (.prod I (.prod I .unit)) x y=(eqI x.1 y.1 && (eqI x.2.1 y.2.1 && true)):=rfl
def nrm (x:Arc):Arc:=(kr x.1 x.2.1,maxI x.1 x.2.1,())
theorem G4 (a b c d:Int):(eqI (kr a b) (kr c d) && eqI (maxI a b) (maxI c d))=((eqI c a && eqI d b) || (eqI c b && eqI d a)):=by
 have key:(kr a b=kr c d∧maxI a b=maxI c d)↔((c=a∧d=b)∨(c=b∧d=a)):=by
  unfold kr maxI
  constructor
  ·rintro ⟨h1,h2⟩
   split at h1 <;> split at h1 <;> split at h2 <;> split at h2 <;> omega
  ·rintro (⟨rfl,rfl⟩ | ⟨rfl,rfl⟩)
   ·exact ⟨rfl,rfl⟩
   ·constructor
    ·split <;> split <;> omega
    ·split <;> split <;> omega
 rw [Bool.eq_iff_iff]
 simp only [A4,LV,eqI,beq_iff_eq,decide_eq_true_eq]
 exact key
theorem Ft (x y:Arc):eqK (.prod I (.prod I .unit)) (nrm x) (nrm y)=jn x.1 x.2.1 y:=by
 rw [GC,Bool.and_true]
 exact G4 x.1 x.2.1 y.1 y.2.1
theorem BE (x:Arc):∀ s:List Arc,dm (.prod I (.prod I .unit)) .bool (nrm x) (s.map fun y=>(nrm y,true))=cond (s.any (jn x.1 x.2.1)) (some true) none
 | []=>rfl
 | y :: s=>by
  simp only [Li,dm,O0]
  rw [BE x s,Ft]
  cases jn x.1 x.2.1 y <;> rfl
theorem BY (x:Arc):∀ s:List Arc,s.any (jn x.1 x.2.1)=false→gF (.prod I (.prod I .unit)) .bool (nrm x) true (s.map fun y=>(nrm y,true))=(s++[x]).map fun y=>(nrm y,true)
 | [],_=>rfl
 | y :: s,h=>by
  simp only [O0,Bool.or_eq_false_iff] at h
  simp only [Li,gF,List.cons_append]
  rw [Ft,h.1,cond_false,BY x s h.2]
theorem CD (N:Int) (E:List Arc) (A:List (List Int)) (hE:E.length≤1000000):∃ b,Zo ((N,E,A,()),())=some (b,())∧Zn ((N,E,A,()),())=some (b,())∧(b=true↔Ik E):=by
 have h:=mX (B:=xu) (fun (_:Unit) i=>(N,E,A,(i:Int),())) (fun _=>.inr (.inl ())) (fun (_:Unit)=>.inl (false,()))
  (fun i (_:Unit) (x:Arc)=>some (cond (ab (E.take i) x.1 x.2.1) (.inr ()) (.inl ()))) E (by
   intro _ i x hx
   have hi:i < E.length:=(A3.1 hx).1
   have hs:cF E 0 (i:Int)=some (E.take i):=by
    unfold cF
    rw [if_pos ⟨by omega,by omega,by omega⟩]
    simp
   unfold xu
   simp only
   rw [aM (by omega),cond_true,hs,gr,aq,hx,gr,gr,zo _ _ _ _ _ (by simp; omega),gr,bj (by omega)]
   simp only [gr]
   cases ab (E.take i) x.1 x.2.1 <;> rfl) (by
   intro _
   unfold xu
   simp only
   rw [aI (by omega)]; rfl) ()
 have k:=df (B:=tT) (fun i (m:List (Arc×Bool))=>m=(E.take i).map fun y=>(nrm y,true)) (fun m i=>(m,E,((E.length:Nat):Int),(i:Int),())) (fun _=>.inr (.inl ())) (fun (_:Unit)=>.inl (false,()))
  (fun i m (x:Arc)=>some (cond (ab (E.take i) x.1 x.2.1) (.inr ()) (.inl (m++[(nrm x,true)])))) E (by
   intro m i x hm hx
   have hi:i < E.length:=(A3.1 hx).1
   unfold tT
   simp only
   rw [aM (by omega),cond_true,aq,hx,gr,bj (by omega),hm]
   have e1:dm (.prod I (.prod I .unit)) .bool (kr x.1 x.2.1,maxI x.1 x.2.1,()) ((E.take i).map fun y=>(nrm y,true))=_:=BE x (E.take i)
   rw [e1]
   unfold ab
   cases hb:(E.take i).any (jn x.1 x.2.1) with
   | true=>rfl
   | false =>
    have e2:gF (.prod I (.prod I .unit)) .bool (kr x.1 x.2.1,maxI x.1 x.2.1,()) true ((E.take i).map fun y=>(nrm y,true))=_:=BY x (E.take i) hb
    simp only [cond_false,Option.getD_none]
    rw [e2]
    simp
    rfl) (by
   intro m i x t hm hx ht
   cases hb:ab (E.take i) x.1 x.2.1 with
   | true=>rw [hb] at ht; cases ht
   | false =>
    rw [hb] at ht
    simp only [cond_false,A1,Sum.inl.injEq] at ht
    subst ht
    rw [hm,List.take_add_one,hx]
    simp) (by
   intro m _
   unfold tT
   simp only
   rw [aI (by omega)]; rfl) [] (by simp)
 have two:∀ (l:List Arc) (i:Nat) (m:List (Arc×Bool)),(ai (fun i m (x:Arc)=>(some (cond (ab (E.take i) x.1 x.2.1) (.inr ()) (.inl (m++[(nrm x,true)]))):Option (List (Arc×Bool)⊕Unit))) i m l).map (K8 (fun _=>true) fun _=>false) =
   (ai (fun i (_:Unit) (x:Arc)=>(some (cond (ab (E.take i) x.1 x.2.1) (.inr ()) (.inl ())):Option (Unit⊕Unit))) i () l).map (K8 (fun _=>true) fun _=>false):=by
  intro l
  induction l with
  | nil=>intro i m; rfl
  | cons x l ih =>
   intro i m
   simp only [ai,gr]
   cases ab (E.take i) x.1 x.2.1 with
   | true=>rfl
   | false=>simp only [cond_false,K7]; exact ih (i+1) _
 have t2:=two E 0 []
 unfold Zo Do Zn D7
 dsimp only
 rw [show ((0:Int))=((0:Nat):Int) from rfl,h,show aa tT ([],E,((E.length:Nat):Int),((0:Nat):Int),())=_ from k]
 rcases nq (fun i (x:Arc)=>ab (E.take i) x.1 x.2.1) E 0 with ⟨h1,h2⟩ | ⟨h1,j,a,h2,h3⟩
 ·rw [h1] at t2 ⊢
  refine ⟨true,?_,rfl,by simp only [true_iff]; intro i b hb; have:=h2 i b hb; rwa [Ln] at this⟩
  cases hq:ai (fun i m (x:Arc)=>(some (cond (ab (E.take i) x.1 x.2.1) (.inr ()) (.inl (m++[(nrm x,true)]))):Option (List (Arc×Bool)⊕Unit))) 0 [] E with
  | none=>rw [hq] at t2; cases t2
  | some r=>cases r with
   | inl _=>rfl
   | inr _=>rw [hq] at t2; simp at t2
 ·rw [h1] at t2 ⊢
  refine ⟨false,?_,rfl,?_⟩
  ·cases hq:ai (fun i m (x:Arc)=>(some (cond (ab (E.take i) x.1 x.2.1) (.inr ()) (.inl (m++[(nrm x,true)]))):Option (List (Arc×Bool)⊕Unit))) 0 [] E with
   | none=>rw [hq] at t2; cases t2
   | some r=>cases r with
    | inl _=>rw [hq] at t2; simp at t2
    | inr _=>rfl
  ·simp only [LR,false_iff]
   intro hs
   have:=hs j a h2
   rw [Ln] at h3
   rw [h3] at this; cases this
theorem Bo (N:Int) (E:List Arc) (A:List (List Int)) (hl:∀ l∈A,l.length≤9223372036854775807):∃ e,Zaa ((N,E,A,()),())=some (e,())∧Zw ((N,E,A,()),())=some (e,()) ∧
  (e=0→∃ n:Nat,N=(n:Int)∧RotOK (n:Int) E A∧3≤n∧vW n E∧Ik E∧∀ nx,Fol oth E A nx→C8 n E A (aN nx).length=0):=by
 unfold Zaa Zw
 simp only
 rw [kC (N,E,A,()) hl,gr]
 cases hv:validB (N,E,A,()) with
 | false =>
  refine ⟨13,rfl,?_,by simp⟩
  have:Zu ((N,E,A,()),())=some (-1,()):=by
   unfold Zu
   simp only
   rw [i8 (N,E,A,()) hl,hv,gr]
   rfl
  rw [this]
  rfl
 | true =>
  have h:=FO hv
  obtain ⟨n,rfl⟩ : ∃ n:Nat,N=(n:Int):=⟨N.toNat,(Int.toNat_of_nonneg h.n0).symm⟩
  obtain ⟨nx,_,hn⟩:=lY h ()
  have hm1:=h.m1
  simp only [LN,cond_false]
  rw [(tK h hn).1,(tK h hn).2]
  simp only [gr]
  cases hg:neI (C8 n E A (aN nx).length) 0 with
  | true=>exact ⟨13,rfl,rfl,by simp⟩
  | false =>
   have hg0:C8 n E A (aN nx).length=0:=by simpa [neI] using hg
   simp only [cond_false]
   obtain ⟨b,b1,b2⟩:=tg h
   obtain ⟨c,c1,c2,c3⟩:=ug h
   rw [b1,c1]
   simp only [gr]
   by_cases hc:0 < n∧vW n E
   ·have hb:b=true:=b2.2 hc
    have hc1:c=1:=(c3 hc.1).2 hc.2
    subst hb
    subst hc1
    rw [fA (by rfl)]
    simp only [LN,cond_false]
    obtain ⟨s,s1,s2,s3⟩:=CD (n:Int) E A (by omega)
    rw [s1,s2]
    simp only [gr]
    cases s with
    | false=>exact ⟨6,rfl,rfl,by simp⟩
    | true =>
     simp only [LN,cond_false]
     by_cases h3:n < 3
     ·rw [aM (by omega)]; exact ⟨1,rfl,rfl,by simp⟩
     ·rw [aI (by omega)]
      exact ⟨0,rfl,rfl,fun _=>⟨n,rfl,h,by omega,hc.2,s3.1 rfl,fun mx hmx=>by rw [sO h hn hmx]; exact hg0⟩⟩
   ·have hb:b=false:=by
     cases hbb:b with
     | false=>rfl
     | true=>exact absurd (b2.1 hbb) hc
    subst hb
    refine ⟨12,rfl,?_,by simp⟩
    rw [ik (by
     intro e
     have e1:c=1:=by omega
     by_cases h0:0 < n
     ·exact hc ⟨h0,(c3 h0).1 e1⟩
     ·omega)]
    rfl
end Go.Vm

namespace Go.Vm
open Go.Proofs
set_option maxRecDepth 100000
attribute [local irreducible] aa
section
variable {N:Nat} {E:List Arc} {A:List (List Int)} {nx:List Int}
theorem DC (N:Int) (E:List Arc) (A:List (List Int)) (hl:∀ l∈A,l.length≤9223372036854775807):∃ b,Zc ((N,E,A,()),())=some (b,())∧Zd ((N,E,A,()),())=some (b,()) ∧
  (b=true↔Zaa ((N,E,A,()),())=some (0,())∧∀ nx,Fol oth E A nx→∀ f∈aN nx,f.length=3):=by
 obtain ⟨e,c1,c2,c3⟩:=Bo N E A hl
 unfold Zc Zd
 simp only
 rw [c1,c2,gr,gr]
 simp only
 by_cases he:e=0
 ·subst he
  obtain ⟨n,rfl,h,_⟩:=c3 rfl
  obtain ⟨nx,_,hn⟩:=lY h ()
  have hnum:=(sC h hn).1.num
  have hm1:=h.m1
  rw [fA rfl,cond_false,cond_false,(oN h hn).1,(oN h hn).2,gr,gr]
  simp only
  have k1:=mX (B:=xh) (fun (_:Unit) i=>(aN nx,(((aN nx).length:Nat):Int),(i:Int),())) (fun _=>.inr (.inl ())) (fun (_:Unit)=>.inl (false,()))
   (fun _ (_:Unit) (f:List Int)=>some (cond (neI (f.length:Nat) 3) (.inr ()) (.inl ()))) (aN nx) (by
    intro _ i f hf
    have hi:i < (aN nx).length:=(A3.1 hf).1
    unfold xh
    simp only
    rw [aM (by omega),cond_true,ao hi,gr,hf,gr,bj (by omega)]
    cases neI (f.length:Nat) 3 <;> rfl) (by
    intro _
    unfold xh
    simp only
    rw [aI (by omega)]; rfl) ()
  have k2:=mX (B:=xL) (fun (_:Unit) i=>(aN nx,(i:Int),())) (fun _=>.inr (.inl ())) (fun (_:Unit)=>.inl (false,()))
   (fun _ (_:Unit) (f:List Int)=>some (cond (neI (f.length:Nat) 3) (.inr ()) (.inl ()))) (aN nx) (by
    intro _ i f hf
    have hi:i < (aN nx).length:=(A3.1 hf).1
    unfold xL
    simp only
    rw [aM (by omega),cond_true,ao hi,gr,hf,gr,bj (by omega)]
    cases neI (f.length:Nat) 3 <;> rfl) (by
    intro _
    unfold xL
    simp only
    rw [aI (by omega)]; rfl) ()
  rw [l6] at k1 k2
  rw [show Fm (aN nx,((aN nx).length:Nat),0,())=_ from k1,show EJ (aN nx,0,())=_ from k2]
  cases ha:(aN nx).any fun f=>neI (f.length:Nat) 3 with
  | true =>
   refine ⟨false,rfl,rfl,?_⟩
   simp only [LR,false_iff]
   rintro ⟨_,h2⟩
   obtain ⟨f,hf,hb⟩:=L9.1 ha
   have:=h2 nx hn f hf
   rw [fA (by omega)] at hb; cases hb
  | false =>
   refine ⟨true,rfl,rfl,?_⟩
   simp only [true_iff]
   refine ⟨trivial,fun mx hmx f hf=>?_⟩
   rw [sO h hn hmx] at hf
   rw [L4] at ha
   have:=ha f hf
   simp [neI] at this
   omega
 ·rw [ik he]
  refine ⟨false,rfl,rfl,?_⟩
  simp only [LR,false_iff]
  rintro ⟨h1,_⟩
  have:=B4 h1
  exact he (by simpa using this)
end
end Go.Vm

namespace Go.Vm
open Go.Proofs
set_option maxRecDepth 100000
attribute [local irreducible] aa
section
variable {N:Nat} {E:List Arc} {A:List (List Int)} {nx fw:List Int}
def tln (E:List Arc) (k:Nat):Nat:=(tl E k).toNat
theorem oO (h:RotOK (N:Nat) E A) {k:Nat} (hk:k < 2 * E.length):tl E k=(tln E k:Int)∧tln E k < N:=by
 obtain ⟨v,e,hv⟩:=h.tl_lt hk
 unfold tln
 rw [e]
 exact ⟨rfl,hv⟩
theorem yK {d x:Nat} (h:d / 2=x / 2):d=x∨d=oth x:=by
 unfold oth
 split <;> omega
theorem yw (h:RotOK (N:Nat) E A) {u v:Nat} (hj:ab E (u:Int) (v:Int)=true):∃ x,x < 2 * E.length∧tln E x=u∧tln E (oth x)=v:=by
 unfold ab at hj
 obtain ⟨a,ha,hb⟩:=L9.1 hj
 obtain ⟨i,hi⟩:=LM.1 ha
 have hlt:=(A3.1 hi).1
 have t0:tl E (2 * i)=a.1:=by
  unfold tl
  rw [show 2 * i / 2=i by omega,hi]
  simp only
  rw [if_pos (by omega)]
 have t1:tl E (2 * i+1)=a.2.1:=by
  unfold tl
  rw [show (2 * i+1) / 2=i by omega,hi]
  simp only
  rw [if_neg (by omega)]
 unfold jn at hb
 simp only [LV,A4,eqI,beq_iff_eq] at hb
 rcases hb with ⟨e1,e2⟩ | ⟨e1,e2⟩
 ·refine ⟨2 * i,by omega,?_,?_⟩
  ·unfold tln; rw [t0,e1]; rfl
  ·unfold tln; rw [KC,t1,e2]; rfl
 ·refine ⟨2 * i+1,by omega,?_,?_⟩
  ·unfold tln; rw [t1,e2]; rfl
  ·unfold tln; rw [Jn,t0,e1]; rfl
structure Tri (N:Nat) (E:List Arc) (A:List (List Int)):Prop where
 rot:RotOK (N:Nat) E A
 three:3≤N
 conn:vW N E
 simp:Ik E
 plane:∀ nx,Fol oth E A nx→C8 N E A (aN nx).length=0
theorem Dm (h:RotOK (N:Nat) E A) {k:Nat} (hk:k < 2 * E.length):tln E k≠tln E (oth k):=by
 have hke:k / 2 < E.length:=by omega
 obtain ⟨a1,_,a3,_,a5⟩:=h.edge E[k / 2] (List.getElem_mem hke)
 have g:=A2 hke
 unfold tln tl
 rw [jV,g,jx]
 simp only
 rcases L6 k with e | e
 ·rw [e]; simp; omega
 ·rw [e]; simp; omega
theorem oj {x:Nat} {a:Arc} (ha:E[x / 2]?=some a):(tl E x=a.1∧tl E (oth x)=a.2.1)∨(tl E x=a.2.1∧tl E (oth x)=a.1):=by
 unfold tl
 rw [jV,ha,jx]
 simp only
 rcases L6 x with e | e
 ·rw [e]; simp
 ·rw [e]; simp
theorem Tri.sdart (h:Tri N E A) {x y:Nat} (hx:x < 2 * E.length) (hy:y < 2 * E.length) (e1:tln E x=tln E y) (e2:tln E (oth x)=tln E (oth y)):x=y:=by
 have key:∀ x y:Nat,x < 2 * E.length→y < 2 * E.length→tln E x=tln E y→tln E (oth x)=tln E (oth y)→¬ x / 2 < y / 2:=by
  intro x y hx hy e1 e2 hlt
  have gx:=A2 (l:=E) (i:=x / 2) (by omega)
  have gy:=A2 (l:=E) (i:=y / 2) (by omega)
  have hs:=h.simp (y / 2) _ gy
  unfold ab at hs
  rw [L4] at hs
  have hm:E[x / 2]∈E.take (y / 2):=B2 (i:=x / 2) (by rw [List.getElem?_take,if_pos hlt]; exact gx)
  have:=hs _ hm
  have f1:tl E x=tl E y:=by rw [(oO h.rot hx).1,(oO h.rot hy).1,e1]
  have f2:tl E (oth x)=tl E (oth y):=by rw [(oO h.rot (ee hx)).1,(oO h.rot (ee hy)).1,e2]
  refine this ?_
  unfold jn
  simp only [LV,A4,eqI,beq_iff_eq]
  rcases oj gx with ⟨p1,p2⟩ | ⟨p1,p2⟩ <;> rcases oj gy with ⟨q1,q2⟩ | ⟨q1,q2⟩
  ·exact .inl ⟨by rw [← p1,← q1,f1],by rw [← p2,← q2,f2]⟩
  ·exact .inr ⟨by rw [← p1,← q1,f1],by rw [← p2,← q2,f2]⟩
  ·exact .inr ⟨by rw [← p2,← q2,f2],by rw [← p1,← q1,f1]⟩
  ·exact .inl ⟨by rw [← p2,← q2,f2],by rw [← p1,← q1,f1]⟩
 have n1:=key x y hx hy e1 e2
 have n2:=key y x hy hx e1.symm e2.symm
 rcases yK (show x / 2=y / 2 by omega) with e | e
 ·exact e
 ·exfalso
  rw [e] at e1
  exact Dm h.rot hy e1.symm
end
end Go.Vm


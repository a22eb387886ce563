/-
 Straighten, in the program and in the reference; the law DissectStraightens on values.
-/
import Derived.Test.YtnnbdielbgljaaaDoorL41D
set_option linter.unusedVariables false
set_option linter.unusedSimpArgs false
namespace Go.Vm
open Go.Proofs
set_option maxRecDepth 100000
attribute [local irreducible] loopFix
theorem par_get {B : List ByteArray} : ∀ {Es : List Arc} {e m i : Nat},i < Es.length→∃ mi,(paR B e Es m)[i]?=some (oneL mi (bs B (e+i)))∧(fiR B e Es m)[2 * i]?=some ((2 * mi : Nat) : Int)∧(fiR B e Es m)[2 * i+1]?=some ((2 * (mi+bs B (e+i))+1 : Nat) : Int)∧mi+bs B (e+i) < mR B e Es m
 | [],_,_,i,h=>by simp at h
 | a :: Es,e,m,0,h=>⟨m,rfl,rfl,rfl,by have:=mR_ge (B:=B) (Es:=Es) (e:=e+1) (m:=m+bs B e+1); show m+bs B e < mR B (e+1) Es (m+bs B e+1); omega⟩
 | a :: Es,e,m,i+1,h=>by
  obtain ⟨mi,h1,h2,h3,h4⟩:=par_get (B:=B) (Es:=Es) (e:=e+1) (m:=m+bs B e+1) (i:=i) (by simpa using h)
  rw [show e+1+i=e+(i+1) by omega] at h1 h3 h4
  exact ⟨mi,h1,h2,h3,h4⟩
theorem fiR_len {B : List ByteArray} : ∀ {Es : List Arc} {e m : Nat},(fiR B e Es m).length=2 * Es.length
 | [],_,_=>rfl
 | a :: Es,e,m=>by simp [fiR,fiR_len]; omega
theorem anR_len {g : List Int} {B : List ByteArray} : ∀ {Es : List Arc} {e m : Nat},(anR g B e Es).length+2 * m=2 * mR B e Es m
 | [],_,_=>by simp [anR,mR]
 | a :: Es,e,m=>by
  have:=anR_len (g:=g) (B:=B) (Es:=Es) (e:=e+1) (m:=m+bs B e+1)
  have hbl : (bytesOf (at0 B (2 * e))).length=bs B e:=bytesOf_length _
  simp only [anR,mR,List.length_append,List.length_cons,List.length_nil,angM_len,hbl]
  omega
def plc (B : List ByteArray) (E : List Arc) (d : Int) : Int:=(fiR B 0 E 0).getD d.toNat 0
theorem place_eq {B : List ByteArray} {E : List Arc} (hB : BendsOK B E.length) {d : Nat} (hd : d < 2 * E.length) : Zf ((d : Int),paR B 0 E 0,())=some (plc B E (d : Int),()):=by
 have hM:=hB.m
 obtain ⟨mi,h1,h2,h3,h4⟩:=par_get (B:=B) (Es:=E) (e:=0) (m:=0) (i:=d / 2) (by omega)
 have hle:=mR_le hB (Es:=E) (e:=0) (m:=0) (by omega)
 simp only [Nat.zero_add] at h1 h3 h4
 unfold Zf
 simp only
 rw [rem2,quo2 (by omega)]
 unfold plc
 rw [Int.toNat_natCast,List.getD_eq_getElem?_getD]
 by_cases h : d % 2=0
 ·rw [eqI_t (by omega),cond_true,getI_of,h1,Option.bind_some,show ((0 : Int))=((0 : Nat) : Int) from rfl,getI_of,oneL_get (Nat.zero_le _),Option.bind_some]
  rw [show d=2 * (d / 2) by omega,h2]; rfl
 ·rw [eqI_f (by omega),cond_false,getI_of,h1,Option.bind_some,Option.bind_some,oneL_len,sub1 (by omega),show (((bs B (d / 2)+1 : Nat) : Int)) - 1=((bs B (d / 2) : Nat) : Int) by omega,getI_of,oneL_get (Nat.le_refl _),Option.bind_some,add1 (by omega)]
  rw [show (fiR B 0 E 0)[d]?=(fiR B 0 E 0)[2 * (d / 2)+1]? from congrArg (fun i=>(fiR B 0 E 0)[i]?) (by omega),h3]; rfl
theorem first_get {B : List ByteArray} {E : List Arc} {d : Nat} (hd : d < 2 * E.length) : (fiR B 0 E 0)[d]?=some (plc B E (d : Int)):=by
 unfold plc
 rw [Int.toNat_natCast,List.getD_eq_getElem?_getD,List.getElem?_eq_getElem (by rw [fiR_len]; exact hd)]; rfl
theorem pl_inner (N : Int) (E : List Arc) (A A' : List (List Int)) (g : List Int) (B : List ByteArray) (o x7 x8 x9 x10 len idx : Int) (fr Ar : List (List Int)) (F : List Arc) (an : List Int) (hB : BendsOK B E.length) (l : List Int) (hl : l.length≤1000000) :
  ∀ (q p acc : List Int),p++q=l→acc.length+q.length≤1000000→(∀ d∈q,∃ k : Nat,d=(k : Int)∧k < 2 * E.length) →
   Zo_L31 (N,E,A,g,B,o,x7,x8,x9,x10,fr,acc,F,Ar,an,paR B 0 E 0,A',len,idx,l,(l.length : Nat),(p.length : Nat),()) =
    some (.inl (N,E,A,g,B,o,x7,x8,x9,x10,fr,acc++q.map (plc B E),F,Ar,an,paR B 0 E 0,A',len,idx,()))
 | [],p,acc,h,_,_=>by
  subst h
  refine loop_done ?_
  unfold Zo_B31
  simp only
  rw [ltI_f (by simp),cond_false]
  simp
 | d :: q,p,acc,h,ha,hq=>by
  obtain ⟨k,rfl,hk⟩:=hq d (by simp)
  have hx : l[p.length]?=some (k : Int):=by rw [← h,List.getElem?_append_right (Nat.le_refl _),Nat.sub_self]; rfl
  have hp : p.length < l.length:=(List.getElem?_eq_some_iff.1 hx).1
  simp only [List.length_cons] at ha
  have ih:=pl_inner N E A A' g B o x7 x8 x9 x10 len idx fr Ar F an hB l hl q (p++[(k : Int)]) (acc++[plc B E (k : Int)]) (by simpa using h) (by simp; omega) (fun d hd=>hq d (by simp [hd]))
  refine (loop_step (t:=(N,E,A,g,B,o,x7,x8,x9,x10,fr,acc++[plc B E (k : Int)],F,Ar,an,paR B 0 E 0,A',len,idx,l,((l.length : Nat) : Int),(((p++[(k : Int)]).length : Nat) : Int),())) ?_).trans (Eq.trans ih ?_)
  ·unfold Zo_B31
   simp only
   rw [ltI_t (by omega),cond_true,getI_of,hx,Option.bind_some,place_eq hB hk,Option.bind_some,app_of (by simp; omega),Option.bind_some,add1 (by omega)]
   simp
  ·simp
theorem rpl_inner (N : Int) (E : List Arc) (A : List (List Int)) (g : List Int) (B : List ByteArray) (o x7 x8 x9 x10 : Int) (parts ad Ar : List (List Int)) (F : List Arc) (an : List Int) (v : Nat) (l : List Int) (hv : A[v]?=some l) (hl : l.length≤1000000) :
  ∀ (q p acc : List Int),p++q=l→acc.length+q.length≤1000000→(∀ d∈q,∃ k : Nat,d=(k : Int)∧k < 2 * E.length) →
   Zd_L43 (N,E,A,g,B,o,x7,x8,x9,x10,parts,fiR B 0 E 0,ad,acc,F,Ar,an,(v : Int),(p.length : Nat),()) =
    some (.inl (N,E,A,g,B,o,x7,x8,x9,x10,parts,fiR B 0 E 0,ad,acc++q.map (plc B E),F,Ar,an,(v : Int),()))
 | [],p,acc,h,_,_=>by
  subst h
  refine loop_done ?_
  unfold Zd_B43
  simp only
  rw [getI_of,hv,Option.bind_some,ltI_f (by simp),cond_false]
  simp
 | d :: q,p,acc,h,ha,hq=>by
  obtain ⟨k,rfl,hk⟩:=hq d (by simp)
  have hx : l[p.length]?=some (k : Int):=by rw [← h,List.getElem?_append_right (Nat.le_refl _),Nat.sub_self]; rfl
  have hp : p.length < l.length:=(List.getElem?_eq_some_iff.1 hx).1
  simp only [List.length_cons] at ha
  have ih:=rpl_inner N E A g B o x7 x8 x9 x10 parts ad Ar F an v l hv hl q (p++[(k : Int)]) (acc++[plc B E (k : Int)]) (by simpa using h) (by simp; omega) (fun d hd=>hq d (by simp [hd]))
  refine (loop_step (t:=(N,E,A,g,B,o,x7,x8,x9,x10,parts,fiR B 0 E 0,ad,acc++[plc B E (k : Int)],F,Ar,an,(v : Int),(((p++[(k : Int)]).length : Nat) : Int),())) ?_).trans (Eq.trans ih ?_)
  ·unfold Zd_B43
   simp only
   rw [getI_of,hv,Option.bind_some,ltI_t (by omega),cond_true,Option.bind_some,getI_of,hx,Option.bind_some,idxI_of (by rw [fiR_len]; exact hk),Option.bind_some,first_get hk,Option.bind_some,app_of (by simp; omega),Option.bind_some,add1 (by omega)]
   simp
  ·simp
def plA (B : List ByteArray) (E : List Arc) (A : List (List Int)) : List (List Int):=A.map fun l=>l.map (plc B E)
theorem pl_outer (N : Int) (E : List Arc) (A : List (List Int)) (g : List Int) (B : List ByteArray) (o x7 x8 x9 x10 : Int) (fr : List (List Int)) (F : List Arc) (an : List Int) (hB : BendsOK B E.length) (hA : A.length≤1000000) (hll : ∀ l∈A,l.length≤1000000) (hd : ∀ l∈A,∀ d∈l,∃ k : Nat,d=(k : Int)∧k < 2 * E.length) :
  ∀ (Q P acc : List (List Int)),P++Q=A→acc.length+Q.length≤1000000 →
  Zo_L27 (N,E,A,g,B,o,x7,x8,x9,x10,fr,F,acc,an,paR B 0 E 0,A,(A.length : Nat),(P.length : Nat),())=some (.inl (N,E,A,g,B,o,x7,x8,x9,x10,fr,F,acc++plA B E Q,an,paR B 0 E 0,()))
 | [],P,acc,h,_=>by
  subst h
  refine loop_done ?_
  unfold Zo_B27
  simp only
  rw [ltI_f (by simp),cond_false]
  simp [plA]
 | l :: Q,P,acc,h,ha=>by
  have hx : A[P.length]?=some l:=by rw [← h,List.getElem?_append_right (Nat.le_refl _),Nat.sub_self]; rfl
  have hm:=List.mem_of_getElem? hx
  have hp : P.length < A.length:=(List.getElem?_eq_some_iff.1 hx).1
  simp only [List.length_cons] at ha
  have ih:=pl_outer N E A g B o x7 x8 x9 x10 fr F an hB hA hll hd Q (P++[l]) (acc++[l.map (plc B E)]) (by simpa using h) (by simp; omega)
  refine (loop_step (t:=(N,E,A,g,B,o,x7,x8,x9,x10,fr,F,acc++[l.map (plc B E)],an,paR B 0 E 0,A,((A.length : Nat) : Int),(((P++[l]).length : Nat) : Int),())) ?_).trans (Eq.trans ih ?_)
  ·unfold Zo_B27
   simp only
   rw [ltI_t (by omega),cond_true,getI_of,hx,Option.bind_some]
   rw [show Zo_L31 (N,E,A,g,B,o,x7,x8,x9,x10,fr,[],F,acc,an,paR B 0 E 0,A,((A.length : Nat) : Int),((P.length : Nat) : Int),l,((l.length : Nat) : Int),0,())=_ from
    pl_inner N E A A g B o x7 x8 x9 x10 (A.length : Nat) (P.length : Nat) fr acc F an hB l (hll l hm) l [] [] rfl (by have:=hll l hm; simpa using this) (hd l hm)]
   simp only [Option.bind_some,Sum.elim_inl,List.nil_append]
   rw [app_of (by simp; omega),Option.bind_some,add1 (by omega)]
   simp
  ·simp [plA]
theorem rpl_outer (E : List Arc) (A : List (List Int)) (g : List Int) (B : List ByteArray) (o x7 x8 x9 x10 : Int) (parts ad : List (List Int)) (F : List Arc) (an : List Int) (hA : A.length≤1000000) (hll : ∀ l∈A,l.length≤1000000) (hd : ∀ l∈A,∀ d∈l,∃ k : Nat,d=(k : Int)∧k < 2 * E.length) :
  ∀ (Q P acc : List (List Int)),P++Q=A→acc.length+Q.length≤1000000 →
  Zd_L39 ((A.length : Nat),E,A,g,B,o,x7,x8,x9,x10,parts,fiR B 0 E 0,ad,F,acc,an,(P.length : Nat),())=some (.inl ((A.length : Nat),E,A,g,B,o,x7,x8,x9,x10,parts,fiR B 0 E 0,ad,F,acc++plA B E Q,an,()))
 | [],P,acc,h,_=>by
  subst h
  refine loop_done ?_
  unfold Zd_B39
  simp only
  rw [ltI_f (by simp),cond_false]
  simp [plA]
 | l :: Q,P,acc,h,ha=>by
  have hx : A[P.length]?=some l:=by rw [← h,List.getElem?_append_right (Nat.le_refl _),Nat.sub_self]; rfl
  have hm:=List.mem_of_getElem? hx
  have hp : P.length < A.length:=(List.getElem?_eq_some_iff.1 hx).1
  simp only [List.length_cons] at ha
  have ih:=rpl_outer E A g B o x7 x8 x9 x10 parts ad F an hA hll hd Q (P++[l]) (acc++[l.map (plc B E)]) (by simpa using h) (by simp; omega)
  refine (loop_step (t:=(((A.length : Nat) : Int),E,A,g,B,o,x7,x8,x9,x10,parts,fiR B 0 E 0,ad,F,acc++[l.map (plc B E)],an,(((P++[l]).length : Nat) : Int),())) ?_).trans (Eq.trans ih ?_)
  ·unfold Zd_B39
   simp only
   rw [ltI_t (by omega),cond_true]
   rw [show Zd_L43 (((A.length : Nat) : Int),E,A,g,B,o,x7,x8,x9,x10,parts,fiR B 0 E 0,ad,[],F,acc,an,((P.length : Nat) : Int),0,())=_ from
    rpl_inner (A.length : Nat) E A g B o x7 x8 x9 x10 parts ad acc F an P.length l hx (hll l hm) l [] [] rfl (by have:=hll l hm; simpa using this) (hd l hm)]
   simp only [Option.bind_some,Sum.elim_inl,List.nil_append]
   rw [app_of (by simp; omega),Option.bind_some,add1 (by omega)]
   simp
  ·simp [plA]
def strS (N : Nat) (E : List Arc) (A : List (List Int)) (g : List Int) (B : List ByteArray) (o : Int) : ((Int×List Arc×List (List Int)×Unit)×List Int×List ByteArray×Int×Unit) :=
 (((nR B 0 E N : Nat),EdR B 0 E N,plA B E A++frR B 0 E 0,()),anR g B 0 E,List.replicate (2 * mR B 0 E 0) ByteArray.empty,(if 0 < E.length then plc B E o else 0),())
theorem frR_len {B : List ByteArray} {M : Nat} (hB : BendsOK B M) : ∀ {Es : List Arc} {e m : Nat},e+Es.length≤M→(frR B e Es m).length≤64 * Es.length
 | [],_,_,_=>by simp [frR]
 | a :: Es,e,m,h=>by
  simp only [List.length_cons] at h
  have:=frR_len hB (Es:=Es) (e:=e+1) (m:=m+bs B e+1) (by omega)
  have:=(hB.at' e (by omega)).2.2
  simp only [frR,List.length_append,frL_len,List.length_cons]
  omega
theorem bends_ok {N : Nat} {E : List Arc} {A : List (List Int)} {g : List Int} {B : List ByteArray} {o : Int} {nx : List Int} (h : ShapeOK N E A g B o nx) : BendsOK B E.length:=by
 refine ⟨h.rot.m1,h.turn.blen,fun e he=>?_⟩
 have hb:=h.turn.bend (2 * e) (by omega)
 simp only [bentB,Bool.and_eq_true,decide_eq_true_eq] at hb
 exact ⟨at0_of (by rw [h.turn.blen]; omega),hb.2,hb.1⟩
theorem straighten_both (N0 : Int) (E : List Arc) (A : List (List Int)) (g : List Int) (B : List ByteArray) (o : Int) (hA : ∀ l∈A,l.length≤9223372036854775807) :
  (Zo (((N0,E,A,()),g,B,o,()),())=some (((0,[],[],()),[],[],0,()),[],13,())∧Zd (((N0,E,A,()),g,B,o,()),())=some (((0,[],[],()),[],[],0,()),[],13,())∧Zbq (((N0,E,A,()),g,B,o,()),())=some (false,())) ∨
  ∃ (N : Nat) (nx : List Int),N0=(N : Int)∧ShapeOK N E A g B o nx∧Zbq (((N0,E,A,()),g,B,o,()),())=some (true,()) ∧
   Zo (((N0,E,A,()),g,B,o,()),())=some (strS N E A g B o,paR B 0 E 0,0,())∧Zd (((N0,E,A,()),g,B,o,()),())=some (strS N E A g B o,paR B 0 E 0,0,()):=by
 obtain ⟨b,v1,v2,v3⟩:=Zbq_both N0 E A g B o hA
 have w1 : Zbo (((N0,E,A,()),g,B,o,()),())=some (cond b 0 13,()):=by
  unfold Zbo
  simp only
  rw [v1,Option.bind_some]
  cases b <;> rfl
 cases b with
 | false =>
  left
  refine ⟨?_,?_,v1⟩
  ·unfold Zo
   simp only
   rw [w1,Option.bind_some]; rfl
  ·unfold Zd
   simp only
   rw [v2,Option.bind_some]; rfl
 | true =>
  right
  obtain ⟨N,rfl,nx,h⟩:=v3 rfl
  have hB:=bends_ok h
  have hM:=hB.m
  have hgl:=h.turn.glen
  have hn:=h.rot.n1
  have hal:=h.rot.len
  have hll : ∀ l∈A,l.length≤1000000:=fun l hl=>by have:=h.rot.list_len hl; omega
  have hd : ∀ l∈A,∀ d∈l,∃ k : Nat,d=(k : Int)∧k < 2 * E.length:=fun l hl d hdl=>h.rot.mem_of hl hdl
  have hEl : ∀ n,(EdR B 0 E n).length=mR B 0 E 0:=fun n=>by have:=EdR_len (B:=B) (Es:=E) (e:=0) (n:=n) (m:=0); omega
  have hmle:=mR_le hB (Es:=E) (e:=0) (m:=0) (by omega)
  have hanl : (anR g B 0 E).length=2 * mR B 0 E 0:=by have:=anR_len (g:=g) (B:=B) (Es:=E) (e:=0) (m:=0); omega
  have hfl:=frR_len hB (Es:=E) (e:=0) (m:=0) (by omega)
  have hpl : (plA B E A).length=A.length:=by simp [plA]
  have hout : 0 < E.length→∃ k : Nat,o=(k : Int)∧k < 2 * E.length:=fun hE=>by
   have h0:=h.out0
   have h1:=h.out1
   exact ⟨o.toNat,by omega,by omega⟩
  refine ⟨N,nx,rfl,h,v1,?_,?_⟩
  ·have k1:=str_edges (N : Int) E A g B o hB E 0 N [] [] [] rfl (by omega) (by simp; omega) (by simp; omega) (by simp; omega)
   simp only [List.nil_append,List.length_nil] at k1
   unfold Zo
   simp only
   rw [w1,Option.bind_some]
   simp only [cond_true]
   rw [neI_f rfl,cond_false]
   rw [show Zo_L7 ((N : Int),E,A,g,B,o,0,0,(N : Int),0,[],[],[],E,((E.length : Nat) : Int),0,())=_ from k1]
   simp only [Option.bind_some,Sum.elim_inl]
   rw [hEl,angles41 (N : Int) E A g B o hB hgl]
   simp only [Option.bind_some]
   have k2:=pl_outer (N : Int) E A g B o 0 0 (nR B 0 E N : Nat) 0 (frR B 0 E 0) (EdR B 0 E N) (anR g B 0 E) hB (by omega) hll hd A [] [] rfl (by simp; omega)
   simp only [List.nil_append,List.length_nil] at k2
   rw [show Zo_L27 ((N : Int),E,A,g,B,o,0,0,((nR B 0 E N : Nat) : Int),0,frR B 0 E 0,EdR B 0 E N,[],anR g B 0 E,paR B 0 E 0,A,((A.length : Nat) : Int),0,())=_ from k2]
   simp only [Option.bind_some,Sum.elim_inl]
   rw [app_of (by rw [hpl]; omega),Option.bind_some,hEl,mul2 (by omega),makeL_of (Nat.le_refl _) (by omega),Option.bind_some]
   unfold strS
   by_cases hE : 0 < E.length
   ·obtain ⟨k,rfl,hk⟩:=hout hE
    rw [gtI_t (by omega),cond_true,place_eq hB hk,Option.bind_some,if_pos hE]; rfl
   ·rw [gtI_f (by omega),cond_false,if_neg hE]; rfl
  ·have k1:=rstr_edges (N : Int) E A g B o hB hgl E 0 N [] [] [] [] [] rfl (by omega) (by simp; omega) (by simp; omega) (by simp; omega) (by simp; omega) (by simp; omega)
   simp only [List.nil_append,List.length_nil] at k1
   unfold Zd
   simp only
   rw [v2,Option.bind_some]
   simp only [cond_true]
   rw [neI_f rfl,cond_false]
   rw [show Zd_L8 ((N : Int),E,A,g,B,o,0,0,(N : Int),0,[],[],[],[],[],0,())=_ from k1]
   simp only [Option.bind_some,Sum.elim_inl]
   have k2:=rpl_outer E A g B o 0 0 (nR B 0 E N : Nat) 0 (paR B 0 E 0) (frR B 0 E 0) (EdR B 0 E N) (anR g B 0 E) (by omega) hll hd A [] [] rfl (by simp; omega)
   simp only [List.nil_append,List.length_nil] at k2
   rw [show ((N : Nat) : Int)=((A.length : Nat) : Int) by omega] 
   rw [show Zd_L39 (((A.length : Nat) : Int),E,A,g,B,o,0,0,((nR B 0 E N : Nat) : Int),0,paR B 0 E 0,fiR B 0 E 0,frR B 0 E 0,EdR B 0 E N,[],anR g B 0 E,0,())=_ from k2]
   simp only [Option.bind_some,Sum.elim_inl]
   rw [app_of (by rw [hpl]; omega),Option.bind_some,hanl,makeL_of (Nat.le_refl _) (by omega),Option.bind_some,fiR_len]
   unfold strS
   by_cases hE : 0 < E.length
   ·obtain ⟨k,rfl,hk⟩:=hout hE
    rw [gtI_t (by omega),cond_true,idxI_of hk,Option.bind_some,first_get hk,Option.bind_some,if_pos hE]; rfl
   ·rw [gtI_f (by omega),cond_false,if_neg hE]; rfl
end Go.Vm

/-
 Straighten: the angles in the program, the lists, the whole.
-/
import Derived.Test.YtnnbdielbgljaaaDoorL41C
set_option linter.unusedVariables false
set_option linter.unusedSimpArgs false
namespace Go.Vm
open Go.Proofs
set_option maxRecDepth 100000
attribute [local irreducible] loopFix
theorem set_mid {α : Type} {P Q : List α} {x y : α} {k : Nat} (hk : k=P.length) : (P++x :: Q).set k y=P++y :: Q:=by
 subst hk
 induction P with
 | nil=>rfl
 | cons a P ih=>simp [ih]
theorem get_mid {α : Type} {P Q : List α} {x : α} {k : Nat} (hk : k=P.length) : (P++x :: Q)[k]?=some x:=by
 subst hk; simp
theorem evL_get : ∀ {r m i : Nat},i < r→(evL m r)[i]?=some ((2 * (m+i) : Nat) : Int)
 | r+1,m,0,_=>rfl
 | r+1,m,i+1,h=>by
  show (evL (m+1) r)[i]?=_
  rw [evL_get (by omega),show m+1+i=m+(i+1) by omega]
def oneL (m b : Nat) : List Int:=evL m b++[((2 * (m+b) : Nat) : Int)]
theorem oneL_len {m b : Nat} : (oneL m b).length=b+1:=by simp [oneL,evL_len]
theorem oneL_get {m b i : Nat} (h : i≤b) : (oneL m b)[i]?=some ((2 * (m+i) : Nat) : Int):=by
 unfold oneL
 rcases Nat.lt_or_ge i b with c | c
 ·rw [List.getElem?_append_left (by rw [evL_len]; exact c),evL_get c]
 ·have : i=b:=by omega
  subst this
  rw [List.getElem?_append_right (by rw [evL_len]; exact c),evL_len,Nat.sub_self]; rfl
theorem ang_in41 (N : Int) (E : List Arc) (A : List (List Int)) (g : List Int) (B : List ByteArray) (o len idx : Int) (parts : List (List Int)) {s : ByteArray} (hs : (bytesOf s).all lr=true) (m : Nat) (hm : m≤100000000) (hsz : s.size≤1000) :
  ∀ (r i : Nat) (P S : List Int),i+r=s.size→P.length=2 * (m+i)+1→Zaz_L8 (N,E,A,g,B,o,P++List.replicate (2 * r) 0++S,[((),(s,(i : Int)))],oneL m s.size,parts,len,idx,()) =
   some (.inl (N,E,A,g,B,o,P++angM ((bytesOf s).drop i)++S,parts,len,idx,()))
 | 0,i,P,S,h,hP=>by
  refine loop_done ?_
  unfold Zaz_B8
  simp only [itOf,Option.bind_some,itMore]
  rw [ltI_f (by omega),cond_false,List.drop_of_length_le (by rw [bytesOf_length]; omega)]
  simp [angM]
 | r+1,i,P,S,h,hP=>by
  obtain ⟨c,hc,hlr,hru,hnx⟩:=get_lr hs (i:=i) (by omega)
  have hb : (bytesOf s).drop i=(c.toNat : Int) :: (bytesOf s).drop (i+1):=by
   have : (bytesOf s)[i]?=some (c.toNat : Int):=by rw [← byte_at,hc]; rfl
   rw [List.drop_eq_getElem_cons (by rw [bytesOf_length]; omega)]
   congr 1
   exact (List.getElem?_eq_some_iff.1 this).2
  have ih:=ang_in41 N E A g B o len idx parts hs m hm hsz r (i+1) (P++[bend1 (c.toNat : Int),4 - bend1 (c.toNat : Int)]) S (by omega) (by simp [hP]; omega)
  have eL : P++List.replicate (2 * (r+1)) 0++S=P++0 :: (0 :: (List.replicate (2 * r) 0++S)):=by
   rw [show 2 * (r+1)=2 * r+1+1 by omega,List.replicate_succ,List.replicate_succ]; simp
  have eM : ∀ x y : Int,(P++[x])++y :: (List.replicate (2 * r) 0++S)=P++x :: (y :: (List.replicate (2 * r) 0++S)):=fun x y=>by simp
  have k1 : 2 * (m+i)+1=P.length:=hP.symm
  have k2 : ∀ x : Int,2 * (m+i)+2=(P++[x]).length:=fun x=>by simp [hP]
  have lenA : ∀ x y : Int,(P++x :: (y :: (List.replicate (2 * r) 0++S))).length=2 * (m+i)+3+(2 * r+S.length):=fun x y=>by simp [hP]; omega
  have i1 : ∀ x y : Int,idxI (P++x :: (y :: (List.replicate (2 * r) 0++S))).length ((2 * (m+i)+1 : Nat) : Int)=some (2 * (m+i)+1):=fun x y=>idxI_of (by rw [lenA]; omega)
  have i2 : ∀ x y : Int,idxI (P++x :: (y :: (List.replicate (2 * r) 0++S))).length ((2 * (m+(i+1)) : Nat) : Int)=some (2 * (m+i)+2):=fun x y=>by
   rw [idxI_of (by rw [lenA]; omega),show 2 * (m+(i+1))=2 * (m+i)+2 by omega]
  have s1 : ∀ x y z : Int,(P++x :: (y :: (List.replicate (2 * r) 0++S))).set (2 * (m+i)+1) z=P++z :: (y :: (List.replicate (2 * r) 0++S)):=fun x y z=>set_mid k1
  have s2 : ∀ x y z : Int,(P++x :: (y :: (List.replicate (2 * r) 0++S))).set (2 * (m+i)+2) z=P++x :: (z :: (List.replicate (2 * r) 0++S)):=fun x y z=>by
   rw [← eM,set_mid (k2 x),eM]
  have g1 : ∀ x y : Int,(P++x :: (y :: (List.replicate (2 * r) 0++S)))[2 * (m+i)+1]?=some x:=fun x y=>get_mid k1
  have g2 : ∀ x y : Int,(P++x :: (y :: (List.replicate (2 * r) 0++S)))[2 * (m+i)+2]?=some y:=fun x y=>by rw [← eM]; exact get_mid (k2 x)
  refine (loop_step (t:=(N,E,A,g,B,o,P++bend1 (c.toNat : Int) :: ((4 - bend1 (c.toNat : Int)) :: (List.replicate (2 * r) 0++S)),[((),(s,((i+1 : Nat) : Int)))],oneL m s.size,parts,len,idx,())) ?_).trans (Eq.trans ?_ (Eq.trans ih ?_))
  ·rw [eL]
   unfold Zaz_B8
   simp only [itOf,Option.bind_some,itMore]
   rw [ltI_t (by omega),cond_true,getI_of,oneL_get (by omega),Option.bind_some,add1 (a:=i) (by omega),getI_of,oneL_get (by omega),Option.bind_some,add1 (a:=2 * (m+i)) (by omega),i1,Option.bind_some,g1,Option.bind_some,s1,i2,Option.bind_some,g2,Option.bind_some,s2,hru,hnx]
   by_cases h82 : (c.toNat : Int)=82
   ·rw [eqI_t h82,cond_true,Option.bind_some,Option.bind_some,add1 (a:=2 * (m+i)) (by omega),i1,Option.bind_some,g1,Option.bind_some,s1,i2,Option.bind_some,g2,Option.bind_some,s2]
    unfold bend1
    rw [if_pos h82]; rfl
   ·rw [eqI_f h82,cond_false]
    unfold bend1
    rw [if_neg h82]; rfl
  ·have : P++bend1 (c.toNat : Int) :: ((4 - bend1 (c.toNat : Int)) :: (List.replicate (2 * r) 0++S))=P++[bend1 (c.toNat : Int),4 - bend1 (c.toNat : Int)]++List.replicate (2 * r) 0++S:=by simp
   rw [this]; rfl
  ·rw [hb]
   simp [angM]
theorem angM_len : ∀ l : List Int,(angM l).length=2 * l.length
 | []=>rfl
 | c :: l=>by simp [angM,angM_len l]; omega
def mR (B : List ByteArray) : Nat→List Arc→Nat→Nat
 | _,[],m=>m
 | e,_ :: E,m=>mR B (e+1) E (m+bs B e+1)
theorem EdR_len {B : List ByteArray} : ∀ {Es : List Arc} {e n m : Nat},(EdR B e Es n).length+m=mR B e Es m
 | [],_,_,_=>by simp [EdR,mR]
 | a :: Es,e,n,m=>by
  have:=EdR_len (B:=B) (Es:=Es) (e:=e+1) (n:=n+bs B e) (m:=m+bs B e+1)
  simp only [EdR,mR,List.length_append,chP_len,List.length_cons]
  omega
theorem paR_len {B : List ByteArray} : ∀ {Es : List Arc} {e m : Nat},(paR B e Es m).length=Es.length
 | [],_,_=>rfl
 | a :: Es,e,m=>by simp [paR,paR_len]
theorem mR_ge {B : List ByteArray} {Es : List Arc} {e m : Nat} : m≤mR B e Es m:=by rw [← EdR_len (n:=0)]; omega
theorem mR_le {B : List ByteArray} {M : Nat} (hB : BendsOK B M) : ∀ {Es : List Arc} {e m : Nat},e+Es.length≤M→mR B e Es m≤m+65 * Es.length
 | [],e,m,_=>by simp [mR]
 | a :: Es,e,m,h=>by
  simp only [List.length_cons] at h ⊢
  have:=mR_le hB (Es:=Es) (e:=e+1) (m:=m+bs B e+1) (by omega)
  have:=(hB.at' e (by omega)).2.2
  show mR B (e+1) Es (m+bs B e+1)≤_
  omega
theorem ang_out41 (N : Int) (E : List Arc) (A : List (List Int)) (g : List Int) (B : List ByteArray) (o : Int) (hB : BendsOK B E.length) (hg : g.length=2 * E.length) (parts : List (List Int)) :
  ∀ (Es : List Arc) (e m : Nat) (P : List Int),E.drop e=Es→parts.drop e=paR B e Es m→parts.length=E.length→m≤65 * e→P.length=2 * m →
   Zaz_L3 (N,E,A,g,B,o,P++List.replicate (2 * (mR B e Es m - m)) 0,parts,(parts.length : Nat),(e : Int),())=some (.inl (P++anR g B e Es,()))
 | [],e,m,P,h,hp,hpl,hm,hP=>by
  have hl:=drop_nil h
  have:=hB.m
  refine loop_done ?_
  unfold Zaz_B3
  simp only
  rw [ltI_f (by omega),cond_false]
  simp [anR,mR]
 | a :: Es,e,m,P,h,hp,hpl,hm,hP=>by
  have hMM:=hB.m
  obtain ⟨hl,ha,hd⟩:=drop_cons h
  obtain ⟨_,hpa,hpd⟩:=drop_cons (show parts.drop e=oneL m (bs B e) :: paR B (e+1) Es (m+bs B e+1) from hp)
  obtain ⟨b1,b2,b3⟩:=hB.at' e hl
  have g0 : g[2 * e]?=some (g.getD (2 * e) 0):=by rw [List.getD_eq_getElem?_getD,List.getElem?_eq_getElem (by omega)]; rfl
  have g1 : g[2 * e+1]?=some (g.getD (2 * e+1) 0):=by rw [List.getD_eq_getElem?_getD,List.getElem?_eq_getElem (by omega)]; rfl
  have hge:=mR_ge (B:=B) (Es:=Es) (e:=e+1) (m:=m+bs B e+1)
  have hbl : (bytesOf (at0 B (2 * e))).length=bs B e:=bytesOf_length _
  have hin:=ang_in41 N E A g B o (parts.length : Nat) (e : Int) parts b2 m (by omega) (by show bs B e≤_; omega) (bs B e) 0 (P++[g.getD (2 * e) 0]) (g.getD (2 * e+1) 0 :: List.replicate (2 * (mR B (e+1) Es (m+bs B e+1) - (m+bs B e+1))) 0) (by show 0+bs B e=bs B e; omega) (by simp [hP])
  rw [List.drop_zero] at hin
  have ih:=ang_out41 N E A g B o hB hg parts Es (e+1) (m+bs B e+1) (P++(g.getD (2 * e) 0 :: angM (bytesOf (at0 B (2 * e)))++[g.getD (2 * e+1) 0])) hd hpd hpl (by omega) (by simp only [List.length_append,List.length_cons,List.length_nil,angM_len,hbl,hP]; omega)
  have eZ : ∀ W : Nat,List.replicate (2 * (bs B e+1)+W) (0 : Int)=0 :: (List.replicate (2 * bs B e) 0++0 :: List.replicate W 0):=fun W=>by
   rw [show 2 * (bs B e+1)+W=(2 * bs B e+(W+1))+1 by omega,List.replicate_succ,← List.replicate_append_replicate,List.replicate_succ]
  have e1 : P++List.replicate (2 * (mR B e (a :: Es) m - m)) 0=P++0 :: (List.replicate (2 * bs B e) 0++0 :: List.replicate (2 * (mR B (e+1) Es (m+bs B e+1) - (m+bs B e+1))) 0):=by
   show P++List.replicate (2 * (mR B (e+1) Es (m+bs B e+1) - m)) 0=_
   rw [← eZ]
   congr 2
   omega
  refine (loop_step (t:=(N,E,A,g,B,o,P++(g.getD (2 * e) 0 :: angM (bytesOf (at0 B (2 * e)))++[g.getD (2 * e+1) 0])++List.replicate (2 * (mR B (e+1) Es (m+bs B e+1) - (m+bs B e+1))) 0,parts,((parts.length : Nat) : Int),((e+1 : Nat) : Int),())) ?_).trans (Eq.trans ih ?_)
  ·rw [e1]
   generalize mR B (e+1) Es (m+bs B e+1) - (m+bs B e+1)=W at hin
   have hL : (P++0 :: (List.replicate (2 * bs B e) 0++0 :: List.replicate (2 * W) 0)).length=2 * (m+bs B e)+2+2 * W:=by simp [hP]; omega
   unfold Zaz_B3
   simp only
   rw [ltI_t (by omega),cond_true,getI_of,hpa,Option.bind_some,show ((0 : Int))=((0 : Nat) : Int) from rfl,getI_of,oneL_get (Nat.zero_le _),Option.bind_some,mul2 (by omega),getI_of,g0,Option.bind_some,Nat.add_zero,show (((0 : Nat) : Int))=(0 : Int) from rfl,idxI_of (by rw [hL]; omega),Option.bind_some,get_mid hP.symm,Option.bind_some,set_mid hP.symm,
    oneL_len,sub1 (by omega),show (((bs B e+1 : Nat) : Int)) - 1=((bs B e : Nat) : Int) by omega,getI_of,oneL_get (Nat.le_refl _),Option.bind_some,add1 (a:=2 * e) (by omega),getI_of,g1,Option.bind_some,add1 (a:=2 * (m+bs B e)) (by omega)]
   have e2 : P++g.getD (2 * e) 0 :: (List.replicate (2 * bs B e) 0++0 :: List.replicate (2 * W) 0)=(P++g.getD (2 * e) 0 :: List.replicate (2 * bs B e) 0)++0 :: List.replicate (2 * W) 0:=by simp
   have k2 : 2 * (m+bs B e)+1=(P++g.getD (2 * e) 0 :: List.replicate (2 * bs B e) 0).length:=by simp [hP]; omega
   rw [e2,idxI_of (by rw [← e2]; simp [hP]; omega),Option.bind_some,get_mid k2,Option.bind_some,set_mid k2,getI_of,b1,Option.bind_some]
   have e3 : (P++g.getD (2 * e) 0 :: List.replicate (2 * bs B e) 0)++g.getD (2 * e+1) 0 :: List.replicate (2 * W) 0=P++[g.getD (2 * e) 0]++List.replicate (2 * bs B e) 0++g.getD (2 * e+1) 0 :: List.replicate (2 * W) 0:=by simp
   rw [e3]
   rw [show Zaz_L8 (N,E,A,g,B,o,P++[g.getD (2 * e) 0]++List.replicate (2 * bs B e) 0++g.getD (2 * e+1) 0 :: List.replicate (2 * W) 0,[((),(at0 B (2 * e),0))],oneL m (bs B e),parts,((parts.length : Nat) : Int),(e : Int),())=_ from hin]
   simp only [Option.bind_some,Sum.elim_inl]
   rw [add1 (a:=e) (by omega)]
   congr 8
   simp
  ·simp [anR]
theorem angles41 (N : Int) (E : List Arc) (A : List (List Int)) (g : List Int) (B : List ByteArray) (o : Int) (hB : BendsOK B E.length) (hg : g.length=2 * E.length) :
  Zaz (((N,E,A,()),g,B,o,()),paR B 0 E 0,(mR B 0 E 0 : Nat),())=some (anR g B 0 E,()):=by
 have hM:=hB.m
 have hle:=mR_le hB (Es:=E) (e:=0) (m:=0) (by omega)
 unfold Zaz
 simp only
 rw [mul2 (by omega),makeL_of (Nat.le_refl _) (by omega),Option.bind_some]
 have:=ang_out41 N E A g B o hB hg (paR B 0 E 0) E 0 0 [] rfl rfl paR_len (by omega) rfl
 rw [show Zaz_L3 (N,E,A,g,B,o,List.replicate (2 * mR B 0 E 0) (zeroVal I),paR B 0 E 0,(((paR B 0 E 0).length : Nat) : Int),0,())=_ from this]
 rfl
end Go.Vm

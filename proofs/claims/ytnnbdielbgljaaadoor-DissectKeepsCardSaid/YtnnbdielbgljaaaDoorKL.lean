/-
 The straightened shape, in the program and in the reference.
-/
import Derived.Test.YtnnbdielbgljaaaDoorKF
set_option linter.unusedVariables false
set_option linter.unusedSimpArgs false
/-
 Straighten: the edges, in the program and in the reference.
-/
namespace Go.Vm
open Go.Proofs
set_option maxRecDepth 100000
attribute [local irreducible] aa
def bs (B : List ByteArray) (e : Nat) : Nat:=(at0 B (2 * e)).size
def nR (B : List ByteArray) : Nat→List Arc→Nat→Nat
 | _,[],n=>n
 | e,_ :: E,n=>nR B (e+1) E (n+bs B e)
def EdR (B : List ByteArray) : Nat→List Arc→Nat→List Arc
 | _,[],_=>[]
 | e,a :: E,n=>chP a.1 n (bs B e)++(mj a.1 n (bs B e),a.2.1,()) :: EdR B (e+1) E (n+bs B e)
def paR (B : List ByteArray) : Nat→List Arc→Nat→List (List Int)
 | _,[],_=>[]
 | e,_ :: E,m=>(evL m (bs B e)++[((2 * (m+bs B e) : Nat) : Int)]) :: paR B (e+1) E (m+bs B e+1)
def frR (B : List ByteArray) : Nat→List Arc→Nat→List (List Int)
 | _,[],_=>[]
 | e,_ :: E,m=>frL m (bs B e)++frR B (e+1) E (m+bs B e+1)
def fiR (B : List ByteArray) : Nat→List Arc→Nat→List Int
 | _,[],_=>[]
 | e,_ :: E,m=>((2 * m : Nat) : Int) :: ((2 * (m+bs B e)+1 : Nat) : Int) :: fiR B (e+1) E (m+bs B e+1)
def anR (g : List Int) (B : List ByteArray) : Nat→List Arc→List Int
 | _,[]=>[]
 | e,_ :: E=>(g.getD (2 * e) 0 :: eR (ac (at0 B (2 * e)))++[g.getD (2 * e+1) 0])++anR g B (e+1) E
structure BendsOK (B : List ByteArray) (M : Nat) : Prop where
 m : M≤32768
 len : B.length=2 * M
 at' : ∀ e,e < M→B[2 * e]?=some (at0 B (2 * e))∧(ac (at0 B (2 * e))).all lr=true∧bs B e≤64
theorem kE {α : Type} {E : List α} {e : Nat} {a : α} {Es : List α} (h : E.drop e=a :: Es) : e < E.length∧E[e]?=some a∧E.drop (e+1)=Es:=by
 have hl : e < E.length:=by
  rcases Nat.lt_or_ge e E.length with c | c
  ·exact c
  ·rw [List.drop_of_length_le c] at h; cases h
 rw [List.drop_eq_getElem_cons hl] at h
 cases h
 exact ⟨hl,List.getElem?_eq_getElem hl,rfl⟩
theorem po {α : Type} {E : List α} {e : Nat} (h : E.drop e=[]) : E.length≤e:=by simpa using h
theorem sy (N : Int) (E : List Arc) (A : List (List Int)) (g : List Int) (B : List ByteArray) (o : Int) (hB : BendsOK B E.length) :
  ∀ (Es : List Arc) (e n : Nat) (fr : List (List Int)) (F : List Arc) (parts : List (List Int)),E.drop e=Es→n+100 * Es.length≤100000000→fr.length+100 * Es.length≤100000000→F.length+100 * Es.length≤100000000→parts.length+Es.length≤100000000 →
   Ad (N,E,A,g,B,o,0,0,(n : Int),0,fr,F,parts,E,(E.length : Nat),(e : Int),()) =
    some (.inl (N,E,A,g,B,o,0,0,(nR B e Es n : Nat),0,fr++frR B e Es F.length,F++EdR B e Es n,parts++paR B e Es F.length,()))
 | [],e,n,fr,F,parts,h,_,_,_,_=>by
  have hm:=hB.m
  have hl:=po h
  refine ai ?_
  unfold zm
  simp only
  rw [aA (by omega),cond_false]
  simp [nR,frR,EdR,paR]
 | a :: Es,e,n,fr,F,parts,h,h1,h2,h3,h4=>by
  have hm:=hB.m
  obtain ⟨hl,ha,hd⟩:=kE h
  obtain ⟨b1,b2,b3⟩:=hB.at' e hl
  simp only [List.length_cons] at h1 h2 h3 h4
  have hsz : (at0 B (2 * e)).size=bs B e:=rfl
  have hin:=sf N E A g B o a.1 a.2.1 (E.length : Nat) (e : Int) parts b2 (bs B e) 0 n fr [] F a.1 (by omega) (by omega) (by omega) (by simp; omega) (by omega)
  have ih:=sy N E A g B o hB Es (e+1) (n+bs B e) (fr++frL F.length (bs B e)) (F++chP a.1 n (bs B e)++[(mj a.1 n (bs B e),a.2.1,())]) (parts++[evL F.length (bs B e)++[((2 * (F.length+bs B e) : Nat) : Int)]]) hd
   (by omega) (by simp [gL]; omega) (by simp [cN]; omega) (by simp; omega)
  refine (ap (t:=(N,E,A,g,B,o,0,0,((n+bs B e : Nat) : Int),0,fr++frL F.length (bs B e),F++chP a.1 n (bs B e)++[(mj a.1 n (bs B e),a.2.1,())],parts++[evL F.length (bs B e)++[((2 * (F.length+bs B e) : Nat) : Int)]],E,((E.length : Nat) : Int),((e+1 : Nat) : Int),())) ?_).trans (Eq.trans ih ?_)
  ·unfold zm
   simp only
   rw [aG (by omega),cond_true,ae,ha,Option.bind_some,nl (by omega),ae,b1,Option.bind_some]
   rw [show ul (N,E,A,g,B,o,0,0,(n : Int),0,fr,a.1,a.2.1,[],[((),(at0 B (2 * e),0))],F,parts,a.1,E,((E.length : Nat) : Int),(e : Int),())=_ from hin]
   simp only [Option.bind_some,Sum.elim_inl,List.nil_append]
   have hll : (F++chP a.1 n (bs B e)).length=F.length+bs B e:=by simp [cN]
   rw [nl (by rw [hll]; omega),hll,bg (by simp [iV]; omega),Option.bind_some,bg (by simp [cN]; omega),Option.bind_some,bg (by simp; omega),Option.bind_some,aU (by omega)]
  ·simp only [List.length_append,List.length_singleton,List.append_assoc,cN,nR,frR,EdR,paR,List.singleton_append]
   rw [show F.length+(bs B e+1)=F.length+bs B e+1 by omega]
theorem qw (N : Int) (E : List Arc) (A : List (List Int)) (g : List Int) (B : List ByteArray) (o : Int) (hB : BendsOK B E.length) (hg : g.length=2 * E.length) :
  ∀ (Es : List Arc) (e n : Nat) (parts : List (List Int)) (first : List Int) (ad : List (List Int)) (F : List Arc) (q : List Int),E.drop e=Es→n+100 * Es.length≤100000000→ad.length+100 * Es.length≤100000000→F.length+100 * Es.length≤100000000→parts.length+Es.length≤100000000 →
   first.length+2 * Es.length≤100000000→q.length+200 * Es.length≤100000000 →
   za (N,E,A,g,B,o,0,0,(n : Int),0,parts,first,ad,F,q,(e : Int),()) =
    some (.inl (N,E,A,g,B,o,0,0,(nR B e Es n : Nat),0,parts++paR B e Es F.length,first++fiR B e Es F.length,ad++frR B e Es F.length,F++EdR B e Es n,q++anR g B e Es,()))
 | [],e,n,parts,first,ad,F,q,h,_,_,_,_,_,_=>by
  have hm:=hB.m
  have hl:=po h
  refine ai ?_
  unfold zN
  simp only
  rw [aA (by omega),cond_false]
  simp [nR,frR,EdR,paR,fiR,anR]
 | a :: Es,e,n,parts,first,ad,F,q,h,h1,h2,h3,h4,h5,h6=>by
  have hm:=hB.m
  obtain ⟨hl,ha,hd⟩:=kE h
  obtain ⟨b1,b2,b3⟩:=hB.at' e hl
  simp only [List.length_cons] at h1 h2 h3 h4 h5 h6
  have hsz : (at0 B (2 * e)).size=bs B e:=rfl
  have g0 : g[2 * e]?=some (g.getD (2 * e) 0):=by rw [List.getD_eq_getElem?_getD,List.getElem?_eq_getElem (by omega)]; rfl
  have g1 : g[2 * e+1]?=some (g.getD (2 * e+1) 0):=by rw [List.getD_eq_getElem?_getD,List.getElem?_eq_getElem (by omega)]; rfl
  have hin:=qf N E A g B o parts (first++[((2 * F.length : Nat) : Int)]) e b2 (by omega) (by omega) g0 (bs B e) 0 n ad [] F q a.1 (g.getD (2 * e) 0) (by omega) (by omega) (by omega) (by simp; omega) (by omega) (by omega) (fun _=>rfl) (by omega)
  rw [List.drop_zero] at hin
  have hbl : (ac (at0 B (2 * e))).length=bs B e:=az _
  obtain ⟨r1,r2⟩:=Di (ac (at0 B (2 * e))) q (g.getD (2 * e) 0)
  have haml : ∀ l : List Int,(eR l).length=2 * l.length:=fun l=>by
   induction l with
   | nil=>rfl
   | cons c l ih=>simp [eR,ih]; omega
  have ih:=qw N E A g B o hB hg Es (e+1) (n+bs B e) (parts++[evL F.length (bs B e)++[((2 * (F.length+bs B e) : Nat) : Int)]]) (first++[((2 * F.length : Nat) : Int),((2 * (F.length+bs B e)+1 : Nat) : Int)]) (ad++frL F.length (bs B e))
   (F++chP a.1 n (bs B e)++[(mj a.1 n (bs B e),a.2.1,())]) (q++(g.getD (2 * e) 0 :: eR (ac (at0 B (2 * e)))++[g.getD (2 * e+1) 0])) hd
   (by omega) (by simp [gL]; omega) (by simp [cN]; omega) (by simp; omega) (by simp; omega) (by simp only [List.length_append,List.length_cons,List.length_nil,haml,hbl]; omega)
  refine (ap (t:=(N,E,A,g,B,o,0,0,((n+bs B e : Nat) : Int),0,parts++[evL F.length (bs B e)++[((2 * (F.length+bs B e) : Nat) : Int)]],first++[((2 * F.length : Nat) : Int),((2 * (F.length+bs B e)+1 : Nat) : Int)],ad++frL F.length (bs B e),
   F++chP a.1 n (bs B e)++[(mj a.1 n (bs B e),a.2.1,())],q++(g.getD (2 * e) 0 :: eR (ac (at0 B (2 * e)))++[g.getD (2 * e+1) 0]),((e+1 : Nat) : Int),())) ?_).trans (Eq.trans ih ?_)
  ·unfold zN
   simp only
   have hll : (F++chP a.1 n (bs B e)).length=F.length+bs B e:=by simp [cN]
   rw [aG (by omega),cond_true,nl (n:=e) (by omega),ae,b1,Option.bind_some,ae,ha,Option.bind_some,nl (n:=F.length) (by omega),bg (by simp; omega),Option.bind_some]
   rw [show tr (N,E,A,g,B,o,0,0,(n : Int),0,parts,first++[((2 * F.length : Nat) : Int)],ad,[],F,q,(e : Int),at0 B (2 * e),a.1,0,())=_ from hin]
   simp only [Option.bind_some,Sum.elim_inl,List.nil_append]
   rw [ae,ha,Option.bind_some,bg (by simp [cN]; omega),Option.bind_some,nl (by rw [hll]; omega),hll,bg (by simp [iV]; omega),Option.bind_some,aU (a:=2 * (F.length+bs B e)) (by omega),bg (by simp; omega),Option.bind_some,nl (n:=e) (by omega),aU (a:=2 * e) (by omega)]
   rw [ae,g0,ae,g1,hsz,aU (a:=e) (by omega)]
   by_cases hb0 : ac (at0 B (2 * e))=[]
   ·have hb : bs B e=0:=by rw [← hbl,hb0]; rfl
    rw [dk (by omega),cond_true,Option.bind_some,Option.bind_some,r1 hb0,bg (by simp; omega),Option.bind_some,bg (by simp; omega),Option.bind_some,hb0,hb]
    simp [eR]
   ·obtain ⟨y,y1,y2,y3⟩:=r2 hb0
    have hb : bs B e≠0:=by rw [← hbl]; intro hz; exact hb0 (List.length_eq_zero_iff.1 hz)
    have hq : (raL q (g.getD (2 * e) 0) (ac (at0 B (2 * e)))).length+1=q.length+1+2 * bs B e:=by
     have:=congrArg List.length y3
     simp only [List.length_append,List.length_cons,List.length_nil,haml,hbl] at this
     omega
    rw [List.getLast?_eq_getElem?] at y1
    rw [cn (by omega),cond_false,kK (by omega),show (((raL q (g.getD (2 * e) 0) (ac (at0 B (2 * e)))).length : Nat) : Int) - 1=(((raL q (g.getD (2 * e) 0) (ac (at0 B (2 * e)))).length - 1 : Nat) : Int) by omega,aD (by omega),Option.bind_some,y1,Option.bind_some,Option.bind_some,
     gk (by omega) (by omega),bg (by simp only [List.length_cons,List.length_nil]; omega),Option.bind_some,bg (by simp; omega),Option.bind_some]
    have : raL q (g.getD (2 * e) 0) (ac (at0 B (2 * e)))++[4 - y,g.getD (2 * e+1) 0]=q++(g.getD (2 * e) 0 :: eR (ac (at0 B (2 * e)))++[g.getD (2 * e+1) 0]):=by
     rw [show [4 - y,g.getD (2 * e+1) 0]=[4 - y]++[g.getD (2 * e+1) 0] from rfl,← List.append_assoc,y3]
     simp
    rw [this]
    simp
  ·simp only [List.length_append,List.length_singleton,List.append_assoc,cN,nR,frR,EdR,paR,fiR,anR,List.singleton_append,List.cons_append,List.nil_append]
   rw [show F.length+(bs B e+1)=F.length+bs B e+1 by omega]
end Go.Vm

/-
 Straighten: the angles in the program, the lists, the whole.
-/
namespace Go.Vm
open Go.Proofs
set_option maxRecDepth 100000
attribute [local irreducible] aa
theorem oN {α : Type} {P Q : List α} {x y : α} {k : Nat} (hk : k=P.length) : (P++x :: Q).set k y=P++y :: Q:=by
 subst hk
 induction P with
 | nil=>rfl
 | cons a P ih=>simp [ih]
theorem oW {α : Type} {P Q : List α} {x : α} {k : Nat} (hk : k=P.length) : (P++x :: Q)[k]?=some x:=by
 subst hk; simp
theorem zx : ∀ {r m i : Nat},i < r→(evL m r)[i]?=some ((2 * (m+i) : Nat) : Int)
 | r+1,m,0,_=>rfl
 | r+1,m,i+1,h=>by
  show (evL (m+1) r)[i]?=_
  rw [zx (by omega),show m+1+i=m+(i+1) by omega]
def rC (m b : Nat) : List Int:=evL m b++[((2 * (m+b) : Nat) : Int)]
theorem mZ {m b : Nat} : (rC m b).length=b+1:=by simp [rC,iV]
theorem gg {m b i : Nat} (h : i≤b) : (rC m b)[i]?=some ((2 * (m+i) : Nat) : Int):=by
 unfold rC
 rcases Nat.lt_or_ge i b with c | c
 ·rw [List.getElem?_append_left (by rw [iV]; exact c),zx c]
 ·have : i=b:=by omega
  subst this
  rw [List.getElem?_append_right (by rw [iV]; exact c),iV,Nat.sub_self]; rfl
theorem wO (N : Int) (E : List Arc) (A : List (List Int)) (g : List Int) (B : List ByteArray) (o len idx : Int) (parts : List (List Int)) {s : ByteArray} (hs : (ac s).all lr=true) (m : Nat) (hm : m≤100000000) (hsz : s.size≤1000) :
  ∀ (r i : Nat) (P S : List Int),i+r=s.size→P.length=2 * (m+i)+1→uQ (N,E,A,g,B,o,P++List.replicate (2 * r) 0++S,[((),(s,(i : Int)))],rC m s.size,parts,len,idx,()) =
   some (.inl (N,E,A,g,B,o,P++eR ((ac s).drop i)++S,parts,len,idx,()))
 | 0,i,P,S,h,hP=>by
  refine ai ?_
  unfold tz
  simp only [pF,Option.bind_some,hU]
  rw [aA (by omega),cond_false,List.drop_of_length_le (by rw [az]; omega)]
  simp [eR]
 | r+1,i,P,S,h,hP=>by
  obtain ⟨c,hc,hlr,hru,hnx⟩:=xm hs (i:=i) (by omega)
  have hb : (ac s).drop i=(c.toNat : Int) :: (ac s).drop (i+1):=by
   have : (ac s)[i]?=some (c.toNat : Int):=by rw [← lZ,hc]; rfl
   rw [List.drop_eq_getElem_cons (by rw [az]; omega)]
   congr 1
   exact (List.getElem?_eq_some_iff.1 this).2
  have ih:=wO N E A g B o len idx parts hs m hm hsz r (i+1) (P++[bG (c.toNat : Int),4 - bG (c.toNat : Int)]) S (by omega) (by simp [hP]; omega)
  have eL : P++List.replicate (2 * (r+1)) 0++S=P++0 :: (0 :: (List.replicate (2 * r) 0++S)):=by
   rw [show 2 * (r+1)=2 * r+1+1 by omega,List.replicate_succ,List.replicate_succ]; simp
  have eM : ∀ x y : Int,(P++[x])++y :: (List.replicate (2 * r) 0++S)=P++x :: (y :: (List.replicate (2 * r) 0++S)):=fun x y=>by simp
  have k1 : 2 * (m+i)+1=P.length:=hP.symm
  have k2 : ∀ x : Int,2 * (m+i)+2=(P++[x]).length:=fun x=>by simp [hP]
  have lenA : ∀ x y : Int,(P++x :: (y :: (List.replicate (2 * r) 0++S))).length=2 * (m+i)+3+(2 * r+S.length):=fun x y=>by simp [hP]; omega
  have i1 : ∀ x y : Int,aJ (P++x :: (y :: (List.replicate (2 * r) 0++S))).length ((2 * (m+i)+1 : Nat) : Int)=some (2 * (m+i)+1):=fun x y=>aD (by rw [lenA]; omega)
  have i2 : ∀ x y : Int,aJ (P++x :: (y :: (List.replicate (2 * r) 0++S))).length ((2 * (m+(i+1)) : Nat) : Int)=some (2 * (m+i)+2):=fun x y=>by
   rw [aD (by rw [lenA]; omega),show 2 * (m+(i+1))=2 * (m+i)+2 by omega]
  have s1 : ∀ x y z : Int,(P++x :: (y :: (List.replicate (2 * r) 0++S))).set (2 * (m+i)+1) z=P++z :: (y :: (List.replicate (2 * r) 0++S)):=fun x y z=>oN k1
  have s2 : ∀ x y z : Int,(P++x :: (y :: (List.replicate (2 * r) 0++S))).set (2 * (m+i)+2) z=P++x :: (z :: (List.replicate (2 * r) 0++S)):=fun x y z=>by
   rw [← eM,oN (k2 x),eM]
  have g1 : ∀ x y : Int,(P++x :: (y :: (List.replicate (2 * r) 0++S)))[2 * (m+i)+1]?=some x:=fun x y=>oW k1
  have g2 : ∀ x y : Int,(P++x :: (y :: (List.replicate (2 * r) 0++S)))[2 * (m+i)+2]?=some y:=fun x y=>by rw [← eM]; exact oW (k2 x)
  refine (ap (t:=(N,E,A,g,B,o,P++bG (c.toNat : Int) :: ((4 - bG (c.toNat : Int)) :: (List.replicate (2 * r) 0++S)),[((),(s,((i+1 : Nat) : Int)))],rC m s.size,parts,len,idx,())) ?_).trans (Eq.trans ?_ (Eq.trans ih ?_))
  ·rw [eL]
   unfold tz
   simp only [pF,Option.bind_some,hU]
   rw [aG (by omega),cond_true,ae,gg (by omega),Option.bind_some,aU (a:=i) (by omega),ae,gg (by omega),Option.bind_some,aU (a:=2 * (m+i)) (by omega),i1,Option.bind_some,g1,Option.bind_some,s1,i2,Option.bind_some,g2,Option.bind_some,s2,hru,hnx]
   by_cases h82 : (c.toNat : Int)=82
   ·rw [dk h82,cond_true,Option.bind_some,Option.bind_some,aU (a:=2 * (m+i)) (by omega),i1,Option.bind_some,g1,Option.bind_some,s1,i2,Option.bind_some,g2,Option.bind_some,s2]
    unfold bG
    rw [if_pos h82]; rfl
   ·rw [cn h82,cond_false]
    unfold bG
    rw [if_neg h82]; rfl
  ·have : P++bG (c.toNat : Int) :: ((4 - bG (c.toNat : Int)) :: (List.replicate (2 * r) 0++S))=P++[bG (c.toNat : Int),4 - bG (c.toNat : Int)]++List.replicate (2 * r) 0++S:=by simp
   rw [this]; rfl
  ·rw [hb]
   simp [eR]
theorem jp : ∀ l : List Int,(eR l).length=2 * l.length
 | []=>rfl
 | c :: l=>by simp [eR,jp l]; omega
def mR (B : List ByteArray) : Nat→List Arc→Nat→Nat
 | _,[],m=>m
 | e,_ :: E,m=>mR B (e+1) E (m+bs B e+1)
theorem oR {B : List ByteArray} : ∀ {Es : List Arc} {e n m : Nat},(EdR B e Es n).length+m=mR B e Es m
 | [],_,_,_=>by simp [EdR,mR]
 | a :: Es,e,n,m=>by
  have:=oR (B:=B) (Es:=Es) (e:=e+1) (n:=n+bs B e) (m:=m+bs B e+1)
  simp only [EdR,mR,List.length_append,cN,List.length_cons]
  omega
theorem mT {B : List ByteArray} : ∀ {Es : List Arc} {e m : Nat},(paR B e Es m).length=Es.length
 | [],_,_=>rfl
 | a :: Es,e,m=>by simp [paR,mT]
theorem Fz {B : List ByteArray} {Es : List Arc} {e m : Nat} : m≤mR B e Es m:=by rw [← oR (n:=0)]; omega
theorem zr {B : List ByteArray} {M : Nat} (hB : BendsOK B M) : ∀ {Es : List Arc} {e m : Nat},e+Es.length≤M→mR B e Es m≤m+65 * Es.length
 | [],e,m,_=>by simp [mR]
 | a :: Es,e,m,h=>by
  simp only [List.length_cons] at h ⊢
  have:=zr hB (Es:=Es) (e:=e+1) (m:=m+bs B e+1) (by omega)
  have:=(hB.at' e (by omega)).2.2
  show mR B (e+1) Es (m+bs B e+1)≤_
  omega
theorem se (N : Int) (E : List Arc) (A : List (List Int)) (g : List Int) (B : List ByteArray) (o : Int) (hB : BendsOK B E.length) (hg : g.length=2 * E.length) (parts : List (List Int)) :
  ∀ (Es : List Arc) (e m : Nat) (P : List Int),E.drop e=Es→parts.drop e=paR B e Es m→parts.length=E.length→m≤65 * e→P.length=2 * m →
   ug (N,E,A,g,B,o,P++List.replicate (2 * (mR B e Es m - m)) 0,parts,(parts.length : Nat),(e : Int),())=some (.inl (P++anR g B e Es,()))
 | [],e,m,P,h,hp,hpl,hm,hP=>by
  have hl:=po h
  have:=hB.m
  refine ai ?_
  unfold tZ
  simp only
  rw [aA (by omega),cond_false]
  simp [anR,mR]
 | a :: Es,e,m,P,h,hp,hpl,hm,hP=>by
  have hMM:=hB.m
  obtain ⟨hl,ha,hd⟩:=kE h
  obtain ⟨_,hpa,hpd⟩:=kE (show parts.drop e=rC m (bs B e) :: paR B (e+1) Es (m+bs B e+1) from hp)
  obtain ⟨b1,b2,b3⟩:=hB.at' e hl
  have g0 : g[2 * e]?=some (g.getD (2 * e) 0):=by rw [List.getD_eq_getElem?_getD,List.getElem?_eq_getElem (by omega)]; rfl
  have g1 : g[2 * e+1]?=some (g.getD (2 * e+1) 0):=by rw [List.getD_eq_getElem?_getD,List.getElem?_eq_getElem (by omega)]; rfl
  have hge:=Fz (B:=B) (Es:=Es) (e:=e+1) (m:=m+bs B e+1)
  have hbl : (ac (at0 B (2 * e))).length=bs B e:=az _
  have hin:=wO N E A g B o (parts.length : Nat) (e : Int) parts b2 m (by omega) (by show bs B e≤_; omega) (bs B e) 0 (P++[g.getD (2 * e) 0]) (g.getD (2 * e+1) 0 :: List.replicate (2 * (mR B (e+1) Es (m+bs B e+1) - (m+bs B e+1))) 0) (by show 0+bs B e=bs B e; omega) (by simp [hP])
  rw [List.drop_zero] at hin
  have ih:=se N E A g B o hB hg parts Es (e+1) (m+bs B e+1) (P++(g.getD (2 * e) 0 :: eR (ac (at0 B (2 * e)))++[g.getD (2 * e+1) 0])) hd hpd hpl (by omega) (by simp only [List.length_append,List.length_cons,List.length_nil,jp,hbl,hP]; omega)
  have eZ : ∀ W : Nat,List.replicate (2 * (bs B e+1)+W) (0 : Int)=0 :: (List.replicate (2 * bs B e) 0++0 :: List.replicate W 0):=fun W=>by
   rw [show 2 * (bs B e+1)+W=(2 * bs B e+(W+1))+1 by omega,List.replicate_succ,← List.replicate_append_replicate,List.replicate_succ]
  have e1 : P++List.replicate (2 * (mR B e (a :: Es) m - m)) 0=P++0 :: (List.replicate (2 * bs B e) 0++0 :: List.replicate (2 * (mR B (e+1) Es (m+bs B e+1) - (m+bs B e+1))) 0):=by
   show P++List.replicate (2 * (mR B (e+1) Es (m+bs B e+1) - m)) 0=_
   rw [← eZ]
   congr 2
   omega
  refine (ap (t:=(N,E,A,g,B,o,P++(g.getD (2 * e) 0 :: eR (ac (at0 B (2 * e)))++[g.getD (2 * e+1) 0])++List.replicate (2 * (mR B (e+1) Es (m+bs B e+1) - (m+bs B e+1))) 0,parts,((parts.length : Nat) : Int),((e+1 : Nat) : Int),())) ?_).trans (Eq.trans ih ?_)
  ·rw [e1]
   generalize mR B (e+1) Es (m+bs B e+1) - (m+bs B e+1)=W at hin
   have hL : (P++0 :: (List.replicate (2 * bs B e) 0++0 :: List.replicate (2 * W) 0)).length=2 * (m+bs B e)+2+2 * W:=by simp [hP]; omega
   unfold tZ
   simp only
   rw [aG (by omega),cond_true,ae,hpa,Option.bind_some,show ((0 : Int))=((0 : Nat) : Int) from rfl,ae,gg (Nat.zero_le _),Option.bind_some,nl (by omega),ae,g0,Option.bind_some,Nat.add_zero,show (((0 : Nat) : Int))=(0 : Int) from rfl,aD (by rw [hL]; omega),Option.bind_some,oW hP.symm,Option.bind_some,oN hP.symm,
    mZ,kK (by omega),show (((bs B e+1 : Nat) : Int)) - 1=((bs B e : Nat) : Int) by omega,ae,gg (Nat.le_refl _),Option.bind_some,aU (a:=2 * e) (by omega),ae,g1,Option.bind_some,aU (a:=2 * (m+bs B e)) (by omega)]
   have e2 : P++g.getD (2 * e) 0 :: (List.replicate (2 * bs B e) 0++0 :: List.replicate (2 * W) 0)=(P++g.getD (2 * e) 0 :: List.replicate (2 * bs B e) 0)++0 :: List.replicate (2 * W) 0:=by simp
   have k2 : 2 * (m+bs B e)+1=(P++g.getD (2 * e) 0 :: List.replicate (2 * bs B e) 0).length:=by simp [hP]; omega
   rw [e2,aD (by rw [← e2]; simp [hP]; omega),Option.bind_some,oW k2,Option.bind_some,oN k2,ae,b1,Option.bind_some]
   have e3 : (P++g.getD (2 * e) 0 :: List.replicate (2 * bs B e) 0)++g.getD (2 * e+1) 0 :: List.replicate (2 * W) 0=P++[g.getD (2 * e) 0]++List.replicate (2 * bs B e) 0++g.getD (2 * e+1) 0 :: List.replicate (2 * W) 0:=by simp
   rw [e3]
   rw [show uQ (N,E,A,g,B,o,P++[g.getD (2 * e) 0]++List.replicate (2 * bs B e) 0++g.getD (2 * e+1) 0 :: List.replicate (2 * W) 0,[((),(at0 B (2 * e),0))],rC m (bs B e),parts,((parts.length : Nat) : Int),(e : Int),())=_ from hin]
   simp only [Option.bind_some,Sum.elim_inl]
   rw [aU (a:=e) (by omega)]
   congr 8
   simp
  ·simp [anR]
theorem Eo (N : Int) (E : List Arc) (A : List (List Int)) (g : List Int) (B : List ByteArray) (o : Int) (hB : BendsOK B E.length) (hg : g.length=2 * E.length) :
  Zba (((N,E,A,()),g,B,o,()),paR B 0 E 0,(mR B 0 E 0 : Nat),())=some (anR g B 0 E,()):=by
 have hM:=hB.m
 have hle:=zr hB (Es:=E) (e:=0) (m:=0) (by omega)
 unfold Zba
 simp only
 rw [nl (by omega),db (Nat.le_refl _) (by omega),Option.bind_some]
 have:=se N E A g B o hB hg (paR B 0 E 0) E 0 0 [] rfl rfl mT (by omega) rfl
 rw [show ug (N,E,A,g,B,o,List.replicate (2 * mR B 0 E 0) (aH I),paR B 0 E 0,(((paR B 0 E 0).length : Nat) : Int),0,())=_ from this]
 rfl
end Go.Vm

/-
 Straighten, in the program and in the reference; the law DissectStraightens on values.
-/
namespace Go.Vm
open Go.Proofs
set_option maxRecDepth 100000
attribute [local irreducible] aa
theorem zV {B : List ByteArray} : ∀ {Es : List Arc} {e m i : Nat},i < Es.length→∃ mi,(paR B e Es m)[i]?=some (rC mi (bs B (e+i)))∧(fiR B e Es m)[2 * i]?=some ((2 * mi : Nat) : Int)∧(fiR B e Es m)[2 * i+1]?=some ((2 * (mi+bs B (e+i))+1 : Nat) : Int)∧mi+bs B (e+i) < mR B e Es m
 | [],_,_,i,h=>by simp at h
 | a :: Es,e,m,0,h=>⟨m,rfl,rfl,rfl,by have:=Fz (B:=B) (Es:=Es) (e:=e+1) (m:=m+bs B e+1); show m+bs B e < mR B (e+1) Es (m+bs B e+1); omega⟩
 | a :: Es,e,m,i+1,h=>by
  obtain ⟨mi,h1,h2,h3,h4⟩:=zV (B:=B) (Es:=Es) (e:=e+1) (m:=m+bs B e+1) (i:=i) (by simpa using h)
  rw [show e+1+i=e+(i+1) by omega] at h1 h3 h4
  exact ⟨mi,h1,h2,h3,h4⟩
theorem oV {B : List ByteArray} : ∀ {Es : List Arc} {e m : Nat},(fiR B e Es m).length=2 * Es.length
 | [],_,_=>rfl
 | a :: Es,e,m=>by simp [fiR,oV]; omega
theorem oX {g : List Int} {B : List ByteArray} : ∀ {Es : List Arc} {e m : Nat},(anR g B e Es).length+2 * m=2 * mR B e Es m
 | [],_,_=>by simp [anR,mR]
 | a :: Es,e,m=>by
  have:=oX (g:=g) (B:=B) (Es:=Es) (e:=e+1) (m:=m+bs B e+1)
  have hbl : (ac (at0 B (2 * e))).length=bs B e:=az _
  simp only [anR,mR,List.length_append,List.length_cons,List.length_nil,jp,hbl]
  omega
def plc (B : List ByteArray) (E : List Arc) (d : Int) : Int:=(fiR B 0 E 0).getD d.toNat 0
theorem vQ {B : List ByteArray} {E : List Arc} (hB : BendsOK B E.length) {d : Nat} (hd : d < 2 * E.length) : Zf ((d : Int),paR B 0 E 0,())=some (plc B E (d : Int),()):=by
 have hM:=hB.m
 obtain ⟨mi,h1,h2,h3,h4⟩:=zV (B:=B) (Es:=E) (e:=0) (m:=0) (i:=d / 2) (by omega)
 have hle:=zr hB (Es:=E) (e:=0) (m:=0) (by omega)
 simp only [Nat.zero_add] at h1 h3 h4
 unfold Zf
 simp only
 rw [BB,BA (by omega)]
 unfold plc
 rw [Int.toNat_natCast,List.getD_eq_getElem?_getD]
 by_cases h : d % 2=0
 ·rw [dk (by omega),cond_true,ae,h1,Option.bind_some,show ((0 : Int))=((0 : Nat) : Int) from rfl,ae,gg (Nat.zero_le _),Option.bind_some]
  rw [show d=2 * (d / 2) by omega,h2]; rfl
 ·rw [cn (by omega),cond_false,ae,h1,Option.bind_some,Option.bind_some,mZ,kK (by omega),show (((bs B (d / 2)+1 : Nat) : Int)) - 1=((bs B (d / 2) : Nat) : Int) by omega,ae,gg (Nat.le_refl _),Option.bind_some,aU (by omega)]
  rw [show (fiR B 0 E 0)[d]?=(fiR B 0 E 0)[2 * (d / 2)+1]? from congrArg (fun i=>(fiR B 0 E 0)[i]?) (by omega),h3]; rfl
theorem rZ {B : List ByteArray} {E : List Arc} {d : Nat} (hd : d < 2 * E.length) : (fiR B 0 E 0)[d]?=some (plc B E (d : Int)):=by
 unfold plc
 rw [Int.toNat_natCast,List.getD_eq_getElem?_getD,List.getElem?_eq_getElem (by rw [oV]; exact hd)]; rfl
theorem wV (N : Int) (E : List Arc) (A A' : List (List Int)) (g : List Int) (B : List ByteArray) (o x7 x8 x9 x10 len idx : Int) (fr Ar : List (List Int)) (F : List Arc) (an : List Int) (hB : BendsOK B E.length) (l : List Int) (hl : l.length≤1000000) :
  ∀ (q p acc : List Int),p++q=l→acc.length+q.length≤1000000→(∀ d∈q,∃ k : Nat,d=(k : Int)∧k < 2 * E.length) →
   tS (N,E,A,g,B,o,x7,x8,x9,x10,fr,acc,F,Ar,an,paR B 0 E 0,A',len,idx,l,(l.length : Nat),(p.length : Nat),()) =
    some (.inl (N,E,A,g,B,o,x7,x8,x9,x10,fr,acc++q.map (plc B E),F,Ar,an,paR B 0 E 0,A',len,idx,()))
 | [],p,acc,h,_,_=>by
  subst h
  refine ai ?_
  unfold tc
  simp only
  rw [aA (by simp),cond_false]
  simp
 | d :: q,p,acc,h,ha,hq=>by
  obtain ⟨k,rfl,hk⟩:=hq d (by simp)
  have hx : l[p.length]?=some (k : Int):=by rw [← h,List.getElem?_append_right (Nat.le_refl _),Nat.sub_self]; rfl
  have hp : p.length < l.length:=(List.getElem?_eq_some_iff.1 hx).1
  simp only [List.length_cons] at ha
  have ih:=wV N E A A' g B o x7 x8 x9 x10 len idx fr Ar F an hB l hl q (p++[(k : Int)]) (acc++[plc B E (k : Int)]) (by simpa using h) (by simp; omega) (fun d hd=>hq d (by simp [hd]))
  refine (ap (t:=(N,E,A,g,B,o,x7,x8,x9,x10,fr,acc++[plc B E (k : Int)],F,Ar,an,paR B 0 E 0,A',len,idx,l,((l.length : Nat) : Int),(((p++[(k : Int)]).length : Nat) : Int),())) ?_).trans (Eq.trans ih ?_)
  ·unfold tc
   simp only
   rw [aG (by omega),cond_true,ae,hx,Option.bind_some,vQ hB hk,Option.bind_some,bg (by simp; omega),Option.bind_some,aU (by omega)]
   simp
  ·simp
theorem sT (N : Int) (E : List Arc) (A : List (List Int)) (g : List Int) (B : List ByteArray) (o x7 x8 x9 x10 : Int) (parts ad Ar : List (List Int)) (F : List Arc) (an : List Int) (v : Nat) (l : List Int) (hv : A[v]?=some l) (hl : l.length≤1000000) :
  ∀ (q p acc : List Int),p++q=l→acc.length+q.length≤1000000→(∀ d∈q,∃ k : Nat,d=(k : Int)∧k < 2 * E.length) →
   uR (N,E,A,g,B,o,x7,x8,x9,x10,parts,fiR B 0 E 0,ad,acc,F,Ar,an,(v : Int),(p.length : Nat),()) =
    some (.inl (N,E,A,g,B,o,x7,x8,x9,x10,parts,fiR B 0 E 0,ad,acc++q.map (plc B E),F,Ar,an,(v : Int),()))
 | [],p,acc,h,_,_=>by
  subst h
  refine ai ?_
  unfold uP
  simp only
  rw [ae,hv,Option.bind_some,aA (by simp),cond_false]
  simp
 | d :: q,p,acc,h,ha,hq=>by
  obtain ⟨k,rfl,hk⟩:=hq d (by simp)
  have hx : l[p.length]?=some (k : Int):=by rw [← h,List.getElem?_append_right (Nat.le_refl _),Nat.sub_self]; rfl
  have hp : p.length < l.length:=(List.getElem?_eq_some_iff.1 hx).1
  simp only [List.length_cons] at ha
  have ih:=sT N E A g B o x7 x8 x9 x10 parts ad Ar F an v l hv hl q (p++[(k : Int)]) (acc++[plc B E (k : Int)]) (by simpa using h) (by simp; omega) (fun d hd=>hq d (by simp [hd]))
  refine (ap (t:=(N,E,A,g,B,o,x7,x8,x9,x10,parts,fiR B 0 E 0,ad,acc++[plc B E (k : Int)],F,Ar,an,(v : Int),(((p++[(k : Int)]).length : Nat) : Int),())) ?_).trans (Eq.trans ih ?_)
  ·unfold uP
   simp only
   rw [ae,hv,Option.bind_some,aG (by omega),cond_true,Option.bind_some,ae,hx,Option.bind_some,aD (by rw [oV]; exact hk),Option.bind_some,rZ hk,Option.bind_some,bg (by simp; omega),Option.bind_some,aU (by omega)]
   simp
  ·simp
def plA (B : List ByteArray) (E : List Arc) (A : List (List Int)) : List (List Int):=A.map fun l=>l.map (plc B E)
theorem vY (N : Int) (E : List Arc) (A : List (List Int)) (g : List Int) (B : List ByteArray) (o x7 x8 x9 x10 : Int) (fr : List (List Int)) (F : List Arc) (an : List Int) (hB : BendsOK B E.length) (hA : A.length≤1000000) (hll : ∀ l∈A,l.length≤1000000) (hd : ∀ l∈A,∀ d∈l,∃ k : Nat,d=(k : Int)∧k < 2 * E.length) :
  ∀ (Q P acc : List (List Int)),P++Q=A→acc.length+Q.length≤1000000 →
  tI (N,E,A,g,B,o,x7,x8,x9,x10,fr,F,acc,an,paR B 0 E 0,A,(A.length : Nat),(P.length : Nat),())=some (.inl (N,E,A,g,B,o,x7,x8,x9,x10,fr,F,acc++plA B E Q,an,paR B 0 E 0,()))
 | [],P,acc,h,_=>by
  subst h
  refine ai ?_
  unfold tg
  simp only
  rw [aA (by simp),cond_false]
  simp [plA]
 | l :: Q,P,acc,h,ha=>by
  have hx : A[P.length]?=some l:=by rw [← h,List.getElem?_append_right (Nat.le_refl _),Nat.sub_self]; rfl
  have hm:=List.mem_of_getElem? hx
  have hp : P.length < A.length:=(List.getElem?_eq_some_iff.1 hx).1
  simp only [List.length_cons] at ha
  have ih:=vY N E A g B o x7 x8 x9 x10 fr F an hB hA hll hd Q (P++[l]) (acc++[l.map (plc B E)]) (by simpa using h) (by simp; omega)
  refine (ap (t:=(N,E,A,g,B,o,x7,x8,x9,x10,fr,F,acc++[l.map (plc B E)],an,paR B 0 E 0,A,((A.length : Nat) : Int),(((P++[l]).length : Nat) : Int),())) ?_).trans (Eq.trans ih ?_)
  ·unfold tg
   simp only
   rw [aG (by omega),cond_true,ae,hx,Option.bind_some]
   rw [show tS (N,E,A,g,B,o,x7,x8,x9,x10,fr,[],F,acc,an,paR B 0 E 0,A,((A.length : Nat) : Int),((P.length : Nat) : Int),l,((l.length : Nat) : Int),0,())=_ from
    wV N E A A g B o x7 x8 x9 x10 (A.length : Nat) (P.length : Nat) fr acc F an hB l (hll l hm) l [] [] rfl (by have:=hll l hm; simpa using this) (hd l hm)]
   simp only [Option.bind_some,Sum.elim_inl,List.nil_append]
   rw [bg (by simp; omega),Option.bind_some,aU (by omega)]
   simp
  ·simp [plA]
theorem sb (E : List Arc) (A : List (List Int)) (g : List Int) (B : List ByteArray) (o x7 x8 x9 x10 : Int) (parts ad : List (List Int)) (F : List Arc) (an : List Int) (hA : A.length≤1000000) (hll : ∀ l∈A,l.length≤1000000) (hd : ∀ l∈A,∀ d∈l,∃ k : Nat,d=(k : Int)∧k < 2 * E.length) :
  ∀ (Q P acc : List (List Int)),P++Q=A→acc.length+Q.length≤1000000 →
  tF ((A.length : Nat),E,A,g,B,o,x7,x8,x9,x10,parts,fiR B 0 E 0,ad,F,acc,an,(P.length : Nat),())=some (.inl ((A.length : Nat),E,A,g,B,o,x7,x8,x9,x10,parts,fiR B 0 E 0,ad,F,acc++plA B E Q,an,()))
 | [],P,acc,h,_=>by
  subst h
  refine ai ?_
  unfold ut
  simp only
  rw [aA (by simp),cond_false]
  simp [plA]
 | l :: Q,P,acc,h,ha=>by
  have hx : A[P.length]?=some l:=by rw [← h,List.getElem?_append_right (Nat.le_refl _),Nat.sub_self]; rfl
  have hm:=List.mem_of_getElem? hx
  have hp : P.length < A.length:=(List.getElem?_eq_some_iff.1 hx).1
  simp only [List.length_cons] at ha
  have ih:=sb E A g B o x7 x8 x9 x10 parts ad F an hA hll hd Q (P++[l]) (acc++[l.map (plc B E)]) (by simpa using h) (by simp; omega)
  refine (ap (t:=(((A.length : Nat) : Int),E,A,g,B,o,x7,x8,x9,x10,parts,fiR B 0 E 0,ad,F,acc++[l.map (plc B E)],an,(((P++[l]).length : Nat) : Int),())) ?_).trans (Eq.trans ih ?_)
  ·unfold ut
   simp only
   rw [aG (by omega),cond_true]
   rw [show uR (((A.length : Nat) : Int),E,A,g,B,o,x7,x8,x9,x10,parts,fiR B 0 E 0,ad,[],F,acc,an,((P.length : Nat) : Int),0,())=_ from
    sT (A.length : Nat) E A g B o x7 x8 x9 x10 parts ad acc F an P.length l hx (hll l hm) l [] [] rfl (by have:=hll l hm; simpa using this) (hd l hm)]
   simp only [Option.bind_some,Sum.elim_inl,List.nil_append]
   rw [bg (by simp; omega),Option.bind_some,aU (by omega)]
   simp
  ·simp [plA]
def rB (N : Nat) (E : List Arc) (A : List (List Int)) (g : List Int) (B : List ByteArray) (o : Int) : ((Int×List Arc×List (List Int)×Unit)×List Int×List ByteArray×Int×Unit) :=
 (((nR B 0 E N : Nat),EdR B 0 E N,plA B E A++frR B 0 E 0,()),anR g B 0 E,List.replicate (2 * mR B 0 E 0) ByteArray.empty,(if 0 < E.length then plc B E o else 0),())
theorem tG {B : List ByteArray} {M : Nat} (hB : BendsOK B M) : ∀ {Es : List Arc} {e m : Nat},e+Es.length≤M→(frR B e Es m).length≤64 * Es.length
 | [],_,_,_=>by simp [frR]
 | a :: Es,e,m,h=>by
  simp only [List.length_cons] at h
  have:=tG hB (Es:=Es) (e:=e+1) (m:=m+bs B e+1) (by omega)
  have:=(hB.at' e (by omega)).2.2
  simp only [frR,List.length_append,gL,List.length_cons]
  omega
theorem jL {N : Nat} {E : List Arc} {A : List (List Int)} {g : List Int} {B : List ByteArray} {o : Int} {nx : List Int} (h : ShapeOK N E A g B o nx) : BendsOK B E.length:=by
 refine ⟨h.rot.m1,h.turn.blen,fun e he=>?_⟩
 have hb:=h.turn.bend (2 * e) (by omega)
 simp only [fM,Bool.and_eq_true,decide_eq_true_eq] at hb
 exact ⟨fI (by rw [h.turn.blen]; omega),hb.2,hb.1⟩
theorem jc (N0 : Int) (E : List Arc) (A : List (List Int)) (g : List Int) (B : List ByteArray) (o : Int) (hA : ∀ l∈A,l.length≤9223372036854775807) :
  (Zq (((N0,E,A,()),g,B,o,()),())=some (((0,[],[],()),[],[],0,()),[],13,())∧Zd (((N0,E,A,()),g,B,o,()),())=some (((0,[],[],()),[],[],0,()),[],13,())∧Zbr (((N0,E,A,()),g,B,o,()),())=some (false,())) ∨
  ∃ (N : Nat) (nx : List Int),N0=(N : Int)∧ShapeOK N E A g B o nx∧Zbr (((N0,E,A,()),g,B,o,()),())=some (true,()) ∧
   Zq (((N0,E,A,()),g,B,o,()),())=some (rB N E A g B o,paR B 0 E 0,0,())∧Zd (((N0,E,A,()),g,B,o,()),())=some (rB N E A g B o,paR B 0 E 0,0,()):=by
 obtain ⟨b,v1,v2,v3⟩:=mz N0 E A g B o hA
 have w1 : Zbu (((N0,E,A,()),g,B,o,()),())=some (cond b 0 13,()):=by
  unfold Zbu
  simp only
  rw [v1,Option.bind_some]
  cases b <;> rfl
 cases b with
 | false =>
  left
  refine ⟨?_,?_,v1⟩
  ·unfold Zq
   simp only
   rw [w1,Option.bind_some]; rfl
  ·unfold Zd
   simp only
   rw [v2,Option.bind_some]; rfl
 | true =>
  right
  obtain ⟨N,rfl,nx,h⟩:=v3 rfl
  have hB:=jL h
  have hM:=hB.m
  have hgl:=h.turn.glen
  have hn:=h.rot.n1
  have hal:=h.rot.len
  have hll : ∀ l∈A,l.length≤1000000:=fun l hl=>by have:=h.rot.list_len hl; omega
  have hd : ∀ l∈A,∀ d∈l,∃ k : Nat,d=(k : Int)∧k < 2 * E.length:=fun l hl d hdl=>h.rot.mem_of hl hdl
  have hEl : ∀ n,(EdR B 0 E n).length=mR B 0 E 0:=fun n=>by have:=oR (B:=B) (Es:=E) (e:=0) (n:=n) (m:=0); omega
  have hmle:=zr hB (Es:=E) (e:=0) (m:=0) (by omega)
  have hanl : (anR g B 0 E).length=2 * mR B 0 E 0:=by have:=oX (g:=g) (B:=B) (Es:=E) (e:=0) (m:=0); omega
  have hfl:=tG hB (Es:=E) (e:=0) (m:=0) (by omega)
  have hpl : (plA B E A).length=A.length:=by simp [plA]
  have hout : 0 < E.length→∃ k : Nat,o=(k : Int)∧k < 2 * E.length:=fun hE=>by
   have h0:=h.out0
   have h1:=h.out1
   exact ⟨o.toNat,by omega,by omega⟩
  refine ⟨N,nx,rfl,h,v1,?_,?_⟩
  ·have k1:=sy (N : Int) E A g B o hB E 0 N [] [] [] rfl (by omega) (by simp; omega) (by simp; omega) (by simp; omega)
   simp only [List.nil_append,List.length_nil] at k1
   unfold Zq
   simp only
   rw [w1,Option.bind_some]
   simp only [cond_true]
   rw [bx rfl,cond_false]
   rw [show Ad ((N : Int),E,A,g,B,o,0,0,(N : Int),0,[],[],[],E,((E.length : Nat) : Int),0,())=_ from k1]
   simp only [Option.bind_some,Sum.elim_inl]
   rw [hEl,Eo (N : Int) E A g B o hB hgl]
   simp only [Option.bind_some]
   have k2:=vY (N : Int) E A g B o 0 0 (nR B 0 E N : Nat) 0 (frR B 0 E 0) (EdR B 0 E N) (anR g B 0 E) hB (by omega) hll hd A [] [] rfl (by simp; omega)
   simp only [List.nil_append,List.length_nil] at k2
   rw [show tI ((N : Int),E,A,g,B,o,0,0,((nR B 0 E N : Nat) : Int),0,frR B 0 E 0,EdR B 0 E N,[],anR g B 0 E,paR B 0 E 0,A,((A.length : Nat) : Int),0,())=_ from k2]
   simp only [Option.bind_some,Sum.elim_inl]
   rw [bg (by rw [hpl]; omega),Option.bind_some,hEl,nl (by omega),db (Nat.le_refl _) (by omega),Option.bind_some]
   unfold rB
   by_cases hE : 0 < E.length
   ·obtain ⟨k,rfl,hk⟩:=hout hE
    rw [dA (by omega),cond_true,vQ hB hk,Option.bind_some,if_pos hE]; rfl
   ·rw [cM (by omega),cond_false,if_neg hE]; rfl
  ·have k1:=qw (N : Int) E A g B o hB hgl E 0 N [] [] [] [] [] rfl (by omega) (by simp; omega) (by simp; omega) (by simp; omega) (by simp; omega) (by simp; omega)
   simp only [List.nil_append,List.length_nil] at k1
   unfold Zd
   simp only
   rw [v2,Option.bind_some]
   simp only [cond_true]
   rw [bx rfl,cond_false]
   rw [show za ((N : Int),E,A,g,B,o,0,0,(N : Int),0,[],[],[],[],[],0,())=_ from k1]
   simp only [Option.bind_some,Sum.elim_inl]
   have k2:=sb E A g B o 0 0 (nR B 0 E N : Nat) 0 (paR B 0 E 0) (frR B 0 E 0) (EdR B 0 E N) (anR g B 0 E) (by omega) hll hd A [] [] rfl (by simp; omega)
   simp only [List.nil_append,List.length_nil] at k2
   rw [show ((N : Nat) : Int)=((A.length : Nat) : Int) by omega] 
   rw [show tF (((A.length : Nat) : Int),E,A,g,B,o,0,0,((nR B 0 E N : Nat) : Int),0,paR B 0 E 0,fiR B 0 E 0,frR B 0 E 0,EdR B 0 E N,[],anR g B 0 E,0,())=_ from k2]
   simp only [Option.bind_some,Sum.elim_inl]
   rw [bg (by rw [hpl]; omega),Option.bind_some,hanl,db (Nat.le_refl _) (by omega),Option.bind_some,oV]
   unfold rB
   by_cases hE : 0 < E.length
   ·obtain ⟨k,rfl,hk⟩:=hout hE
    rw [dA (by omega),cond_true,aD hk,Option.bind_some,rZ hk,Option.bind_some,if_pos hE]; rfl
   ·rw [cM (by omega),cond_false,if_neg hE]; rfl
end Go.Vm

/-
 The law DissectStraightens on values.
-/
namespace Go.Vm
open Go.Proofs
set_option maxRecDepth 100000
attribute [local irreducible] aa
end Go.Vm


/-
 Straighten: the edges, in the program and in the reference.
-/
import Derived.Test.YtnnbdielbgljaaaDoorL41B
set_option linter.unusedVariables false
set_option linter.unusedSimpArgs false
namespace Go.Vm
open Go.Proofs
set_option maxRecDepth 100000
attribute [local irreducible] loopFix
def bs (B : List ByteArray) (e : Nat) : Nat:=(at0 B (2 * e)).size
def nR (B : List ByteArray) : Nat→List Arc→Nat→Nat
 | _,[],n=>n
 | e,_ :: E,n=>nR B (e+1) E (n+bs B e)
def EdR (B : List ByteArray) : Nat→List Arc→Nat→List Arc
 | _,[],_=>[]
 | e,a :: E,n=>chP a.1 n (bs B e)++(endP a.1 n (bs B e),a.2.1,()) :: EdR B (e+1) E (n+bs B e)
def paR (B : List ByteArray) : Nat→List Arc→Nat→List (List Int)
 | _,[],_=>[]
 | e,_ :: E,m=>(evL m (bs B e)++[((2 * (m+bs B e) : Nat) : Int)]) :: paR B (e+1) E (m+bs B e+1)
def frR (B : List ByteArray) : Nat→List Arc→Nat→List (List Int)
 | _,[],_=>[]
 | e,_ :: E,m=>frL m (bs B e)++frR B (e+1) E (m+bs B e+1)
def fiR (B : List ByteArray) : Nat→List Arc→Nat→List Int
 | _,[],_=>[]
 | e,_ :: E,m=>((2 * m : Nat) : Int) :: ((2 * (m+bs B e)+1 : Nat) : Int) :: fiR B (e+1) E (m+bs B e+1)
def anR (g : List Int) (B : List ByteArray) : Nat→List Arc→List Int
 | _,[]=>[]
 | e,_ :: E=>(g.getD (2 * e) 0 :: angM (bytesOf (at0 B (2 * e)))++[g.getD (2 * e+1) 0])++anR g B (e+1) E
structure BendsOK (B : List ByteArray) (M : Nat) : Prop where
 m : M≤32768
 len : B.length=2 * M
 at' : ∀ e,e < M→B[2 * e]?=some (at0 B (2 * e))∧(bytesOf (at0 B (2 * e))).all lr=true∧bs B e≤64
theorem drop_cons {α : Type} {E : List α} {e : Nat} {a : α} {Es : List α} (h : E.drop e=a :: Es) : e < E.length∧E[e]?=some a∧E.drop (e+1)=Es:=by
 have hl : e < E.length:=by
  rcases Nat.lt_or_ge e E.length with c | c
  ·exact c
  ·rw [List.drop_of_length_le c] at h; cases h
 rw [List.drop_eq_getElem_cons hl] at h
 cases h
 exact ⟨hl,List.getElem?_eq_getElem hl,rfl⟩
theorem drop_nil {α : Type} {E : List α} {e : Nat} (h : E.drop e=[]) : E.length≤e:=by simpa using h
theorem str_edges (N : Int) (E : List Arc) (A : List (List Int)) (g : List Int) (B : List ByteArray) (o : Int) (hB : BendsOK B E.length) :
  ∀ (Es : List Arc) (e n : Nat) (fr : List (List Int)) (F : List Arc) (parts : List (List Int)),E.drop e=Es→n+100 * Es.length≤100000000→fr.length+100 * Es.length≤100000000→F.length+100 * Es.length≤100000000→parts.length+Es.length≤100000000 →
   Zo_L7 (N,E,A,g,B,o,0,0,(n : Int),0,fr,F,parts,E,(E.length : Nat),(e : Int),()) =
    some (.inl (N,E,A,g,B,o,0,0,(nR B e Es n : Nat),0,fr++frR B e Es F.length,F++EdR B e Es n,parts++paR B e Es F.length,()))
 | [],e,n,fr,F,parts,h,_,_,_,_=>by
  have hm:=hB.m
  have hl:=drop_nil h
  refine loop_done ?_
  unfold Zo_B7
  simp only
  rw [ltI_f (by omega),cond_false]
  simp [nR,frR,EdR,paR]
 | a :: Es,e,n,fr,F,parts,h,h1,h2,h3,h4=>by
  have hm:=hB.m
  obtain ⟨hl,ha,hd⟩:=drop_cons h
  obtain ⟨b1,b2,b3⟩:=hB.at' e hl
  simp only [List.length_cons] at h1 h2 h3 h4
  have hsz : (at0 B (2 * e)).size=bs B e:=rfl
  have hin:=str_inner N E A g B o a.1 a.2.1 (E.length : Nat) (e : Int) parts b2 (bs B e) 0 n fr [] F a.1 (by omega) (by omega) (by omega) (by simp; omega) (by omega)
  have ih:=str_edges N E A g B o hB Es (e+1) (n+bs B e) (fr++frL F.length (bs B e)) (F++chP a.1 n (bs B e)++[(endP a.1 n (bs B e),a.2.1,())]) (parts++[evL F.length (bs B e)++[((2 * (F.length+bs B e) : Nat) : Int)]]) hd
   (by omega) (by simp [frL_len]; omega) (by simp [chP_len]; omega) (by simp; omega)
  refine (loop_step (t:=(N,E,A,g,B,o,0,0,((n+bs B e : Nat) : Int),0,fr++frL F.length (bs B e),F++chP a.1 n (bs B e)++[(endP a.1 n (bs B e),a.2.1,())],parts++[evL F.length (bs B e)++[((2 * (F.length+bs B e) : Nat) : Int)]],E,((E.length : Nat) : Int),((e+1 : Nat) : Int),())) ?_).trans (Eq.trans ih ?_)
  ·unfold Zo_B7
   simp only
   rw [ltI_t (by omega),cond_true,getI_of,ha,Option.bind_some,mul2 (by omega),getI_of,b1,Option.bind_some]
   rw [show Zo_L12 (N,E,A,g,B,o,0,0,(n : Int),0,fr,a.1,a.2.1,[],[((),(at0 B (2 * e),0))],F,parts,a.1,E,((E.length : Nat) : Int),(e : Int),())=_ from hin]
   simp only [Option.bind_some,Sum.elim_inl,List.nil_append]
   have hll : (F++chP a.1 n (bs B e)).length=F.length+bs B e:=by simp [chP_len]
   rw [mul2 (by rw [hll]; omega),hll,app_of (by simp [evL_len]; omega),Option.bind_some,app_of (by simp [chP_len]; omega),Option.bind_some,app_of (by simp; omega),Option.bind_some,add1 (by omega)]
  ·simp only [List.length_append,List.length_singleton,List.append_assoc,chP_len,nR,frR,EdR,paR,List.singleton_append]
   rw [show F.length+(bs B e+1)=F.length+bs B e+1 by omega]
theorem rstr_edges (N : Int) (E : List Arc) (A : List (List Int)) (g : List Int) (B : List ByteArray) (o : Int) (hB : BendsOK B E.length) (hg : g.length=2 * E.length) :
  ∀ (Es : List Arc) (e n : Nat) (parts : List (List Int)) (first : List Int) (ad : List (List Int)) (F : List Arc) (q : List Int),E.drop e=Es→n+100 * Es.length≤100000000→ad.length+100 * Es.length≤100000000→F.length+100 * Es.length≤100000000→parts.length+Es.length≤100000000 →
   first.length+2 * Es.length≤100000000→q.length+200 * Es.length≤100000000 →
   Zd_L8 (N,E,A,g,B,o,0,0,(n : Int),0,parts,first,ad,F,q,(e : Int),()) =
    some (.inl (N,E,A,g,B,o,0,0,(nR B e Es n : Nat),0,parts++paR B e Es F.length,first++fiR B e Es F.length,ad++frR B e Es F.length,F++EdR B e Es n,q++anR g B e Es,()))
 | [],e,n,parts,first,ad,F,q,h,_,_,_,_,_,_=>by
  have hm:=hB.m
  have hl:=drop_nil h
  refine loop_done ?_
  unfold Zd_B8
  simp only
  rw [ltI_f (by omega),cond_false]
  simp [nR,frR,EdR,paR,fiR,anR]
 | a :: Es,e,n,parts,first,ad,F,q,h,h1,h2,h3,h4,h5,h6=>by
  have hm:=hB.m
  obtain ⟨hl,ha,hd⟩:=drop_cons h
  obtain ⟨b1,b2,b3⟩:=hB.at' e hl
  simp only [List.length_cons] at h1 h2 h3 h4 h5 h6
  have hsz : (at0 B (2 * e)).size=bs B e:=rfl
  have g0 : g[2 * e]?=some (g.getD (2 * e) 0):=by rw [List.getD_eq_getElem?_getD,List.getElem?_eq_getElem (by omega)]; rfl
  have g1 : g[2 * e+1]?=some (g.getD (2 * e+1) 0):=by rw [List.getD_eq_getElem?_getD,List.getElem?_eq_getElem (by omega)]; rfl
  have hin:=rstr_inner N E A g B o parts (first++[((2 * F.length : Nat) : Int)]) e b2 (by omega) (by omega) g0 (bs B e) 0 n ad [] F q a.1 (g.getD (2 * e) 0) (by omega) (by omega) (by omega) (by simp; omega) (by omega) (by omega) (fun _=>rfl) (by omega)
  rw [List.drop_zero] at hin
  have hbl : (bytesOf (at0 B (2 * e))).length=bs B e:=bytesOf_length _
  obtain ⟨r1,r2⟩:=raL_eq (bytesOf (at0 B (2 * e))) q (g.getD (2 * e) 0)
  have haml : ∀ l : List Int,(angM l).length=2 * l.length:=fun l=>by
   induction l with
   | nil=>rfl
   | cons c l ih=>simp [angM,ih]; omega
  have ih:=rstr_edges N E A g B o hB hg Es (e+1) (n+bs B e) (parts++[evL F.length (bs B e)++[((2 * (F.length+bs B e) : Nat) : Int)]]) (first++[((2 * F.length : Nat) : Int),((2 * (F.length+bs B e)+1 : Nat) : Int)]) (ad++frL F.length (bs B e))
   (F++chP a.1 n (bs B e)++[(endP a.1 n (bs B e),a.2.1,())]) (q++(g.getD (2 * e) 0 :: angM (bytesOf (at0 B (2 * e)))++[g.getD (2 * e+1) 0])) hd
   (by omega) (by simp [frL_len]; omega) (by simp [chP_len]; omega) (by simp; omega) (by simp; omega) (by simp only [List.length_append,List.length_cons,List.length_nil,haml,hbl]; omega)
  refine (loop_step (t:=(N,E,A,g,B,o,0,0,((n+bs B e : Nat) : Int),0,parts++[evL F.length (bs B e)++[((2 * (F.length+bs B e) : Nat) : Int)]],first++[((2 * F.length : Nat) : Int),((2 * (F.length+bs B e)+1 : Nat) : Int)],ad++frL F.length (bs B e),
   F++chP a.1 n (bs B e)++[(endP a.1 n (bs B e),a.2.1,())],q++(g.getD (2 * e) 0 :: angM (bytesOf (at0 B (2 * e)))++[g.getD (2 * e+1) 0]),((e+1 : Nat) : Int),())) ?_).trans (Eq.trans ih ?_)
  ·unfold Zd_B8
   simp only
   have hll : (F++chP a.1 n (bs B e)).length=F.length+bs B e:=by simp [chP_len]
   rw [ltI_t (by omega),cond_true,mul2 (n:=e) (by omega),getI_of,b1,Option.bind_some,getI_of,ha,Option.bind_some,mul2 (n:=F.length) (by omega),app_of (by simp; omega),Option.bind_some]
   rw [show Zd_L15 (N,E,A,g,B,o,0,0,(n : Int),0,parts,first++[((2 * F.length : Nat) : Int)],ad,[],F,q,(e : Int),at0 B (2 * e),a.1,0,())=_ from hin]
   simp only [Option.bind_some,Sum.elim_inl,List.nil_append]
   rw [getI_of,ha,Option.bind_some,app_of (by simp [chP_len]; omega),Option.bind_some,mul2 (by rw [hll]; omega),hll,app_of (by simp [evL_len]; omega),Option.bind_some,add1 (a:=2 * (F.length+bs B e)) (by omega),app_of (by simp; omega),Option.bind_some,mul2 (n:=e) (by omega),add1 (a:=2 * e) (by omega)]
   rw [getI_of,g0,getI_of,g1,hsz,add1 (a:=e) (by omega)]
   by_cases hb0 : bytesOf (at0 B (2 * e))=[]
   ·have hb : bs B e=0:=by rw [← hbl,hb0]; rfl
    rw [eqI_t (by omega),cond_true,Option.bind_some,Option.bind_some,r1 hb0,app_of (by simp; omega),Option.bind_some,app_of (by simp; omega),Option.bind_some,hb0,hb]
    simp [angM]
   ·obtain ⟨y,y1,y2,y3⟩:=r2 hb0
    have hb : bs B e≠0:=by rw [← hbl]; intro hz; exact hb0 (List.length_eq_zero_iff.1 hz)
    have hq : (raL q (g.getD (2 * e) 0) (bytesOf (at0 B (2 * e)))).length+1=q.length+1+2 * bs B e:=by
     have:=congrArg List.length y3
     simp only [List.length_append,List.length_cons,List.length_nil,haml,hbl] at this
     omega
    rw [List.getLast?_eq_getElem?] at y1
    rw [eqI_f (by omega),cond_false,sub1 (by omega),show (((raL q (g.getD (2 * e) 0) (bytesOf (at0 B (2 * e)))).length : Nat) : Int) - 1=(((raL q (g.getD (2 * e) 0) (bytesOf (at0 B (2 * e)))).length - 1 : Nat) : Int) by omega,idxI_of (by omega),Option.bind_some,y1,Option.bind_some,Option.bind_some,
     subI64 (by omega) (by omega),app_of (by simp only [List.length_cons,List.length_nil]; omega),Option.bind_some,app_of (by simp; omega),Option.bind_some]
    have : raL q (g.getD (2 * e) 0) (bytesOf (at0 B (2 * e)))++[4 - y,g.getD (2 * e+1) 0]=q++(g.getD (2 * e) 0 :: angM (bytesOf (at0 B (2 * e)))++[g.getD (2 * e+1) 0]):=by
     rw [show [4 - y,g.getD (2 * e+1) 0]=[4 - y]++[g.getD (2 * e+1) 0] from rfl,← List.append_assoc,y3]
     simp
    rw [this]
    simp
  ·simp only [List.length_append,List.length_singleton,List.append_assoc,chP_len,nR,frR,EdR,paR,fiR,anR,List.singleton_append,List.cons_append,List.nil_append]
   rw [show F.length+(bs B e+1)=F.length+bs B e+1 by omega]
end Go.Vm

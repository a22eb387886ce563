/-
 Bends, angles, turns; valid shapes.
-/
import Derived.Test.YtnnbdielbgljaaaDoorD41
import Derived.Test.YtnnbdielbgljaaaDoorVmD
import Derived.KernelRfl
import Derived.Test.YtnnbdielbgljaaaDoorKA
set_option linter.unusedVariables false
set_option linter.unusedSimpArgs false
namespace Go.Vm
open Go.Proofs
set_option maxRecDepth 100000
def sw (c : Int) : Int:=if c=76 then 82 else if c=82 then 76 else c
theorem GN (c : Int) : sw (sw c)=c:=by unfold sw; split <;> (try split) <;> (try split) <;> omega
theorem CU {c : Int} (h : 0≤c∧c < 256) : 0≤sw c∧sw c < 256:=by unfold sw; split <;> (try split) <;> omega
theorem yf (c : Int) : ∃ b,Zbe (c,())=some (sw c,(b,())):=by
 unfold Zbe sw
 by_cases h1 : c=76
 ·exact ⟨true,by simp [eqI,h1]⟩
 ·by_cases h2 : c=82
  ·exact ⟨true,by simp [eqI,h2]⟩
  ·exact ⟨false,by dsimp only; rw [bw h1,bw h2,if_neg h1,if_neg h2]; rfl⟩
theorem vR (c : Int) : Zh (c,())=some (sw c,()):=by
 unfold Zh sw
 by_cases h1 : c=76
 ·simp [eqI,h1]
 ·by_cases h2 : c=82
  ·simp [eqI,h2]
  ·dsimp only; rw [bw h1,bw h2,if_neg h1,if_neg h2]; rfl
theorem sU : ∀ (q p : List Int),(p++q).length≤68719476736→vv (p++q,(((p++q).length : Nat),((p.length : Nat),())))=some (.inl (p++q.map sw,()))
 | [],p,h=>by
  refine ac ?_
  simp only [nQ]
  rw [aA (by simp)]
  simp
 | c :: q,p,h=>by
  have h' : p.length+q.length+1≤68719476736:=by simp at h; omega
  have hs : nQ (p++c :: q,(((p++c :: q).length : Nat),((p.length : Nat),())))=some (.inl ((p++[sw c])++q,((((p++[sw c])++q).length : Nat),(((p++[sw c]).length : Nat),())))):=by
   simp only [nQ]
   obtain ⟨b,hb⟩:=yf c
   rw [aB (by simp; omega),cond_true,ap (by simp),Option.bind_some]
   have g : (p++c :: q)[p.length]?=some c:=by simp
   rw [g,Option.bind_some,hb,Option.bind_some,Option.bind_some]
   simp only [g,Option.bind_some]
   rw [a9 (by omega)]
   simp
  show ab _ _=_
  rw [ao hs]
  have:=sU q (p++[sw c]) (by simp; omega)
  rw [show ab nQ=vv from rfl,this]
  simp
theorem ya (s : ByteArray) (h : s.size≤68719476736) : Zbh (s,())=some (de ((ar s).reverse.map sw),()):=by
 have hl:=bg s
 have e1 : Zl (ar s,())=some ((ar s).reverse,()):=by
  unfold Zl
  have:=EB (ar s) (by omega)
  rw [show C9 ((ar s,()).1,(0,((bf .i64 ((ar s,()).1.length : Nat) 1),())))=some (.inl ((ar s).reverse,())) from this]
  rfl
 unfold Zbh
 simp only [e1,Option.bind_some]
 have:=sU (ar s).reverse [] (by simp; omega)
 simp only [List.nil_append,List.length_nil] at this
 rw [show ((0 : Nat) : Int)=0 from rfl] at this
 rw [this]
 rfl
theorem o4 (s : ByteArray) (hs : s.size≤68719476736) : ∀ (k : Nat) (acc : List Int),k≤s.size→acc.length+k≤s.size →
  zl (acc,(s,((k : Int) - 1,())))=some (.inl (acc++((ar s).take k).reverse.map sw,()))
 | 0,acc,_,_=>by
  refine ac ?_
  simp only [tX]
  rw [fZ (by omega)]
  simp
 | k+1,acc,hk,ha=>by
  have hl:=bg s
  obtain ⟨c,hc⟩ : ∃ c,s.data.toList[k]?=some c:=⟨_,List.getElem?_eq_getElem (by rw [Array.length_toList]; exact hk)⟩
  have hb:=u4 s k
  rw [hc] at hb
  have hst : tX (acc,(s,(((k+1 : Nat) : Int) - 1,())))=some (.inl (acc++[sw c.toNat],(s,((k : Int) - 1,())))):=by
   simp only [tX]
   rw [show (((k+1 : Nat) : Int) - 1)=(k : Int) by omega,tG (by omega),cond_true,af,hc,Option.bind_some,vR,Option.bind_some,cm (by simp; omega),Option.bind_some,pn (by omega)]
  show ab _ _=_
  rw [ao hst]
  have:=o4 s hs k (acc++[sw c.toNat]) (by omega) (by simp; omega)
  rw [show ab tX=zl from rfl,this]
  have ht : (ar s).take (k+1)=(ar s).take k++[(c.toNat : Int)]:=by
   rw [List.take_add_one,← hb]; rfl
  rw [ht]
  simp
theorem sF (s : ByteArray) (h : s.size≤68719476736) : Zk (s,())=some (de ((ar s).reverse.map sw),()):=by
 unfold Zk
 dsimp only
 have:=o4 s h s.size [] (Nat.le_refl _) (by simp)
 rw [pn (by omega),this]
 have hl:=bg s
 simp only [List.nil_append,Option.bind_some,Sum.elim_inl]
 rw [List.take_of_length_le (by omega)]
end Go.Vm

namespace Go.Vm
open Go.Proofs
set_option maxRecDepth 100000
attribute [local irreducible] ab
def inB (f : List Int) (x : Int) : Bool:=decide (x∈f)
theorem Ge (f : List Int) (x : Int) (hf : f.length < 9223372036854775807) : Zau (f,x,())=some (inB f x,()):=by
 have key : ∀ (q p : List Int),p++q=f→t9 (f,x,((p.length : Nat) : Int),())=some (cond (inB q x) (.inl (true,())) (.inr (.inl ()))):=by
  intro q
  induction q with
  | nil =>
   intro p hp
   refine ac ?_
   simp only [ol]
   rw [aA (by rw [← hp]; simp)]
   simp [inB]
  | cons a q ih =>
   intro p hp
   have hpl : p.length < f.length:=by rw [← hp]; simp
   have ha : f[p.length]?=some a:=by rw [← hp]; simp
   by_cases e : a=x
   ·refine ac ?_
    simp only [ol]
    rw [aB (by omega),cond_true,af,ha,Option.bind_some,cv e]
    simp [inB,e]
   ·have hs : ol (f,x,((p.length : Nat) : Int),())=some (.inl (f,x,(((p++[a]).length : Nat) : Int),())):=by
     simp only [ol]
     rw [aB (by omega),cond_true,af,ha,Option.bind_some,bw e,cond_false,a9 (by omega)]
     simp
    refine (ao hs).trans ?_
    refine (ih (p++[a]) (by simp [hp])).trans ?_
    have : inB (a :: q) x=inB q x:=by
     unfold inB
     have : (x∈a :: q)↔x∈q:=by simp [Ne.symm e]
     exact decide_eq_decide.2 this
    rw [this]
 unfold Zau
 simp only
 rw [show t9 (f,x,0,())=_ from key f [] rfl]
 cases inB f x <;> rfl
theorem fR (f : List Int) (x : Int) (hf : f.length < 9223372036854775807) : Zm (f,x,())=some (inB f x,()):=by
 have key : ∀ (q p : List Int),p++q=f→∃ n : Int,qb (f,x,((f.length : Nat) : Int),((p.length : Nat) : Int),())=some (cond (inB q x) (.inl (n,())) (.inr (.inl ())))∧0≤n:=by
  intro q
  induction q with
  | nil =>
   intro p hp
   refine ⟨0,?_,by omega⟩
   refine ac ?_
   simp only [jn]
   rw [aA (by rw [← hp]; simp)]
   simp [inB]
  | cons a q ih =>
   intro p hp
   have hpl : p.length < f.length:=by rw [← hp]; simp
   have ha : f[p.length]?=some a:=by rw [← hp]; simp
   by_cases e : a=x
   ·refine ⟨p.length,?_,by omega⟩
    refine ac ?_
    simp only [jn]
    rw [aB (by omega),cond_true,af,ha,Option.bind_some,cv e.symm]
    simp [inB,e]
   ·have hs : jn (f,x,((f.length : Nat) : Int),((p.length : Nat) : Int),())=some (.inl (f,x,((f.length : Nat) : Int),(((p++[a]).length : Nat) : Int),())):=by
     simp only [jn]
     rw [aB (by omega),cond_true,af,ha,Option.bind_some,bw (Ne.symm e),cond_false,a9 (by omega)]
     simp
    obtain ⟨n,h1,h2⟩:=ih (p++[a]) (by simp [hp])
    refine ⟨n,?_,h2⟩
    refine (ao hs).trans (h1.trans ?_)
    have : inB (a :: q) x=inB q x:=by
     unfold inB
     have : (x∈a :: q)↔x∈q:=by simp [Ne.symm e]
     exact decide_eq_decide.2 this
    rw [this]
 obtain ⟨n,h1,h2⟩:=key f [] rfl
 have h1' : qb (f,x,((f.length : Nat) : Int),0,())=some (cond (inB f x) (.inl (n,())) (.inr (.inl ()))):=h1
 unfold Zm Zak
 simp only
 rw [h1']
 cases inB f x with
 | true=>simp only [cond_true,Option.bind_some,Sum.elim_inl]; rw [tG h2]
 | false=>simp only [cond_false,Option.bind_some,Sum.elim_inr,Sum.elim_inl]; rw [fZ (by omega)]
abbrev Shp:=Rot×(List Int×(List ByteArray×(Int×Unit)))
def cW (g : List Int) (_ : Nat) (n : Int) (d : Int) : Option (Int⊕Unit):=(aG g d).bind fun a=>some (cond (ltI a 1 || gtI a 4) (.inr ()) (.inl (ae .i64 n a)))
def dC (g : List Int) (_ : Nat) (_ : Unit) (l : List Int) : Option (Unit⊕Unit):=(aw (cW g) 0 0 l).bind (Sum.elim (fun n=>some (cond (gtI (l.length : Nat) 0 && neI n 4) (.inr ()) (.inl ()))) (fun _=>some (.inr ())))
def lY (g : List Int) (A : List (List Int)) : Option (Unit⊕Unit):=aw (dC g) 0 () A
theorem AA (N : Int) (E : List Arc) (A : List (List Int)) (g : List Int) (B : List ByteArray) (o : Int) (A' : List (List Int)) (c v : Int) (l : List Int) (hl : l.length≤9223372036854775807) :
  yz (N,E,A,g,B,o,l,0,A',c,v,l,(l.length : Nat),0,())=(aw (cW g) 0 0 l).bind (Sum.elim (fun n=>some (.inr (.inl (N,E,A,g,B,o,l,n,A',c,v,())))) (fun _=>some (.inl (false,())))):=by
 refine mF (B:=qB) (fun n i=>(N,E,A,g,B,o,l,n,A',c,v,l,((l.length : Nat) : Int),(i : Int),())) (fun n=>.inr (.inl (N,E,A,g,B,o,l,n,A',c,v,()))) (fun _=>.inl (false,())) (cW g) l ?_ ?_ 0
 ·intro n i d hd'
  have hi : i < l.length:=(List.getElem?_eq_some_iff.1 hd').1
  simp only [qB,cW]
  rw [aB (by omega),cond_true,af,hd',Option.bind_some,a9 (by omega)]
  cases aG g d with
  | none=>rfl
  | some a =>
   simp only [Option.bind_some]
   cases ltI a 1 <;> cases gtI a 4 <;> rfl
 ·intro n
  simp only [qB]
  rw [aA (by omega)]; rfl
theorem sW (N : Int) (E : List Arc) (A : List (List Int)) (g : List Int) (B : List ByteArray) (o : Int) (hA : A.length < 9223372036854775807) (hl : ∀ l∈A,l.length≤9223372036854775807) :
  Zbl (((N,E,A,()),g,B,o,()),())=(lY g A).bind (Sum.elim (fun _=>some (true,())) (fun _=>some (false,()))):=by
 have key:=mF (B:=ru) (fun (_ : Unit) i=>(N,E,A,g,B,o,A,((A.length : Nat) : Int),(i : Int),())) (fun _=>.inr (.inl ())) (fun (_ : Unit)=>.inl (false,())) (dC g) A (by
  intro u i l hd'
  have hi : i < A.length:=(List.getElem?_eq_some_iff.1 hd').1
  simp only [ru,dC]
  rw [aB (by omega),cond_true,af,hd',Option.bind_some,AA N E A g B o A _ _ l (hl l (List.mem_of_getElem? hd'))]
  cases aw (cW g) 0 0 l with
  | none=>rfl
  | some x =>
   cases x with
   | inl n =>
    simp only [Option.bind_some,Sum.elim_inl,Sum.elim_inr]
    rw [a9 (by omega)]
    cases gtI ((l.length : Nat) : Int) 0 <;> cases neI n 4 <;> rfl
   | inr e=>rfl) (by
  intro u
  simp only [ru]
  rw [aA (by omega)]; rfl) ()
 unfold Zbl
 simp only
 rw [show yY (N,E,A,g,B,o,A,((A.length : Nat) : Int),0,())=_ from key]
 unfold lY
 cases aw (dC g) 0 () A with
 | none=>rfl
 | some x=>cases x <;> rfl
theorem yB (N : Int) (E : List Arc) (A : List (List Int)) (g : List Int) (B : List ByteArray) (o : Int) (v : Nat) (l : List Int) (hv : A[v]?=some l) (hl : l.length≤9223372036854775807) :
  xw (N,E,A,g,B,o,(v : Int),0,0,())=(aw (cW g) 0 0 l).bind (Sum.elim (fun n=>some (.inr (.inl (N,E,A,g,B,o,(v : Int),n,())))) (fun _=>some (.inl (false,())))):=by
 refine mF (B:=rD) (fun n i=>(N,E,A,g,B,o,(v : Int),n,(i : Int),())) (fun n=>.inr (.inl (N,E,A,g,B,o,(v : Int),n,()))) (fun _=>.inl (false,())) (cW g) l ?_ ?_ 0
 ·intro n i d hd'
  have hi : i < l.length:=(List.getElem?_eq_some_iff.1 hd').1
  simp only [rD,cW]
  rw [af,hv,Option.bind_some,aB (by omega),cond_true,Option.bind_some,af,hd',Option.bind_some,a9 (by omega)]
  cases aG g d with
  | none=>rfl
  | some a =>
   simp only [Option.bind_some]
   cases ltI a 1 <;> cases gtI a 4 <;> rfl
 ·intro n
  simp only [rD]
  rw [af,hv,Option.bind_some,aA (by omega)]; rfl
theorem EY (E : List Arc) (A : List (List Int)) (g : List Int) (B : List ByteArray) (o : Int) (hA : A.length < 9223372036854775807) (hl : ∀ l∈A,l.length≤9223372036854775807) :
  Zan (((((A.length : Nat) : Int),E,A,()),g,B,o,()),())=(lY g A).bind (Sum.elim (fun _=>some (true,())) (fun _=>some (false,()))):=by
 have key:=mF (B:=rI) (fun (_ : Unit) i=>(((A.length : Nat) : Int),E,A,g,B,o,(i : Int),())) (fun _=>.inr (.inl ())) (fun (_ : Unit)=>.inl (false,())) (dC g) A (by
  intro u i l hd'
  have hi : i < A.length:=(List.getElem?_eq_some_iff.1 hd').1
  simp only [rI,dC]
  rw [aB (by omega),cond_true,yB _ E A g B o i l hd' (hl l (List.mem_of_getElem? hd'))]
  cases aw (cW g) 0 0 l with
  | none=>rfl
  | some x =>
   cases x with
   | inl n =>
    simp only [Option.bind_some,Sum.elim_inl,Sum.elim_inr]
    rw [a9 (by omega),af,hd']
    simp only [Option.bind_some]
    cases gtI ((l.length : Nat) : Int) 0 <;> cases neI n 4 <;> rfl
   | inr e=>rfl) (by
  intro u
  simp only [rI]
  rw [aA (by omega)]; rfl) ()
 unfold Zan
 simp only
 rw [show xy (((A.length : Nat) : Int),E,A,g,B,o,0,())=_ from key]
 unfold lY
 cases aw (dC g) 0 () A with
 | none=>rfl
 | some x=>cases x <;> rfl
theorem we {N : Int} {E : List Arc} {A : List (List Int)} (h : RotOK N E A) (g : List Int) (hg : g.length=2 * E.length) : ∃ b : Bool,lY g A=some (cond b (.inl ()) (.inr ()))∧(b=true→∀ k : Nat,k < 2 * E.length→∃ a,g[k]?=some a∧1≤a∧a≤4):=by
 have one : ∀ (l : List Int),(∀ d∈l,∃ k : Nat,d=(k : Int)∧k < 2 * E.length)→∀ (i : Nat) (n : Int),∃ x,aw (cW g) i n l=some x∧(∀ m,x=.inl m→∀ k : Nat,(k : Int)∈l→∃ a,g[k]?=some a∧1≤a∧a≤4):=by
  intro l
  induction l with
  | nil=>intro _ i n; exact ⟨_,rfl,fun _ _ k hk=>by simp at hk⟩
  | cons d l ih =>
   intro hl i n
   obtain ⟨k,rfl,hk⟩:=hl d (by simp)
   obtain ⟨a,ha⟩ : ∃ a,g[k]?=some a:=⟨_,List.getElem?_eq_getElem (by omega)⟩
   simp only [aw,cW]
   rw [af,ha,Option.bind_some]
   by_cases hc : 1≤a∧a≤4
   ·rw [aA hc.1,c7 hc.2]
    simp only [Bool.or_false,cond_false,Option.bind_some,Sum.elim_inl]
    obtain ⟨x,h1,h2⟩:=ih (fun d hd'=>hl d (by simp [hd'])) (i+1) (ae .i64 n a)
    refine ⟨x,h1,fun m hm j hj=>?_⟩
    rcases List.mem_cons.1 hj with hj | hj
    ·have : j=k:=by omega
     subst this
     exact ⟨a,ha,hc⟩
    ·exact h2 m hm j hj
   ·have : (ltI a 1 || gtI a 4)=true:=by
     simp only [ltI,gtI,Bool.or_eq_true,decide_eq_true_eq]; omega
    rw [this]
    exact ⟨_,rfl,fun m hm=>by cases hm⟩
 have all : ∀ (A' : List (List Int)),(∀ l∈A',l∈A)→∀ i,∃ b : Bool,aw (dC g) i () A'=some (cond b (.inl ()) (.inr ()))∧(b=true→∀ k : Nat,(k : Int)∈A'.flatten→∃ a,g[k]?=some a∧1≤a∧a≤4):=by
  intro A'
  induction A' with
  | nil=>intro _ i; exact ⟨true,rfl,fun _ k hk=>by simp at hk⟩
  | cons l A' ih =>
   intro hA i
   obtain ⟨x,h1,h2⟩:=one l (fun d hd'=>h.mem_of (hA l (by simp)) hd') 0 0
   simp only [aw,dC,h1,Option.bind_some]
   cases x with
   | inr e=>exact ⟨false,rfl,fun h=>by cases h⟩
   | inl n =>
    simp only [Sum.elim_inl,Option.bind_some]
    cases hc : gtI ((l.length : Nat) : Int) 0 && neI n 4 with
    | true=>exact ⟨false,rfl,fun h=>by cases h⟩
    | false =>
     obtain ⟨b,q1,q2⟩:=ih (fun l hl=>hA l (by simp [hl])) (i+1)
     refine ⟨b,q1,fun hb k hk=>?_⟩
     rw [List.flatten_cons,List.mem_append] at hk
     rcases hk with hk | hk
     ·exact h2 n rfl k hk
     ·exact q2 hb k hk
 obtain ⟨b,q1,q2⟩:=all A (fun l hl=>hl) 0
 exact ⟨b,q1,fun hb k hk=>q2 hb k (h.mem hk)⟩
end Go.Vm

namespace Go.Vm
open Go.Proofs
set_option maxRecDepth 100000
attribute [local irreducible] ab
def cN (f : Nat→Bool) : Nat→Nat→Bool
 | _,0=>true
 | j,r+1=>f j && cN f (j+1) r
theorem eC {f : Nat→Bool} : ∀ {r j : Nat},cN f j r=true↔∀ i,j≤i→i < j+r→f i=true
 | 0,j=>by simp [cN]; intro i h1 h2; omega
 | r+1,j=>by
  simp only [cN,Bool.and_eq_true,eC]
  constructor
  ·rintro ⟨h1,h2⟩ i hi hi2
   rcases Nat.eq_or_lt_of_le hi with rfl | hlt
   ·exact h1
   ·exact h2 i hlt (by omega)
  ·intro h
   exact ⟨h j (Nat.le_refl _) (by omega),fun i h1 h2=>h i (by omega) (by omega)⟩
def lr (c : Int) : Bool:=c == 76 || c == 82
def rev (s : ByteArray) : ByteArray:=de ((ar s).reverse.map sw)
theorem rV (c : Int) : Zbe (c,())=some (sw c,(lr c,())):=by
 unfold Zbe sw lr
 simp only
 by_cases h1 : c=76
 ·subst h1; rfl
 ·rw [bw h1,cond_false,if_neg h1]
  by_cases h2 : c=82
  ·subst h2; rfl
  ·rw [bw h2,cond_false,if_neg h2]
   have e1 : (c == 76)=false:=by simpa using h1
   have e2 : (c == 82)=false:=by simpa using h2
   rw [e1,e2]; rfl
def gL (s : ByteArray) : Bool:=decide (s.size≤64) && (ar s).all lr
theorem As (l : List Int) (hl : l.length < 9223372036854775807) : ∀ (q p : List Int),p++q=l→uX (l,((l.length : Nat) : Int),((p.length : Nat) : Int),())=some (cond (q.all lr) (.inr (.inl ())) (.inl (false,()))):=by
 intro q
 induction q with
 | nil =>
  intro p hp
  refine ac ?_
  simp only [nL]
  rw [aA (by rw [← hp]; simp)]; rfl
 | cons c q ih =>
  intro p hp
  have hpl : p.length < l.length:=by rw [← hp]; simp
  have hc : l[p.length]?=some c:=by rw [← hp]; simp
  cases e : lr c with
  | false =>
   refine ac ?_
   simp only [nL]
   rw [aB (by omega),cond_true,ap hpl,Option.bind_some,hc,Option.bind_some,rV,Option.bind_some,e]
   simp [e]
  | true =>
   have hs : nL (l,((l.length : Nat) : Int),((p.length : Nat) : Int),())=some (.inl (l,((l.length : Nat) : Int),(((p++[c]).length : Nat) : Int),())):=by
    simp only [nL]
    rw [aB (by omega),cond_true,ap hpl,Option.bind_some,hc,Option.bind_some,rV,Option.bind_some,e,a9 (by omega)]
    simp
   refine (ao hs).trans ((ih (p++[c]) (by simp [hp])).trans ?_)
   simp [e]
theorem E1 (s : ByteArray) : Zbv (s,())=some (gL s,()):=by
 unfold Zbv gL
 simp only
 have hl:=bg s
 by_cases h : s.size≤64
 ·rw [c7 (by omega),cond_false,show uX (ar s,((ar s).length : Nat),0,())=_ from As (ar s) (by omega) (ar s) [] rfl]
  simp only [h,decide_true,Bool.true_and]
  cases (ar s).all lr <;> rfl
 ·rw [d7 (by omega)]
  simp [h]
theorem Gr (c : Int) : lr (sw c)=lr c:=by
 unfold sw lr
 split
 ·rename_i h; subst h; rfl
 ·split
  ·rename_i h; subst h; rfl
  ·rfl
theorem wS (s : ByteArray) : (rev s).size=s.size:=by
 have:=bg s
 unfold rev
 rw [u5]; simp [this]
theorem tV (s : ByteArray) : ar (rev s)=(ar s).reverse.map sw:=by
 unfold rev
 refine pq fun n hn=>?_
 obtain ⟨c,hc,rfl⟩:=List.mem_map.1 hn
 exact CU (sH c (List.mem_reverse.1 hc))
theorem EM (s : ByteArray) : rev (rev s)=s:=by
 have e : ((ar s).reverse.map sw).reverse.map sw=ar s:=by
  rw [← List.map_reverse,List.reverse_reverse,List.map_map]
  have : (sw ∘ sw)=id:=by funext c; exact GN c
  rw [this,List.map_id]
 rw [rev,tV,e,pl]
theorem De (s : ByteArray) : gL (rev s)=gL s:=by
 unfold gL
 rw [wS,tV]
 congr 1
 rw [List.all_map,List.all_reverse]
 have : lr ∘ sw=lr:=by funext c; exact Gr c
 rw [this]
abbrev at0 (B : List ByteArray) (d : Nat) : ByteArray:=B.getD d ByteArray.empty
theorem ir {B : List ByteArray} {d : Nat} (h : d < B.length) : B[d]?=some (at0 B d):=by
 unfold at0
 rw [List.getD_eq_getElem?_getD,List.getElem?_eq_getElem h]; rfl
def qA (B : List ByteArray) (j : Nat) : Bool:=gL (at0 B (2 * j)) && eqS (at0 B (2 * j+1)) (rev (at0 B (2 * j)))
def gQ (B : List ByteArray) (d : Nat) : Bool:=gL (at0 B d) && eqS (at0 B (oth d)) (rev (at0 B d))
theorem rZ (B : List ByteArray) (m : Nat) : cN (qA B) 0 m=cN (gQ B) 0 (2 * m):=by
 rw [Bool.eq_iff_iff,eC,eC]
 constructor
 ·intro h d _ hd'
  have hj:=h (d / 2) (by omega) (by omega)
  unfold qA at hj
  unfold gQ
  simp only [Bool.and_eq_true,pz] at hj ⊢
  rcases Nat.mod_two_eq_zero_or_one d with e | e
  ·have e1 : 2 * (d / 2)=d:=by omega
   have e2 : oth d=d+1:=by unfold oth; rw [if_pos e]
   rw [e1] at hj
   rw [e2]; exact hj
  ·have e1 : 2 * (d / 2)+1=d:=by omega
   have e2 : oth d=2 * (d / 2):=by unfold oth; rw [if_neg (by omega)]; omega
   rw [e1] at hj
   rw [e2,hj.2,De,EM]
   exact ⟨hj.1,rfl⟩
 ·intro h j _ hj
  have hd':=h (2 * j) (by omega) (by omega)
  unfold gQ at hd'
  unfold qA
  have e2 : oth (2 * j)=2 * j+1:=by unfold oth; rw [if_pos (by omega)]
  rw [e2] at hd'
  exact hd'
theorem zR (a b : ByteArray) : neS a b=!(eqS a b):=rfl
theorem qw (N : Int) (E : List Arc) (A : List (List Int)) (g : List Int) (B : List ByteArray) (o : Int) (m : Nat) (hB : B.length=2 * m) (hm : m≤32768) : ∀ (r j : Nat),j+r=m →
  oy (N,E,A,g,B,o,N,E,A,((2 * m : Nat) : Int),((2 * j : Nat) : Int),())=some (cond (cN (qA B) j r) (.inr (.inl (N,E,A,g,B,o,N,E,A,()))) (.inl (false,()))):=by
 intro r
 induction r with
 | zero =>
  intro j hj
  refine ac ?_
  simp only [qo]
  rw [aA (by omega)]; rfl
 | succ r ih =>
  intro j hj
  have h0 : B[2 * j]?=some (at0 B (2 * j)):=ir (by omega)
  have h1 : B[2 * j+1]?=some (at0 B (2 * j+1)):=ir (by omega)
  have hstep : qo (N,E,A,g,B,o,N,E,A,((2 * m : Nat) : Int),((2 * j : Nat) : Int),())=some (cond (qA B j) (.inl (N,E,A,g,B,o,N,E,A,((2 * m : Nat) : Int),((2 * (j+1) : Nat) : Int),())) (.inr (.inl (false,())))):=by
   simp only [qo]
   rw [aB (by omega),cond_true,af,h0,Option.bind_some,E1,Option.bind_some]
   unfold qA
   simp only
   cases hb : gL (at0 B (2 * j)) with
   | false=>rfl
   | true =>
    have hsz : (at0 B (2 * j)).size≤64:=by
     unfold gL at hb
     simp only [Bool.and_eq_true,decide_eq_true_eq] at hb
     exact hb.1
    rw [a9 (by omega),af,h1]
    simp only [Bool.not_true,cond_false,Option.bind_some]
    rw [ya _ (by omega),Option.bind_some,zR]
    rw [show ae .i64 ((2 * j : Nat) : Int) 2=((2 * (j+1) : Nat) : Int) by rw [cu (by omega) (by omega)]; omega]
    show cond (!(eqS (at0 B (2 * j+1)) (rev (at0 B (2 * j))))) _ _=_
    cases eqS (at0 B (2 * j+1)) (rev (at0 B (2 * j))) <;> rfl
  cases hb : qA B j with
  | false =>
   rw [hb] at hstep
   simp only [cN,hb,Bool.false_and,cond_false]
   exact ac hstep
  | true =>
   rw [hb] at hstep
   simp only [cN,hb,Bool.true_and]
   exact (ao hstep).trans (ih (j+1) (by omega))
theorem ug (N : Int) (E : List Arc) (A : List (List Int)) (g : List Int) (B : List ByteArray) (o : Int) (d : Nat) (s : ByteArray) (hs : B[d]?=some s) (hsz : s.size≤64) : ∀ (r i : Nat),i+r=s.size →
  vg (N,E,A,g,B,o,(d : Int),(i : Int),())=some (cond (((ar s).drop i).all lr) (.inr (.inl (N,E,A,g,B,o,(d : Int),()))) (.inl (false,()))):=by
 have hl:=bg s
 intro r
 induction r with
 | zero =>
  intro i hi
  refine ac ?_
  simp only [rs]
  rw [af,hs,Option.bind_some,aA (by omega)]
  rw [List.drop_eq_nil_of_le (by omega)]; rfl
 | succ r ih =>
  intro i hi
  obtain ⟨c,hc⟩ : ∃ c,s.data.toList[i]?=some c:=⟨_,List.getElem?_eq_getElem (by rw [Array.length_toList]; show i < s.size; omega)⟩
  have hb:=u4 s i
  rw [hc] at hb
  have hd' : (ar s).drop i=(c.toNat : Int) :: (ar s).drop (i+1):=by
   have hi2 : i < (ar s).length:=by omega
   rw [List.drop_eq_getElem_cons hi2]
   have:=List.getElem?_eq_getElem hi2
   rw [← hb] at this
   simp only [Option.map_some,Option.some.injEq] at this
   rw [this]
  have hstep : rs (N,E,A,g,B,o,(d : Int),(i : Int),())=some (cond (lr (c.toNat : Int)) (.inl (N,E,A,g,B,o,(d : Int),((i+1 : Nat) : Int),())) (.inr (.inl (false,())))):=by
   simp only [rs]
   rw [af,hs,Option.bind_some,aB (by omega),cond_true,Option.bind_some,af,hc,Option.bind_some,a9 (by omega)]
   unfold lr
   by_cases e1 : (c.toNat : Int)=76
   ·rw [bn e1]
    have : ((c.toNat : Int) == 76)=true:=by simpa using e1
    rw [this]; rfl
   ·rw [dZ e1]
    have e1' : ((c.toNat : Int) == 76)=false:=by simpa using e1
    rw [e1']
    simp only [cond_true,Option.bind_some]
    rw [af,hc,Option.bind_some]
    by_cases e2 : (c.toNat : Int)=82
    ·rw [bn e2]
     have : ((c.toNat : Int) == 82)=true:=by simpa using e2
     rw [this]; rfl
    ·rw [dZ e2]
     have : ((c.toNat : Int) == 82)=false:=by simpa using e2
     rw [this]; rfl
  rw [hd',List.all_cons]
  cases hb2 : lr (c.toNat : Int) with
  | false =>
   rw [hb2] at hstep
   exact ac hstep
  | true =>
   rw [hb2] at hstep
   exact (ao hstep).trans (ih (i+1) (by omega))
theorem AP (N : Int) (E : List Arc) (A : List (List Int)) (g : List Int) (B : List ByteArray) (o : Int) (m : Nat) (hB : B.length=2 * m) (hm : m≤32768) : ∀ (r d : Nat),d+r=2 * m →
  u7 (N,E,A,g,B,o,(d : Int),())=some (cond (cN (gQ B) d r) (.inr (.inl ())) (.inl (false,()))):=by
 intro r
 induction r with
 | zero =>
  intro d hd'
  refine ac ?_
  simp only [qW]
  rw [aA (by omega)]; rfl
 | succ r ih =>
  intro d hd'
  have h0 : B[d]?=some (at0 B d):=ir (by omega)
  have h1 : B[oth d]?=some (at0 B (oth d)):=ir (by rw [hB]; exact ay (by omega))
  have hstep : qW (N,E,A,g,B,o,(d : Int),())=some (cond (gQ B d) (.inl (N,E,A,g,B,o,((d+1 : Nat) : Int),())) (.inr (.inl (false,())))):=by
   simp only [qW]
   rw [aB (by omega),cond_true,af,h0,Option.bind_some]
   unfold gQ gL
   by_cases hsz : (at0 B d).size≤64
   ·rw [c7 (by omega),cond_false,mC (by omega),af,h1,Option.bind_some,Option.bind_some,sF _ (by omega),Option.bind_some,zR]
    show cond (!(eqS (at0 B (oth d)) (rev (at0 B d)))) _ _=_
    have hlet:=ug N E A g B o d (at0 B d) h0 hsz (at0 B d).size 0 (by omega)
    rw [show vg (N,E,A,g,B,o,(d : Int),0,())=_ from hlet,List.drop_zero]
    simp only [hsz,decide_true,Bool.true_and]
    have ea : ae .i64 (d : Int) 1=((d+1 : Nat) : Int):=a9 (by omega)
    cases eqS (at0 B (oth d)) (rev (at0 B d)) <;> cases (ar (at0 B d)).all lr <;> simp [ea]
   ·have e : decide ((at0 B d).size≤64)=false:=by simpa using hsz
    rw [d7 (by omega),e]; rfl
  cases hb : gQ B d with
  | false =>
   rw [hb] at hstep
   simp only [cN,hb,Bool.false_and,cond_false]
   exact ac hstep
  | true =>
   rw [hb] at hstep
   simp only [cN,hb,Bool.true_and]
   exact (ao hstep).trans (ih (d+1) (by omega))
theorem Bv (N : Int) (E : List Arc) (A : List (List Int)) (g : List Int) (B : List ByteArray) (o : Int) (m : Nat) (hB : B.length=2 * m) (hm : m≤32768) :
  Zab (((N,E,A,()),g,B,o,()),())=some (cN (gQ B) 0 (2 * m),()):=by
 unfold Zab
 simp only
 rw [show u7 (N,E,A,g,B,o,0,())=_ from AP N E A g B o m hB hm (2 * m) 0 (by omega)]
 cases cN (gQ B) 0 (2 * m) <;> rfl
def bz : List Int→Int
 | []=>0
 | c :: l=>(if c=76 then 1 else -1)+bz l
theorem qf : ∀ l : List Int,-(l.length : Int)≤bz l∧bz l≤l.length
 | []=>by simp [bz]
 | c :: l=>by
  have:=qf l
  simp only [bz,List.length_cons]
  split <;> omega
def tnZ (g : List Int) (B : List ByteArray) (d : Nat) : Int:=bz (ar (at0 B d))+2 - g.getD (oth d) 0
def tsZ (g : List Int) (B : List ByteArray) : List Int→Int
 | []=>0
 | d :: f=>tnZ g B d.toNat+tsZ g B f
structure TurnOK (g : List Int) (B : List ByteArray) (L : Nat) : Prop where
 small : L≤65536
 glen : g.length=L
 blen : B.length=L
 even : ∀ k,k < L→oth k < L
 ang : ∀ k,k < L→∃ a,g[k]?=some a∧1≤a∧a≤4
 bend : ∀ k,k < L→gL (at0 B k)=true
theorem TurnOK.bound {g : List Int} {B : List ByteArray} {L : Nat} (h : TurnOK g B L) {d : Nat} (hd' : d < L) : -66≤tnZ g B d∧tnZ g B d≤66∧(at0 B d).size≤64:=by
 obtain ⟨a,ha,h1,h2⟩:=h.ang (oth d) (h.even d hd')
 have hb:=h.bend d hd'
 unfold gL at hb
 simp only [Bool.and_eq_true,decide_eq_true_eq] at hb
 have:=qf (ar (at0 B d))
 have hl:=bg (at0 B d)
 have hg : g.getD (oth d) 0=a:=by rw [List.getD_eq_getElem?_getD,ha]; rfl
 unfold tnZ
 rw [hg]
 omega
theorem Ax (l : List Int) (hl : l.length≤1000) : ∀ (q p : List Int) (n : Int),p++q=l→-1000 - (p.length : Int)≤n→n≤1000+p.length→uI (l,n,((l.length : Nat) : Int),((p.length : Nat) : Int),())=some (.inl (n+bz q,())):=by
 intro q
 induction q with
 | nil =>
  intro p n hp h1 h2
  refine ac ?_
  simp only [qF]
  rw [aA (by rw [← hp]; simp)]
  simp [bz]
 | cons c q ih =>
  intro p n hp h1 h2
  have hpl : p.length < l.length:=by rw [← hp]; simp
  have hc : l[p.length]?=some c:=by rw [← hp]; simp
  have hs : qF (l,n,((l.length : Nat) : Int),((p.length : Nat) : Int),())=some (.inl (l,n+(if c=76 then 1 else -1),((l.length : Nat) : Int),(((p++[c]).length : Nat) : Int),())):=by
   simp only [qF]
   rw [aB (by omega),cond_true,ap hpl,Option.bind_some,hc,Option.bind_some,a9 (by omega)]
   by_cases e : c=76
   ·rw [cv e,cond_true,cu (by omega) (by omega),if_pos e]; simp
   ·rw [bw e,cond_false,gY (by omega) (by omega),if_neg e]; simp; omega
  refine (ao hs).trans ((ih (p++[c]) _ (by simp [hp]) ?_ ?_).trans ?_)
  ·simp only [List.length_append,List.length_singleton]; split <;> omega
  ·simp only [List.length_append,List.length_singleton]; split <;> omega
  ·simp only [bz]
   congr 3
   omega
theorem E8 {g : List Int} {B : List ByteArray} {L : Nat} (h : TurnOK g B L) (r : Rot) (o : Int) {d : Nat} (hd' : d < L) : Zbu (((r.1,r.2.1,r.2.2.1,()),g,B,o,()),(d : Int),())=some (tnZ g B d,()):=by
 have hsm:=h.small
 obtain ⟨a,ha,h1,h2⟩:=h.ang (oth d) (h.even d hd')
 obtain ⟨_,_,hsz⟩:=h.bound hd'
 have hl:=bg (at0 B d)
 unfold Zbu
 simp only
 rw [mC (by omega),af,ha,Option.bind_some,af,ir (by rw [h.blen]; exact hd'),Option.bind_some,gY (by omega) (by omega)]
 rw [show uI (ar (at0 B d),2 - a,((ar (at0 B d)).length : Nat),0,())=_ from Ax (ar (at0 B d)) (by omega) (ar (at0 B d)) [] (2 - a) rfl (by simp; omega) (by simp; omega)]
 have hg : g.getD (oth d) 0=a:=by rw [List.getD_eq_getElem?_getD,ha]; rfl
 simp only [Option.bind_some,Sum.elim_inl,tnZ,hg]
 congr 2
 omega
theorem DJ {g : List Int} {B : List ByteArray} {L : Nat} (h : TurnOK g B L) (r : Rot) (o : Int) (f : List Int) (hf : ∀ x∈f,∃ k : Nat,x=(k : Int)∧k < L) (hfl : f.length≤65536) :
  Zbr (((r.1,r.2.1,r.2.2.1,()),g,B,o,()),f,())=some (tsZ g B f,())∧-66 * (f.length : Int)≤tsZ g B f∧tsZ g B f≤66 * (f.length : Int):=by
 have key : ∀ (q p : List Int) (n : Int),p++q=f→-66 * (p.length : Int)≤n→n≤66 * (p.length : Int) →
   uA (r.1,r.2.1,r.2.2.1,g,B,o,n,f,((f.length : Nat) : Int),((p.length : Nat) : Int),())=some (.inl (n+tsZ g B q,()))∧-66 * (q.length : Int)≤tsZ g B q∧tsZ g B q≤66 * (q.length : Int):=by
  intro q
  induction q with
  | nil =>
   intro p n hp h1 h2
   refine ⟨?_,by simp [tsZ],by simp [tsZ]⟩
   refine ac ?_
   simp only [qS]
   rw [aA (by rw [← hp]; simp)]
   simp [tsZ]
  | cons x q ih =>
   intro p n hp h1 h2
   have hpl : p.length < f.length:=by rw [← hp]; simp
   have hx : f[p.length]?=some x:=by rw [← hp]; simp
   obtain ⟨d,rfl,hdL⟩:=hf x (List.mem_of_getElem? hx)
   obtain ⟨b1,b2,_⟩:=h.bound hdL
   have hs : qS (r.1,r.2.1,r.2.2.1,g,B,o,n,f,((f.length : Nat) : Int),((p.length : Nat) : Int),())=some (.inl (r.1,r.2.1,r.2.2.1,g,B,o,n+tnZ g B d,f,((f.length : Nat) : Int),(((p++[(d : Int)]).length : Nat) : Int),())):=by
    simp only [qS]
    rw [aB (by omega),cond_true,af,hx,Option.bind_some,E8 h r o hdL,Option.bind_some,a9 (by omega),cu (by omega) (by omega)]
    simp
   obtain ⟨q1,q2,q3⟩:=ih (p++[(d : Int)]) (n+tnZ g B d) (by simp [hp]) (by simp; omega) (by simp; omega)
   refine ⟨(ao hs).trans (q1.trans ?_),?_,?_⟩
   ·simp only [tsZ,Int.toNat_natCast]
    congr 3
    omega
   ·simp only [tsZ,Int.toNat_natCast,List.length_cons]; omega
   ·simp only [tsZ,Int.toNat_natCast,List.length_cons]; omega
 obtain ⟨q1,q2,q3⟩:=key f [] 0 rfl (by simp) (by simp)
 refine ⟨?_,q2,q3⟩
 unfold Zbr
 simp only
 rw [show uA (r.1,r.2.1,r.2.2.1,g,B,o,0,f,((f.length : Nat) : Int),0,())=_ from q1]
 simp
theorem D9 (s : ByteArray) (hs : gL s=true) : Zai (s,())=some (bz (ar s),()):=by
 unfold gL at hs
 simp only [Bool.and_eq_true,decide_eq_true_eq] at hs
 obtain ⟨hsz,hall⟩:=hs
 have hl:=bg s
 have key : ∀ (r i : Nat) (n : Int),i+r=s.size→-(i : Int)≤n→n≤i→uC (s,n,(i : Int),())=some (.inl (n+bz ((ar s).drop i),())):=by
  intro r
  induction r with
  | zero =>
   intro i n hi h1 h2
   refine ac ?_
   simp only [rm]
   rw [aA (by omega),List.drop_eq_nil_of_le (by omega)]
   simp [bz]
  | succ r ih =>
   intro i n hi h1 h2
   obtain ⟨c,hc⟩ : ∃ c,s.data.toList[i]?=some c:=⟨_,List.getElem?_eq_getElem (by rw [Array.length_toList]; show i < s.size; omega)⟩
   have hb:=u4 s i
   rw [hc] at hb
   have hi2 : i < (ar s).length:=by omega
   have hce : (ar s)[i]=(c.toNat : Int):=by
    have:=List.getElem?_eq_getElem hi2
    rw [← hb] at this
    simpa using this.symm
   have hd' : (ar s).drop i=(c.toNat : Int) :: (ar s).drop (i+1):=by
    rw [List.drop_eq_getElem_cons hi2,hce]
   have hlr : lr (c.toNat : Int)=true:=by
    rw [List.all_eq_true] at hall
    rw [← hce]; exact hall _ (List.getElem_mem hi2)
   have hs : rm (s,n,(i : Int),())=some (.inl (s,n+(if (c.toNat : Int)=76 then 1 else -1),((i+1 : Nat) : Int),())):=by
    simp only [rm]
    rw [aB (by omega),cond_true,af,hc,Option.bind_some,a9 (by omega)]
    by_cases e : (c.toNat : Int)=76
    ·rw [cv e,cond_true,Option.bind_some,bw (by omega),cond_false,cu (by omega) (by omega),if_pos e]
    ·have e2 : (c.toNat : Int)=82:=by
      unfold lr at hlr
      simp only [Bool.or_eq_true,beq_iff_eq] at hlr
      exact hlr.resolve_left e
     rw [bw e,cond_false,Option.bind_some,cv e2,cond_true,gY (by omega) (by omega),if_neg e]
     rfl
   refine (ao hs).trans ((ih (i+1) _ (by omega) ?_ ?_).trans ?_)
   ·split <;> omega
   ·split <;> omega
   ·rw [hd']
    simp only [bz]
    congr 3
    omega
 unfold Zai
 simp only
 rw [show uC (s,0,0,())=_ from key s.size 0 0 (by omega) (by omega) (by omega)]
 simp
theorem AD {g : List Int} {B : List ByteArray} {L : Nat} (h : TurnOK g B L) (r : Rot) (o : Int) (f : List Int) (hf : ∀ x∈f,∃ k : Nat,x=(k : Int)∧k < L) (hfl : f.length≤65536) :
  Zaf (((r.1,r.2.1,r.2.2.1,()),g,B,o,()),f,())=some (tsZ g B f,()):=by
 have hsm:=h.small
 have key : ∀ (q p : List Int) (n : Int),p++q=f→-66 * (p.length : Int)≤n→n≤66 * (p.length : Int) →
   u6 (r.1,r.2.1,r.2.2.1,g,B,o,f,n,((p.length : Nat) : Int),())=some (.inl (n+tsZ g B q,())):=by
  intro q
  induction q with
  | nil =>
   intro p n hp h1 h2
   refine ac ?_
   simp only [rh]
   rw [aA (by rw [← hp]; simp)]
   simp [tsZ]
  | cons x q ih =>
   intro p n hp h1 h2
   have hpl : p.length < f.length:=by rw [← hp]; simp
   have hx : f[p.length]?=some x:=by rw [← hp]; simp
   obtain ⟨d,rfl,hdL⟩:=hf x (List.mem_of_getElem? hx)
   obtain ⟨b1,b2,hsz⟩:=h.bound hdL
   obtain ⟨a,ha,a1,a2⟩:=h.ang (oth d) (h.even d hdL)
   have hg : g.getD (oth d) 0=a:=by rw [List.getD_eq_getElem?_getD,ha]; rfl
   have hbz:=qf (ar (at0 B d))
   have hbl:=bg (at0 B d)
   have hs : rh (r.1,r.2.1,r.2.2.1,g,B,o,f,n,((p.length : Nat) : Int),())=some (.inl (r.1,r.2.1,r.2.2.1,g,B,o,f,n+tnZ g B d,(((p++[(d : Int)]).length : Nat) : Int),())):=by
    simp only [rh]
    rw [aB (by omega),cond_true,af,hx,Option.bind_some,af,ir (by rw [h.blen]; exact hdL),Option.bind_some,D9 _ (h.bend d hdL),Option.bind_some,Option.bind_some,mC (by omega),af,ha,Option.bind_some,a9 (by omega)]
    simp only
    rw [cu (a:=n) (by omega) (by omega),cu (by omega) (by omega),gY (by omega) (by omega)]
    simp only [tnZ,hg,List.length_append,List.length_singleton]
    congr 10
    omega
   refine (ao hs).trans ((ih (p++[(d : Int)]) (n+tnZ g B d) (by simp [hp]) (by simp; omega) (by simp; omega)).trans ?_)
   simp only [tsZ,Int.toNat_natCast]
   congr 3
   omega
 unfold Zaf
 simp only
 rw [show u6 (r.1,r.2.1,r.2.2.1,g,B,o,f,0,0,())=_ from key f [] 0 rfl (by simp) (by simp)]
 simp
end Go.Vm

namespace Go.Vm
open Go.Proofs
set_option maxRecDepth 100000
attribute [local irreducible] ab
def mL (_ : Nat) (n : Int) (l : List Int) : Option (Int⊕Empty):=some (.inl (cond (eqI (l.length : Nat) 0) (ae .i64 n 1) n))
theorem CZ (N : Int) (E : List Arc) (A : List (List Int)) (n : Int) (hA : A.length < 9223372036854775807) : ∃ n1,vf (N,E,A,n,A,(A.length : Nat),0,())=some (.inl (N,E,A,n1,())) ∧
  zI (((A.length : Nat) : Int),E,A,n,0,())=some (.inl (((A.length : Nat) : Int),E,A,n1,())):=by
 obtain ⟨n1,hn⟩:=oA (g:=mL) (l:=A) (i:=0) (s:=n) (fun _ n l=>cond (eqI (l.length : Nat) 0) (ae .i64 n 1) n) (fun _ _ _ _=>rfl)
 have k1:=mF (B:=km) (fun n i=>(N,E,A,n,A,((A.length : Nat) : Int),(i : Int),())) (fun n=>.inl (N,E,A,n,())) (fun e=>nomatch e) mL A (by
  intro n i l hd'
  have hi : i < A.length:=(List.getElem?_eq_some_iff.1 hd').1
  simp only [km,mL]
  rw [aB (by omega),cond_true,af,hd',Option.bind_some,a9 (a:=i) (by omega)]
  cases eqI ((l.length : Nat) : Int) 0 <;> rfl) (by
  intro n
  simp only [km]
  rw [aA (by omega)]; rfl) n
 have k2:=mF (B:=oL) (fun n i=>(((A.length : Nat) : Int),E,A,n,(i : Int),())) (fun n=>.inl (((A.length : Nat) : Int),E,A,n,())) (fun e=>nomatch e) mL A (by
  intro n i l hd'
  have hi : i < A.length:=(List.getElem?_eq_some_iff.1 hd').1
  simp only [oL,mL]
  rw [aB (by omega),cond_true,af,hd',Option.bind_some,a9 (a:=i) (by omega)]
  cases eqI ((l.length : Nat) : Int) 0 <;> rfl) (by
  intro n
  simp only [oL]
  rw [aA (by omega)]; rfl) n
 rw [hn] at k1 k2
 exact ⟨n1,k1,k2⟩
section
variable {N : Nat} {E : List Arc} {A : List (List Int)}
theorem xE (h : RotOK (N : Nat) E A) (hv : validB ((N : Int),E,A,())=true) (hl : ∀ l∈A,l.length≤9223372036854775807) : ∃ X : Int,(0 < N→jN N E→Zaw (((N : Int),E,A,()),())=some (bf .i64 1 X,())) ∧
  ∃ c : Nat,Zv (((N : Int),E,A,()),())=some (bf .i64 (c : Int) X,())∧Zd (((N : Int),E,A,()),())=some ((c : Int),())∧(0 < N→(c=1↔jN N E)):=by
 obtain ⟨nx,m,_,f1,hi,r1,r2⟩:=mj h hv hl
 have hAl : A.length=N:=by have:=h.len; omega
 have h16 : N≤16384:=by have:=h.n1; omega
 obtain ⟨n1,g1,g2⟩:=CZ (N : Int) E A ((aa nx).length : Nat) (by omega)
 obtain ⟨c,c1,c2,c3⟩:=sX h
 rw [hAl] at g1 g2
 refine ⟨eZ .i64 (ae .i64 (bf .i64 (N : Int) (E.length : Nat)) n1) 2,fun hN0 hc=>?_,c,?_,c1,c3⟩
 ·unfold Zaw
  simp only
  rw [ed ((N : Int),E,A,()) hl,hv,Option.bind_some]
  simp only [Bool.not_true,cond_false]
  rw [r1,Option.bind_some]
  simp only
  rw [hAl,g1]
  simp only [Option.bind_some,Sum.elim_inl]
  rw [tg h hN0 hc]
  rfl
 ·unfold Zv
  simp only
  rw [gC ((N : Int),E,A,()) hl,hv,Option.bind_some]
  simp only [Bool.not_true,cond_false]
  rw [r2,Option.bind_some]
  simp only
  rw [g2]
  simp only [Option.bind_some,Sum.elim_inl]
  rw [c1]
  rfl
end
def fA (g : List Int) (B : List ByteArray) (o : Int) (f : List Int) : Bool:=eqI (tsZ g B f) (cond (inB f o) (-4) 4)
def cA (g : List Int) (B : List ByteArray) (o : Int) (fs : List (List Int)) : Bool:=fs.all (fA g B o)
theorem qY (g : List Int) (B : List ByteArray) (o : Int) : ∀ (fs : List (List Int)) (i : Nat),aw (fun (_ : Nat) (_ : Unit) f=>some (cond (fA g B o f) (Sum.inl ()) (Sum.inr ()))) i () fs=some (cond (cA g B o fs) (.inl ()) (.inr ()))
 | [],_=>rfl
 | f :: fs,i=>by
  simp only [aw,Option.bind_some,cA,List.all_cons]
  cases fA g B o f with
  | false=>rfl
  | true=>exact qY g B o fs (i+1)
def nh (L : Nat) (fs : List (List Int)) : Prop:=fs.length≤65536∧∀ f∈fs,f.length≤65536∧∀ x∈f,∃ k : Nat,x=(k : Int)∧k < L
theorem rH {g : List Int} {B : List ByteArray} {L : Nat} (h : TurnOK g B L) (r : Rot) (o : Int) (fs : List (List Int)) (hf : nh L fs) :
  pB (r.1,r.2.1,r.2.2.1,g,B,o,fs,(fs.length : Nat),0,())=some (cond (cA g B o fs) (.inr (.inl ())) (.inl (false,()))):=by
 have key:=mF (B:=np) (fun (_ : Unit) i=>(r.1,r.2.1,r.2.2.1,g,B,o,fs,((fs.length : Nat) : Int),(i : Int),())) (fun _=>.inr (.inl ())) (fun (_ : Unit)=>.inl (false,()))
  (fun (_ : Nat) (_ : Unit) f=>some (cond (fA g B o f) (Sum.inl ()) (Sum.inr ()))) fs (by
   intro u i f hd'
   have hi : i < fs.length:=(List.getElem?_eq_some_iff.1 hd').1
   have hlen:=hf.1
   obtain ⟨f1,f2⟩:=hf.2 f (List.mem_of_getElem? hd')
   obtain ⟨t1,_,_⟩:=DJ h r o f f2 f1
   simp only [np]
   rw [aB (by omega),cond_true,ap (by omega),Option.bind_some,hd',Option.bind_some,fR f o (by omega),Option.bind_some,t1,a9 (by omega)]
   unfold fA
   simp only [Option.bind_some]
   cases inB f o with
   | true =>
    simp only [cond_true]
    by_cases e : tsZ g B f=-4
    ·rw [bn e,cv e]; rfl
    ·rw [dZ e,bw e]; rfl
   | false =>
    simp only [cond_false]
    by_cases e : tsZ g B f=4
    ·rw [bn e,cv e]; rfl
    ·rw [dZ e,bw e]; rfl) (by
   intro u
   simp only [np]
   rw [aA (by omega)]; rfl) ()
 rw [qY] at key
 refine key.trans ?_
 cases cA g B o fs <;> rfl
theorem AN {g : List Int} {B : List ByteArray} {L : Nat} (h : TurnOK g B L) (r : Rot) (o : Int) (fs : List (List Int)) (hf : nh L fs) :
  wi (r.1,r.2.1,r.2.2.1,g,B,o,fs,0,())=some (cond (cA g B o fs) (.inr (.inl ())) (.inl (13,()))):=by
 have key:=mF (B:=wo) (fun (_ : Unit) i=>(r.1,r.2.1,r.2.2.1,g,B,o,fs,(i : Int),())) (fun _=>.inr (.inl ())) (fun (_ : Unit)=>.inl (13,()))
  (fun (_ : Nat) (_ : Unit) f=>some (cond (fA g B o f) (Sum.inl ()) (Sum.inr ()))) fs (by
   intro u i f hd'
   have hi : i < fs.length:=(List.getElem?_eq_some_iff.1 hd').1
   have hlen:=hf.1
   obtain ⟨f1,f2⟩:=hf.2 f (List.mem_of_getElem? hd')
   have t1:=AD h r o f f2 f1
   simp only [wo]
   rw [aB (by omega),cond_true,ap (by omega),Option.bind_some,hd',Option.bind_some,Ge f o (by omega),Option.bind_some,a9 (by omega)]
   unfold fA
   simp only [Option.bind_some,hd',t1]
   cases inB f o with
   | true =>
    simp only [cond_true]
    by_cases e : tsZ g B f=-4
    ·rw [bn e,cv e]; rfl
    ·rw [dZ e,bw e]; rfl
   | false =>
    simp only [cond_false]
    by_cases e : tsZ g B f=4
    ·rw [bn e,cv e]; rfl
    ·rw [dZ e,bw e]; rfl) (by
   intro u
   simp only [wo]
   rw [aA (by omega)]; rfl) ()
 rw [qY] at key
 refine key.trans ?_
 cases cA g B o fs <;> rfl
structure ShapeOK (N : Nat) (E : List Arc) (A : List (List Int)) (g : List Int) (B : List ByteArray) (o : Int) (nx : List Int) : Prop where
 rot : RotOK (N : Nat) E A
 valid : validB ((N : Int),E,A,())=true
 pos : 0 < N
 conn : jN N E
 turn : TurnOK g B (2 * E.length)
 bend : cN (gQ B) 0 (2 * E.length)=true
 ang : lY g A=some (.inl ())
 out0 : 0≤o
 out1 : o < 2 * E.length∨o=0
 fol : Zap (((N : Int),E,A,()),())=some (nx,())
 folOK : Fol oth E A nx
 inv : ∃ m,FacesInv nx.length nx.length (m,aa nx)
 faces : Zay (((N : Int),E,A,()),())=some (aa nx,())
 rfaces : Zy (((N : Int),E,A,()),())=some (aa nx,())
 chk : cA g B o (aa nx)=true
theorem wT {L : Nat} {f : List Int} (hn : f.Nodup) (hf : ∀ x∈f,∃ k : Nat,x=(k : Int)∧k < L) : f.length≤L:=by
 have:=eX L (f.map Int.toNat) (by
  rw [List.Nodup,List.pairwise_map]
  refine hn.imp_of_mem ?_
  intro a b ha hb hab e
  obtain ⟨j,rfl,_⟩:=hf a ha
  obtain ⟨j',rfl,_⟩:=hf b hb
  simp at e
  exact hab (by rw [e])) (by
  intro x hx
  obtain ⟨y,hy,rfl⟩:=List.mem_map.1 hx
  obtain ⟨j,rfl,hj⟩:=hf y hy
  simpa using hj)
 simpa using this
theorem xG {L : Nat} (hL : L≤65536) {m : List Bool} {fs : List (List Int)} (h : FacesInv L L (m,fs)) : nh L fs:=by
 refine ⟨?_,fun f hf=>?_⟩
 ·have:=h.num; simp only at this; omega
 ·obtain ⟨_,h2⟩:=h.elem f hf
  refine ⟨?_,h2⟩
  have hn : f.Nodup:=(List.sublist_flatten_of_mem hf).nodup h.nodup
  have:=wT hn h2
  omega
theorem An {N : Nat} {E : List Arc} {A : List (List Int)} {X : Int} {c : Nat} (h1 : Zv (((N : Int),E,A,()),())=some (bf .i64 (c : Int) X,())) (h2 : Zd (((N : Int),E,A,()),())=some ((c : Int),())) :
  Zq (((N : Int),E,A,()),())=some (eqI (bf .i64 (c : Int) X) 0 && eqI (c : Int) 1,()):=by
 unfold Zq
 simp only
 rw [h1,Option.bind_some,h2]
 simp only [Option.bind_some]
 cases eqI (bf .i64 (c : Int) X) 0 <;> rfl
theorem wA (N0 : Int) (E : List Arc) (A : List (List Int)) (g : List Int) (B : List ByteArray) (o : Int) (hA : ∀ l∈A,l.length≤9223372036854775807) :
  ∃ b,Zbt (((N0,E,A,()),g,B,o,()),())=some (b,())∧Zt (((N0,E,A,()),g,B,o,()),())=some (cond b 0 13,())∧(b=true→∃ N : Nat,N0=(N : Int)∧∃ nx,ShapeOK N E A g B o nx):=by
 cases hv : validB (N0,E,A,()) with
 | false =>
  refine ⟨false,?_,?_,fun h=>by cases h⟩
  ·unfold Zbt
   simp only
   rw [ed (N0,E,A,()) hA,hv]; rfl
  ·unfold Zt
   simp only
   rw [gC (N0,E,A,()) hA,hv]; rfl
 | true =>
  have h0:=D8 hv
  obtain ⟨N,rfl⟩ : ∃ N : Nat,N0=N:=⟨N0.toNat,by have:=h0.n0; omega⟩
  have h : RotOK (N : Nat) E A:=h0
  have hm1:=h.m1
  have h16 : N≤16384:=by have:=h.n1; omega
  have hAl : A.length=N:=by have:=h.len; omega
  obtain ⟨bc,c1,c2⟩:=mK h hv hA
  obtain ⟨X,x1,c,x2,x3,x4⟩:=xE h hv hA
  have hpl:=An x2 x3
  have pv : Zbt ((((N : Int),E,A,()),g,B,o,()),())=cond (!bc) (some (false,())) ((Zaw (((N : Int),E,A,()),())).bind fun r3=>cond (neI r3.1 0) (some (false,())) (cond (neI (g.length : Nat) (aQ .i64 2 (E.length : Nat))) (some (false,())) (cond (neI (B.length : Nat) (aQ .i64 2 (E.length : Nat))) (some (false,())) (cond (ltI o 0) (some (false,())) (cond (geI o (jO (aQ .i64 2 (E.length : Nat)) 1)) (some (false,())) ((Zbl ((((N : Int),E,A,()),g,B,o,()),())).bind fun r4=>cond (!r4.1) (some (false,())) ((oy ((N : Int),E,A,g,B,o,(N : Int),E,A,(aQ .i64 2 (E.length : Nat)),0,())).bind (Sum.elim (fun z6=>some (z6.1,())) (Sum.elim (fun z7=>(Zay ((z7.2.2.2.2.2.2.1,(z7.2.2.2.2.2.2.2.1,(z7.2.2.2.2.2.2.2.2.1,()))),())).bind fun r8=>(pB (z7.1,(z7.2.1,(z7.2.2.1,(z7.2.2.2.1,(z7.2.2.2.2.1,(z7.2.2.2.2.2.1,(r8.1,((r8.1.length : Nat),(0,())))))))))).bind (Sum.elim (fun z10=>some (z10.1,())) (Sum.elim (fun z11=>some (true,())) (fun _=>none)))) (fun _=>none)))))))))):=by
   unfold Zbt
   simp only
   rw [ed ((N : Int),E,A,()) hA,hv,Option.bind_some]
   simp only [Bool.not_true,cond_false]
   rw [c1,Option.bind_some]
  have e2 : aQ .i64 2 (E.length : Nat)=((2 * E.length : Nat) : Int):=by rw [fV (by omega) (by omega)]; omega
  cases hbc : bc with
  | false =>
   rw [hbc] at pv c2
   have hnc : ¬ (0 < N∧jN N E):=fun hh=>by have:=c2.2 hh; cases this
   refine ⟨false,pv,?_,fun h=>by cases h⟩
   unfold Zt
   simp only
   rw [gC ((N : Int),E,A,()) hA,hv,Option.bind_some]
   simp only [Bool.not_true,cond_false]
   by_cases hN : 0 < N
   ·have hc1 : c≠1:=fun e=>hnc ⟨hN,(x4 hN).1 e⟩
    rw [aA (by omega),cond_false,hpl,Option.bind_some,bw (a:=(c : Int)) (by omega)]
    simp
   ·rw [aB (by omega)]; rfl
  | true =>
   rw [hbc] at pv c2
   obtain ⟨hN,hconn⟩:=c2.1 rfl
   have hc1 : c=1:=(x4 hN).2 hconn
   subst hc1
   have rv : Zt ((((N : Int),E,A,()),g,B,o,()),())=cond (!(eqI (bf .i64 1 X) 0)) (some (13,())) (cond (neI (g.length : Nat) (aQ .i64 2 (E.length : Nat))) (some (13,())) (cond (neI (B.length : Nat) (aQ .i64 2 (E.length : Nat))) (some (13,())) ((Zan ((((N : Int),E,A,()),g,B,o,()),())).bind fun r3=>cond (!r3.1) (some (13,())) ((Zab ((((N : Int),E,A,()),g,B,o,()),())).bind fun r4=>cond (!r4.1) (some (13,())) (cond (ltI o 0) (some (13,())) (cond (gtI o 0) (cond (geI o (aQ .i64 2 (E.length : Nat))) (some (13,())) ((Zy (((N : Int),E,A,()),())).bind fun r5=>(wi ((N : Int),E,A,g,B,o,r5.1,0,())).bind (Sum.elim (fun z7=>some (z7.1,())) (Sum.elim (fun z8=>some (0,())) (fun _=>none))))) ((Zy (((N : Int),E,A,()),())).bind fun r9=>(wi ((N : Int),E,A,g,B,o,r9.1,0,())).bind (Sum.elim (fun z11=>some (z11.1,())) (Sum.elim (fun z12=>some (0,())) (fun _=>none)))))))))):=by
    unfold Zt
    simp only
    rw [gC ((N : Int),E,A,()) hA,hv,Option.bind_some]
    simp only [Bool.not_true,cond_false]
    rw [aA (by omega),cond_false,hpl,Option.bind_some]
    have : eqI ((1 : Nat) : Int) 1=true:=rfl
    rw [this,Bool.and_true]
    rfl
   rw [x1 hN hconn] at pv
   simp only [Bool.not_true,cond_false,Option.bind_some] at pv
   by_cases hg0 : bf .i64 1 X=0
   ·rw [bn hg0,cond_false,e2] at pv
    rw [cv hg0,e2] at rv
    simp only [Bool.not_true,cond_false] at rv
    by_cases hgl : g.length=2 * E.length
    ·rw [bn (by omega),cond_false] at pv rv
     by_cases hBl : B.length=2 * E.length
     ·rw [bn (by omega),cond_false] at pv rv
      obtain ⟨ba,a1,a2⟩:=we h g hgl
      have hang:=sW (N : Int) E A g B o (by omega) hA
      have hsum:=EY E A g B o (by omega) hA
      rw [hAl] at hsum
      rw [a1] at hang hsum
      have hbp:=qw (N : Int) E A g B o E.length hBl hm1 E.length 0 (by omega)
      have hbr:=Bv (N : Int) E A g B o E.length hBl hm1
      rw [rZ] at hbp
      have hbp' : oy ((N : Int),E,A,g,B,o,(N : Int),E,A,((2 * E.length : Nat) : Int),0,())=_:=hbp
      have hmax : jO ((2 * E.length : Nat) : Int) 1=if 2 * E.length=0 then 1 else ((2 * E.length : Nat) : Int):=by
       unfold jO; split <;> split <;> omega
      cases hba : ba with
      | false =>
       rw [hba] at hang hsum
       refine ⟨false,?_,?_,fun h=>by cases h⟩
       ·rw [pv,hang]
        cases ltI o 0 with
        | true=>rfl
        | false=>cases geI o (jO ((2 * E.length : Nat) : Int) 1) <;> rfl
       ·rw [rv,hsum]; rfl
      | true =>
       rw [hba] at hang hsum a1
       cases hbb : cN (gQ B) 0 (2 * E.length) with
       | false =>
        rw [hbb] at hbp' hbr
        refine ⟨false,?_,?_,fun h=>by cases h⟩
        ·rw [pv,hang,hbp']
         cases ltI o 0 with
         | true=>rfl
         | false=>cases geI o (jO ((2 * E.length : Nat) : Int) 1) <;> rfl
        ·rw [rv,hsum,hbr]; rfl
       | true =>
        rw [hbb] at hbp' hbr
        by_cases ho0 : o < 0
        ·refine ⟨false,?_,?_,fun h=>by cases h⟩
         ·rw [pv,aB ho0]; rfl
         ·rw [rv,hsum,hbr,aB ho0]; rfl
        ·by_cases ho1 : o < 2 * E.length∨o=0
         ·have hT : TurnOK g B (2 * E.length):=⟨by omega,hgl,hBl,fun k hk=>ay hk,a2 hba,fun k hk=>by
           have:=eC.1 hbb k (by omega) (by omega)
           unfold gQ at this
           simp only [Bool.and_eq_true] at this
           exact this.1⟩
          obtain ⟨nx,m,f0,f1,hi,r1,r2⟩:=mj h hv hA
          have hFI : nh (2 * E.length) (aa nx):=by rw [← f1.len]; exact xG (by rw [f1.len]; omega) hi
          have hp:=rH hT ((N : Int),E,A,()) o (aa nx) hFI
          have hr:=AN hT ((N : Int),E,A,()) o (aa nx) hFI
          simp only at hp hr
          refine ⟨cA g B o (aa nx),?_,?_,fun hb=>⟨N,rfl,nx,h,hv,hN,hconn,hT,hbb,a1,by omega,ho1,f0,f1,⟨m,hi⟩,r1,r2,hb⟩⟩
          ·rw [pv,aA (by omega),cond_false,hmax,fZ (by split <;> omega),cond_false,hang,hbp']
           simp only [cond_true,Option.bind_some,Sum.elim_inl,Sum.elim_inr,Bool.not_true,cond_false]
           rw [r1,Option.bind_some]
           simp only
           rw [hp]
           cases cA g B o (aa nx) <;> rfl
          ·rw [rv,hsum,hbr]
           simp only [cond_true,Option.bind_some,Sum.elim_inl,Bool.not_true,cond_false]
           rw [aA (by omega),cond_false,r2]
           simp only [Option.bind_some]
           rw [hr]
           by_cases hop : o > 0
           ·rw [d7 hop,cond_true,fZ (by omega),cond_false]
            cases cA g B o (aa nx) <;> rfl
           ·rw [c7 (by omega),cond_false]
            cases cA g B o (aa nx) <;> rfl
         ·refine ⟨false,?_,?_,fun h=>by cases h⟩
          ·rw [pv,aA (by omega),cond_false,hmax,tG (by split <;> omega)]; rfl
          ·rw [rv,hsum,hbr]
           simp only [cond_true,Option.bind_some,Sum.elim_inl,Bool.not_true,cond_false]
           rw [aA (by omega),cond_false,d7 (by omega),cond_true,tG (by omega)]; rfl
     ·rw [dZ (by omega)] at pv rv
      exact ⟨false,pv,rv,fun h=>by cases h⟩
    ·rw [dZ (by omega)] at pv rv
     exact ⟨false,pv,rv,fun h=>by cases h⟩
   ·rw [dZ hg0] at pv
    rw [bw hg0] at rv
    exact ⟨false,pv,rv,fun h=>by cases h⟩
end Go.Vm


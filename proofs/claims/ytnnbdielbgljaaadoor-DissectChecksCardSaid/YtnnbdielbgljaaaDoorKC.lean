/-
 Bends, angles, turns; valid shapes.
-/
import Derived.Test.YtnnbdielbgljaaaDoorD41
import Derived.Test.YtnnbdielbgljaaaDoorVmD
import Derived.KernelRfl
import Derived.Test.YtnnbdielbgljaaaDoorKA
set_option linter.unusedVariables false
set_option linter.unusedSimpArgs false
namespace Go.Vm
open Go.Proofs
set_option maxRecDepth 100000
def sw (c : Int) : Int:=if c=76 then 82 else if c=82 then 76 else c
theorem OC (c : Int) : sw (sw c)=c:=by unfold sw; split <;> (try split) <;> (try split) <;> omega
theorem Iu {c : Int} (h : 0≤c∧c < 256) : 0≤sw c∧sw c < 256:=by unfold sw; split <;> (try split) <;> omega
theorem zG (c : Int) : ∃ b,Zbi (c,())=some (sw c,(b,())):=by
 unfold Zbi sw
 by_cases h1 : c=76
 ·exact ⟨true,by simp [eqI,h1]⟩
 ·by_cases h2 : c=82
  ·exact ⟨true,by simp [eqI,h2]⟩
  ·exact ⟨false,by dsimp only; rw [bH h1,bH h2,if_neg h1,if_neg h2]; rfl⟩
theorem xw (c : Int) : Zg (c,())=some (sw c,()):=by
 unfold Zg sw
 by_cases h1 : c=76
 ·simp [eqI,h1]
 ·by_cases h2 : c=82
  ·simp [eqI,h2]
  ·dsimp only; rw [bH h1,bH h2,if_neg h1,if_neg h2]; rfl
theorem uW : ∀ (q p : List Int),(p++q).length≤68719476736→wd (p++q,(((p++q).length : Nat),((p.length : Nat),())))=some (.inl (p++q.map sw,()))
 | [],p,h=>by
  refine aj ?_
  simp only [mc]
  rw [aI (by simp)]
  simp
 | c :: q,p,h=>by
  have h' : p.length+q.length+1≤68719476736:=by simp at h; omega
  have hs : mc (p++c :: q,(((p++c :: q).length : Nat),((p.length : Nat),())))=some (.inl ((p++[sw c])++q,((((p++[sw c])++q).length : Nat),(((p++[sw c]).length : Nat),())))):=by
   simp only [mc]
   obtain ⟨b,hb⟩:=zG c
   rw [aL (by simp; omega),cond_true,aF (by simp),Option.bind_some]
   have g : (p++c :: q)[p.length]?=some c:=by simp
   rw [g,Option.bind_some,hb,Option.bind_some,Option.bind_some]
   simp only [g,Option.bind_some]
   rw [bh (by omega)]
   simp
  show ab _ _=_
  rw [ax hs]
  have:=uW q (p++[sw c]) (by simp; omega)
  rw [show ab mc=wd from rfl,this]
  simp
theorem BF (s : ByteArray) (h : s.size≤68719476736) : Zbj (s,())=some (cZ ((az s).reverse.map sw),()):=by
 have hl:=bu s
 have e1 : Zl (az s,())=some ((az s).reverse,()):=by
  unfold Zl
  have:=KS (az s) (by omega)
  rw [show GN ((az s,()).1,(0,((bq .i64 ((az s,()).1.length : Nat) 1),())))=some (.inl ((az s).reverse,())) from this]
  rfl
 unfold Zbj
 simp only [e1,Option.bind_some]
 have:=uW (az s).reverse [] (by simp; omega)
 simp only [List.nil_append,List.length_nil] at this
 rw [show ((0 : Nat) : Int)=0 from rfl] at this
 rw [this]
 rfl
theorem pl (s : ByteArray) (hs : s.size≤68719476736) : ∀ (k : Nat) (acc : List Int),k≤s.size→acc.length+k≤s.size →
  CX (acc,(s,((k : Int) - 1,())))=some (.inl (acc++((az s).take k).reverse.map sw,()))
 | 0,acc,_,_=>by
  refine aj ?_
  simp only [s7]
  rw [fQ (by omega)]
  simp
 | k+1,acc,hk,ha=>by
  have hl:=bu s
  obtain ⟨c,hc⟩ : ∃ c,s.data.toList[k]?=some c:=⟨_,List.getElem?_eq_getElem (by rw [Array.length_toList]; exact hk)⟩
  have hb:=wE s k
  rw [hc] at hb
  have hst : s7 (acc,(s,(((k+1 : Nat) : Int) - 1,())))=some (.inl (acc++[sw c.toNat],(s,((k : Int) - 1,())))):=by
   simp only [s7]
   rw [show (((k+1 : Nat) : Int) - 1)=(k : Int) by omega,tS (by omega),cond_true,ae,hc,Option.bind_some,xw,Option.bind_some,cR (by simp; omega),Option.bind_some,qf (by omega)]
  show ab _ _=_
  rw [ax hst]
  have:=pl s hs k (acc++[sw c.toNat]) (by omega) (by simp; omega)
  rw [show ab s7=CX from rfl,this]
  have ht : (az s).take (k+1)=(az s).take k++[(c.toNat : Int)]:=by
   rw [List.take_add_one,← hb]; rfl
  rw [ht]
  simp
theorem tk (s : ByteArray) (h : s.size≤68719476736) : Zj (s,())=some (cZ ((az s).reverse.map sw),()):=by
 unfold Zj
 dsimp only
 have:=pl s h s.size [] (Nat.le_refl _) (by simp)
 rw [qf (by omega),this]
 have hl:=bu s
 simp only [List.nil_append,Option.bind_some,Sum.elim_inl]
 rw [List.take_of_length_le (by omega)]
end Go.Vm

namespace Go.Vm
open Go.Proofs
set_option maxRecDepth 100000
attribute [local irreducible] ab
def inB (f : List Int) (x : Int) : Bool:=decide (x∈f)
theorem MH (f : List Int) (x : Int) (hf : f.length < 9223372036854775807) : Zaw (f,x,())=some (inB f x,()):=by
 have key : ∀ (q p : List Int),p++q=f→wX (f,x,((p.length : Nat) : Int),())=some (cond (inB q x) (.inl (true,())) (.inr (.inl ()))):=by
  intro q
  induction q with
  | nil =>
   intro p hp
   refine aj ?_
   simp only [lx]
   rw [aI (by rw [← hp]; simp)]
   simp [inB]
  | cons a q ih =>
   intro p hp
   have hpl : p.length < f.length:=by rw [← hp]; simp
   have ha : f[p.length]?=some a:=by rw [← hp]; simp
   by_cases e : a=x
   ·refine aj ?_
    simp only [lx]
    rw [aL (by omega),cond_true,ae,ha,Option.bind_some,cr e]
    simp [inB,e]
   ·have hs : lx (f,x,((p.length : Nat) : Int),())=some (.inl (f,x,(((p++[a]).length : Nat) : Int),())):=by
     simp only [lx]
     rw [aL (by omega),cond_true,ae,ha,Option.bind_some,bH e,cond_false,bh (by omega)]
     simp
    refine (ax hs).trans ?_
    refine (ih (p++[a]) (by simp [hp])).trans ?_
    have : inB (a :: q) x=inB q x:=by
     unfold inB
     have : (x∈a :: q)↔x∈q:=by simp [Ne.symm e]
     exact decide_eq_decide.2 this
    rw [this]
 unfold Zaw
 simp only
 rw [show wX (f,x,0,())=_ from key f [] rfl]
 cases inB f x <;> rfl
theorem fB (f : List Int) (x : Int) (hf : f.length < 9223372036854775807) : Zh (f,x,())=some (inB f x,()):=by
 have key : ∀ (q p : List Int),p++q=f→∃ n : Int,sg (f,x,((f.length : Nat) : Int),((p.length : Nat) : Int),())=some (cond (inB q x) (.inl (n,())) (.inr (.inl ())))∧0≤n:=by
  intro q
  induction q with
  | nil =>
   intro p hp
   refine ⟨0,?_,by omega⟩
   refine aj ?_
   simp only [g9]
   rw [aI (by rw [← hp]; simp)]
   simp [inB]
  | cons a q ih =>
   intro p hp
   have hpl : p.length < f.length:=by rw [← hp]; simp
   have ha : f[p.length]?=some a:=by rw [← hp]; simp
   by_cases e : a=x
   ·refine ⟨p.length,?_,by omega⟩
    refine aj ?_
    simp only [g9]
    rw [aL (by omega),cond_true,ae,ha,Option.bind_some,cr e.symm]
    simp [inB,e]
   ·have hs : g9 (f,x,((f.length : Nat) : Int),((p.length : Nat) : Int),())=some (.inl (f,x,((f.length : Nat) : Int),(((p++[a]).length : Nat) : Int),())):=by
     simp only [g9]
     rw [aL (by omega),cond_true,ae,ha,Option.bind_some,bH (Ne.symm e),cond_false,bh (by omega)]
     simp
    obtain ⟨n,h1,h2⟩:=ih (p++[a]) (by simp [hp])
    refine ⟨n,?_,h2⟩
    refine (ax hs).trans (h1.trans ?_)
    have : inB (a :: q) x=inB q x:=by
     unfold inB
     have : (x∈a :: q)↔x∈q:=by simp [Ne.symm e]
     exact decide_eq_decide.2 this
    rw [this]
 obtain ⟨n,h1,h2⟩:=key f [] rfl
 have h1' : sg (f,x,((f.length : Nat) : Int),0,())=some (cond (inB f x) (.inl (n,())) (.inr (.inl ()))):=h1
 unfold Zh Zai
 simp only
 rw [h1']
 cases inB f x with
 | true=>simp only [cond_true,Option.bind_some,Sum.elim_inl]; rw [tS h2]
 | false=>simp only [cond_false,Option.bind_some,Sum.elim_inr,Sum.elim_inl]; rw [fQ (by omega)]
abbrev Shp:=Rot×(List Int×(List ByteArray×(Int×Unit)))
def cU (g : List Int) (_ : Nat) (n : Int) (d : Int) : Option (Int⊕Unit):=(aG g d).bind fun a=>some (cond (ltI a 1 || gtI a 4) (.inr ()) (.inl (ak .i64 n a)))
def du (g : List Int) (_ : Nat) (_ : Unit) (l : List Int) : Option (Unit⊕Unit):=(aA (cU g) 0 0 l).bind (Sum.elim (fun n=>some (cond (gtI (l.length : Nat) 0 && neI n 4) (.inr ()) (.inl ()))) (fun _=>some (.inr ())))
def lP (g : List Int) (A : List (List Int)) : Option (Unit⊕Unit):=aA (du g) 0 () A
theorem D9 (N : Int) (E : List Arc) (A : List (List Int)) (g : List Int) (B : List ByteArray) (o : Int) (A' : List (List Int)) (c v : Int) (l : List Int) (hl : l.length≤9223372036854775807) :
  zK (N,E,A,g,B,o,l,0,A',c,v,l,(l.length : Nat),0,())=(aA (cU g) 0 0 l).bind (Sum.elim (fun n=>some (.inr (.inl (N,E,A,g,B,o,l,n,A',c,v,())))) (fun _=>some (.inl (false,())))):=by
 refine jj (B:=oK) (fun n i=>(N,E,A,g,B,o,l,n,A',c,v,l,((l.length : Nat) : Int),(i : Int),())) (fun n=>.inr (.inl (N,E,A,g,B,o,l,n,A',c,v,()))) (fun _=>.inl (false,())) (cU g) l ?_ ?_ 0
 ·intro n i d hd'
  have hi : i < l.length:=(List.getElem?_eq_some_iff.1 hd').1
  simp only [oK,cU]
  rw [aL (by omega),cond_true,ae,hd',Option.bind_some,bh (by omega)]
  cases aG g d with
  | none=>rfl
  | some a =>
   simp only [Option.bind_some]
   cases ltI a 1 <;> cases gtI a 4 <;> rfl
 ·intro n
  simp only [oK]
  rw [aI (by omega)]; rfl
theorem ub (N : Int) (E : List Arc) (A : List (List Int)) (g : List Int) (B : List ByteArray) (o : Int) (hA : A.length < 9223372036854775807) (hl : ∀ l∈A,l.length≤9223372036854775807) :
  Zbm (((N,E,A,()),g,B,o,()),())=(lP g A).bind (Sum.elim (fun _=>some (true,())) (fun _=>some (false,()))):=by
 have key:=jj (B:=pc) (fun (_ : Unit) i=>(N,E,A,g,B,o,A,((A.length : Nat) : Int),(i : Int),())) (fun _=>.inr (.inl ())) (fun (_ : Unit)=>.inl (false,())) (du g) A (by
  intro u i l hd'
  have hi : i < A.length:=(List.getElem?_eq_some_iff.1 hd').1
  simp only [pc,du]
  rw [aL (by omega),cond_true,ae,hd',Option.bind_some,D9 N E A g B o A _ _ l (hl l (List.mem_of_getElem? hd'))]
  cases aA (cU g) 0 0 l with
  | none=>rfl
  | some x =>
   cases x with
   | inl n =>
    simp only [Option.bind_some,Sum.elim_inl,Sum.elim_inr]
    rw [bh (by omega)]
    cases gtI ((l.length : Nat) : Int) 0 <;> cases neI n 4 <;> rfl
   | inr e=>rfl) (by
  intro u
  simp only [pc]
  rw [aI (by omega)]; rfl) ()
 unfold Zbm
 simp only
 rw [show AB (N,E,A,g,B,o,A,((A.length : Nat) : Int),0,())=_ from key]
 unfold lP
 cases aA (du g) 0 () A with
 | none=>rfl
 | some x=>cases x <;> rfl
theorem zh (N : Int) (E : List Arc) (A : List (List Int)) (g : List Int) (B : List ByteArray) (o : Int) (v : Nat) (l : List Int) (hv : A[v]?=some l) (hl : l.length≤9223372036854775807) :
  Bl (N,E,A,g,B,o,(v : Int),0,0,())=(aA (cU g) 0 0 l).bind (Sum.elim (fun n=>some (.inr (.inl (N,E,A,g,B,o,(v : Int),n,())))) (fun _=>some (.inl (false,())))):=by
 refine jj (B:=oO) (fun n i=>(N,E,A,g,B,o,(v : Int),n,(i : Int),())) (fun n=>.inr (.inl (N,E,A,g,B,o,(v : Int),n,()))) (fun _=>.inl (false,())) (cU g) l ?_ ?_ 0
 ·intro n i d hd'
  have hi : i < l.length:=(List.getElem?_eq_some_iff.1 hd').1
  simp only [oO,cU]
  rw [ae,hv,Option.bind_some,aL (by omega),cond_true,Option.bind_some,ae,hd',Option.bind_some,bh (by omega)]
  cases aG g d with
  | none=>rfl
  | some a =>
   simp only [Option.bind_some]
   cases ltI a 1 <;> cases gtI a 4 <;> rfl
 ·intro n
  simp only [oO]
  rw [ae,hv,Option.bind_some,aI (by omega)]; rfl
theorem Kb (E : List Arc) (A : List (List Int)) (g : List Int) (B : List ByteArray) (o : Int) (hA : A.length < 9223372036854775807) (hl : ∀ l∈A,l.length≤9223372036854775807) :
  Zaf (((((A.length : Nat) : Int),E,A,()),g,B,o,()),())=(lP g A).bind (Sum.elim (fun _=>some (true,())) (fun _=>some (false,()))):=by
 have key:=jj (B:=oN) (fun (_ : Unit) i=>(((A.length : Nat) : Int),E,A,g,B,o,(i : Int),())) (fun _=>.inr (.inl ())) (fun (_ : Unit)=>.inl (false,())) (du g) A (by
  intro u i l hd'
  have hi : i < A.length:=(List.getElem?_eq_some_iff.1 hd').1
  simp only [oN,du]
  rw [aL (by omega),cond_true,zh _ E A g B o i l hd' (hl l (List.mem_of_getElem? hd'))]
  cases aA (cU g) 0 0 l with
  | none=>rfl
  | some x =>
   cases x with
   | inl n =>
    simp only [Option.bind_some,Sum.elim_inl,Sum.elim_inr]
    rw [bh (by omega),ae,hd']
    simp only [Option.bind_some]
    cases gtI ((l.length : Nat) : Int) 0 <;> cases neI n 4 <;> rfl
   | inr e=>rfl) (by
  intro u
  simp only [oN]
  rw [aI (by omega)]; rfl) ()
 unfold Zaf
 simp only
 rw [show zk (((A.length : Nat) : Int),E,A,g,B,o,0,())=_ from key]
 unfold lP
 cases aA (du g) 0 () A with
 | none=>rfl
 | some x=>cases x <;> rfl
theorem ym {N : Int} {E : List Arc} {A : List (List Int)} (h : RotOK N E A) (g : List Int) (hg : g.length=2 * E.length) : ∃ b : Bool,lP g A=some (cond b (.inl ()) (.inr ()))∧(b=true→∀ k : Nat,k < 2 * E.length→∃ a,g[k]?=some a∧1≤a∧a≤4):=by
 have one : ∀ (l : List Int),(∀ d∈l,∃ k : Nat,d=(k : Int)∧k < 2 * E.length)→∀ (i : Nat) (n : Int),∃ x,aA (cU g) i n l=some x∧(∀ m,x=.inl m→∀ k : Nat,(k : Int)∈l→∃ a,g[k]?=some a∧1≤a∧a≤4):=by
  intro l
  induction l with
  | nil=>intro _ i n; exact ⟨_,rfl,fun _ _ k hk=>by simp at hk⟩
  | cons d l ih =>
   intro hl i n
   obtain ⟨k,rfl,hk⟩:=hl d (by simp)
   obtain ⟨a,ha⟩ : ∃ a,g[k]?=some a:=⟨_,List.getElem?_eq_getElem (by omega)⟩
   simp only [aA,cU]
   rw [ae,ha,Option.bind_some]
   by_cases hc : 1≤a∧a≤4
   ·rw [aI hc.1,dC hc.2]
    simp only [Bool.or_false,cond_false,Option.bind_some,Sum.elim_inl]
    obtain ⟨x,h1,h2⟩:=ih (fun d hd'=>hl d (by simp [hd'])) (i+1) (ak .i64 n a)
    refine ⟨x,h1,fun m hm j hj=>?_⟩
    rcases List.mem_cons.1 hj with hj | hj
    ·have : j=k:=by omega
     subst this
     exact ⟨a,ha,hc⟩
    ·exact h2 m hm j hj
   ·have : (ltI a 1 || gtI a 4)=true:=by
     simp only [ltI,gtI,Bool.or_eq_true,decide_eq_true_eq]; omega
    rw [this]
    exact ⟨_,rfl,fun m hm=>by cases hm⟩
 have all : ∀ (A' : List (List Int)),(∀ l∈A',l∈A)→∀ i,∃ b : Bool,aA (du g) i () A'=some (cond b (.inl ()) (.inr ()))∧(b=true→∀ k : Nat,(k : Int)∈A'.flatten→∃ a,g[k]?=some a∧1≤a∧a≤4):=by
  intro A'
  induction A' with
  | nil=>intro _ i; exact ⟨true,rfl,fun _ k hk=>by simp at hk⟩
  | cons l A' ih =>
   intro hA i
   obtain ⟨x,h1,h2⟩:=one l (fun d hd'=>h.mem_of (hA l (by simp)) hd') 0 0
   simp only [aA,du,h1,Option.bind_some]
   cases x with
   | inr e=>exact ⟨false,rfl,fun h=>by cases h⟩
   | inl n =>
    simp only [Sum.elim_inl,Option.bind_some]
    cases hc : gtI ((l.length : Nat) : Int) 0 && neI n 4 with
    | true=>exact ⟨false,rfl,fun h=>by cases h⟩
    | false =>
     obtain ⟨b,q1,q2⟩:=ih (fun l hl=>hA l (by simp [hl])) (i+1)
     refine ⟨b,q1,fun hb k hk=>?_⟩
     rw [List.flatten_cons,List.mem_append] at hk
     rcases hk with hk | hk
     ·exact h2 n rfl k hk
     ·exact q2 hb k hk
 obtain ⟨b,q1,q2⟩:=all A (fun l hl=>hl) 0
 exact ⟨b,q1,fun hb k hk=>q2 hb k (h.mem hk)⟩
end Go.Vm

namespace Go.Vm
open Go.Proofs
set_option maxRecDepth 100000
attribute [local irreducible] ab
def cH (f : Nat→Bool) : Nat→Nat→Bool
 | _,0=>true
 | j,r+1=>f j && cH f (j+1) r
theorem ey {f : Nat→Bool} : ∀ {r j : Nat},cH f j r=true↔∀ i,j≤i→i < j+r→f i=true
 | 0,j=>by simp [cH]; intro i h1 h2; omega
 | r+1,j=>by
  simp only [cH,Bool.and_eq_true,ey]
  constructor
  ·rintro ⟨h1,h2⟩ i hi hi2
   rcases Nat.eq_or_lt_of_le hi with rfl | hlt
   ·exact h1
   ·exact h2 i hlt (by omega)
  ·intro h
   exact ⟨h j (Nat.le_refl _) (by omega),fun i h1 h2=>h i (by omega) (by omega)⟩
def lr (c : Int) : Bool:=c == 76 || c == 82
def rev (s : ByteArray) : ByteArray:=cZ ((az s).reverse.map sw)
theorem rp (c : Int) : Zbi (c,())=some (sw c,(lr c,())):=by
 unfold Zbi sw lr
 simp only
 by_cases h1 : c=76
 ·subst h1; rfl
 ·rw [bH h1,cond_false,if_neg h1]
  by_cases h2 : c=82
  ·subst h2; rfl
  ·rw [bH h2,cond_false,if_neg h2]
   have e1 : (c == 76)=false:=by simpa using h1
   have e2 : (c == 82)=false:=by simpa using h2
   rw [e1,e2]; rfl
def gp (s : ByteArray) : Bool:=decide (s.size≤64) && (az s).all lr
theorem Dd (l : List Int) (hl : l.length < 9223372036854775807) : ∀ (q p : List Int),p++q=l→vN (l,((l.length : Nat) : Int),((p.length : Nat) : Int),())=some (cond (q.all lr) (.inr (.inl ())) (.inl (false,()))):=by
 intro q
 induction q with
 | nil =>
  intro p hp
  refine aj ?_
  simp only [lO]
  rw [aI (by rw [← hp]; simp)]; rfl
 | cons c q ih =>
  intro p hp
  have hpl : p.length < l.length:=by rw [← hp]; simp
  have hc : l[p.length]?=some c:=by rw [← hp]; simp
  cases e : lr c with
  | false =>
   refine aj ?_
   simp only [lO]
   rw [aL (by omega),cond_true,aF hpl,Option.bind_some,hc,Option.bind_some,rp,Option.bind_some,e]
   simp [e]
  | true =>
   have hs : lO (l,((l.length : Nat) : Int),((p.length : Nat) : Int),())=some (.inl (l,((l.length : Nat) : Int),(((p++[c]).length : Nat) : Int),())):=by
    simp only [lO]
    rw [aL (by omega),cond_true,aF hpl,Option.bind_some,hc,Option.bind_some,rp,Option.bind_some,e,bh (by omega)]
    simp
   refine (ax hs).trans ((ih (p++[c]) (by simp [hp])).trans ?_)
   simp [e]
theorem Ko (s : ByteArray) : Zbw (s,())=some (gp s,()):=by
 unfold Zbw gp
 simp only
 have hl:=bu s
 by_cases h : s.size≤64
 ·rw [dC (by omega),cond_false,show vN (az s,((az s).length : Nat),0,())=_ from Dd (az s) (by omega) (az s) [] rfl]
  simp only [h,decide_true,Bool.true_and]
  cases (az s).all lr <;> rfl
 ·rw [eA (by omega)]
  simp [h]
theorem Oe (c : Int) : lr (sw c)=lr c:=by
 unfold sw lr
 split
 ·rename_i h; subst h; rfl
 ·split
  ·rename_i h; subst h; rfl
  ·rfl
theorem yM (s : ByteArray) : (rev s).size=s.size:=by
 have:=bu s
 unfold rev
 rw [wu]; simp [this]
theorem u7 (s : ByteArray) : az (rev s)=(az s).reverse.map sw:=by
 unfold rev
 refine qc fun n hn=>?_
 obtain ⟨c,hc,rfl⟩:=List.mem_map.1 hn
 exact Iu (tf c (List.mem_reverse.1 hc))
theorem JP (s : ByteArray) : rev (rev s)=s:=by
 have e : ((az s).reverse.map sw).reverse.map sw=az s:=by
  rw [← List.map_reverse,List.reverse_reverse,List.map_map]
  have : (sw ∘ sw)=id:=by funext c; exact OC c
  rw [this,List.map_id]
 rw [rev,u7,e,qd]
theorem HI (s : ByteArray) : gp (rev s)=gp s:=by
 unfold gp
 rw [yM,u7]
 congr 1
 rw [List.all_map,List.all_reverse]
 have : lr ∘ sw=lr:=by funext c; exact Oe c
 rw [this]
abbrev at0 (B : List ByteArray) (d : Nat) : ByteArray:=B.getD d ByteArray.empty
theorem hZ {B : List ByteArray} {d : Nat} (h : d < B.length) : B[d]?=some (at0 B d):=by
 unfold at0
 rw [List.getD_eq_getElem?_getD,List.getElem?_eq_getElem h]; rfl
def qO (B : List ByteArray) (j : Nat) : Bool:=gp (at0 B (2 * j)) && eqS (at0 B (2 * j+1)) (rev (at0 B (2 * j)))
def gL (B : List ByteArray) (d : Nat) : Bool:=gp (at0 B d) && eqS (at0 B (oth d)) (rev (at0 B d))
theorem sH (B : List ByteArray) (m : Nat) : cH (qO B) 0 m=cH (gL B) 0 (2 * m):=by
 rw [Bool.eq_iff_iff,ey,ey]
 constructor
 ·intro h d _ hd'
  have hj:=h (d / 2) (by omega) (by omega)
  unfold qO at hj
  unfold gL
  simp only [Bool.and_eq_true,ql] at hj ⊢
  rcases Nat.mod_two_eq_zero_or_one d with e | e
  ·have e1 : 2 * (d / 2)=d:=by omega
   have e2 : oth d=d+1:=by unfold oth; rw [if_pos e]
   rw [e1] at hj
   rw [e2]; exact hj
  ·have e1 : 2 * (d / 2)+1=d:=by omega
   have e2 : oth d=2 * (d / 2):=by unfold oth; rw [if_neg (by omega)]; omega
   rw [e1] at hj
   rw [e2,hj.2,HI,JP]
   exact ⟨hj.1,rfl⟩
 ·intro h j _ hj
  have hd':=h (2 * j) (by omega) (by omega)
  unfold gL at hd'
  unfold qO
  have e2 : oth (2 * j)=2 * j+1:=by unfold oth; rw [if_pos (by omega)]
  rw [e2] at hd'
  exact hd'
theorem C2 (a b : ByteArray) : neS a b=!(eqS a b):=rfl
theorem qV (N : Int) (E : List Arc) (A : List (List Int)) (g : List Int) (B : List ByteArray) (o : Int) (m : Nat) (hB : B.length=2 * m) (hm : m≤32768) : ∀ (r j : Nat),j+r=m →
  pb (N,E,A,g,B,o,N,E,A,((2 * m : Nat) : Int),((2 * j : Nat) : Int),())=some (cond (cH (qO B) j r) (.inr (.inl (N,E,A,g,B,o,N,E,A,()))) (.inl (false,()))):=by
 intro r
 induction r with
 | zero =>
  intro j hj
  refine aj ?_
  simp only [oh]
  rw [aI (by omega)]; rfl
 | succ r ih =>
  intro j hj
  have h0 : B[2 * j]?=some (at0 B (2 * j)):=hZ (by omega)
  have h1 : B[2 * j+1]?=some (at0 B (2 * j+1)):=hZ (by omega)
  have hstep : oh (N,E,A,g,B,o,N,E,A,((2 * m : Nat) : Int),((2 * j : Nat) : Int),())=some (cond (qO B j) (.inl (N,E,A,g,B,o,N,E,A,((2 * m : Nat) : Int),((2 * (j+1) : Nat) : Int),())) (.inr (.inl (false,())))):=by
   simp only [oh]
   rw [aL (by omega),cond_true,ae,h0,Option.bind_some,Ko,Option.bind_some]
   unfold qO
   simp only
   cases hb : gp (at0 B (2 * j)) with
   | false=>rfl
   | true =>
    have hsz : (at0 B (2 * j)).size≤64:=by
     unfold gp at hb
     simp only [Bool.and_eq_true,decide_eq_true_eq] at hb
     exact hb.1
    rw [bh (by omega),ae,h1]
    simp only [Bool.not_true,cond_false,Option.bind_some]
    rw [BF _ (by omega),Option.bind_some,C2]
    rw [show ak .i64 ((2 * j : Nat) : Int) 2=((2 * (j+1) : Nat) : Int) by rw [cG (by omega) (by omega)]; omega]
    show cond (!(eqS (at0 B (2 * j+1)) (rev (at0 B (2 * j))))) _ _=_
    cases eqS (at0 B (2 * j+1)) (rev (at0 B (2 * j))) <;> rfl
  cases hb : qO B j with
  | false =>
   rw [hb] at hstep
   simp only [cH,hb,Bool.false_and,cond_false]
   exact aj hstep
  | true =>
   rw [hb] at hstep
   simp only [cH,hb,Bool.true_and]
   exact (ax hstep).trans (ih (j+1) (by omega))
theorem wR (N : Int) (E : List Arc) (A : List (List Int)) (g : List Int) (B : List ByteArray) (o : Int) (d : Nat) (s : ByteArray) (hs : B[d]?=some s) (hsz : s.size≤64) : ∀ (r i : Nat),i+r=s.size →
  wV (N,E,A,g,B,o,(d : Int),(i : Int),())=some (cond (((az s).drop i).all lr) (.inr (.inl (N,E,A,g,B,o,(d : Int),()))) (.inl (false,()))):=by
 have hl:=bu s
 intro r
 induction r with
 | zero =>
  intro i hi
  refine aj ?_
  simp only [o4]
  rw [ae,hs,Option.bind_some,aI (by omega)]
  rw [List.drop_eq_nil_of_le (by omega)]; rfl
 | succ r ih =>
  intro i hi
  obtain ⟨c,hc⟩ : ∃ c,s.data.toList[i]?=some c:=⟨_,List.getElem?_eq_getElem (by rw [Array.length_toList]; show i < s.size; omega)⟩
  have hb:=wE s i
  rw [hc] at hb
  have hd' : (az s).drop i=(c.toNat : Int) :: (az s).drop (i+1):=by
   have hi2 : i < (az s).length:=by omega
   rw [List.drop_eq_getElem_cons hi2]
   have:=List.getElem?_eq_getElem hi2
   rw [← hb] at this
   simp only [Option.map_some,Option.some.injEq] at this
   rw [this]
  have hstep : o4 (N,E,A,g,B,o,(d : Int),(i : Int),())=some (cond (lr (c.toNat : Int)) (.inl (N,E,A,g,B,o,(d : Int),((i+1 : Nat) : Int),())) (.inr (.inl (false,())))):=by
   simp only [o4]
   rw [ae,hs,Option.bind_some,aL (by omega),cond_true,Option.bind_some,ae,hc,Option.bind_some,bh (by omega)]
   unfold lr
   by_cases e1 : (c.toNat : Int)=76
   ·rw [bo e1]
    have : ((c.toNat : Int) == 76)=true:=by simpa using e1
    rw [this]; rfl
   ·rw [dQ e1]
    have e1' : ((c.toNat : Int) == 76)=false:=by simpa using e1
    rw [e1']
    simp only [cond_true,Option.bind_some]
    rw [ae,hc,Option.bind_some]
    by_cases e2 : (c.toNat : Int)=82
    ·rw [bo e2]
     have : ((c.toNat : Int) == 82)=true:=by simpa using e2
     rw [this]; rfl
    ·rw [dQ e2]
     have : ((c.toNat : Int) == 82)=false:=by simpa using e2
     rw [this]; rfl
  rw [hd',List.all_cons]
  cases hb2 : lr (c.toNat : Int) with
  | false =>
   rw [hb2] at hstep
   exact aj hstep
  | true =>
   rw [hb2] at hstep
   exact (ax hstep).trans (ih (i+1) (by omega))
theorem DO (N : Int) (E : List Arc) (A : List (List Int)) (g : List Int) (B : List ByteArray) (o : Int) (m : Nat) (hB : B.length=2 * m) (hm : m≤32768) : ∀ (r d : Nat),d+r=2 * m →
  vY (N,E,A,g,B,o,(d : Int),())=some (cond (cH (gL B) d r) (.inr (.inl ())) (.inl (false,()))):=by
 intro r
 induction r with
 | zero =>
  intro d hd'
  refine aj ?_
  simp only [nH]
  rw [aI (by omega)]; rfl
 | succ r ih =>
  intro d hd'
  have h0 : B[d]?=some (at0 B d):=hZ (by omega)
  have h1 : B[oth d]?=some (at0 B (oth d)):=hZ (by rw [hB]; exact aU (by omega))
  have hstep : nH (N,E,A,g,B,o,(d : Int),())=some (cond (gL B d) (.inl (N,E,A,g,B,o,((d+1 : Nat) : Int),())) (.inr (.inl (false,())))):=by
   simp only [nH]
   rw [aL (by omega),cond_true,ae,h0,Option.bind_some]
   unfold gL gp
   by_cases hsz : (at0 B d).size≤64
   ·rw [dC (by omega),cond_false,mq (by omega),ae,h1,Option.bind_some,Option.bind_some,tk _ (by omega),Option.bind_some,C2]
    show cond (!(eqS (at0 B (oth d)) (rev (at0 B d)))) _ _=_
    have hlet:=wR N E A g B o d (at0 B d) h0 hsz (at0 B d).size 0 (by omega)
    rw [show wV (N,E,A,g,B,o,(d : Int),0,())=_ from hlet,List.drop_zero]
    simp only [hsz,decide_true,Bool.true_and]
    have ea : ak .i64 (d : Int) 1=((d+1 : Nat) : Int):=bh (by omega)
    cases eqS (at0 B (oth d)) (rev (at0 B d)) <;> cases (az (at0 B d)).all lr <;> simp [ea]
   ·have e : decide ((at0 B d).size≤64)=false:=by simpa using hsz
    rw [eA (by omega),e]; rfl
  cases hb : gL B d with
  | false =>
   rw [hb] at hstep
   simp only [cH,hb,Bool.false_and,cond_false]
   exact aj hstep
  | true =>
   rw [hb] at hstep
   simp only [cH,hb,Bool.true_and]
   exact (ax hstep).trans (ih (d+1) (by omega))
theorem Dh (N : Int) (E : List Arc) (A : List (List Int)) (g : List Int) (B : List ByteArray) (o : Int) (m : Nat) (hB : B.length=2 * m) (hm : m≤32768) :
  Zab (((N,E,A,()),g,B,o,()),())=some (cH (gL B) 0 (2 * m),()):=by
 unfold Zab
 simp only
 rw [show vY (N,E,A,g,B,o,0,())=_ from DO N E A g B o m hB hm (2 * m) 0 (by omega)]
 cases cH (gL B) 0 (2 * m) <;> rfl
def bz : List Int→Int
 | []=>0
 | c :: l=>(if c=76 then 1 else -1)+bz l
theorem re : ∀ l : List Int,-(l.length : Int)≤bz l∧bz l≤l.length
 | []=>by simp [bz]
 | c :: l=>by
  have:=re l
  simp only [bz,List.length_cons]
  split <;> omega
def tnZ (g : List Int) (B : List ByteArray) (d : Nat) : Int:=bz (az (at0 B d))+2 - g.getD (oth d) 0
def tsZ (g : List Int) (B : List ByteArray) : List Int→Int
 | []=>0
 | d :: f=>tnZ g B d.toNat+tsZ g B f
structure TurnOK (g : List Int) (B : List ByteArray) (L : Nat) : Prop where
 small : L≤65536
 glen : g.length=L
 blen : B.length=L
 even : ∀ k,k < L→oth k < L
 ang : ∀ k,k < L→∃ a,g[k]?=some a∧1≤a∧a≤4
 bend : ∀ k,k < L→gp (at0 B k)=true
theorem TurnOK.bound {g : List Int} {B : List ByteArray} {L : Nat} (h : TurnOK g B L) {d : Nat} (hd' : d < L) : -66≤tnZ g B d∧tnZ g B d≤66∧(at0 B d).size≤64:=by
 obtain ⟨a,ha,h1,h2⟩:=h.ang (oth d) (h.even d hd')
 have hb:=h.bend d hd'
 unfold gp at hb
 simp only [Bool.and_eq_true,decide_eq_true_eq] at hb
 have:=re (az (at0 B d))
 have hl:=bu (at0 B d)
 have hg : g.getD (oth d) 0=a:=by rw [List.getD_eq_getElem?_getD,ha]; rfl
 unfold tnZ
 rw [hg]
 omega
theorem Dg (l : List Int) (hl : l.length≤1000) : ∀ (q p : List Int) (n : Int),p++q=l→-1000 - (p.length : Int)≤n→n≤1000+p.length→wt (l,n,((l.length : Nat) : Int),((p.length : Nat) : Int),())=some (.inl (n+bz q,())):=by
 intro q
 induction q with
 | nil =>
  intro p n hp h1 h2
  refine aj ?_
  simp only [ol]
  rw [aI (by rw [← hp]; simp)]
  simp [bz]
 | cons c q ih =>
  intro p n hp h1 h2
  have hpl : p.length < l.length:=by rw [← hp]; simp
  have hc : l[p.length]?=some c:=by rw [← hp]; simp
  have hs : ol (l,n,((l.length : Nat) : Int),((p.length : Nat) : Int),())=some (.inl (l,n+(if c=76 then 1 else -1),((l.length : Nat) : Int),(((p++[c]).length : Nat) : Int),())):=by
   simp only [ol]
   rw [aL (by omega),cond_true,aF hpl,Option.bind_some,hc,Option.bind_some,bh (by omega)]
   by_cases e : c=76
   ·rw [cr e,cond_true,cG (by omega) (by omega),if_pos e]; simp
   ·rw [bH e,cond_false,gM (by omega) (by omega),if_neg e]; simp; omega
  refine (ax hs).trans ((ih (p++[c]) _ (by simp [hp]) ?_ ?_).trans ?_)
  ·simp only [List.length_append,List.length_singleton]; split <;> omega
  ·simp only [List.length_append,List.length_singleton]; split <;> omega
  ·simp only [bz]
   congr 3
   omega
theorem Kg {g : List Int} {B : List ByteArray} {L : Nat} (h : TurnOK g B L) (r : Rot) (o : Int) {d : Nat} (hd' : d < L) : Zbv (((r.1,r.2.1,r.2.2.1,()),g,B,o,()),(d : Int),())=some (tnZ g B d,()):=by
 have hsm:=h.small
 obtain ⟨a,ha,h1,h2⟩:=h.ang (oth d) (h.even d hd')
 obtain ⟨_,_,hsz⟩:=h.bound hd'
 have hl:=bu (at0 B d)
 unfold Zbv
 simp only
 rw [mq (by omega),ae,ha,Option.bind_some,ae,hZ (by rw [h.blen]; exact hd'),Option.bind_some,gM (by omega) (by omega)]
 rw [show wt (az (at0 B d),2 - a,((az (at0 B d)).length : Nat),0,())=_ from Dg (az (at0 B d)) (by omega) (az (at0 B d)) [] (2 - a) rfl (by simp; omega) (by simp; omega)]
 have hg : g.getD (oth d) 0=a:=by rw [List.getD_eq_getElem?_getD,ha]; rfl
 simp only [Option.bind_some,Sum.elim_inl,tnZ,hg]
 congr 2
 omega
theorem Hg {g : List Int} {B : List ByteArray} {L : Nat} (h : TurnOK g B L) (r : Rot) (o : Int) (f : List Int) (hf : ∀ x∈f,∃ k : Nat,x=(k : Int)∧k < L) (hfl : f.length≤65536) :
  Zbu (((r.1,r.2.1,r.2.2.1,()),g,B,o,()),f,())=some (tsZ g B f,())∧-66 * (f.length : Int)≤tsZ g B f∧tsZ g B f≤66 * (f.length : Int):=by
 have key : ∀ (q p : List Int) (n : Int),p++q=f→-66 * (p.length : Int)≤n→n≤66 * (p.length : Int) →
   ws (r.1,r.2.1,r.2.2.1,g,B,o,n,f,((f.length : Nat) : Int),((p.length : Nat) : Int),())=some (.inl (n+tsZ g B q,()))∧-66 * (q.length : Int)≤tsZ g B q∧tsZ g B q≤66 * (q.length : Int):=by
  intro q
  induction q with
  | nil =>
   intro p n hp h1 h2
   refine ⟨?_,by simp [tsZ],by simp [tsZ]⟩
   refine aj ?_
   simp only [oV]
   rw [aI (by rw [← hp]; simp)]
   simp [tsZ]
  | cons x q ih =>
   intro p n hp h1 h2
   have hpl : p.length < f.length:=by rw [← hp]; simp
   have hx : f[p.length]?=some x:=by rw [← hp]; simp
   obtain ⟨d,rfl,hdL⟩:=hf x (List.mem_of_getElem? hx)
   obtain ⟨b1,b2,_⟩:=h.bound hdL
   have hs : oV (r.1,r.2.1,r.2.2.1,g,B,o,n,f,((f.length : Nat) : Int),((p.length : Nat) : Int),())=some (.inl (r.1,r.2.1,r.2.2.1,g,B,o,n+tnZ g B d,f,((f.length : Nat) : Int),(((p++[(d : Int)]).length : Nat) : Int),())):=by
    simp only [oV]
    rw [aL (by omega),cond_true,ae,hx,Option.bind_some,Kg h r o hdL,Option.bind_some,bh (by omega),cG (by omega) (by omega)]
    simp
   obtain ⟨q1,q2,q3⟩:=ih (p++[(d : Int)]) (n+tnZ g B d) (by simp [hp]) (by simp; omega) (by simp; omega)
   refine ⟨(ax hs).trans (q1.trans ?_),?_,?_⟩
   ·simp only [tsZ,Int.toNat_natCast]
    congr 3
    omega
   ·simp only [tsZ,Int.toNat_natCast,List.length_cons]; omega
   ·simp only [tsZ,Int.toNat_natCast,List.length_cons]; omega
 obtain ⟨q1,q2,q3⟩:=key f [] 0 rfl (by simp) (by simp)
 refine ⟨?_,q2,q3⟩
 unfold Zbu
 simp only
 rw [show ws (r.1,r.2.1,r.2.2.1,g,B,o,0,f,((f.length : Nat) : Int),0,())=_ from q1]
 simp
theorem I7 (s : ByteArray) (hs : gp s=true) : Zaj (s,())=some (bz (az s),()):=by
 unfold gp at hs
 simp only [Bool.and_eq_true,decide_eq_true_eq] at hs
 obtain ⟨hsz,hall⟩:=hs
 have hl:=bu s
 have key : ∀ (r i : Nat) (n : Int),i+r=s.size→-(i : Int)≤n→n≤i→wb (s,n,(i : Int),())=some (.inl (n+bz ((az s).drop i),())):=by
  intro r
  induction r with
  | zero =>
   intro i n hi h1 h2
   refine aj ?_
   simp only [nY]
   rw [aI (by omega),List.drop_eq_nil_of_le (by omega)]
   simp [bz]
  | succ r ih =>
   intro i n hi h1 h2
   obtain ⟨c,hc⟩ : ∃ c,s.data.toList[i]?=some c:=⟨_,List.getElem?_eq_getElem (by rw [Array.length_toList]; show i < s.size; omega)⟩
   have hb:=wE s i
   rw [hc] at hb
   have hi2 : i < (az s).length:=by omega
   have hce : (az s)[i]=(c.toNat : Int):=by
    have:=List.getElem?_eq_getElem hi2
    rw [← hb] at this
    simpa using this.symm
   have hd' : (az s).drop i=(c.toNat : Int) :: (az s).drop (i+1):=by
    rw [List.drop_eq_getElem_cons hi2,hce]
   have hlr : lr (c.toNat : Int)=true:=by
    rw [List.all_eq_true] at hall
    rw [← hce]; exact hall _ (List.getElem_mem hi2)
   have hs : nY (s,n,(i : Int),())=some (.inl (s,n+(if (c.toNat : Int)=76 then 1 else -1),((i+1 : Nat) : Int),())):=by
    simp only [nY]
    rw [aL (by omega),cond_true,ae,hc,Option.bind_some,bh (by omega)]
    by_cases e : (c.toNat : Int)=76
    ·rw [cr e,cond_true,Option.bind_some,bH (by omega),cond_false,cG (by omega) (by omega),if_pos e]
    ·have e2 : (c.toNat : Int)=82:=by
      unfold lr at hlr
      simp only [Bool.or_eq_true,beq_iff_eq] at hlr
      exact hlr.resolve_left e
     rw [bH e,cond_false,Option.bind_some,cr e2,cond_true,gM (by omega) (by omega),if_neg e]
     rfl
   refine (ax hs).trans ((ih (i+1) _ (by omega) ?_ ?_).trans ?_)
   ·split <;> omega
   ·split <;> omega
   ·rw [hd']
    simp only [bz]
    congr 3
    omega
 unfold Zaj
 simp only
 rw [show wb (s,0,0,())=_ from key s.size 0 0 (by omega) (by omega) (by omega)]
 simp
theorem C8 {g : List Int} {B : List ByteArray} {L : Nat} (h : TurnOK g B L) (r : Rot) (o : Int) (f : List Int) (hf : ∀ x∈f,∃ k : Nat,x=(k : Int)∧k < L) (hfl : f.length≤65536) :
  Zx (((r.1,r.2.1,r.2.2.1,()),g,B,o,()),f,())=some (tsZ g B f,()):=by
 have hsm:=h.small
 have key : ∀ (q p : List Int) (n : Int),p++q=f→-66 * (p.length : Int)≤n→n≤66 * (p.length : Int) →
   CV (r.1,r.2.1,r.2.2.1,g,B,o,f,n,((p.length : Nat) : Int),())=some (.inl (n+tsZ g B q,())):=by
  intro q
  induction q with
  | nil =>
   intro p n hp h1 h2
   refine aj ?_
   simp only [ud]
   rw [aI (by rw [← hp]; simp)]
   simp [tsZ]
  | cons x q ih =>
   intro p n hp h1 h2
   have hpl : p.length < f.length:=by rw [← hp]; simp
   have hx : f[p.length]?=some x:=by rw [← hp]; simp
   obtain ⟨d,rfl,hdL⟩:=hf x (List.mem_of_getElem? hx)
   obtain ⟨b1,b2,hsz⟩:=h.bound hdL
   obtain ⟨a,ha,a1,a2⟩:=h.ang (oth d) (h.even d hdL)
   have hg : g.getD (oth d) 0=a:=by rw [List.getD_eq_getElem?_getD,ha]; rfl
   have hbz:=re (az (at0 B d))
   have hbl:=bu (at0 B d)
   have hs : ud (r.1,r.2.1,r.2.2.1,g,B,o,f,n,((p.length : Nat) : Int),())=some (.inl (r.1,r.2.1,r.2.2.1,g,B,o,f,n+tnZ g B d,(((p++[(d : Int)]).length : Nat) : Int),())):=by
    simp only [ud]
    rw [aL (by omega),cond_true,ae,hx,Option.bind_some,ae,hZ (by rw [h.blen]; exact hdL),Option.bind_some,I7 _ (h.bend d hdL),Option.bind_some,Option.bind_some,mq (by omega),ae,ha,Option.bind_some,bh (by omega)]
    simp only
    rw [cG (a:=n) (by omega) (by omega),cG (by omega) (by omega),gM (by omega) (by omega)]
    simp only [tnZ,hg,List.length_append,List.length_singleton]
    congr 10
    omega
   refine (ax hs).trans ((ih (p++[(d : Int)]) (n+tnZ g B d) (by simp [hp]) (by simp; omega) (by simp; omega)).trans ?_)
   simp only [tsZ,Int.toNat_natCast]
   congr 3
   omega
 unfold Zx
 simp only
 rw [show CV (r.1,r.2.1,r.2.2.1,g,B,o,f,0,0,())=_ from key f [] 0 rfl (by simp) (by simp)]
 simp
end Go.Vm

namespace Go.Vm
open Go.Proofs
set_option maxRecDepth 100000
attribute [local irreducible] ab
def nl (_ : Nat) (n : Int) (l : List Int) : Option (Int⊕Empty):=some (.inl (cond (eqI (l.length : Nat) 0) (ak .i64 n 1) n))
theorem Jk (N : Int) (E : List Arc) (A : List (List Int)) (n : Int) (hA : A.length < 9223372036854775807) : ∃ n1,wk (N,E,A,n,A,(A.length : Nat),0,())=some (.inl (N,E,A,n1,())) ∧
  wS (((A.length : Nat) : Int),E,A,n,0,())=some (.inl (((A.length : Nat) : Int),E,A,n1,())):=by
 obtain ⟨n1,hn⟩:=iE (g:=nl) (l:=A) (i:=0) (s:=n) (fun _ n l=>cond (eqI (l.length : Nat) 0) (ak .i64 n 1) n) (fun _ _ _ _=>rfl)
 have k1:=jj (B:=jd) (fun n i=>(N,E,A,n,A,((A.length : Nat) : Int),(i : Int),())) (fun n=>.inl (N,E,A,n,())) (fun e=>nomatch e) nl A (by
  intro n i l hd'
  have hi : i < A.length:=(List.getElem?_eq_some_iff.1 hd').1
  simp only [jd,nl]
  rw [aL (by omega),cond_true,ae,hd',Option.bind_some,bh (a:=i) (by omega)]
  cases eqI ((l.length : Nat) : Int) 0 <;> rfl) (by
  intro n
  simp only [jd]
  rw [aI (by omega)]; rfl) n
 have k2:=jj (B:=jk) (fun n i=>(((A.length : Nat) : Int),E,A,n,(i : Int),())) (fun n=>.inl (((A.length : Nat) : Int),E,A,n,())) (fun e=>nomatch e) nl A (by
  intro n i l hd'
  have hi : i < A.length:=(List.getElem?_eq_some_iff.1 hd').1
  simp only [jk,nl]
  rw [aL (by omega),cond_true,ae,hd',Option.bind_some,bh (a:=i) (by omega)]
  cases eqI ((l.length : Nat) : Int) 0 <;> rfl) (by
  intro n
  simp only [jk]
  rw [aI (by omega)]; rfl) n
 rw [hn] at k1 k2
 exact ⟨n1,k1,k2⟩
section
variable {N : Nat} {E : List Arc} {A : List (List Int)}
theorem Av (h : RotOK (N : Nat) E A) (hv : validB ((N : Int),E,A,())=true) (hl : ∀ l∈A,l.length≤9223372036854775807) : ∃ X : Int,(0 < N→kb N E→Zba (((N : Int),E,A,()),())=some (bq .i64 1 X,())) ∧
  ∃ c : Nat,Zac (((N : Int),E,A,()),())=some (bq .i64 (c : Int) X,())∧Zd (((N : Int),E,A,()),())=some ((c : Int),())∧(0 < N→(c=1↔kb N E)):=by
 obtain ⟨nx,m,_,f1,hi,r1,r2⟩:=lK h hv hl
 have hAl : A.length=N:=by have:=h.len; omega
 have h16 : N≤16384:=by have:=h.n1; omega
 obtain ⟨n1,g1,g2⟩:=Jk (N : Int) E A ((ac nx).length : Nat) (by omega)
 obtain ⟨c,c1,c2,c3⟩:=tX h
 rw [hAl] at g1 g2
 refine ⟨eO .i64 (ak .i64 (bq .i64 (N : Int) (E.length : Nat)) n1) 2,fun hN0 hc=>?_,c,?_,c1,c3⟩
 ·unfold Zba
  simp only
  rw [dT ((N : Int),E,A,()) hl,hv,Option.bind_some]
  simp only [Bool.not_true,cond_false]
  rw [r1,Option.bind_some]
  simp only
  rw [hAl,g1]
  simp only [Option.bind_some,Sum.elim_inl]
  rw [uk h hN0 hc]
  rfl
 ·unfold Zac
  simp only
  rw [gf ((N : Int),E,A,()) hl,hv,Option.bind_some]
  simp only [Bool.not_true,cond_false]
  rw [r2,Option.bind_some]
  simp only
  rw [g2]
  simp only [Option.bind_some,Sum.elim_inl]
  rw [c1]
  rfl
end
def fk (g : List Int) (B : List ByteArray) (o : Int) (f : List Int) : Bool:=eqI (tsZ g B f) (cond (inB f o) (-4) 4)
def cx (g : List Int) (B : List ByteArray) (o : Int) (fs : List (List Int)) : Bool:=fs.all (fk g B o)
theorem sD (g : List Int) (B : List ByteArray) (o : Int) : ∀ (fs : List (List Int)) (i : Nat),aA (fun (_ : Nat) (_ : Unit) f=>some (cond (fk g B o f) (Sum.inl ()) (Sum.inr ()))) i () fs=some (cond (cx g B o fs) (.inl ()) (.inr ()))
 | [],_=>rfl
 | f :: fs,i=>by
  simp only [aA,Option.bind_some,cx,List.all_cons]
  cases fk g B o f with
  | false=>rfl
  | true=>exact sD g B o fs (i+1)
def mR (L : Nat) (fs : List (List Int)) : Prop:=fs.length≤65536∧∀ f∈fs,f.length≤65536∧∀ x∈f,∃ k : Nat,x=(k : Int)∧k < L
theorem sK {g : List Int} {B : List ByteArray} {L : Nat} (h : TurnOK g B L) (r : Rot) (o : Int) (fs : List (List Int)) (hf : mR L fs) :
  qt (r.1,r.2.1,r.2.2.1,g,B,o,fs,(fs.length : Nat),0,())=some (cond (cx g B o fs) (.inr (.inl ())) (.inl (false,()))):=by
 have key:=jj (B:=kn) (fun (_ : Unit) i=>(r.1,r.2.1,r.2.2.1,g,B,o,fs,((fs.length : Nat) : Int),(i : Int),())) (fun _=>.inr (.inl ())) (fun (_ : Unit)=>.inl (false,()))
  (fun (_ : Nat) (_ : Unit) f=>some (cond (fk g B o f) (Sum.inl ()) (Sum.inr ()))) fs (by
   intro u i f hd'
   have hi : i < fs.length:=(List.getElem?_eq_some_iff.1 hd').1
   have hlen:=hf.1
   obtain ⟨f1,f2⟩:=hf.2 f (List.mem_of_getElem? hd')
   obtain ⟨t1,_,_⟩:=Hg h r o f f2 f1
   simp only [kn]
   rw [aL (by omega),cond_true,aF (by omega),Option.bind_some,hd',Option.bind_some,fB f o (by omega),Option.bind_some,t1,bh (by omega)]
   unfold fk
   simp only [Option.bind_some]
   cases inB f o with
   | true =>
    simp only [cond_true]
    by_cases e : tsZ g B f=-4
    ·rw [bo e,cr e]; rfl
    ·rw [dQ e,bH e]; rfl
   | false =>
    simp only [cond_false]
    by_cases e : tsZ g B f=4
    ·rw [bo e,cr e]; rfl
    ·rw [dQ e,bH e]; rfl) (by
   intro u
   simp only [kn]
   rw [aI (by omega)]; rfl) ()
 rw [sD] at key
 refine key.trans ?_
 cases cx g B o fs <;> rfl
theorem Ec {g : List Int} {B : List ByteArray} {L : Nat} (h : TurnOK g B L) (r : Rot) (o : Int) (fs : List (List Int)) (hf : mR L fs) :
  xU (r.1,r.2.1,r.2.2.1,g,B,o,fs,0,())=some (cond (cx g B o fs) (.inr (.inl ())) (.inl (13,()))):=by
 have key:=jj (B:=uE) (fun (_ : Unit) i=>(r.1,r.2.1,r.2.2.1,g,B,o,fs,(i : Int),())) (fun _=>.inr (.inl ())) (fun (_ : Unit)=>.inl (13,()))
  (fun (_ : Nat) (_ : Unit) f=>some (cond (fk g B o f) (Sum.inl ()) (Sum.inr ()))) fs (by
   intro u i f hd'
   have hi : i < fs.length:=(List.getElem?_eq_some_iff.1 hd').1
   have hlen:=hf.1
   obtain ⟨f1,f2⟩:=hf.2 f (List.mem_of_getElem? hd')
   have t1:=C8 h r o f f2 f1
   simp only [uE]
   rw [aL (by omega),cond_true,aF (by omega),Option.bind_some,hd',Option.bind_some,MH f o (by omega),Option.bind_some,bh (by omega)]
   unfold fk
   simp only [Option.bind_some,hd',t1]
   cases inB f o with
   | true =>
    simp only [cond_true]
    by_cases e : tsZ g B f=-4
    ·rw [bo e,cr e]; rfl
    ·rw [dQ e,bH e]; rfl
   | false =>
    simp only [cond_false]
    by_cases e : tsZ g B f=4
    ·rw [bo e,cr e]; rfl
    ·rw [dQ e,bH e]; rfl) (by
   intro u
   simp only [uE]
   rw [aI (by omega)]; rfl) ()
 rw [sD] at key
 refine key.trans ?_
 cases cx g B o fs <;> rfl
structure ShapeOK (N : Nat) (E : List Arc) (A : List (List Int)) (g : List Int) (B : List ByteArray) (o : Int) (nx : List Int) : Prop where
 rot : RotOK (N : Nat) E A
 valid : validB ((N : Int),E,A,())=true
 pos : 0 < N
 conn : kb N E
 turn : TurnOK g B (2 * E.length)
 bend : cH (gL B) 0 (2 * E.length)=true
 ang : lP g A=some (.inl ())
 out0 : 0≤o
 out1 : o < 2 * E.length∨o=0
 fol : Zaq (((N : Int),E,A,()),())=some (nx,())
 folOK : Fol oth E A nx
 inv : ∃ m,FacesInv nx.length nx.length (m,ac nx)
 faces : Zbd (((N : Int),E,A,()),())=some (ac nx,())
 rfaces : Zaa (((N : Int),E,A,()),())=some (ac nx,())
 chk : cx g B o (ac nx)=true
theorem xF {L : Nat} {f : List Int} (hn : f.Nodup) (hf : ∀ x∈f,∃ k : Nat,x=(k : Int)∧k < L) : f.length≤L:=by
 have:=fv L (f.map Int.toNat) (by
  rw [List.Nodup,List.pairwise_map]
  refine hn.imp_of_mem ?_
  intro a b ha hb hab e
  obtain ⟨j,rfl,_⟩:=hf a ha
  obtain ⟨j',rfl,_⟩:=hf b hb
  simp at e
  exact hab (by rw [e])) (by
  intro x hx
  obtain ⟨y,hy,rfl⟩:=List.mem_map.1 hx
  obtain ⟨j,rfl,hj⟩:=hf y hy
  simpa using hj)
 simpa using this
theorem BT {L : Nat} (hL : L≤65536) {m : List Bool} {fs : List (List Int)} (h : FacesInv L L (m,fs)) : mR L fs:=by
 refine ⟨?_,fun f hf=>?_⟩
 ·have:=h.num; simp only at this; omega
 ·obtain ⟨_,h2⟩:=h.elem f hf
  refine ⟨?_,h2⟩
  have hn : f.Nodup:=(List.sublist_flatten_of_mem hf).nodup h.nodup
  have:=xF hn h2
  omega
theorem DS {N : Nat} {E : List Arc} {A : List (List Int)} {X : Int} {c : Nat} (h1 : Zac (((N : Int),E,A,()),())=some (bq .i64 (c : Int) X,())) (h2 : Zd (((N : Int),E,A,()),())=some ((c : Int),())) :
  Zn (((N : Int),E,A,()),())=some (eqI (bq .i64 (c : Int) X) 0 && eqI (c : Int) 1,()):=by
 unfold Zn
 simp only
 rw [h1,Option.bind_some,h2]
 simp only [Option.bind_some]
 cases eqI (bq .i64 (c : Int) X) 0 <;> rfl
theorem Iz (N0 : Int) (E : List Arc) (A : List (List Int)) (g : List Int) (B : List ByteArray) (o : Int) (hA : ∀ l∈A,l.length≤9223372036854775807) :
  ∃ b,Zbt (((N0,E,A,()),g,B,o,()),())=some (b,())∧Zs (((N0,E,A,()),g,B,o,()),())=some (cond b 0 13,())∧(b=true→∃ N : Nat,N0=(N : Int)∧∃ nx,ShapeOK N E A g B o nx):=by
 cases hv : validB (N0,E,A,()) with
 | false =>
  refine ⟨false,?_,?_,fun h=>by cases h⟩
  ·unfold Zbt
   simp only
   rw [dT (N0,E,A,()) hA,hv]; rfl
  ·unfold Zs
   simp only
   rw [gf (N0,E,A,()) hA,hv]; rfl
 | true =>
  have h0:=HC hv
  obtain ⟨N,rfl⟩ : ∃ N : Nat,N0=N:=⟨N0.toNat,by have:=h0.n0; omega⟩
  have h : RotOK (N : Nat) E A:=h0
  have hm1:=h.m1
  have h16 : N≤16384:=by have:=h.n1; omega
  have hAl : A.length=N:=by have:=h.len; omega
  obtain ⟨bc,c1,c2⟩:=mS h hv hA
  obtain ⟨X,x1,c,x2,x3,x4⟩:=Av h hv hA
  have hpl:=DS x2 x3
  have pv : Zbt ((((N : Int),E,A,()),g,B,o,()),())=cond (!bc) (some (false,())) ((Zba (((N : Int),E,A,()),())).bind fun r3=>cond (neI r3.1 0) (some (false,())) (cond (neI (g.length : Nat) (aX .i64 2 (E.length : Nat))) (some (false,())) (cond (neI (B.length : Nat) (aX .i64 2 (E.length : Nat))) (some (false,())) (cond (ltI o 0) (some (false,())) (cond (geI o (jv (aX .i64 2 (E.length : Nat)) 1)) (some (false,())) ((Zbm ((((N : Int),E,A,()),g,B,o,()),())).bind fun r4=>cond (!r4.1) (some (false,())) ((pb ((N : Int),E,A,g,B,o,(N : Int),E,A,(aX .i64 2 (E.length : Nat)),0,())).bind (Sum.elim (fun z6=>some (z6.1,())) (Sum.elim (fun z7=>(Zbd ((z7.2.2.2.2.2.2.1,(z7.2.2.2.2.2.2.2.1,(z7.2.2.2.2.2.2.2.2.1,()))),())).bind fun r8=>(qt (z7.1,(z7.2.1,(z7.2.2.1,(z7.2.2.2.1,(z7.2.2.2.2.1,(z7.2.2.2.2.2.1,(r8.1,((r8.1.length : Nat),(0,())))))))))).bind (Sum.elim (fun z10=>some (z10.1,())) (Sum.elim (fun z11=>some (true,())) (fun _=>none)))) (fun _=>none)))))))))):=by
   unfold Zbt
   simp only
   rw [dT ((N : Int),E,A,()) hA,hv,Option.bind_some]
   simp only [Bool.not_true,cond_false]
   rw [c1,Option.bind_some]
  have e2 : aX .i64 2 (E.length : Nat)=((2 * E.length : Nat) : Int):=by rw [fN (by omega) (by omega)]; omega
  cases hbc : bc with
  | false =>
   rw [hbc] at pv c2
   have hnc : ¬ (0 < N∧kb N E):=fun hh=>by have:=c2.2 hh; cases this
   refine ⟨false,pv,?_,fun h=>by cases h⟩
   unfold Zs
   simp only
   rw [gf ((N : Int),E,A,()) hA,hv,Option.bind_some]
   simp only [Bool.not_true,cond_false]
   by_cases hN : 0 < N
   ·have hc1 : c≠1:=fun e=>hnc ⟨hN,(x4 hN).1 e⟩
    rw [aI (by omega),cond_false,hpl,Option.bind_some,bH (a:=(c : Int)) (by omega)]
    simp
   ·rw [aL (by omega)]; rfl
  | true =>
   rw [hbc] at pv c2
   obtain ⟨hN,hconn⟩:=c2.1 rfl
   have hc1 : c=1:=(x4 hN).2 hconn
   subst hc1
   have rv : Zs ((((N : Int),E,A,()),g,B,o,()),())=cond (!(eqI (bq .i64 1 X) 0)) (some (13,())) (cond (neI (g.length : Nat) (aX .i64 2 (E.length : Nat))) (some (13,())) (cond (neI (B.length : Nat) (aX .i64 2 (E.length : Nat))) (some (13,())) ((Zaf ((((N : Int),E,A,()),g,B,o,()),())).bind fun r3=>cond (!r3.1) (some (13,())) ((Zab ((((N : Int),E,A,()),g,B,o,()),())).bind fun r4=>cond (!r4.1) (some (13,())) (cond (ltI o 0) (some (13,())) (cond (gtI o 0) (cond (geI o (aX .i64 2 (E.length : Nat))) (some (13,())) ((Zaa (((N : Int),E,A,()),())).bind fun r5=>(xU ((N : Int),E,A,g,B,o,r5.1,0,())).bind (Sum.elim (fun z7=>some (z7.1,())) (Sum.elim (fun z8=>some (0,())) (fun _=>none))))) ((Zaa (((N : Int),E,A,()),())).bind fun r9=>(xU ((N : Int),E,A,g,B,o,r9.1,0,())).bind (Sum.elim (fun z11=>some (z11.1,())) (Sum.elim (fun z12=>some (0,())) (fun _=>none)))))))))):=by
    unfold Zs
    simp only
    rw [gf ((N : Int),E,A,()) hA,hv,Option.bind_some]
    simp only [Bool.not_true,cond_false]
    rw [aI (by omega),cond_false,hpl,Option.bind_some]
    have : eqI ((1 : Nat) : Int) 1=true:=rfl
    rw [this,Bool.and_true]
    rfl
   rw [x1 hN hconn] at pv
   simp only [Bool.not_true,cond_false,Option.bind_some] at pv
   by_cases hg0 : bq .i64 1 X=0
   ·rw [bo hg0,cond_false,e2] at pv
    rw [cr hg0,e2] at rv
    simp only [Bool.not_true,cond_false] at rv
    by_cases hgl : g.length=2 * E.length
    ·rw [bo (by omega),cond_false] at pv rv
     by_cases hBl : B.length=2 * E.length
     ·rw [bo (by omega),cond_false] at pv rv
      obtain ⟨ba,a1,a2⟩:=ym h g hgl
      have hang:=ub (N : Int) E A g B o (by omega) hA
      have hsum:=Kb E A g B o (by omega) hA
      rw [hAl] at hsum
      rw [a1] at hang hsum
      have hbp:=qV (N : Int) E A g B o E.length hBl hm1 E.length 0 (by omega)
      have hbr:=Dh (N : Int) E A g B o E.length hBl hm1
      rw [sH] at hbp
      have hbp' : pb ((N : Int),E,A,g,B,o,(N : Int),E,A,((2 * E.length : Nat) : Int),0,())=_:=hbp
      have hmax : jv ((2 * E.length : Nat) : Int) 1=if 2 * E.length=0 then 1 else ((2 * E.length : Nat) : Int):=by
       unfold jv; split <;> split <;> omega
      cases hba : ba with
      | false =>
       rw [hba] at hang hsum
       refine ⟨false,?_,?_,fun h=>by cases h⟩
       ·rw [pv,hang]
        cases ltI o 0 with
        | true=>rfl
        | false=>cases geI o (jv ((2 * E.length : Nat) : Int) 1) <;> rfl
       ·rw [rv,hsum]; rfl
      | true =>
       rw [hba] at hang hsum a1
       cases hbb : cH (gL B) 0 (2 * E.length) with
       | false =>
        rw [hbb] at hbp' hbr
        refine ⟨false,?_,?_,fun h=>by cases h⟩
        ·rw [pv,hang,hbp']
         cases ltI o 0 with
         | true=>rfl
         | false=>cases geI o (jv ((2 * E.length : Nat) : Int) 1) <;> rfl
        ·rw [rv,hsum,hbr]; rfl
       | true =>
        rw [hbb] at hbp' hbr
        by_cases ho0 : o < 0
        ·refine ⟨false,?_,?_,fun h=>by cases h⟩
         ·rw [pv,aL ho0]; rfl
         ·rw [rv,hsum,hbr,aL ho0]; rfl
        ·by_cases ho1 : o < 2 * E.length∨o=0
         ·have hT : TurnOK g B (2 * E.length):=⟨by omega,hgl,hBl,fun k hk=>aU hk,a2 hba,fun k hk=>by
           have:=ey.1 hbb k (by omega) (by omega)
           unfold gL at this
           simp only [Bool.and_eq_true] at this
           exact this.1⟩
          obtain ⟨nx,m,f0,f1,hi,r1,r2⟩:=lK h hv hA
          have hFI : mR (2 * E.length) (ac nx):=by rw [← f1.len]; exact BT (by rw [f1.len]; omega) hi
          have hp:=sK hT ((N : Int),E,A,()) o (ac nx) hFI
          have hr:=Ec hT ((N : Int),E,A,()) o (ac nx) hFI
          simp only at hp hr
          refine ⟨cx g B o (ac nx),?_,?_,fun hb=>⟨N,rfl,nx,h,hv,hN,hconn,hT,hbb,a1,by omega,ho1,f0,f1,⟨m,hi⟩,r1,r2,hb⟩⟩
          ·rw [pv,aI (by omega),cond_false,hmax,fQ (by split <;> omega),cond_false,hang,hbp']
           simp only [cond_true,Option.bind_some,Sum.elim_inl,Sum.elim_inr,Bool.not_true,cond_false]
           rw [r1,Option.bind_some]
           simp only
           rw [hp]
           cases cx g B o (ac nx) <;> rfl
          ·rw [rv,hsum,hbr]
           simp only [cond_true,Option.bind_some,Sum.elim_inl,Bool.not_true,cond_false]
           rw [aI (by omega),cond_false,r2]
           simp only [Option.bind_some]
           rw [hr]
           by_cases hop : o > 0
           ·rw [eA hop,cond_true,fQ (by omega),cond_false]
            cases cx g B o (ac nx) <;> rfl
           ·rw [dC (by omega),cond_false]
            cases cx g B o (ac nx) <;> rfl
         ·refine ⟨false,?_,?_,fun h=>by cases h⟩
          ·rw [pv,aI (by omega),cond_false,hmax,tS (by split <;> omega)]; rfl
          ·rw [rv,hsum,hbr]
           simp only [cond_true,Option.bind_some,Sum.elim_inl,Bool.not_true,cond_false]
           rw [aI (by omega),cond_false,eA (by omega),cond_true,tS (by omega)]; rfl
     ·rw [dQ (by omega)] at pv rv
      exact ⟨false,pv,rv,fun h=>by cases h⟩
    ·rw [dQ (by omega)] at pv rv
     exact ⟨false,pv,rv,fun h=>by cases h⟩
   ·rw [dQ hg0] at pv
    rw [bH hg0] at rv
    exact ⟨false,pv,rv,fun h=>by cases h⟩
end Go.Vm


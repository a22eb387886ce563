/-
 Bends, angles, turns; valid shapes.
-/
import Derived.Test.YtnnbdielbgljaaaDoorD41
import Derived.Test.YtnnbdielbgljaaaDoorVmD
import Derived.KernelRfl
import Derived.Test.YtnnbdielbgljaaaDoorKA
set_option linter.unusedVariables false
set_option linter.unusedSimpArgs false
namespace Go.Vm
open Go.Proofs
set_option maxRecDepth 100000
def sw (c : Int) : Int:=if c=76 then 82 else if c=82 then 76 else c
theorem GX (c : Int) : sw (sw c)=c:=by unfold sw; split <;> (try split) <;> (try split) <;> omega
theorem Ds {c : Int} (h : 0≤c∧c < 256) : 0≤sw c∧sw c < 256:=by unfold sw; split <;> (try split) <;> omega
theorem wX (c : Int) : ∃ b,Zbh (c,())=some (sw c,(b,())):=by
 unfold Zbh sw
 by_cases h1 : c=76
 ·exact ⟨true,by simp [eqI,h1]⟩
 ·by_cases h2 : c=82
  ·exact ⟨true,by simp [eqI,h2]⟩
  ·exact ⟨false,by dsimp only; rw [cn h1,cn h2,if_neg h1,if_neg h2]; rfl⟩
theorem wC (c : Int) : Zg (c,())=some (sw c,()):=by
 unfold Zg sw
 by_cases h1 : c=76
 ·simp [eqI,h1]
 ·by_cases h2 : c=82
  ·simp [eqI,h2]
  ·dsimp only; rw [cn h1,cn h2,if_neg h1,if_neg h2]; rfl
theorem ss : ∀ (q p : List Int),(p++q).length≤68719476736→tq (p++q,(((p++q).length : Nat),((p.length : Nat),())))=some (.inl (p++q.map sw,()))
 | [],p,h=>by
  refine ai ?_
  simp only [nD]
  rw [aA (by simp)]
  simp
 | c :: q,p,h=>by
  have h' : p.length+q.length+1≤68719476736:=by simp at h; omega
  have hs : nD (p++c :: q,(((p++c :: q).length : Nat),((p.length : Nat),())))=some (.inl ((p++[sw c])++q,((((p++[sw c])++q).length : Nat),(((p++[sw c]).length : Nat),())))):=by
   simp only [nD]
   obtain ⟨b,hb⟩:=wX c
   rw [aG (by simp; omega),cond_true,aD (by simp),Option.bind_some]
   have g : (p++c :: q)[p.length]?=some c:=by simp
   rw [g,Option.bind_some,hb,Option.bind_some,Option.bind_some]
   simp only [g,Option.bind_some]
   rw [aU (by omega)]
   simp
  show aa _ _=_
  rw [ap hs]
  have:=ss q (p++[sw c]) (by simp; omega)
  rw [show aa nD=tq from rfl,this]
  simp
theorem xK (s : ByteArray) (h : s.size≤68719476736) : Zbk (s,())=some (cP ((ac s).reverse.map sw),()):=by
 have hl:=az s
 have e1 : Zl (ac s,())=some ((ac s).reverse,()):=by
  unfold Zl
  have:=E9 (ac s) (by omega)
  rw [show Bx ((ac s,()).1,(0,((bf .i64 ((ac s,()).1.length : Nat) 1),())))=some (.inl ((ac s).reverse,())) from this]
  rfl
 unfold Zbk
 simp only [e1,Option.bind_some]
 have:=ss (ac s).reverse [] (by simp; omega)
 simp only [List.nil_append,List.length_nil] at this
 rw [show ((0 : Nat) : Int)=0 from rfl] at this
 rw [this]
 rfl
theorem n6 (s : ByteArray) (hs : s.size≤68719476736) : ∀ (k : Nat) (acc : List Int),k≤s.size→acc.length+k≤s.size →
  yR (acc,(s,((k : Int) - 1,())))=some (.inl (acc++((ac s).take k).reverse.map sw,()))
 | 0,acc,_,_=>by
  refine ai ?_
  simp only [rT]
  rw [jG (by omega)]
  simp
 | k+1,acc,hk,ha=>by
  have hl:=az s
  obtain ⟨c,hc⟩ : ∃ c,s.data.toList[k]?=some c:=⟨_,List.getElem?_eq_getElem (by rw [Array.length_toList]; exact hk)⟩
  have hb:=lZ s k
  rw [hc] at hb
  have hst : rT (acc,(s,(((k+1 : Nat) : Int) - 1,())))=some (.inl (acc++[sw c.toNat],(s,((k : Int) - 1,())))):=by
   simp only [rT]
   rw [show (((k+1 : Nat) : Int) - 1)=(k : Int) by omega,rW (by omega),cond_true,ae,hc,Option.bind_some,wC,Option.bind_some,bg (by simp; omega),Option.bind_some,kK (by omega)]
  show aa _ _=_
  rw [ap hst]
  have:=n6 s hs k (acc++[sw c.toNat]) (by omega) (by simp; omega)
  rw [show aa rT=yR from rfl,this]
  have ht : (ac s).take (k+1)=(ac s).take k++[(c.toNat : Int)]:=by
   rw [List.take_add_one,← hb]; rfl
  rw [ht]
  simp
theorem rD (s : ByteArray) (h : s.size≤68719476736) : Zh (s,())=some (cP ((ac s).reverse.map sw),()):=by
 unfold Zh
 dsimp only
 have:=n6 s h s.size [] (Nat.le_refl _) (by simp)
 rw [kK (by omega),this]
 have hl:=az s
 simp only [List.nil_append,Option.bind_some,Sum.elim_inl]
 rw [List.take_of_length_le (by omega)]
end Go.Vm

namespace Go.Vm
open Go.Proofs
set_option maxRecDepth 100000
attribute [local irreducible] aa
def inB (f : List Int) (x : Int) : Bool:=decide (x∈f)
theorem yE (f : List Int) (x : Int) (hf : f.length < 9223372036854775807) : Zat (f,x,())=some (inB f x,()):=by
 have key : ∀ (q p : List Int),p++q=f→uv (f,x,((p.length : Nat) : Int),())=some (cond (inB q x) (.inl (true,())) (.inr (.inl ()))):=by
  intro q
  induction q with
  | nil =>
   intro p hp
   refine ai ?_
   simp only [nE]
   rw [aA (by rw [← hp]; simp)]
   simp [inB]
  | cons a q ih =>
   intro p hp
   have hpl : p.length < f.length:=by rw [← hp]; simp
   have ha : f[p.length]?=some a:=by rw [← hp]; simp
   by_cases e : a=x
   ·refine ai ?_
    simp only [nE]
    rw [aG (by omega),cond_true,ae,ha,Option.bind_some,dk e]
    simp [inB,e]
   ·have hs : nE (f,x,((p.length : Nat) : Int),())=some (.inl (f,x,(((p++[a]).length : Nat) : Int),())):=by
     simp only [nE]
     rw [aG (by omega),cond_true,ae,ha,Option.bind_some,cn e,cond_false,aU (by omega)]
     simp
    refine (ap hs).trans ?_
    refine (ih (p++[a]) (by simp [hp])).trans ?_
    have : inB (a :: q) x=inB q x:=by
     unfold inB
     have : (x∈a :: q)↔x∈q:=by simp [Ne.symm e]
     exact decide_eq_decide.2 this
    rw [this]
 unfold Zat
 simp only
 rw [show uv (f,x,0,())=_ from key f [] rfl]
 cases inB f x <;> rfl
theorem wA (f : List Int) (x : Int) (hf : f.length < 9223372036854775807) : Zk (f,x,())=some (inB f x,()):=by
 have key : ∀ (q p : List Int),p++q=f→∃ n : Int,sZ (f,x,((f.length : Nat) : Int),((p.length : Nat) : Int),())=some (cond (inB q x) (.inl (n,())) (.inr (.inl ())))∧0≤n:=by
  intro q
  induction q with
  | nil =>
   intro p hp
   refine ⟨0,?_,by omega⟩
   refine ai ?_
   simp only [nj]
   rw [aA (by rw [← hp]; simp)]
   simp [inB]
  | cons a q ih =>
   intro p hp
   have hpl : p.length < f.length:=by rw [← hp]; simp
   have ha : f[p.length]?=some a:=by rw [← hp]; simp
   by_cases e : a=x
   ·refine ⟨p.length,?_,by omega⟩
    refine ai ?_
    simp only [nj]
    rw [aG (by omega),cond_true,ae,ha,Option.bind_some,dk e.symm]
    simp [inB,e]
   ·have hs : nj (f,x,((f.length : Nat) : Int),((p.length : Nat) : Int),())=some (.inl (f,x,((f.length : Nat) : Int),(((p++[a]).length : Nat) : Int),())):=by
     simp only [nj]
     rw [aG (by omega),cond_true,ae,ha,Option.bind_some,cn (Ne.symm e),cond_false,aU (by omega)]
     simp
    obtain ⟨n,h1,h2⟩:=ih (p++[a]) (by simp [hp])
    refine ⟨n,?_,h2⟩
    refine (ap hs).trans (h1.trans ?_)
    have : inB (a :: q) x=inB q x:=by
     unfold inB
     have : (x∈a :: q)↔x∈q:=by simp [Ne.symm e]
     exact decide_eq_decide.2 this
    rw [this]
 obtain ⟨n,h1,h2⟩:=key f [] rfl
 have h1' : sZ (f,x,((f.length : Nat) : Int),0,())=some (cond (inB f x) (.inl (n,())) (.inr (.inl ()))):=h1
 unfold Zk Zam
 simp only
 rw [h1']
 cases inB f x with
 | true=>simp only [cond_true,Option.bind_some,Sum.elim_inl]; rw [rW h2]
 | false=>simp only [cond_false,Option.bind_some,Sum.elim_inr,Sum.elim_inl]; rw [jG (by omega)]
abbrev Shp:=Rot×(List Int×(List ByteArray×(Int×Unit)))
def cH (g : List Int) (_ : Nat) (n : Int) (d : Int) : Option (Int⊕Unit):=(ar g d).bind fun a=>some (cond (ltI a 1 || gtI a 4) (.inr ()) (.inl (ah .i64 n a)))
def dj (g : List Int) (_ : Nat) (_ : Unit) (l : List Int) : Option (Unit⊕Unit):=(ay (cH g) 0 0 l).bind (Sum.elim (fun n=>some (cond (gtI (l.length : Nat) 0 && neI n 4) (.inr ()) (.inl ()))) (fun _=>some (.inr ())))
def ly (g : List Int) (A : List (List Int)) : Option (Unit⊕Unit):=ay (dj g) 0 () A
theorem AA (N : Int) (E : List Arc) (A : List (List Int)) (g : List Int) (B : List ByteArray) (o : Int) (A' : List (List Int)) (c v : Int) (l : List Int) (hl : l.length≤9223372036854775807) :
  xS (N,E,A,g,B,o,l,0,A',c,v,l,(l.length : Nat),0,())=(ay (cH g) 0 0 l).bind (Sum.elim (fun n=>some (.inr (.inl (N,E,A,g,B,o,l,n,A',c,v,())))) (fun _=>some (.inl (false,())))):=by
 refine jm (B:=rg) (fun n i=>(N,E,A,g,B,o,l,n,A',c,v,l,((l.length : Nat) : Int),(i : Int),())) (fun n=>.inr (.inl (N,E,A,g,B,o,l,n,A',c,v,()))) (fun _=>.inl (false,())) (cH g) l ?_ ?_ 0
 ·intro n i d hd'
  have hi : i < l.length:=(List.getElem?_eq_some_iff.1 hd').1
  simp only [rg,cH]
  rw [aG (by omega),cond_true,ae,hd',Option.bind_some,aU (by omega)]
  cases ar g d with
  | none=>rfl
  | some a =>
   simp only [Option.bind_some]
   cases ltI a 1 <;> cases gtI a 4 <;> rfl
 ·intro n
  simp only [rg]
  rw [aA (by omega)]; rfl
theorem rQ (N : Int) (E : List Arc) (A : List (List Int)) (g : List Int) (B : List ByteArray) (o : Int) (hA : A.length < 9223372036854775807) (hl : ∀ l∈A,l.length≤9223372036854775807) :
  Zbp (((N,E,A,()),g,B,o,()),())=(ly g A).bind (Sum.elim (fun _=>some (true,())) (fun _=>some (false,()))):=by
 have key:=jm (B:=rp) (fun (_ : Unit) i=>(N,E,A,g,B,o,A,((A.length : Nat) : Int),(i : Int),())) (fun _=>.inr (.inl ())) (fun (_ : Unit)=>.inl (false,())) (dj g) A (by
  intro u i l hd'
  have hi : i < A.length:=(List.getElem?_eq_some_iff.1 hd').1
  simp only [rp,dj]
  rw [aG (by omega),cond_true,ae,hd',Option.bind_some,AA N E A g B o A _ _ l (hl l (List.mem_of_getElem? hd'))]
  cases ay (cH g) 0 0 l with
  | none=>rfl
  | some x =>
   cases x with
   | inl n =>
    simp only [Option.bind_some,Sum.elim_inl,Sum.elim_inr]
    rw [aU (by omega)]
    cases gtI ((l.length : Nat) : Int) 0 <;> cases neI n 4 <;> rfl
   | inr e=>rfl) (by
  intro u
  simp only [rp]
  rw [aA (by omega)]; rfl) ()
 unfold Zbp
 simp only
 rw [show wW (N,E,A,g,B,o,A,((A.length : Nat) : Int),0,())=_ from key]
 unfold ly
 cases ay (dj g) 0 () A with
 | none=>rfl
 | some x=>cases x <;> rfl
theorem xP (N : Int) (E : List Arc) (A : List (List Int)) (g : List Int) (B : List ByteArray) (o : Int) (v : Nat) (l : List Int) (hv : A[v]?=some l) (hl : l.length≤9223372036854775807) :
  yf (N,E,A,g,B,o,(v : Int),0,0,())=(ay (cH g) 0 0 l).bind (Sum.elim (fun n=>some (.inr (.inl (N,E,A,g,B,o,(v : Int),n,())))) (fun _=>some (.inl (false,())))):=by
 refine jm (B:=re) (fun n i=>(N,E,A,g,B,o,(v : Int),n,(i : Int),())) (fun n=>.inr (.inl (N,E,A,g,B,o,(v : Int),n,()))) (fun _=>.inl (false,())) (cH g) l ?_ ?_ 0
 ·intro n i d hd'
  have hi : i < l.length:=(List.getElem?_eq_some_iff.1 hd').1
  simp only [re,cH]
  rw [ae,hv,Option.bind_some,aG (by omega),cond_true,Option.bind_some,ae,hd',Option.bind_some,aU (by omega)]
  cases ar g d with
  | none=>rfl
  | some a =>
   simp only [Option.bind_some]
   cases ltI a 1 <;> cases gtI a 4 <;> rfl
 ·intro n
  simp only [re]
  rw [ae,hv,Option.bind_some,aA (by omega)]; rfl
theorem EH (E : List Arc) (A : List (List Int)) (g : List Int) (B : List ByteArray) (o : Int) (hA : A.length < 9223372036854775807) (hl : ∀ l∈A,l.length≤9223372036854775807) :
  Zag (((((A.length : Nat) : Int),E,A,()),g,B,o,()),())=(ly g A).bind (Sum.elim (fun _=>some (true,())) (fun _=>some (false,()))):=by
 have key:=jm (B:=pp) (fun (_ : Unit) i=>(((A.length : Nat) : Int),E,A,g,B,o,(i : Int),())) (fun _=>.inr (.inl ())) (fun (_ : Unit)=>.inl (false,())) (dj g) A (by
  intro u i l hd'
  have hi : i < A.length:=(List.getElem?_eq_some_iff.1 hd').1
  simp only [pp,dj]
  rw [aG (by omega),cond_true,xP _ E A g B o i l hd' (hl l (List.mem_of_getElem? hd'))]
  cases ay (cH g) 0 0 l with
  | none=>rfl
  | some x =>
   cases x with
   | inl n =>
    simp only [Option.bind_some,Sum.elim_inl,Sum.elim_inr]
    rw [aU (by omega),ae,hd']
    simp only [Option.bind_some]
    cases gtI ((l.length : Nat) : Int) 0 <;> cases neI n 4 <;> rfl
   | inr e=>rfl) (by
  intro u
  simp only [pp]
  rw [aA (by omega)]; rfl) ()
 unfold Zag
 simp only
 rw [show xB (((A.length : Nat) : Int),E,A,g,B,o,0,())=_ from key]
 unfold ly
 cases ay (dj g) 0 () A with
 | none=>rfl
 | some x=>cases x <;> rfl
theorem vj {N : Int} {E : List Arc} {A : List (List Int)} (h : RotOK N E A) (g : List Int) (hg : g.length=2 * E.length) : ∃ b : Bool,ly g A=some (cond b (.inl ()) (.inr ()))∧(b=true→∀ k : Nat,k < 2 * E.length→∃ a,g[k]?=some a∧1≤a∧a≤4):=by
 have one : ∀ (l : List Int),(∀ d∈l,∃ k : Nat,d=(k : Int)∧k < 2 * E.length)→∀ (i : Nat) (n : Int),∃ x,ay (cH g) i n l=some x∧(∀ m,x=.inl m→∀ k : Nat,(k : Int)∈l→∃ a,g[k]?=some a∧1≤a∧a≤4):=by
  intro l
  induction l with
  | nil=>intro _ i n; exact ⟨_,rfl,fun _ _ k hk=>by simp at hk⟩
  | cons d l ih =>
   intro hl i n
   obtain ⟨k,rfl,hk⟩:=hl d (by simp)
   obtain ⟨a,ha⟩ : ∃ a,g[k]?=some a:=⟨_,List.getElem?_eq_getElem (by omega)⟩
   simp only [ay,cH]
   rw [ae,ha,Option.bind_some]
   by_cases hc : 1≤a∧a≤4
   ·rw [aA hc.1,cM hc.2]
    simp only [Bool.or_false,cond_false,Option.bind_some,Sum.elim_inl]
    obtain ⟨x,h1,h2⟩:=ih (fun d hd'=>hl d (by simp [hd'])) (i+1) (ah .i64 n a)
    refine ⟨x,h1,fun m hm j hj=>?_⟩
    rcases List.mem_cons.1 hj with hj | hj
    ·have : j=k:=by omega
     subst this
     exact ⟨a,ha,hc⟩
    ·exact h2 m hm j hj
   ·have : (ltI a 1 || gtI a 4)=true:=by
     simp only [ltI,gtI,Bool.or_eq_true,decide_eq_true_eq]; omega
    rw [this]
    exact ⟨_,rfl,fun m hm=>by cases hm⟩
 have all : ∀ (A' : List (List Int)),(∀ l∈A',l∈A)→∀ i,∃ b : Bool,ay (dj g) i () A'=some (cond b (.inl ()) (.inr ()))∧(b=true→∀ k : Nat,(k : Int)∈A'.flatten→∃ a,g[k]?=some a∧1≤a∧a≤4):=by
  intro A'
  induction A' with
  | nil=>intro _ i; exact ⟨true,rfl,fun _ k hk=>by simp at hk⟩
  | cons l A' ih =>
   intro hA i
   obtain ⟨x,h1,h2⟩:=one l (fun d hd'=>h.mem_of (hA l (by simp)) hd') 0 0
   simp only [ay,dj,h1,Option.bind_some]
   cases x with
   | inr e=>exact ⟨false,rfl,fun h=>by cases h⟩
   | inl n =>
    simp only [Sum.elim_inl,Option.bind_some]
    cases hc : gtI ((l.length : Nat) : Int) 0 && neI n 4 with
    | true=>exact ⟨false,rfl,fun h=>by cases h⟩
    | false =>
     obtain ⟨b,q1,q2⟩:=ih (fun l hl=>hA l (by simp [hl])) (i+1)
     refine ⟨b,q1,fun hb k hk=>?_⟩
     rw [List.flatten_cons,List.mem_append] at hk
     rcases hk with hk | hk
     ·exact h2 n rfl k hk
     ·exact q2 hb k hk
 obtain ⟨b,q1,q2⟩:=all A (fun l hl=>hl) 0
 exact ⟨b,q1,fun hb k hk=>q2 hb k (h.mem hk)⟩
end Go.Vm

namespace Go.Vm
open Go.Proofs
set_option maxRecDepth 100000
attribute [local irreducible] aa
def cy (f : Nat→Bool) : Nat→Nat→Bool
 | _,0=>true
 | j,r+1=>f j && cy f (j+1) r
theorem dz {f : Nat→Bool} : ∀ {r j : Nat},cy f j r=true↔∀ i,j≤i→i < j+r→f i=true
 | 0,j=>by simp [cy]; intro i h1 h2; omega
 | r+1,j=>by
  simp only [cy,Bool.and_eq_true,dz]
  constructor
  ·rintro ⟨h1,h2⟩ i hi hi2
   rcases Nat.eq_or_lt_of_le hi with rfl | hlt
   ·exact h1
   ·exact h2 i hlt (by omega)
  ·intro h
   exact ⟨h j (Nat.le_refl _) (by omega),fun i h1 h2=>h i (by omega) (by omega)⟩
def lr (c : Int) : Bool:=c == 76 || c == 82
def rev (s : ByteArray) : ByteArray:=cP ((ac s).reverse.map sw)
theorem qK (c : Int) : Zbh (c,())=some (sw c,(lr c,())):=by
 unfold Zbh sw lr
 simp only
 by_cases h1 : c=76
 ·subst h1; rfl
 ·rw [cn h1,cond_false,if_neg h1]
  by_cases h2 : c=82
  ·subst h2; rfl
  ·rw [cn h2,cond_false,if_neg h2]
   have e1 : (c == 76)=false:=by simpa using h1
   have e2 : (c == 82)=false:=by simpa using h2
   rw [e1,e2]; rfl
def fM (s : ByteArray) : Bool:=decide (s.size≤64) && (ac s).all lr
theorem AV (l : List Int) (hl : l.length < 9223372036854775807) : ∀ (q p : List Int),p++q=l→tW (l,((l.length : Nat) : Int),((p.length : Nat) : Int),())=some (cond (q.all lr) (.inr (.inl ())) (.inl (false,()))):=by
 intro q
 induction q with
 | nil =>
  intro p hp
  refine ai ?_
  simp only [nq]
  rw [aA (by rw [← hp]; simp)]; rfl
 | cons c q ih =>
  intro p hp
  have hpl : p.length < l.length:=by rw [← hp]; simp
  have hc : l[p.length]?=some c:=by rw [← hp]; simp
  cases e : lr c with
  | false =>
   refine ai ?_
   simp only [nq]
   rw [aG (by omega),cond_true,aD hpl,Option.bind_some,hc,Option.bind_some,qK,Option.bind_some,e]
   simp [e]
  | true =>
   have hs : nq (l,((l.length : Nat) : Int),((p.length : Nat) : Int),())=some (.inl (l,((l.length : Nat) : Int),(((p++[c]).length : Nat) : Int),())):=by
    simp only [nq]
    rw [aG (by omega),cond_true,aD hpl,Option.bind_some,hc,Option.bind_some,qK,Option.bind_some,e,aU (by omega)]
    simp
   refine (ap hs).trans ((ih (p++[c]) (by simp [hp])).trans ?_)
   simp [e]
theorem Ez (s : ByteArray) : Zby (s,())=some (fM s,()):=by
 unfold Zby fM
 simp only
 have hl:=az s
 by_cases h : s.size≤64
 ·rw [cM (by omega),cond_false,show tW (ac s,((ac s).length : Nat),0,())=_ from AV (ac s) (by omega) (ac s) [] rfl]
  simp only [h,decide_true,Bool.true_and]
  cases (ac s).all lr <;> rfl
 ·rw [dA (by omega)]
  simp [h]
theorem GS (c : Int) : lr (sw c)=lr c:=by
 unfold sw lr
 split
 ·rename_i h; subst h; rfl
 ·split
  ·rename_i h; subst h; rfl
  ·rfl
theorem vX (s : ByteArray) : (rev s).size=s.size:=by
 have:=az s
 unfold rev
 rw [uz]; simp [this]
theorem nV (s : ByteArray) : ac (rev s)=(ac s).reverse.map sw:=by
 unfold rev
 refine oI fun n hn=>?_
 obtain ⟨c,hc,rfl⟩:=List.mem_map.1 hn
 exact Ds (rG c (List.mem_reverse.1 hc))
theorem EA (s : ByteArray) : rev (rev s)=s:=by
 have e : ((ac s).reverse.map sw).reverse.map sw=ac s:=by
  rw [← List.map_reverse,List.reverse_reverse,List.map_map]
  have : (sw ∘ sw)=id:=by funext c; exact GX c
  rw [this,List.map_id]
 rw [rev,nV,e,oH]
theorem CE (s : ByteArray) : fM (rev s)=fM s:=by
 unfold fM
 rw [vX,nV]
 congr 1
 rw [List.all_map,List.all_reverse]
 have : lr ∘ sw=lr:=by funext c; exact GS c
 rw [this]
abbrev at0 (B : List ByteArray) (d : Nat) : ByteArray:=B.getD d ByteArray.empty
theorem fI {B : List ByteArray} {d : Nat} (h : d < B.length) : B[d]?=some (at0 B d):=by
 unfold at0
 rw [List.getD_eq_getElem?_getD,List.getElem?_eq_getElem h]; rfl
def pw (B : List ByteArray) (j : Nat) : Bool:=fM (at0 B (2 * j)) && eqS (at0 B (2 * j+1)) (rev (at0 B (2 * j)))
def fL (B : List ByteArray) (d : Nat) : Bool:=fM (at0 B d) && eqS (at0 B (oth d)) (rev (at0 B d))
theorem qW (B : List ByteArray) (m : Nat) : cy (pw B) 0 m=cy (fL B) 0 (2 * m):=by
 rw [Bool.eq_iff_iff,dz,dz]
 constructor
 ·intro h d _ hd'
  have hj:=h (d / 2) (by omega) (by omega)
  unfold pw at hj
  unfold fL
  simp only [Bool.and_eq_true,mE] at hj ⊢
  rcases Nat.mod_two_eq_zero_or_one d with e | e
  ·have e1 : 2 * (d / 2)=d:=by omega
   have e2 : oth d=d+1:=by unfold oth; rw [if_pos e]
   rw [e1] at hj
   rw [e2]; exact hj
  ·have e1 : 2 * (d / 2)+1=d:=by omega
   have e2 : oth d=2 * (d / 2):=by unfold oth; rw [if_neg (by omega)]; omega
   rw [e1] at hj
   rw [e2,hj.2,CE,EA]
   exact ⟨hj.1,rfl⟩
 ·intro h j _ hj
  have hd':=h (2 * j) (by omega) (by omega)
  unfold fL at hd'
  unfold pw
  have e2 : oth (2 * j)=2 * j+1:=by unfold oth; rw [if_pos (by omega)]
  rw [e2] at hd'
  exact hd'
theorem zj (a b : ByteArray) : neS a b=!(eqS a b):=rfl
theorem rf (N : Int) (E : List Arc) (A : List (List Int)) (g : List Int) (B : List ByteArray) (o : Int) (m : Nat) (hB : B.length=2 * m) (hm : m≤32768) : ∀ (r j : Nat),j+r=m →
  ns (N,E,A,g,B,o,N,E,A,((2 * m : Nat) : Int),((2 * j : Nat) : Int),())=some (cond (cy (pw B) j r) (.inr (.inl (N,E,A,g,B,o,N,E,A,()))) (.inl (false,()))):=by
 intro r
 induction r with
 | zero =>
  intro j hj
  refine ai ?_
  simp only [rk]
  rw [aA (by omega)]; rfl
 | succ r ih =>
  intro j hj
  have h0 : B[2 * j]?=some (at0 B (2 * j)):=fI (by omega)
  have h1 : B[2 * j+1]?=some (at0 B (2 * j+1)):=fI (by omega)
  have hstep : rk (N,E,A,g,B,o,N,E,A,((2 * m : Nat) : Int),((2 * j : Nat) : Int),())=some (cond (pw B j) (.inl (N,E,A,g,B,o,N,E,A,((2 * m : Nat) : Int),((2 * (j+1) : Nat) : Int),())) (.inr (.inl (false,())))):=by
   simp only [rk]
   rw [aG (by omega),cond_true,ae,h0,Option.bind_some,Ez,Option.bind_some]
   unfold pw
   simp only
   cases hb : fM (at0 B (2 * j)) with
   | false=>rfl
   | true =>
    have hsz : (at0 B (2 * j)).size≤64:=by
     unfold fM at hb
     simp only [Bool.and_eq_true,decide_eq_true_eq] at hb
     exact hb.1
    rw [aU (by omega),ae,h1]
    simp only [Bool.not_true,cond_false,Option.bind_some]
    rw [xK _ (by omega),Option.bind_some,zj]
    rw [show ah .i64 ((2 * j : Nat) : Int) 2=((2 * (j+1) : Nat) : Int) by rw [dw (by omega) (by omega)]; omega]
    show cond (!(eqS (at0 B (2 * j+1)) (rev (at0 B (2 * j))))) _ _=_
    cases eqS (at0 B (2 * j+1)) (rev (at0 B (2 * j))) <;> rfl
  cases hb : pw B j with
  | false =>
   rw [hb] at hstep
   simp only [cy,hb,Bool.false_and,cond_false]
   exact ai hstep
  | true =>
   rw [hb] at hstep
   simp only [cy,hb,Bool.true_and]
   exact (ap hstep).trans (ih (j+1) (by omega))
theorem tJ (N : Int) (E : List Arc) (A : List (List Int)) (g : List Int) (B : List ByteArray) (o : Int) (d : Nat) (s : ByteArray) (hs : B[d]?=some s) (hsz : s.size≤64) : ∀ (r i : Nat),i+r=s.size →
  zi (N,E,A,g,B,o,(d : Int),(i : Int),())=some (cond (((ac s).drop i).all lr) (.inr (.inl (N,E,A,g,B,o,(d : Int),()))) (.inl (false,()))):=by
 have hl:=az s
 intro r
 induction r with
 | zero =>
  intro i hi
  refine ai ?_
  simp only [wo]
  rw [ae,hs,Option.bind_some,aA (by omega)]
  rw [List.drop_eq_nil_of_le (by omega)]; rfl
 | succ r ih =>
  intro i hi
  obtain ⟨c,hc⟩ : ∃ c,s.data.toList[i]?=some c:=⟨_,List.getElem?_eq_getElem (by rw [Array.length_toList]; show i < s.size; omega)⟩
  have hb:=lZ s i
  rw [hc] at hb
  have hd' : (ac s).drop i=(c.toNat : Int) :: (ac s).drop (i+1):=by
   have hi2 : i < (ac s).length:=by omega
   rw [List.drop_eq_getElem_cons hi2]
   have:=List.getElem?_eq_getElem hi2
   rw [← hb] at this
   simp only [Option.map_some,Option.some.injEq] at this
   rw [this]
  have hstep : wo (N,E,A,g,B,o,(d : Int),(i : Int),())=some (cond (lr (c.toNat : Int)) (.inl (N,E,A,g,B,o,(d : Int),((i+1 : Nat) : Int),())) (.inr (.inl (false,())))):=by
   simp only [wo]
   rw [ae,hs,Option.bind_some,aG (by omega),cond_true,Option.bind_some,ae,hc,Option.bind_some,aU (by omega)]
   unfold lr
   by_cases e1 : (c.toNat : Int)=76
   ·rw [bx e1]
    have : ((c.toNat : Int) == 76)=true:=by simpa using e1
    rw [this]; rfl
   ·rw [fp e1]
    have e1' : ((c.toNat : Int) == 76)=false:=by simpa using e1
    rw [e1']
    simp only [cond_true,Option.bind_some]
    rw [ae,hc,Option.bind_some]
    by_cases e2 : (c.toNat : Int)=82
    ·rw [bx e2]
     have : ((c.toNat : Int) == 82)=true:=by simpa using e2
     rw [this]; rfl
    ·rw [fp e2]
     have : ((c.toNat : Int) == 82)=false:=by simpa using e2
     rw [this]; rfl
  rw [hd',List.all_cons]
  cases hb2 : lr (c.toNat : Int) with
  | false =>
   rw [hb2] at hstep
   exact ai hstep
  | true =>
   rw [hb2] at hstep
   exact (ap hstep).trans (ih (i+1) (by omega))
theorem Aq (N : Int) (E : List Arc) (A : List (List Int)) (g : List Int) (B : List ByteArray) (o : Int) (m : Nat) (hB : B.length=2 * m) (hm : m≤32768) : ∀ (r d : Nat),d+r=2 * m →
  zE (N,E,A,g,B,o,(d : Int),())=some (cond (cy (fL B) d r) (.inr (.inl ())) (.inl (false,()))):=by
 intro r
 induction r with
 | zero =>
  intro d hd'
  refine ai ?_
  simp only [vL]
  rw [aA (by omega)]; rfl
 | succ r ih =>
  intro d hd'
  have h0 : B[d]?=some (at0 B d):=fI (by omega)
  have h1 : B[oth d]?=some (at0 B (oth d)):=fI (by rw [hB]; exact bd (by omega))
  have hstep : vL (N,E,A,g,B,o,(d : Int),())=some (cond (fL B d) (.inl (N,E,A,g,B,o,((d+1 : Nat) : Int),())) (.inr (.inl (false,())))):=by
   simp only [vL]
   rw [aG (by omega),cond_true,ae,h0,Option.bind_some]
   unfold fL fM
   by_cases hsz : (at0 B d).size≤64
   ·rw [cM (by omega),cond_false,AO (by omega),ae,h1,Option.bind_some,Option.bind_some,rD _ (by omega),Option.bind_some,zj]
    show cond (!(eqS (at0 B (oth d)) (rev (at0 B d)))) _ _=_
    have hlet:=tJ N E A g B o d (at0 B d) h0 hsz (at0 B d).size 0 (by omega)
    rw [show zi (N,E,A,g,B,o,(d : Int),0,())=_ from hlet,List.drop_zero]
    simp only [hsz,decide_true,Bool.true_and]
    have ea : ah .i64 (d : Int) 1=((d+1 : Nat) : Int):=aU (by omega)
    cases eqS (at0 B (oth d)) (rev (at0 B d)) <;> cases (ac (at0 B d)).all lr <;> simp [ea]
   ·have e : decide ((at0 B d).size≤64)=false:=by simpa using hsz
    rw [dA (by omega),e]; rfl
  cases hb : fL B d with
  | false =>
   rw [hb] at hstep
   simp only [cy,hb,Bool.false_and,cond_false]
   exact ai hstep
  | true =>
   rw [hb] at hstep
   simp only [cy,hb,Bool.true_and]
   exact (ap hstep).trans (ih (d+1) (by omega))
theorem As (N : Int) (E : List Arc) (A : List (List Int)) (g : List Int) (B : List ByteArray) (o : Int) (m : Nat) (hB : B.length=2 * m) (hm : m≤32768) :
  Zv (((N,E,A,()),g,B,o,()),())=some (cy (fL B) 0 (2 * m),()):=by
 unfold Zv
 simp only
 rw [show zE (N,E,A,g,B,o,0,())=_ from Aq N E A g B o m hB hm (2 * m) 0 (by omega)]
 cases cy (fL B) 0 (2 * m) <;> rfl
def bz : List Int→Int
 | []=>0
 | c :: l=>(if c=76 then 1 else -1)+bz l
theorem rc : ∀ l : List Int,-(l.length : Int)≤bz l∧bz l≤l.length
 | []=>by simp [bz]
 | c :: l=>by
  have:=rc l
  simp only [bz,List.length_cons]
  split <;> omega
def tnZ (g : List Int) (B : List ByteArray) (d : Nat) : Int:=bz (ac (at0 B d))+2 - g.getD (oth d) 0
def tsZ (g : List Int) (B : List ByteArray) : List Int→Int
 | []=>0
 | d :: f=>tnZ g B d.toNat+tsZ g B f
structure TurnOK (g : List Int) (B : List ByteArray) (L : Nat) : Prop where
 small : L≤65536
 glen : g.length=L
 blen : B.length=L
 even : ∀ k,k < L→oth k < L
 ang : ∀ k,k < L→∃ a,g[k]?=some a∧1≤a∧a≤4
 bend : ∀ k,k < L→fM (at0 B k)=true
theorem TurnOK.bound {g : List Int} {B : List ByteArray} {L : Nat} (h : TurnOK g B L) {d : Nat} (hd' : d < L) : -66≤tnZ g B d∧tnZ g B d≤66∧(at0 B d).size≤64:=by
 obtain ⟨a,ha,h1,h2⟩:=h.ang (oth d) (h.even d hd')
 have hb:=h.bend d hd'
 unfold fM at hb
 simp only [Bool.and_eq_true,decide_eq_true_eq] at hb
 have:=rc (ac (at0 B d))
 have hl:=az (at0 B d)
 have hg : g.getD (oth d) 0=a:=by rw [List.getD_eq_getElem?_getD,ha]; rfl
 unfold tnZ
 rw [hg]
 omega
theorem Bi (l : List Int) (hl : l.length≤1000) : ∀ (q p : List Int) (n : Int),p++q=l→-1000 - (p.length : Int)≤n→n≤1000+p.length→uC (l,n,((l.length : Nat) : Int),((p.length : Nat) : Int),())=some (.inl (n+bz q,())):=by
 intro q
 induction q with
 | nil =>
  intro p n hp h1 h2
  refine ai ?_
  simp only [qI]
  rw [aA (by rw [← hp]; simp)]
  simp [bz]
 | cons c q ih =>
  intro p n hp h1 h2
  have hpl : p.length < l.length:=by rw [← hp]; simp
  have hc : l[p.length]?=some c:=by rw [← hp]; simp
  have hs : qI (l,n,((l.length : Nat) : Int),((p.length : Nat) : Int),())=some (.inl (l,n+(if c=76 then 1 else -1),((l.length : Nat) : Int),(((p++[c]).length : Nat) : Int),())):=by
   simp only [qI]
   rw [aG (by omega),cond_true,aD hpl,Option.bind_some,hc,Option.bind_some,aU (by omega)]
   by_cases e : c=76
   ·rw [dk e,cond_true,dw (by omega) (by omega),if_pos e]; simp
   ·rw [cn e,cond_false,gk (by omega) (by omega),if_neg e]; simp; omega
  refine (ap hs).trans ((ih (p++[c]) _ (by simp [hp]) ?_ ?_).trans ?_)
  ·simp only [List.length_append,List.length_singleton]; split <;> omega
  ·simp only [List.length_append,List.length_singleton]; split <;> omega
  ·simp only [bz]
   congr 3
   omega
theorem Ff {g : List Int} {B : List ByteArray} {L : Nat} (h : TurnOK g B L) (r : Rot) (o : Int) {d : Nat} (hd' : d < L) : Zbx (((r.1,r.2.1,r.2.2.1,()),g,B,o,()),(d : Int),())=some (tnZ g B d,()):=by
 have hsm:=h.small
 obtain ⟨a,ha,h1,h2⟩:=h.ang (oth d) (h.even d hd')
 obtain ⟨_,_,hsz⟩:=h.bound hd'
 have hl:=az (at0 B d)
 unfold Zbx
 simp only
 rw [AO (by omega),ae,ha,Option.bind_some,ae,fI (by rw [h.blen]; exact hd'),Option.bind_some,gk (by omega) (by omega)]
 rw [show uC (ac (at0 B d),2 - a,((ac (at0 B d)).length : Nat),0,())=_ from Bi (ac (at0 B d)) (by omega) (ac (at0 B d)) [] (2 - a) rfl (by simp; omega) (by simp; omega)]
 have hg : g.getD (oth d) 0=a:=by rw [List.getD_eq_getElem?_getD,ha]; rfl
 simp only [Option.bind_some,Sum.elim_inl,tnZ,hg]
 congr 2
 omega
theorem Db {g : List Int} {B : List ByteArray} {L : Nat} (h : TurnOK g B L) (r : Rot) (o : Int) (f : List Int) (hf : ∀ x∈f,∃ k : Nat,x=(k : Int)∧k < L) (hfl : f.length≤65536) :
  Zbs (((r.1,r.2.1,r.2.2.1,()),g,B,o,()),f,())=some (tsZ g B f,())∧-66 * (f.length : Int)≤tsZ g B f∧tsZ g B f≤66 * (f.length : Int):=by
 have key : ∀ (q p : List Int) (n : Int),p++q=f→-66 * (p.length : Int)≤n→n≤66 * (p.length : Int) →
   tm (r.1,r.2.1,r.2.2.1,g,B,o,n,f,((f.length : Nat) : Int),((p.length : Nat) : Int),())=some (.inl (n+tsZ g B q,()))∧-66 * (q.length : Int)≤tsZ g B q∧tsZ g B q≤66 * (q.length : Int):=by
  intro q
  induction q with
  | nil =>
   intro p n hp h1 h2
   refine ⟨?_,by simp [tsZ],by simp [tsZ]⟩
   refine ai ?_
   simp only [qO]
   rw [aA (by rw [← hp]; simp)]
   simp [tsZ]
  | cons x q ih =>
   intro p n hp h1 h2
   have hpl : p.length < f.length:=by rw [← hp]; simp
   have hx : f[p.length]?=some x:=by rw [← hp]; simp
   obtain ⟨d,rfl,hdL⟩:=hf x (List.mem_of_getElem? hx)
   obtain ⟨b1,b2,_⟩:=h.bound hdL
   have hs : qO (r.1,r.2.1,r.2.2.1,g,B,o,n,f,((f.length : Nat) : Int),((p.length : Nat) : Int),())=some (.inl (r.1,r.2.1,r.2.2.1,g,B,o,n+tnZ g B d,f,((f.length : Nat) : Int),(((p++[(d : Int)]).length : Nat) : Int),())):=by
    simp only [qO]
    rw [aG (by omega),cond_true,ae,hx,Option.bind_some,Ff h r o hdL,Option.bind_some,aU (by omega),dw (by omega) (by omega)]
    simp
   obtain ⟨q1,q2,q3⟩:=ih (p++[(d : Int)]) (n+tnZ g B d) (by simp [hp]) (by simp; omega) (by simp; omega)
   refine ⟨(ap hs).trans (q1.trans ?_),?_,?_⟩
   ·simp only [tsZ,Int.toNat_natCast]
    congr 3
    omega
   ·simp only [tsZ,Int.toNat_natCast,List.length_cons]; omega
   ·simp only [tsZ,Int.toNat_natCast,List.length_cons]; omega
 obtain ⟨q1,q2,q3⟩:=key f [] 0 rfl (by simp) (by simp)
 refine ⟨?_,q2,q3⟩
 unfold Zbs
 simp only
 rw [show tm (r.1,r.2.1,r.2.2.1,g,B,o,0,f,((f.length : Nat) : Int),0,())=_ from q1]
 simp
theorem BI (s : ByteArray) (hs : fM s=true) : Zai (s,())=some (bz (ac s),()):=by
 unfold fM at hs
 simp only [Bool.and_eq_true,decide_eq_true_eq] at hs
 obtain ⟨hsz,hall⟩:=hs
 have hl:=az s
 have key : ∀ (r i : Nat) (n : Int),i+r=s.size→-(i : Int)≤n→n≤i→ti (s,n,(i : Int),())=some (.inl (n+bz ((ac s).drop i),())):=by
  intro r
  induction r with
  | zero =>
   intro i n hi h1 h2
   refine ai ?_
   simp only [qN]
   rw [aA (by omega),List.drop_eq_nil_of_le (by omega)]
   simp [bz]
  | succ r ih =>
   intro i n hi h1 h2
   obtain ⟨c,hc⟩ : ∃ c,s.data.toList[i]?=some c:=⟨_,List.getElem?_eq_getElem (by rw [Array.length_toList]; show i < s.size; omega)⟩
   have hb:=lZ s i
   rw [hc] at hb
   have hi2 : i < (ac s).length:=by omega
   have hce : (ac s)[i]=(c.toNat : Int):=by
    have:=List.getElem?_eq_getElem hi2
    rw [← hb] at this
    simpa using this.symm
   have hd' : (ac s).drop i=(c.toNat : Int) :: (ac s).drop (i+1):=by
    rw [List.drop_eq_getElem_cons hi2,hce]
   have hlr : lr (c.toNat : Int)=true:=by
    rw [List.all_eq_true] at hall
    rw [← hce]; exact hall _ (List.getElem_mem hi2)
   have hs : qN (s,n,(i : Int),())=some (.inl (s,n+(if (c.toNat : Int)=76 then 1 else -1),((i+1 : Nat) : Int),())):=by
    simp only [qN]
    rw [aG (by omega),cond_true,ae,hc,Option.bind_some,aU (by omega)]
    by_cases e : (c.toNat : Int)=76
    ·rw [dk e,cond_true,Option.bind_some,cn (by omega),cond_false,dw (by omega) (by omega),if_pos e]
    ·have e2 : (c.toNat : Int)=82:=by
      unfold lr at hlr
      simp only [Bool.or_eq_true,beq_iff_eq] at hlr
      exact hlr.resolve_left e
     rw [cn e,cond_false,Option.bind_some,dk e2,cond_true,gk (by omega) (by omega),if_neg e]
     rfl
   refine (ap hs).trans ((ih (i+1) _ (by omega) ?_ ?_).trans ?_)
   ·split <;> omega
   ·split <;> omega
   ·rw [hd']
    simp only [bz]
    congr 3
    omega
 unfold Zai
 simp only
 rw [show ti (s,0,0,())=_ from key s.size 0 0 (by omega) (by omega) (by omega)]
 simp
theorem rV {g : List Int} {B : List ByteArray} {L : Nat} (h : TurnOK g B L) (r : Rot) (o : Int) (f : List Int) (hf : ∀ x∈f,∃ k : Nat,x=(k : Int)∧k < L) (hfl : f.length≤65536) :
  Zs (((r.1,r.2.1,r.2.2.1,()),g,B,o,()),f,())=some (tsZ g B f,()):=by
 have hsm:=h.small
 have key : ∀ (q p : List Int) (n : Int),p++q=f→-66 * (p.length : Int)≤n→n≤66 * (p.length : Int) →
   yY (r.1,r.2.1,r.2.2.1,g,B,o,f,n,((p.length : Nat) : Int),())=some (.inl (n+tsZ g B q,())):=by
  intro q
  induction q with
  | nil =>
   intro p n hp h1 h2
   refine ai ?_
   simp only [wP]
   rw [aA (by rw [← hp]; simp)]
   simp [tsZ]
  | cons x q ih =>
   intro p n hp h1 h2
   have hpl : p.length < f.length:=by rw [← hp]; simp
   have hx : f[p.length]?=some x:=by rw [← hp]; simp
   obtain ⟨d,rfl,hdL⟩:=hf x (List.mem_of_getElem? hx)
   obtain ⟨b1,b2,hsz⟩:=h.bound hdL
   obtain ⟨a,ha,a1,a2⟩:=h.ang (oth d) (h.even d hdL)
   have hg : g.getD (oth d) 0=a:=by rw [List.getD_eq_getElem?_getD,ha]; rfl
   have hbz:=rc (ac (at0 B d))
   have hbl:=az (at0 B d)
   have hs : wP (r.1,r.2.1,r.2.2.1,g,B,o,f,n,((p.length : Nat) : Int),())=some (.inl (r.1,r.2.1,r.2.2.1,g,B,o,f,n+tnZ g B d,(((p++[(d : Int)]).length : Nat) : Int),())):=by
    simp only [wP]
    rw [aG (by omega),cond_true,ae,hx,Option.bind_some,ae,fI (by rw [h.blen]; exact hdL),Option.bind_some,BI _ (h.bend d hdL),Option.bind_some,Option.bind_some,AO (by omega),ae,ha,Option.bind_some,aU (by omega)]
    simp only
    rw [dw (a:=n) (by omega) (by omega),dw (by omega) (by omega),gk (by omega) (by omega)]
    simp only [tnZ,hg,List.length_append,List.length_singleton]
    congr 10
    omega
   refine (ap hs).trans ((ih (p++[(d : Int)]) (n+tnZ g B d) (by simp [hp]) (by simp; omega) (by simp; omega)).trans ?_)
   simp only [tsZ,Int.toNat_natCast]
   congr 3
   omega
 unfold Zs
 simp only
 rw [show yY (r.1,r.2.1,r.2.2.1,g,B,o,f,0,0,())=_ from key f [] 0 rfl (by simp) (by simp)]
 simp
end Go.Vm

namespace Go.Vm
open Go.Proofs
set_option maxRecDepth 100000
attribute [local irreducible] aa
def mU (_ : Nat) (n : Int) (l : List Int) : Option (Int⊕Empty):=some (.inl (cond (eqI (l.length : Nat) 0) (ah .i64 n 1) n))
theorem D7 (N : Int) (E : List Arc) (A : List (List Int)) (n : Int) (hA : A.length < 9223372036854775807) : ∃ n1,uI (N,E,A,n,A,(A.length : Nat),0,())=some (.inl (N,E,A,n1,())) ∧
  uH (((A.length : Nat) : Int),E,A,n,0,())=some (.inl (((A.length : Nat) : Int),E,A,n1,())):=by
 obtain ⟨n1,hn⟩:=iA (g:=mU) (l:=A) (i:=0) (s:=n) (fun _ n l=>cond (eqI (l.length : Nat) 0) (ah .i64 n 1) n) (fun _ _ _ _=>rfl)
 have k1:=jm (B:=jr) (fun n i=>(N,E,A,n,A,((A.length : Nat) : Int),(i : Int),())) (fun n=>.inl (N,E,A,n,())) (fun e=>nomatch e) mU A (by
  intro n i l hd'
  have hi : i < A.length:=(List.getElem?_eq_some_iff.1 hd').1
  simp only [jr,mU]
  rw [aG (by omega),cond_true,ae,hd',Option.bind_some,aU (a:=i) (by omega)]
  cases eqI ((l.length : Nat) : Int) 0 <;> rfl) (by
  intro n
  simp only [jr]
  rw [aA (by omega)]; rfl) n
 have k2:=jm (B:=jC) (fun n i=>(((A.length : Nat) : Int),E,A,n,(i : Int),())) (fun n=>.inl (((A.length : Nat) : Int),E,A,n,())) (fun e=>nomatch e) mU A (by
  intro n i l hd'
  have hi : i < A.length:=(List.getElem?_eq_some_iff.1 hd').1
  simp only [jC,mU]
  rw [aG (by omega),cond_true,ae,hd',Option.bind_some,aU (a:=i) (by omega)]
  cases eqI ((l.length : Nat) : Int) 0 <;> rfl) (by
  intro n
  simp only [jC]
  rw [aA (by omega)]; rfl) n
 rw [hn] at k1 k2
 exact ⟨n1,k1,k2⟩
section
variable {N : Nat} {E : List Arc} {A : List (List Int)}
theorem xX (h : RotOK (N : Nat) E A) (hv : validB ((N : Int),E,A,())=true) (hl : ∀ l∈A,l.length≤9223372036854775807) : ∃ X : Int,(0 < N→iS N E→Zbe (((N : Int),E,A,()),())=some (bf .i64 1 X,())) ∧
  ∃ c : Nat,Zaa (((N : Int),E,A,()),())=some (bf .i64 (c : Int) X,())∧Zc (((N : Int),E,A,()),())=some ((c : Int),())∧(0 < N→(c=1↔iS N E)):=by
 obtain ⟨nx,m,_,f1,hi,r1,r2⟩:=lw h hv hl
 have hAl : A.length=N:=by have:=h.len; omega
 have h16 : N≤16384:=by have:=h.n1; omega
 obtain ⟨n1,g1,g2⟩:=D7 (N : Int) E A ((ab nx).length : Nat) (by omega)
 obtain ⟨c,c1,c2,c3⟩:=sQ h
 rw [hAl] at g1 g2
 refine ⟨eG .i64 (ah .i64 (bf .i64 (N : Int) (E.length : Nat)) n1) 2,fun hN0 hc=>?_,c,?_,c1,c3⟩
 ·unfold Zbe
  simp only
  rw [gp ((N : Int),E,A,()) hl,hv,Option.bind_some]
  simp only [Bool.not_true,cond_false]
  rw [r1,Option.bind_some]
  simp only
  rw [hAl,g1]
  simp only [Option.bind_some,Sum.elim_inl]
  rw [sx h hN0 hc]
  rfl
 ·unfold Zaa
  simp only
  rw [eJ ((N : Int),E,A,()) hl,hv,Option.bind_some]
  simp only [Bool.not_true,cond_false]
  rw [r2,Option.bind_some]
  simp only
  rw [g2]
  simp only [Option.bind_some,Sum.elim_inl]
  rw [c1]
  rfl
end
def eh (g : List Int) (B : List ByteArray) (o : Int) (f : List Int) : Bool:=eqI (tsZ g B f) (cond (inB f o) (-4) 4)
def b8 (g : List Int) (B : List ByteArray) (o : Int) (fs : List (List Int)) : Bool:=fs.all (eh g B o)
theorem qX (g : List Int) (B : List ByteArray) (o : Int) : ∀ (fs : List (List Int)) (i : Nat),ay (fun (_ : Nat) (_ : Unit) f=>some (cond (eh g B o f) (Sum.inl ()) (Sum.inr ()))) i () fs=some (cond (b8 g B o fs) (.inl ()) (.inr ()))
 | [],_=>rfl
 | f :: fs,i=>by
  simp only [ay,Option.bind_some,b8,List.all_cons]
  cases eh g B o f with
  | false=>rfl
  | true=>exact qX g B o fs (i+1)
def mo (L : Nat) (fs : List (List Int)) : Prop:=fs.length≤65536∧∀ f∈fs,f.length≤65536∧∀ x∈f,∃ k : Nat,x=(k : Int)∧k < L
theorem qG {g : List Int} {B : List ByteArray} {L : Nat} (h : TurnOK g B L) (r : Rot) (o : Int) (fs : List (List Int)) (hf : mo L fs) :
  oO (r.1,r.2.1,r.2.2.1,g,B,o,fs,(fs.length : Nat),0,())=some (cond (b8 g B o fs) (.inr (.inl ())) (.inl (false,()))):=by
 have key:=jm (B:=mM) (fun (_ : Unit) i=>(r.1,r.2.1,r.2.2.1,g,B,o,fs,((fs.length : Nat) : Int),(i : Int),())) (fun _=>.inr (.inl ())) (fun (_ : Unit)=>.inl (false,()))
  (fun (_ : Nat) (_ : Unit) f=>some (cond (eh g B o f) (Sum.inl ()) (Sum.inr ()))) fs (by
   intro u i f hd'
   have hi : i < fs.length:=(List.getElem?_eq_some_iff.1 hd').1
   have hlen:=hf.1
   obtain ⟨f1,f2⟩:=hf.2 f (List.mem_of_getElem? hd')
   obtain ⟨t1,_,_⟩:=Db h r o f f2 f1
   simp only [mM]
   rw [aG (by omega),cond_true,aD (by omega),Option.bind_some,hd',Option.bind_some,wA f o (by omega),Option.bind_some,t1,aU (by omega)]
   unfold eh
   simp only [Option.bind_some]
   cases inB f o with
   | true =>
    simp only [cond_true]
    by_cases e : tsZ g B f=-4
    ·rw [bx e,dk e]; rfl
    ·rw [fp e,cn e]; rfl
   | false =>
    simp only [cond_false]
    by_cases e : tsZ g B f=4
    ·rw [bx e,dk e]; rfl
    ·rw [fp e,cn e]; rfl) (by
   intro u
   simp only [mM]
   rw [aA (by omega)]; rfl) ()
 rw [qX] at key
 refine key.trans ?_
 cases b8 g B o fs <;> rfl
theorem AL {g : List Int} {B : List ByteArray} {L : Nat} (h : TurnOK g B L) (r : Rot) (o : Int) (fs : List (List Int)) (hf : mo L fs) :
  qm (r.1,r.2.1,r.2.2.1,g,B,o,fs,0,())=some (cond (b8 g B o fs) (.inr (.inl ())) (.inl (13,()))):=by
 have key:=jm (B:=pA) (fun (_ : Unit) i=>(r.1,r.2.1,r.2.2.1,g,B,o,fs,(i : Int),())) (fun _=>.inr (.inl ())) (fun (_ : Unit)=>.inl (13,()))
  (fun (_ : Nat) (_ : Unit) f=>some (cond (eh g B o f) (Sum.inl ()) (Sum.inr ()))) fs (by
   intro u i f hd'
   have hi : i < fs.length:=(List.getElem?_eq_some_iff.1 hd').1
   have hlen:=hf.1
   obtain ⟨f1,f2⟩:=hf.2 f (List.mem_of_getElem? hd')
   have t1:=rV h r o f f2 f1
   simp only [pA]
   rw [aG (by omega),cond_true,aD (by omega),Option.bind_some,hd',Option.bind_some,yE f o (by omega),Option.bind_some,aU (by omega)]
   unfold eh
   simp only [Option.bind_some,hd',t1]
   cases inB f o with
   | true =>
    simp only [cond_true]
    by_cases e : tsZ g B f=-4
    ·rw [bx e,dk e]; rfl
    ·rw [fp e,cn e]; rfl
   | false =>
    simp only [cond_false]
    by_cases e : tsZ g B f=4
    ·rw [bx e,dk e]; rfl
    ·rw [fp e,cn e]; rfl) (by
   intro u
   simp only [pA]
   rw [aA (by omega)]; rfl) ()
 rw [qX] at key
 refine key.trans ?_
 cases b8 g B o fs <;> rfl
structure ShapeOK (N : Nat) (E : List Arc) (A : List (List Int)) (g : List Int) (B : List ByteArray) (o : Int) (nx : List Int) : Prop where
 rot : RotOK (N : Nat) E A
 valid : validB ((N : Int),E,A,())=true
 pos : 0 < N
 conn : iS N E
 turn : TurnOK g B (2 * E.length)
 bend : cy (fL B) 0 (2 * E.length)=true
 ang : ly g A=some (.inl ())
 out0 : 0≤o
 out1 : o < 2 * E.length∨o=0
 fol : Zav (((N : Int),E,A,()),())=some (nx,())
 folOK : Fol oth E A nx
 inv : ∃ m,FacesInv nx.length nx.length (m,ab nx)
 faces : Zbf (((N : Int),E,A,()),())=some (ab nx,())
 rfaces : Zy (((N : Int),E,A,()),())=some (ab nx,())
 chk : b8 g B o (ab nx)=true
theorem wK {L : Nat} {f : List Int} (hn : f.Nodup) (hf : ∀ x∈f,∃ k : Nat,x=(k : Int)∧k < L) : f.length≤L:=by
 have:=fy L (f.map Int.toNat) (by
  rw [List.Nodup,List.pairwise_map]
  refine hn.imp_of_mem ?_
  intro a b ha hb hab e
  obtain ⟨j,rfl,_⟩:=hf a ha
  obtain ⟨j',rfl,_⟩:=hf b hb
  simp at e
  exact hab (by rw [e])) (by
  intro x hx
  obtain ⟨y,hy,rfl⟩:=List.mem_map.1 hx
  obtain ⟨j,rfl,hj⟩:=hf y hy
  simpa using hj)
 simpa using this
theorem ym {L : Nat} (hL : L≤65536) {m : List Bool} {fs : List (List Int)} (h : FacesInv L L (m,fs)) : mo L fs:=by
 refine ⟨?_,fun f hf=>?_⟩
 ·have:=h.num; simp only at this; omega
 ·obtain ⟨_,h2⟩:=h.elem f hf
  refine ⟨?_,h2⟩
  have hn : f.Nodup:=(List.sublist_flatten_of_mem hf).nodup h.nodup
  have:=wK hn h2
  omega
theorem Bg {N : Nat} {E : List Arc} {A : List (List Int)} {X : Int} {c : Nat} (h1 : Zaa (((N : Int),E,A,()),())=some (bf .i64 (c : Int) X,())) (h2 : Zc (((N : Int),E,A,()),())=some ((c : Int),())) :
  Zm (((N : Int),E,A,()),())=some (eqI (bf .i64 (c : Int) X) 0 && eqI (c : Int) 1,()):=by
 unfold Zm
 simp only
 rw [h1,Option.bind_some,h2]
 simp only [Option.bind_some]
 cases eqI (bf .i64 (c : Int) X) 0 <;> rfl
theorem mz (N0 : Int) (E : List Arc) (A : List (List Int)) (g : List Int) (B : List ByteArray) (o : Int) (hA : ∀ l∈A,l.length≤9223372036854775807) :
  ∃ b,Zbr (((N0,E,A,()),g,B,o,()),())=some (b,())∧Zac (((N0,E,A,()),g,B,o,()),())=some (cond b 0 13,())∧(b=true→∃ N : Nat,N0=(N : Int)∧∃ nx,ShapeOK N E A g B o nx):=by
 cases hv : validB (N0,E,A,()) with
 | false =>
  refine ⟨false,?_,?_,fun h=>by cases h⟩
  ·unfold Zbr
   simp only
   rw [gp (N0,E,A,()) hA,hv]; rfl
  ·unfold Zac
   simp only
   rw [eJ (N0,E,A,()) hA,hv]; rfl
 | true =>
  have h0:=DT hv
  obtain ⟨N,rfl⟩ : ∃ N : Nat,N0=N:=⟨N0.toNat,by have:=h0.n0; omega⟩
  have h : RotOK (N : Nat) E A:=h0
  have hm1:=h.m1
  have h16 : N≤16384:=by have:=h.n1; omega
  have hAl : A.length=N:=by have:=h.len; omega
  obtain ⟨bc,c1,c2⟩:=lY h hv hA
  obtain ⟨X,x1,c,x2,x3,x4⟩:=xX h hv hA
  have hpl:=Bg x2 x3
  have pv : Zbr ((((N : Int),E,A,()),g,B,o,()),())=cond (!bc) (some (false,())) ((Zbe (((N : Int),E,A,()),())).bind fun r3=>cond (neI r3.1 0) (some (false,())) (cond (neI (g.length : Nat) (aN .i64 2 (E.length : Nat))) (some (false,())) (cond (neI (B.length : Nat) (aN .i64 2 (E.length : Nat))) (some (false,())) (cond (ltI o 0) (some (false,())) (cond (geI o (ju (aN .i64 2 (E.length : Nat)) 1)) (some (false,())) ((Zbp ((((N : Int),E,A,()),g,B,o,()),())).bind fun r4=>cond (!r4.1) (some (false,())) ((ns ((N : Int),E,A,g,B,o,(N : Int),E,A,(aN .i64 2 (E.length : Nat)),0,())).bind (Sum.elim (fun z6=>some (z6.1,())) (Sum.elim (fun z7=>(Zbf ((z7.2.2.2.2.2.2.1,(z7.2.2.2.2.2.2.2.1,(z7.2.2.2.2.2.2.2.2.1,()))),())).bind fun r8=>(oO (z7.1,(z7.2.1,(z7.2.2.1,(z7.2.2.2.1,(z7.2.2.2.2.1,(z7.2.2.2.2.2.1,(r8.1,((r8.1.length : Nat),(0,())))))))))).bind (Sum.elim (fun z10=>some (z10.1,())) (Sum.elim (fun z11=>some (true,())) (fun _=>none)))) (fun _=>none)))))))))):=by
   unfold Zbr
   simp only
   rw [gp ((N : Int),E,A,()) hA,hv,Option.bind_some]
   simp only [Bool.not_true,cond_false]
   rw [c1,Option.bind_some]
  have e2 : aN .i64 2 (E.length : Nat)=((2 * E.length : Nat) : Int):=by rw [lH (by omega) (by omega)]; omega
  cases hbc : bc with
  | false =>
   rw [hbc] at pv c2
   have hnc : ¬ (0 < N∧iS N E):=fun hh=>by have:=c2.2 hh; cases this
   refine ⟨false,pv,?_,fun h=>by cases h⟩
   unfold Zac
   simp only
   rw [eJ ((N : Int),E,A,()) hA,hv,Option.bind_some]
   simp only [Bool.not_true,cond_false]
   by_cases hN : 0 < N
   ·have hc1 : c≠1:=fun e=>hnc ⟨hN,(x4 hN).1 e⟩
    rw [aA (by omega),cond_false,hpl,Option.bind_some,cn (a:=(c : Int)) (by omega)]
    simp
   ·rw [aG (by omega)]; rfl
  | true =>
   rw [hbc] at pv c2
   obtain ⟨hN,hconn⟩:=c2.1 rfl
   have hc1 : c=1:=(x4 hN).2 hconn
   subst hc1
   have rv : Zac ((((N : Int),E,A,()),g,B,o,()),())=cond (!(eqI (bf .i64 1 X) 0)) (some (13,())) (cond (neI (g.length : Nat) (aN .i64 2 (E.length : Nat))) (some (13,())) (cond (neI (B.length : Nat) (aN .i64 2 (E.length : Nat))) (some (13,())) ((Zag ((((N : Int),E,A,()),g,B,o,()),())).bind fun r3=>cond (!r3.1) (some (13,())) ((Zv ((((N : Int),E,A,()),g,B,o,()),())).bind fun r4=>cond (!r4.1) (some (13,())) (cond (ltI o 0) (some (13,())) (cond (gtI o 0) (cond (geI o (aN .i64 2 (E.length : Nat))) (some (13,())) ((Zy (((N : Int),E,A,()),())).bind fun r5=>(qm ((N : Int),E,A,g,B,o,r5.1,0,())).bind (Sum.elim (fun z7=>some (z7.1,())) (Sum.elim (fun z8=>some (0,())) (fun _=>none))))) ((Zy (((N : Int),E,A,()),())).bind fun r9=>(qm ((N : Int),E,A,g,B,o,r9.1,0,())).bind (Sum.elim (fun z11=>some (z11.1,())) (Sum.elim (fun z12=>some (0,())) (fun _=>none)))))))))):=by
    unfold Zac
    simp only
    rw [eJ ((N : Int),E,A,()) hA,hv,Option.bind_some]
    simp only [Bool.not_true,cond_false]
    rw [aA (by omega),cond_false,hpl,Option.bind_some]
    have : eqI ((1 : Nat) : Int) 1=true:=rfl
    rw [this,Bool.and_true]
    rfl
   rw [x1 hN hconn] at pv
   simp only [Bool.not_true,cond_false,Option.bind_some] at pv
   by_cases hg0 : bf .i64 1 X=0
   ·rw [bx hg0,cond_false,e2] at pv
    rw [dk hg0,e2] at rv
    simp only [Bool.not_true,cond_false] at rv
    by_cases hgl : g.length=2 * E.length
    ·rw [bx (by omega),cond_false] at pv rv
     by_cases hBl : B.length=2 * E.length
     ·rw [bx (by omega),cond_false] at pv rv
      obtain ⟨ba,a1,a2⟩:=vj h g hgl
      have hang:=rQ (N : Int) E A g B o (by omega) hA
      have hsum:=EH E A g B o (by omega) hA
      rw [hAl] at hsum
      rw [a1] at hang hsum
      have hbp:=rf (N : Int) E A g B o E.length hBl hm1 E.length 0 (by omega)
      have hbr:=As (N : Int) E A g B o E.length hBl hm1
      rw [qW] at hbp
      have hbp' : ns ((N : Int),E,A,g,B,o,(N : Int),E,A,((2 * E.length : Nat) : Int),0,())=_:=hbp
      have hmax : ju ((2 * E.length : Nat) : Int) 1=if 2 * E.length=0 then 1 else ((2 * E.length : Nat) : Int):=by
       unfold ju; split <;> split <;> omega
      cases hba : ba with
      | false =>
       rw [hba] at hang hsum
       refine ⟨false,?_,?_,fun h=>by cases h⟩
       ·rw [pv,hang]
        cases ltI o 0 with
        | true=>rfl
        | false=>cases geI o (ju ((2 * E.length : Nat) : Int) 1) <;> rfl
       ·rw [rv,hsum]; rfl
      | true =>
       rw [hba] at hang hsum a1
       cases hbb : cy (fL B) 0 (2 * E.length) with
       | false =>
        rw [hbb] at hbp' hbr
        refine ⟨false,?_,?_,fun h=>by cases h⟩
        ·rw [pv,hang,hbp']
         cases ltI o 0 with
         | true=>rfl
         | false=>cases geI o (ju ((2 * E.length : Nat) : Int) 1) <;> rfl
        ·rw [rv,hsum,hbr]; rfl
       | true =>
        rw [hbb] at hbp' hbr
        by_cases ho0 : o < 0
        ·refine ⟨false,?_,?_,fun h=>by cases h⟩
         ·rw [pv,aG ho0]; rfl
         ·rw [rv,hsum,hbr,aG ho0]; rfl
        ·by_cases ho1 : o < 2 * E.length∨o=0
         ·have hT : TurnOK g B (2 * E.length):=⟨by omega,hgl,hBl,fun k hk=>bd hk,a2 hba,fun k hk=>by
           have:=dz.1 hbb k (by omega) (by omega)
           unfold fL at this
           simp only [Bool.and_eq_true] at this
           exact this.1⟩
          obtain ⟨nx,m,f0,f1,hi,r1,r2⟩:=lw h hv hA
          have hFI : mo (2 * E.length) (ab nx):=by rw [← f1.len]; exact ym (by rw [f1.len]; omega) hi
          have hp:=qG hT ((N : Int),E,A,()) o (ab nx) hFI
          have hr:=AL hT ((N : Int),E,A,()) o (ab nx) hFI
          simp only at hp hr
          refine ⟨b8 g B o (ab nx),?_,?_,fun hb=>⟨N,rfl,nx,h,hv,hN,hconn,hT,hbb,a1,by omega,ho1,f0,f1,⟨m,hi⟩,r1,r2,hb⟩⟩
          ·rw [pv,aA (by omega),cond_false,hmax,jG (by split <;> omega),cond_false,hang,hbp']
           simp only [cond_true,Option.bind_some,Sum.elim_inl,Sum.elim_inr,Bool.not_true,cond_false]
           rw [r1,Option.bind_some]
           simp only
           rw [hp]
           cases b8 g B o (ab nx) <;> rfl
          ·rw [rv,hsum,hbr]
           simp only [cond_true,Option.bind_some,Sum.elim_inl,Bool.not_true,cond_false]
           rw [aA (by omega),cond_false,r2]
           simp only [Option.bind_some]
           rw [hr]
           by_cases hop : o > 0
           ·rw [dA hop,cond_true,jG (by omega),cond_false]
            cases b8 g B o (ab nx) <;> rfl
           ·rw [cM (by omega),cond_false]
            cases b8 g B o (ab nx) <;> rfl
         ·refine ⟨false,?_,?_,fun h=>by cases h⟩
          ·rw [pv,aA (by omega),cond_false,hmax,rW (by split <;> omega)]; rfl
          ·rw [rv,hsum,hbr]
           simp only [cond_true,Option.bind_some,Sum.elim_inl,Bool.not_true,cond_false]
           rw [aA (by omega),cond_false,dA (by omega),cond_true,rW (by omega)]; rfl
     ·rw [fp (by omega)] at pv rv
      exact ⟨false,pv,rv,fun h=>by cases h⟩
    ·rw [fp (by omega)] at pv rv
     exact ⟨false,pv,rv,fun h=>by cases h⟩
   ·rw [fp hg0] at pv
    rw [cn hg0] at rv
    exact ⟨false,pv,rv,fun h=>by cases h⟩
end Go.Vm


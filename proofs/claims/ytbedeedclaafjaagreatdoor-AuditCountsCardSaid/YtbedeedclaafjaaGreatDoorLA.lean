/-
 The law.
-/
import Derived.Test.YtbedeedclaafjaaGreatDoorD61
import Derived.Test.YtbedeedclaafjaaGreatDoorVmD
set_option linter.unusedVariables false
set_option linter.unusedSimpArgs false
/-
 AuditCounts: names, labels, ports, in the program and in the reference.
-/
namespace Go.Vm
open Go.Proofs
set_option maxRecDepth 100000
attribute [local irreducible] ai
abbrev lZ:=ByteArray×Int×Unit
abbrev vQ:=Int×Int×Int×Int×ByteArray×Int×Int×Unit
abbrev qB:=ByteArray×ByteArray×Int×Int×Int×List lZ×Unit
theorem qo {σ τ ρ υ : Type} {B : σ→Option (σ⊕ρ)} {C : τ→Option (τ⊕υ)} (R : σ→τ→Prop) (m : σ→Nat) (S : ρ→υ→Prop)
  (step : ∀ s t,R s t→(∃ s' t',B s=some (.inl s')∧C t=some (.inl t')∧R s' t'∧m s' < m s)∨∃ r u,B s=some (.inr r)∧C t=some (.inr u)∧S r u) :
  ∀ s t,R s t→∃ r u,ai B s=some r∧ai C t=some u∧S r u:=by
 have : ∀ n s t,m s≤n→R s t→∃ r u,ai B s=some r∧ai C t=some u∧S r u:=by
  intro n
  induction n with
  | zero =>
   intro s t hn hR
   rcases step s t hR with ⟨s',t',_,_,_,h4⟩ | ⟨r,u,h1,h2,h3⟩
   ·omega
   ·exact ⟨r,u,dS h1,dS h2,h3⟩
  | succ n ih =>
   intro s t hn hR
   rcases step s t hR with ⟨s',t',h1,h2,h3,h4⟩ | ⟨r,u,h1,h2,h3⟩
   ·rw [mF h1,mF h2]; exact ih s' t' (by omega) h3
   ·exact ⟨r,u,dS h1,dS h2,h3⟩
 exact fun s t hR=>this (m s) s t (Nat.le_refl _) hR
theorem cZ {α : Type} {c : Bool} {x y : Option (α×Unit)} (h1 : ∃ b,x=some (b,())) (h2 : ∃ b,y=some (b,())) : ∃ b,cond c x y=some (b,()):=by
 cases c with
 | true=>exact h1
 | false=>exact h2
theorem wV (n : Int) : ∃ b,Zbf (n,())=some (b,()):=by
 unfold Zbf
 simp only
 cases geI n 97 <;> cases leI n 122 <;> cases geI n 65 <;> cases leI n 90 <;> exact ⟨_,rfl⟩
theorem Ar (n : Int) : ∃ b,Zbm (n,())=some (b,()):=by
 unfold Zbm
 cases geI n 48 <;> exact ⟨_,rfl⟩
theorem vK (s : ByteArray) : ∃ b,Zao (s,())=some (b,()):=by
 unfold Zao
 simp only
 refine cZ (cZ ⟨_,rfl⟩ ⟨_,rfl⟩) (cZ (cZ ⟨_,rfl⟩ ⟨_,rfl⟩) (cZ (cZ ⟨_,rfl⟩ ⟨_,rfl⟩) (cZ (cZ ⟨_,rfl⟩ ⟨_,rfl⟩) (cZ (cZ ⟨_,rfl⟩ ⟨_,rfl⟩) (cZ ⟨_,rfl⟩ ⟨_,rfl⟩)))))
theorem BP (s : ByteArray) (hs : s.size≤1000) : ∃ r,wt (s,0,())=some r:=by
 obtain ⟨r,h,_⟩:=gw (f:=sX) (fun x=>∃ i : Nat,x=(s,(i : Int),())∧i≤s.size) (fun x=>s.size - x.2.1.toNat) (fun _=>True) (by
  rintro x ⟨i,rfl,hi⟩
  simp only [sX]
  by_cases h : i < s.size
  ·have hl : i < s.data.toList.length:=by simpa using h
   rw [bi (by omega),cond_true,aB,List.getElem?_eq_getElem hl]
   simp only [Option.bind_some,cR (show i < 9223372036854775807 by omega)]
   have next : (∃ t,(some (.inl (s,((i+1 : Nat) : Int),())) : Option (lZ⊕((Int×Unit)⊕Empty)))=some (.inl t)∧(∃ i : Nat,t=(s,(i : Int),())∧i≤s.size)∧s.size - t.2.1.toNat < s.size - (i : Int).toNat) :=
    ⟨_,rfl,⟨i+1,rfl,h⟩,by show s.size - ((i+1 : Nat) : Int).toNat < _; omega⟩
   obtain ⟨b,hb⟩:=wV (s.data.toList[i].toNat : Int)
   rw [hb]
   cases b with
   | true=>exact .inl next
   | false =>
    simp only [Option.bind_some,cond_false]
    cases gtI (i : Int) 0 with
    | false=>exact .inr ⟨_,rfl,trivial⟩
    | true =>
     obtain ⟨b,hb⟩:=Ar (s.data.toList[i].toNat : Int)
     simp only [cond_true,hb,Option.bind_some]
     cases b with
     | true=>exact .inl next
     | false=>exact .inr ⟨_,rfl,trivial⟩
  ·rw [aZ (by omega)]
   exact .inr ⟨_,rfl,trivial⟩) (s,0,()) ⟨0,rfl,Nat.zero_le _⟩
 exact ⟨r,h⟩
theorem jI (s : ByteArray) (hs : s.size≤1000) : ∃ b,Zbc (s,())=some (b,())∧Zr (s,())=some (b,()):=by
 obtain ⟨r,hr⟩:=BP s hs
 have hw : ∃ n,Zbw (s,())=some (n,()):=by
  unfold Zbw
  rw [hr]
  cases r with
  | inl z=>exact ⟨z.1,rfl⟩
  | inr e=>cases e
 have hk:=vK s
 obtain ⟨n,hn⟩:=hw
 obtain ⟨b,hb⟩:=hk
 have hn' : Zak (s,())=some (n,()):=hn
 have hb' : Zm (s,())=some (b,()):=hb
 unfold Zbc Zr
 simp only [hn,hb,hn',hb',Option.bind_some]
 cases neS s _ <;> cases leI (s.size : Int) 16 <;> cases eqI n (s.size : Int) <;> exact ⟨_,rfl,rfl⟩
theorem oE (s : ByteArray) (hs : s.size≤1000) : ∃ b,Zt (s,())=some (b,())∧Zbk (s,())=some (cond (gtI (s.size : Int) 32) 2 (cond b 0 7),()):=by
 have hlen : (bQ s).length=s.size:=by simp [bQ]
 obtain ⟨r,u,h1,h2,h3⟩:=qo (B:=xW) (C:=sR) (fun x y=>∃ i : Nat,x=(s,(i : Int),())∧y=(bQ s,((bQ s).length : Int),(i : Int),())∧i≤s.size) (fun x=>s.size - x.2.1.toNat)
  (fun r u=>(r=.inl (false,())∧u=.inl (7,()))∨(r=.inr (.inl ())∧u=.inr (.inl ()))) (by
  rintro x y ⟨i,rfl,rfl,hi⟩
  simp only [xW,sR,hlen]
  by_cases h : i < s.size
  ·have hl : i < s.data.toList.length:=by simpa using h
   rw [bi (show (i : Int) < (s.size : Int) by omega),cond_true,cond_true,aB,List.getElem?_eq_getElem hl,s8 (by omega)]
   have hb : (bQ s)[i]?=some (s.data.toList[i].toNat : Int):=by
    unfold bQ
    rw [List.getElem?_map,List.getElem?_eq_getElem hl]; rfl
   simp only [Option.bind_some,hb,cR (show i < 9223372036854775807 by omega)]
   cases ltI (s.data.toList[i].toNat : Int) 32 with
   | true=>exact .inr ⟨_,_,rfl,rfl,.inl ⟨rfl,rfl⟩⟩
   | false =>
    cases gtI (s.data.toList[i].toNat : Int) 126 with
    | true=>exact .inr ⟨_,_,rfl,rfl,.inl ⟨rfl,rfl⟩⟩
    | false=>exact .inl ⟨_,_,rfl,rfl,⟨i+1,rfl,rfl,h⟩,by show s.size - ((i+1 : Nat) : Int).toNat < s.size - (i : Int).toNat; omega⟩
  ·rw [aZ (show (s.size : Int)≤(i : Int) by omega)]
   exact .inr ⟨_,_,rfl,rfl,.inr ⟨rfl,rfl⟩⟩) (s,0,()) (bQ s,((bQ s).length : Int),0,()) ⟨0,rfl,rfl,Nat.zero_le _⟩
 unfold Zt Zbk
 have h1' : CY (s,0,())=some r:=h1
 have h2' : xz (bQ s,((bQ s).length : Int),0,())=some u:=h2
 simp only [h1',h2',Option.bind_some]
 rcases h3 with ⟨rfl,rfl⟩ | ⟨rfl,rfl⟩
 ·exact ⟨false,rfl,by cases gtI (s.size : Int) 32 <;> rfl⟩
 ·exact ⟨true,rfl,by cases gtI (s.size : Int) 32 <;> rfl⟩
end Go.Vm

/-
 AuditCounts: ports, nodes, clusters, edges, valid graphs, in the program and in the reference.
-/
namespace Go.Vm
open Go.Proofs
set_option maxRecDepth 100000
attribute [local irreducible] ai
theorem wK (l : List lZ) (hl : l.length≤1000) (i : Nat) (hi : i < l.length) (p : lZ) (hp : l[i]?=some p) :
  ∃ b,Zd (l.take i,((p.1,p.2.1,()),()),())=some (b,())∧yK (l,(i : Int),0,())=some (cond b (.inl (6,())) (.inr (.inl (l,(i : Int),())))):=by
 have hlen : (l.take i).length=i:=by rw [List.length_take]; omega
 obtain ⟨r,u,h1,h2,h3⟩:=qo (B:=zh) (C:=yl)
  (fun x y=>∃ k : Nat,x=(l.take i,((p.1,p.2.1,()),()),(i : Int),(k : Int),())∧y=(l,(i : Int),(k : Int),())∧k≤i) (fun x=>i - x.2.2.2.1.toNat)
  (fun r u=>(∃ k : Nat,r=.inl ((k : Int),())∧u=.inl (6,()))∨(r=.inr (.inl ())∧u=.inr (.inl (l,(i : Int),())))) (by
  rintro x y ⟨k,rfl,rfl,hk⟩
  simp only [zh,yl]
  by_cases h : k < i
  ·have hkl : k < l.length:=by omega
   have e1 : (l.take i)[k]?=l[k]?:=by rw [List.getElem?_take,if_pos h]
   rw [bi (show (k : Int) < (i : Int) by omega),cond_true,cond_true,aB,aB,e1,List.getElem?_eq_getElem hkl,aB,hp]
   simp only [Option.bind_some,Zaz,cR (show k < 9223372036854775807 by omega)]
   cases eqS l[k].1 p.1 with
   | true=>exact .inr ⟨_,_,rfl,rfl,.inl ⟨k,rfl,rfl⟩⟩
   | false=>exact .inl ⟨_,_,rfl,rfl,⟨k+1,rfl,rfl,h⟩,by show i - ((k+1 : Nat) : Int).toNat < i - (k : Int).toNat; omega⟩
  ·rw [aZ (show (i : Int)≤(k : Int) by omega)]
   exact .inr ⟨_,_,rfl,rfl,.inr ⟨rfl,rfl⟩⟩) (l.take i,((p.1,p.2.1,()),()),(i : Int),0,()) (l,(i : Int),0,()) ⟨0,rfl,rfl,Nat.zero_le _⟩
 have h1' : Dy (l.take i,((p.1,p.2.1,()),()),(i : Int),0,())=some r:=h1
 have h2' : yK (l,(i : Int),0,())=some u:=h2
 unfold Zd Zg
 simp only [hlen,h1',h2',Option.bind_some]
 rcases h3 with ⟨k,rfl,rfl⟩ | ⟨rfl,rfl⟩
 ·exact ⟨true,by simp only [Sum.elim_inl,Option.bind_some]; rw [gX (by omega)],rfl⟩
 ·exact ⟨false,rfl,rfl⟩
theorem fN {α : Type} {l : List α} {i : Nat} (h : i≤l.length) : js l 0 (i : Int)=some (l.take i):=by
 unfold js
 rw [if_pos ⟨by omega,by omega,by omega⟩]
 simp
theorem wD (l : List lZ) (hl : l.length≤1000) (hn : ∀ p∈l,p.1.size≤1000) :
  ∃ e,Zu (l,())=some (e,())∧Zbi (l,())=some (cond (gtI (l.length : Int) 8) 2 e,()):=by
 obtain ⟨r,u,h1,h2,h3⟩:=qo (B:=tD) (C:=yf) (fun x y=>∃ i : Nat,x=(l,l,(l.length : Int),(i : Int),())∧y=(l,(i : Int),())∧i≤l.length) (fun x=>l.length - x.2.2.2.1.toNat)
  (fun r u=>r=u) (by
  rintro x y ⟨i,rfl,rfl,hi⟩
  simp only [tD,yf]
  by_cases h : i < l.length
  ·have hp : l[i]?=some l[i]:=List.getElem?_eq_getElem h
   obtain ⟨b,n1,n2⟩:=jI l[i].1 (hn _ (List.getElem_mem h))
   obtain ⟨c,p1,p2⟩:=wK l hl i h l[i] hp
   rw [bi (show (i : Int) < (l.length : Int) by omega),cond_true,cond_true,aB,hp]
   simp only [Option.bind_some,n1,n2,fN hi,p1,p2,cR (show i < 9223372036854775807 by omega)]
   cases b with
   | false=>exact .inr ⟨_,_,rfl,rfl,rfl⟩
   | true =>
    cases c with
    | true=>exact .inr ⟨_,_,rfl,rfl,rfl⟩
    | false =>
     simp only [Bool.not_true,cond_false,Sum.elim_inr,Sum.elim_inl,aB,hp,Option.bind_some]
     cases ltI l[i].2.1 0 with
     | true=>exact .inr ⟨_,_,rfl,rfl,rfl⟩
     | false =>
      cases gtI l[i].2.1 3 with
      | true=>exact .inr ⟨_,_,rfl,rfl,rfl⟩
      | false=>exact .inl ⟨_,_,rfl,rfl,⟨i+1,rfl,by simp only [cR (show i < 9223372036854775807 by omega)],h⟩,by show l.length - ((i+1 : Nat) : Int).toNat < l.length - (i : Int).toNat; omega⟩
  ·rw [aZ (show (l.length : Int)≤(i : Int) by omega)]
   exact .inr ⟨_,_,rfl,rfl,rfl⟩) (l,l,(l.length : Int),0,()) (l,0,()) ⟨0,rfl,rfl,Nat.zero_le _⟩
 have h1' : wI (l,l,(l.length : Int),0,())=some r:=h1
 have h2' : Dh (l,0,())=some u:=h2
 subst h3
 unfold Zu Zbi
 simp only [h1',h2',Option.bind_some]
 match r with
 | .inl z=>exact ⟨z.1,rfl,by cases gtI (l.length : Int) 8 <;> rfl⟩
 | .inr (.inl z)=>exact ⟨0,rfl,by cases gtI (l.length : Int) 8 <;> rfl⟩
section
variable {a : ByteArray} {b : Bool} {c : List qB} {d : List vQ} {e : List lZ}
theorem qM (hc : c.length≤1000) (s : ByteArray) : ∃ n : Int,(n=-1∨0≤n)∧Zbp ((a,b,c,d,e,()),s,())=some (n,())∧Zam ((a,b,c,d,e,()),s,())=some (n,()) ∧
  (∀ (i : Nat) (x : qB),c[i]?=some x→x.1=s→n≤(i : Int)):=by
 obtain ⟨r,u,h1,h2,h3⟩:=qo (B:=xU) (C:=rZ)
  (fun x y=>∃ k : Nat,x=(c,(s,()),(c.length : Int),(k : Int),())∧y=(a,b,c,d,e,s,(k : Int),())∧k≤c.length∧∀ (i : Nat) (x : qB),i < k→c[i]?=some x→x.1≠s) (fun x=>c.length - x.2.2.2.1.toNat)
  (fun r u=>r=u∧((∃ k : Nat,r=.inl ((k : Int),())∧∀ (i : Nat) (x : qB),c[i]?=some x→x.1=s→k≤i)∨r=.inr (.inl ())∧∀ (i : Nat) (x : qB),c[i]?=some x→x.1≠s)) (by
  rintro x y ⟨k,rfl,rfl,hk,hno⟩
  simp only [xU,rZ]
  by_cases h : k < c.length
  ·have hp : c[k]?=some c[k]:=List.getElem?_eq_getElem h
   rw [bi (show (k : Int) < (c.length : Int) by omega),cond_true,cond_true,aB,hp]
   simp only [Option.bind_some,Zbe,cR (show k < 9223372036854775807 by omega)]
   cases hq : eqS c[k].1 s with
   | true =>
    refine .inr ⟨_,_,rfl,rfl,rfl,.inl ⟨k,rfl,fun i x hx hs=>?_⟩⟩
    rcases Nat.lt_or_ge i k with hik | hik
    ·exact absurd hs (hno i x hik hx)
    ·exact hik
   | false =>
    refine .inl ⟨_,_,rfl,rfl,⟨k+1,rfl,rfl,h,fun i x hik hx=>?_⟩,by show c.length - ((k+1 : Nat) : Int).toNat < c.length - (k : Int).toNat; omega⟩
    rcases Nat.lt_or_ge i k with hik' | hik'
    ·exact hno i x hik' hx
    ·have : i=k:=by omega
     subst this
     rw [hp] at hx
     cases hx
     intro e
     rw [e] at hq
     simp [eqS] at hq
  ·rw [aZ (show (c.length : Int)≤(k : Int) by omega)]
   refine .inr ⟨_,_,rfl,rfl,rfl,.inr ⟨rfl,fun i x hx=>hno i x ?_ hx⟩⟩
   have:=(List.getElem?_eq_some_iff.1 hx).1
   omega) (c,(s,()),(c.length : Int),0,()) (a,b,c,d,e,s,0,()) ⟨0,rfl,rfl,Nat.zero_le _,fun i x h=>by omega⟩
 have h1' : C5 (c,(s,()),(c.length : Int),0,())=some r:=h1
 have h2' : wE (a,b,c,d,e,s,0,())=some u:=h2
 obtain ⟨rfl,h3⟩:=h3
 unfold Zbp Zam Zh
 simp only [h1',h2',Option.bind_some]
 rcases h3 with ⟨k,rfl,hk⟩ | ⟨rfl,hk⟩
 ·exact ⟨k,.inr (by omega),rfl,rfl,fun i x hx hs=>by have:=hk i x hx hs; omega⟩
 ·exact ⟨-1,.inl rfl,rfl,rfl,fun i x hx hs=>absurd hs (hk i x hx)⟩
structure FewG (a : ByteArray) (c : List qB) (d : List vQ) (e : List lZ) : Prop where
 ha : a.size≤1000
 hc : c.length≤1000
 hd : d.length≤1000
 he : e.length≤1000
 hn : ∀ x∈c,x.1.size≤1000∧x.2.1.size≤1000∧x.2.2.2.2.2.1.length≤1000∧∀ p∈x.2.2.2.2.2.1,p.1.size≤1000
 hl : ∀ x∈d,x.2.2.2.2.1.size≤1000
 hk : ∀ x∈e,x.1.size≤1000
theorem Bq (n : Int) : Zbn (n,())=some (!(ltI n 1 || gtI n 1048576),()):=by
 unfold Zbn
 by_cases h : 1≤n
 ·rw [gX h,aZ h]
  by_cases h2 : n≤1048576
  ·rw [Fq h2,nE h2]; rfl
  ·rw [E4 (by omega),nu (by omega)]; rfl
 ·rw [jc (by omega),bi (by omega)]; rfl
theorem Ah (H : FewG a c d e) {i : Nat} (hi : i < c.length) : ∃ n,Zbt ((a,b,c,d,e,()),(i : Int),())=some (n,())∧Zah ((a,b,c,d,e,()),(i : Int),())=some (n,()):=by
 have hp : c[i]?=some c[i]:=List.getElem?_eq_getElem hi
 obtain ⟨q1,q2,q3,q4⟩:=H.hn _ (List.getElem_mem hi)
 obtain ⟨nb,n1,n2⟩:=jI c[i].1 q1
 obtain ⟨f,f0,f1,f2,f3⟩:=qM (a:=a) (b:=b) (d:=d) (e:=e) H.hc c[i].1
 have f3:=f3 i _ hp rfl
 obtain ⟨lb,l1,l2⟩:=oE c[i].2.1 q2
 obtain ⟨pe,p1,p2⟩:=wD c[i].2.2.2.2.2.1 q3 q4
 have hf : ltI f (i : Int)=neI f (i : Int):=by
  by_cases h : f < i
  ·rw [bi h,C1 (by omega)]
  ·rw [aZ (by omega),tU (by omega)]
 unfold Zbt Zah
 simp only [aB,hp,Option.bind_some,n1,n2,f1,f2,l1,l2,p1,p2,Bq,hf]
 cases nb with
 | false=>exact ⟨_,rfl,rfl⟩
 | true =>
  simp only [Bool.not_true,cond_false,Bool.not_not]
  cases neI f (i : Int) with
  | true=>exact ⟨_,rfl,rfl⟩
  | false =>
   simp only [cond_false]
   cases gtI (c[i].2.1.size : Int) 32 with
   | true=>exact ⟨_,rfl,rfl⟩
   | false =>
    cases lb with
    | false=>exact ⟨_,rfl,rfl⟩
    | true =>
     simp only [cond_false,cond_true,Bool.not_true,tU (show (0 : Int)=0 from rfl)]
     cases ltI c[i].2.2.1 1 <;> cases gtI c[i].2.2.1 1048576 <;> cases ltI c[i].2.2.2.1 1 <;> cases gtI c[i].2.2.2.1 1048576 <;> cases ltI c[i].2.2.2.2.1 (-1) <;> cases geI c[i].2.2.2.2.1 (e.length : Int) <;> cases gtI (c[i].2.2.2.2.2.1.length : Int) 8 <;> exact ⟨_,rfl,rfl⟩
end
end Go.Vm

/-
 AuditCounts: clusters, edges, valid graphs, in the program and in the reference.
-/
namespace Go.Vm
open Go.Proofs
set_option maxRecDepth 100000
attribute [local irreducible] ai
section
variable {a : ByteArray} {b : Bool} {c : List qB} {d : List vQ} {e : List lZ}
theorem qE (he : e.length≤1000) (i : Nat) (hi : i < e.length) (p : lZ) :
  ∃ q,Za (e.take i,((p.1,p.2.1,()),()),())=some (q,()) ∧
   zl (a,b,c,d,e,p.1,p.2.1,(i : Int),0,())=some (cond q (.inl (6,())) (.inr (.inl (a,b,c,d,e,p.1,p.2.1,(i : Int),())))):=by
 have hlen : (e.take i).length=i:=by rw [List.length_take]; omega
 obtain ⟨r,u,h1,h2,h3⟩:=qo (B:=x5) (C:=yD)
  (fun x y=>∃ k : Nat,x=(e.take i,((p.1,p.2.1,()),()),(i : Int),(k : Int),())∧y=(a,b,c,d,e,p.1,p.2.1,(i : Int),(k : Int),())∧k≤i) (fun x=>i - x.2.2.2.1.toNat)
  (fun r u=>(∃ k : Nat,r=.inl ((k : Int),())∧u=.inl (6,()))∨(r=.inr (.inl ())∧u=.inr (.inl (a,b,c,d,e,p.1,p.2.1,(i : Int),())))) (by
  rintro x y ⟨k,rfl,rfl,hk⟩
  simp only [x5,yD]
  by_cases h : k < i
  ·have hkl : k < e.length:=by omega
   have e1 : (e.take i)[k]?=e[k]?:=by rw [List.getElem?_take,if_pos h]
   rw [bi (show (k : Int) < (i : Int) by omega),cond_true,cond_true,aB,aB,e1,List.getElem?_eq_getElem hkl]
   simp only [Option.bind_some,Zar,cR (show k < 9223372036854775807 by omega)]
   cases eqS e[k].1 p.1 with
   | true=>exact .inr ⟨_,_,rfl,rfl,.inl ⟨k,rfl,rfl⟩⟩
   | false=>exact .inl ⟨_,_,rfl,rfl,⟨k+1,rfl,rfl,h⟩,by show i - ((k+1 : Nat) : Int).toNat < i - (k : Int).toNat; omega⟩
  ·rw [aZ (show (i : Int)≤(k : Int) by omega)]
   exact .inr ⟨_,_,rfl,rfl,.inr ⟨rfl,rfl⟩⟩) (e.take i,((p.1,p.2.1,()),()),(i : Int),0,()) (a,b,c,d,e,p.1,p.2.1,(i : Int),0,()) ⟨0,rfl,rfl,Nat.zero_le _⟩
 have h1' : C8 (e.take i,((p.1,p.2.1,()),()),(i : Int),0,())=some r:=h1
 have h2' : zl (a,b,c,d,e,p.1,p.2.1,(i : Int),0,())=some u:=h2
 unfold Za Zb
 simp only [hlen,h1',h2',Option.bind_some]
 rcases h3 with ⟨k,rfl,rfl⟩ | ⟨rfl,rfl⟩
 ·exact ⟨true,by simp only [Sum.elim_inl,Option.bind_some]; rw [gX (by omega)],rfl⟩
 ·exact ⟨false,rfl,rfl⟩
def u7 (e : List lZ) (i : Nat) : Prop:=∀ k (x : lZ),k < i→e[k]?=some x→-1≤x.2.1∧x.2.1 < k
theorem vW (he : e.length≤1000) {i : Nat} (hi : i < e.length) (hp : u7 e (i+1)) : ∃ n : Int,Zbh ((a,b,c,d,e,()),(i : Int),())=some (n,())∧Zz ((a,b,c,d,e,()),(i : Int),())=some (n,()):=by
 obtain ⟨r,u,h1,h2,h3⟩:=qo (B:=sV) (C:=yo)
  (fun x y=>∃ (g : Int) (l : List Int),x=(a,b,c,d,e,l,g,())∧y=(a,b,c,d,e,g,(l.length : Int),())∧-1≤g∧g < e.length∧g≤i∧l.length+(g+1).toNat≤1000) (fun x=>(x.2.2.2.2.2.2.1+1).toNat)
  (fun r u=>∃ l : List Int,r=.inl (l,())∧u=.inl ((l.length : Int),())) (by
  rintro x y ⟨g,l,rfl,rfl,hg0,hg1,hg2,hg3⟩
  simp only [sV,yo]
  by_cases h : 0≤g
  ·obtain ⟨k,rfl⟩ : ∃ k : Nat,g=(k : Int):=⟨g.toNat,by omega⟩
   have hk : k < e.length:=by omega
   have hx : e[k]?=some e[k]:=List.getElem?_eq_getElem hk
   obtain ⟨r1,r2⟩:=hp k _ (by omega) hx
   rw [gX h,cond_true,cond_true,sH (by simp; omega),aB,hx]
   simp only [Option.bind_some,cR (show l.length < 9223372036854775807 by omega)]
   exact .inl ⟨_,_,rfl,rfl,⟨e[k].2.1,l++[(k : Int)],rfl,by simp,r1,by omega,by omega,by simp; omega⟩,by show (e[k].2.1+1).toNat < ((k : Int)+1).toNat; omega⟩
  ·rw [jc (by omega)]
   exact .inr ⟨_,_,rfl,rfl,l,rfl,rfl⟩) (a,b,c,d,e,[],(i : Int),()) (a,b,c,d,e,(i : Int),0,()) ⟨(i : Int),[],rfl,rfl,by omega,by omega,by omega,by simp; omega⟩
 have h1' : xG (a,b,c,d,e,[],(i : Int),())=some r:=h1
 have h2' : BT (a,b,c,d,e,(i : Int),0,())=some u:=h2
 obtain ⟨l,rfl,rfl⟩:=h3
 unfold Zbh Zbd Zz
 simp only [h1',h2',Option.bind_some,Sum.elim_inl]
 exact ⟨_,rfl,rfl⟩
theorem tc (H : FewG a c d e) {i : Nat} (hi : i < e.length) (hp : u7 e i) : ∃ n,Zay ((a,b,c,d,e,()),(i : Int),())=some (n,())∧Zo ((a,b,c,d,e,()),(i : Int),())=some (n,())∧(n=0→u7 e (i+1)):=by
 have hx : e[i]?=some e[i]:=List.getElem?_eq_getElem hi
 obtain ⟨nb,n1,n2⟩:=jI e[i].1 (H.hk _ (List.getElem_mem hi))
 obtain ⟨f,_,f1,f2,_⟩:=qM (a:=a) (b:=b) (d:=d) (e:=e) H.hc e[i].1
 obtain ⟨q,c1,c2⟩:=qE (a:=a) (b:=b) (c:=c) (d:=d) H.he i hi e[i]
 unfold Zay Zo
 simp only [aB,hx,Option.bind_some,n1,n2,f1,f2,fN (Nat.le_of_lt hi),c1,c2]
 cases nb with
 | false=>exact ⟨_,rfl,rfl,fun h=>by cases h⟩
 | true =>
  simp only [Bool.not_true,cond_false]
  cases q with
  | true =>
   cases geI f 0 with
   | true=>exact ⟨_,rfl,rfl,fun h=>by cases h⟩
   | false=>exact ⟨_,rfl,rfl,fun h=>by cases h⟩
  | false =>
   simp only [cond_false,Sum.elim_inr,Sum.elim_inl,f2,Option.bind_some]
   cases geI f 0 with
   | true=>exact ⟨_,rfl,rfl,fun h=>by cases h⟩
   | false =>
    simp only [cond_false]
    by_cases h1 : e[i].2.1 < -1
    ·rw [bi h1]; exact ⟨_,rfl,rfl,fun h=>by cases h⟩
    ·rw [aZ (by omega)]
     by_cases h2 : (i : Int)≤e[i].2.1
     ·rw [gX h2]; exact ⟨_,rfl,rfl,fun h=>by cases h⟩
     ·rw [jc (by omega)]
      have hp' : u7 e (i+1):=by
       intro k x hk hkx
       rcases Nat.lt_or_ge k i with h | h
       ·exact hp k x h hkx
       ·have : k=i:=by omega
        subst this
        rw [hx] at hkx
        cases hkx
        exact ⟨by omega,by omega⟩
      obtain ⟨n,d1,d2⟩:=vW (a:=a) (b:=b) (c:=c) (d:=d) H.he hi hp'
      simp only [cond_false,d1,d2,Option.bind_some]
      cases gtI n 6 with
      | true=>exact ⟨_,rfl,rfl,fun h=>by cases h⟩
      | false=>exact ⟨_,rfl,rfl,fun _=>hp'⟩
theorem D9 (x y k : Int) : ltI (jw x y) k=(ltI x k || ltI y k):=by
 unfold jw
 split
 ·by_cases h : y < k
  ·rw [bi h,Bool.or_true]
  ·rw [aZ (by omega),aZ (by omega)]; rfl
 ·by_cases h : x < k
  ·rw [bi h,Bool.true_or]
  ·rw [aZ (by omega),aZ (by omega)]; rfl
theorem DU (x y k : Int) : geI (maxI x y) k=(geI x k || geI y k):=by
 unfold maxI
 split
 ·by_cases h : k≤y
  ·rw [gX h,Bool.or_true]
  ·rw [jc (by omega),jc (by omega)]; rfl
 ·by_cases h : k≤x
  ·rw [gX h,Bool.true_or]
  ·rw [jc (by omega),jc (by omega)]; rfl
theorem Ab (H : FewG a c d e) (x : vQ) (hx : x∈d) : ∃ n,Zbr ((a,b,c,d,e,()),(x.1,x.2.1,x.2.2.1,x.2.2.2.1,x.2.2.2.2.1,x.2.2.2.2.2.1,x.2.2.2.2.2.2.1,()),())=some (n,())∧Zaj ((a,b,c,d,e,()),x,())=some (n,()):=by
 obtain ⟨u,v,p,q,s,w,l,_⟩:=x
 obtain ⟨lb,l1,l2⟩:=oE s (H.hl _ hx)
 unfold Zbr Zaj
 simp only [D9,DU,l1,l2,Option.bind_some]
 by_cases h1 : u < 0
 ·rw [bi h1]; exact ⟨_,rfl,rfl⟩
 ·by_cases h2 : v < 0
  ·rw [aZ (show (0 : Int)≤u by omega),bi h2]
   by_cases h3 : (c.length : Int)≤u
   ·rw [gX h3]; exact ⟨_,rfl,rfl⟩
   ·rw [jc (by omega)]; exact ⟨_,rfl,rfl⟩
  ·rw [aZ (show (0 : Int)≤u by omega),aZ (show (0 : Int)≤v by omega)]
   by_cases h3 : (c.length : Int)≤u
   ·rw [gX h3]; exact ⟨_,rfl,rfl⟩
   ·by_cases h4 : (c.length : Int)≤v
    ·rw [jc (show u < (c.length : Int) by omega),gX h4]; exact ⟨_,rfl,rfl⟩
    ·rw [jc (show u < (c.length : Int) by omega),jc (show v < (c.length : Int) by omega)]
     have hu : u.toNat < c.length:=by omega
     have hv : v.toNat < c.length:=by omega
     rw [uP (by omega),uP (by omega),List.getElem?_eq_getElem hu,List.getElem?_eq_getElem hv]
     simp only [Option.bind_some,Bool.or_false,cond_false]
     cases ltI p (-1) <;> cases ltI q (-1) <;> cases geI p (c[u.toNat].2.2.2.2.2.1.length : Int) <;> cases geI q (c[v.toNat].2.2.2.2.2.1.length : Int) <;> first | exact ⟨_,rfl,rfl⟩ | skip
     simp only [Bool.or_false,cond_false]
     cases gtI (s.size : Int) 32 with
     | true=>exact ⟨_,rfl,rfl⟩
     | false =>
      cases lb with
      | false=>exact ⟨_,rfl,rfl⟩
      | true =>
       simp only [cond_false,cond_true,Bool.not_true,tU (show (0 : Int)=0 from rfl)]
       cases ltI w 1 <;> cases gtI w 1000 <;> cases ltI l 1 <;> cases gtI l 64 <;> exact ⟨_,rfl,rfl⟩
theorem uV (H : FewG a c d e) : ∃ r,wU (a,b,c,d,e,(c.length : Int),0,())=some r∧xg (a,b,c,d,e,0,())=some r∧(∀ z,r=.inr (.inl z)→z=(a,b,c,d,e,())):=by
 obtain ⟨r,u,h1,h2,h3,h4⟩:=qo (B:=sF) (C:=tw) (fun x y=>∃ i : Nat,x=(a,b,c,d,e,(c.length : Int),(i : Int),())∧y=(a,b,c,d,e,(i : Int),())∧i≤c.length) (fun x=>c.length - x.2.2.2.2.2.2.1.toNat)
  (fun r u=>r=u∧∀ z,r=.inr (.inl z)→z=(a,b,c,d,e,())) (by
  rintro x y ⟨i,rfl,rfl,hi⟩
  have hcl:=H.hc
  simp only [sF,tw]
  by_cases h : i < c.length
  ·obtain ⟨n,n1,n2⟩:=Ah (b:=b) H h
   rw [bi (show (i : Int) < (c.length : Int) by omega),cond_true,cond_true,n1,n2]
   simp only [Option.bind_some,cR (show i < 9223372036854775807 by omega)]
   cases neI n 0 with
   | true=>exact .inr ⟨_,_,rfl,rfl,rfl,fun z hz=>by cases hz⟩
   | false=>exact .inl ⟨_,_,rfl,rfl,⟨i+1,rfl,rfl,h⟩,by show c.length - ((i+1 : Nat) : Int).toNat < c.length - (i : Int).toNat; omega⟩
  ·rw [aZ (show (c.length : Int)≤(i : Int) by omega)]
   exact .inr ⟨_,_,rfl,rfl,rfl,fun z hz=>by cases hz; rfl⟩) (a,b,c,d,e,(c.length : Int),0,()) (a,b,c,d,e,0,()) ⟨0,rfl,rfl,Nat.zero_le _⟩
 subst h3
 exact ⟨r,h1,h2,h4⟩
theorem oN (H : FewG a c d e) : ∃ r,sE (a,b,c,d,e,(e.length : Int),0,())=some r∧tF (a,b,c,d,e,0,())=some r∧(∀ z,r=.inr (.inl z)→z=(a,b,c,d,e,())):=by
 obtain ⟨r,u,h1,h2,h3,h4⟩:=qo (B:=og) (C:=nQ) (fun x y=>∃ i : Nat,x=(a,b,c,d,e,(e.length : Int),(i : Int),())∧y=(a,b,c,d,e,(i : Int),())∧i≤e.length∧u7 e i) (fun x=>e.length - x.2.2.2.2.2.2.1.toNat)
  (fun r u=>r=u∧∀ z,r=.inr (.inl z)→z=(a,b,c,d,e,())) (by
  rintro x y ⟨i,rfl,rfl,hi,hpar⟩
  have hel:=H.he
  simp only [og,nQ]
  by_cases h : i < e.length
  ·obtain ⟨n,n1,n2,n3⟩:=tc (b:=b) H h hpar
   rw [bi (show (i : Int) < (e.length : Int) by omega),cond_true,cond_true,n1,n2]
   simp only [Option.bind_some,cR (show i < 9223372036854775807 by omega)]
   by_cases hn : n=0
   ·rw [tU hn]
    exact .inl ⟨_,_,rfl,rfl,⟨i+1,rfl,rfl,h,n3 hn⟩,by show e.length - ((i+1 : Nat) : Int).toNat < e.length - (i : Int).toNat; omega⟩
   ·rw [C1 hn]
    exact .inr ⟨_,_,rfl,rfl,rfl,fun z hz=>by cases hz⟩
  ·rw [aZ (show (e.length : Int)≤(i : Int) by omega)]
   exact .inr ⟨_,_,rfl,rfl,rfl,fun z hz=>by cases hz; rfl⟩) (a,b,c,d,e,(e.length : Int),0,()) (a,b,c,d,e,0,()) ⟨0,rfl,rfl,Nat.zero_le _,fun k x h=>by omega⟩
 subst h3
 exact ⟨r,h1,h2,h4⟩
theorem tS (H : FewG a c d e) : ∃ r,tg (a,b,c,d,e,d,(d.length : Int),0,())=some r∧sO (a,b,c,d,e,0,())=some r:=by
 obtain ⟨r,u,h1,h2,h3⟩:=qo (B:=om) (C:=od) (fun x y=>∃ i : Nat,x=(a,b,c,d,e,d,(d.length : Int),(i : Int),())∧y=(a,b,c,d,e,(i : Int),())∧i≤d.length) (fun x=>d.length - x.2.2.2.2.2.2.2.1.toNat)
  (fun r u=>r=u) (by
  rintro x y ⟨i,rfl,rfl,hi⟩
  have hdl:=H.hd
  simp only [om,od]
  by_cases h : i < d.length
  ·have hx : d[i]?=some d[i]:=List.getElem?_eq_getElem h
   obtain ⟨n,n1,n2⟩:=Ab (b:=b) H _ (List.getElem_mem h)
   rw [bi (show (i : Int) < (d.length : Int) by omega),cond_true,cond_true,aB,hx]
   simp only [Option.bind_some,n1,n2,cR (show i < 9223372036854775807 by omega)]
   cases neI n 0 with
   | true=>exact .inr ⟨_,_,rfl,rfl,rfl⟩
   | false=>exact .inl ⟨_,_,rfl,rfl,⟨i+1,rfl,rfl,h⟩,by show d.length - ((i+1 : Nat) : Int).toNat < d.length - (i : Int).toNat; omega⟩
  ·rw [aZ (show (d.length : Int)≤(i : Int) by omega)]
   exact .inr ⟨_,_,rfl,rfl,rfl⟩) (a,b,c,d,e,d,(d.length : Int),0,()) (a,b,c,d,e,0,()) ⟨0,rfl,rfl,Nat.zero_le _⟩
 subst h3
 exact ⟨r,h1,h2⟩
theorem xx (H : FewG a c d e) : ∃ n,Zbg ((a,b,c,d,e,()),())=some (n,())∧Zac ((a,b,c,d,e,()),())=some (n,()):=by
 obtain ⟨nb,n1,n2⟩:=jI a H.ha
 obtain ⟨r1,p1,p2,p3⟩:=uV (b:=b) H
 obtain ⟨r2,q1,q2,q3⟩:=oN (b:=b) H
 obtain ⟨r3,s1,s2⟩:=tS (b:=b) H
 unfold Zbg Zac
 simp only [n1,n2,Option.bind_some,p1,p2]
 cases gtI (c.length : Int) 64 with
 | true=>exact ⟨_,rfl,rfl⟩
 | false =>
 cases gtI (d.length : Int) 256 with
 | true=>exact ⟨_,rfl,rfl⟩
 | false =>
 cases gtI (e.length : Int) 16 with
 | true=>exact ⟨_,rfl,rfl⟩
 | false =>
 cases nb with
 | false=>exact ⟨_,rfl,rfl⟩
 | true =>
 simp only [cond_false,Bool.not_true]
 match r1,p3 with
 | .inl z,_=>exact ⟨_,rfl,rfl⟩
 | .inr (.inl z),p3 =>
  have:=p3 z rfl
  subst this
  simp only [Sum.elim_inr,Sum.elim_inl,q1,q2,Option.bind_some]
  match r2,q3 with
  | .inl z,_=>exact ⟨_,rfl,rfl⟩
  | .inr (.inl z),q3 =>
   have:=q3 z rfl
   subst this
   simp only [Sum.elim_inr,Sum.elim_inl,s1,s2,Option.bind_some]
   match r3 with
   | .inl z=>exact ⟨_,rfl,rfl⟩
   | .inr (.inl z)=>exact ⟨_,rfl,rfl⟩
end
end Go.Vm

/-
 AuditCounts: few, boxes, points, what fits.
-/
namespace Go.Vm
open Go.Proofs
set_option maxRecDepth 100000
attribute [local irreducible] ai
abbrev eU:=Int×Int×Int×Int×Unit
theorem vp {α : Type} (p : α→Bool) : ∀ (l : List α) (i : Nat),lw (fun _ (_ : Unit) a=>some (cond (p a) (.inr ()) (.inl ()))) i () l=some (cond (l.any p) (.inr ()) (.inl ()))
 | [],_=>rfl
 | a :: l,i=>by
  simp only [lw,List.any_cons]
  cases p a with
  | true=>rfl
  | false=>exact vp p l (i+1)
theorem jT {σ ρ α : Type} {B : σ→Option (σ⊕ρ)} (l : List α) (st : Nat→σ) (p : α→Bool) (no yes : ρ)
  (h1 : ∀ i (h : i < l.length),B (st i)=some (cond (p l[i]) (.inr no) (.inl (st (i+1))))) (h2 : B (st l.length)=some (.inr yes)) : ai B (st 0)=some (cond (l.any p) no yes):=by
 have:=Iq (B:=B) (fun (_ : Unit) i=>st i) (fun _=>yes) (fun (_ : Unit)=>no) (fun _ _ a=>some (cond (p a) (.inr ()) (.inl ()))) l (by
  intro s i a ha
  obtain ⟨hi,ha⟩:=List.getElem?_eq_some_iff.1 ha
  rw [h1 i hi,ha]
  cases p a <;> rfl) (fun _=>h2) ()
 rw [vp] at this
 rw [this]
 cases l.any p <;> rfl
theorem uM {α : Type} (w : α→Nat) : ∀ (l : List α) (i n : Nat),lw (ε:=Empty) (fun _ (n : Nat) a=>some (.inl (n+w a))) i n l=some (.inl (n+(l.map w).sum))
 | [],_,_=>rfl
 | a :: l,i,n=>by
  simp only [lw,Option.bind_some,Sum.elim_inl,List.map_cons,List.sum_cons]
  rw [uM w l (i+1) (n+w a),Nat.add_assoc]
theorem ef {σ ρ α : Type} {B : σ→Option (σ⊕ρ)} (l : List α) (w : α→Nat) (W n0 : Nat) (hw : ∀ a∈l,w a≤W) (st : Nat→Nat→σ) (out : Nat→ρ)
  (h1 : ∀ n i (h : i < l.length),n≤n0+i * W→B (st n i)=some (.inl (st (n+w l[i]) (i+1)))) (h2 : ∀ n,B (st n l.length)=some (.inr (out n))) :
  ai B (st n0 0)=some (out (n0+(l.map w).sum)):=by
 have:=Fe (B:=B) (ε:=Empty) (fun i n=>n≤n0+i * W) st out (fun e=>nomatch e) (fun _ n a=>some (.inl (n+w a))) l (by
  intro n i a hn ha
  obtain ⟨hi,ha⟩:=List.getElem?_eq_some_iff.1 ha
  rw [h1 n i hi hn,ha]
  rfl) (by
  intro n i a m hn ha hm
  cases hm
  have:=hw a (List.mem_of_getElem? ha)
  rw [Nat.add_mul,Nat.one_mul]
  omega) (fun n _=>h2 n) n0 (by omega)
 rw [uM] at this
 exact this
theorem oX {α : Type} (w : α→Nat) (W : Nat) : ∀ (l : List α),(∀ a∈l,w a≤W)→(l.map w).sum≤l.length * W
 | [],_=>by simp
 | a :: l,h=>by
  have h1:=h a (List.mem_cons_self ..)
  have h2:=oX w W l (fun b hb=>h b (List.mem_cons_of_mem _ hb))
  rw [List.map_cons,List.sum_cons,List.length_cons,Nat.add_mul,Nat.one_mul]
  omega
section
variable {a : ByteArray} {b : Bool} {c : List qB} {d : List vQ} {e : List lZ}
theorem Au (f g : ByteArray) (h i k : Int) (l : List lZ) (m : Int) (hl : l.length≤9) :
  su (a,b,c,d,e,f,g,h,i,k,l,m,0,())=some (cond (l.any fun p=>gtI (p.1.size : Nat) 40) (.inl (false,())) (.inr (.inl (a,b,c,d,e,m,())))) :=
 jT (B:=lJ) l (fun n=>(a,b,c,d,e,f,g,h,i,k,l,m,(n : Int),())) _ _ _ (by
  intro n hn
  simp only [lJ]
  rw [bi (by omega),cond_true,aB,List.getElem?_eq_getElem hn,cR (by omega)]
  simp only [Option.bind_some]
  cases gtI (l[n].1.size : Nat) 40 <;> rfl) (by
  simp only [lJ]
  rw [aZ (by omega)]; rfl)
def oh (x : qB) : Bool:=gtI (x.1.size : Nat) 40 || (gtI (x.2.1.size : Nat) 80 || (gtI (x.2.2.2.2.2.1.length : Nat) 9 || x.2.2.2.2.2.1.any fun p=>gtI (p.1.size : Nat) 40))
theorem Az (hc : c.length≤8) : wd (a,b,c,d,e,0,())=some (cond (c.any oh) (.inl (false,())) (.inr (.inl (a,b,c,d,e,())))) :=
 jT (B:=qe) c (fun n=>(a,b,c,d,e,(n : Int),())) _ _ _ (by
  intro n hn
  simp only [qe]
  rw [bi (by omega),cond_true,aB,List.getElem?_eq_getElem hn]
  simp only [Option.bind_some,oh]
  cases h1 : gtI (c[n].1.size : Nat) 40 with
  | true=>rfl
  | false =>
  cases h2 : gtI (c[n].2.1.size : Nat) 80 with
  | true=>rfl
  | false =>
  by_cases h3 : c[n].2.2.2.2.2.1.length≤9
  ·rw [nE (show ((c[n].2.2.2.2.2.1.length : Nat) : Int)≤9 by omega)]
   simp only [cond_false,Bool.false_or,Au _ _ _ _ _ _ _ h3,Option.bind_some]
   cases c[n].2.2.2.2.2.1.any fun p=>gtI (p.1.size : Nat) 40 with
   | true=>rfl
   | false=>simp only [cond_false,Sum.elim_inr,Sum.elim_inl,cR (show n < 9223372036854775807 by omega)]
  ·rw [nu (show (9 : Int) < ((c[n].2.2.2.2.2.1.length : Nat) : Int) by omega)]; rfl) (by
  simp only [qe]
  rw [aZ (by omega)]; rfl)
def oe (x : vQ) : Bool:=gtI (x.2.2.2.2.1.size : Nat) 80 || gtI x.2.2.2.2.2.2.1 4
theorem zG (hd : d.length≤8) : sb (a,b,c,d,e,0,())=some (cond (d.any oe) (.inl (false,())) (.inr (.inl (a,b,c,d,e,())))) :=
 jT (B:=l9) d (fun n=>(a,b,c,d,e,(n : Int),())) _ _ _ (by
  intro n hn
  simp only [l9]
  rw [bi (by omega),cond_true,aB,List.getElem?_eq_getElem hn,cR (by omega)]
  simp only [Option.bind_some,oe]
  cases gtI (d[n].2.2.2.2.1.size : Nat) 80 <;> cases gtI d[n].2.2.2.2.2.2.1 4 <;> rfl) (by
  simp only [l9]
  rw [aZ (by omega)]; rfl)
theorem tE (he : e.length≤6) : sj (a,b,c,d,e,0,())=some (cond (e.any fun p=>gtI (p.1.size : Nat) 40) (.inl (false,())) (.inr (.inl ()))) :=
 jT (B:=lU) e (fun n=>(a,b,c,d,e,(n : Int),())) _ _ _ (by
  intro n hn
  simp only [lU]
  rw [bi (by omega),cond_true,aB,List.getElem?_eq_getElem hn,cR (by omega)]
  simp only [Option.bind_some]
  cases gtI (e[n].1.size : Nat) 40 <;> rfl) (by
  simp only [lU]
  rw [aZ (by omega)]; rfl)
theorem dW {x y : Int} (h : gtI x y=false) : x≤y:=by simp [gtI] at h; omega
theorem AB : ∃ r,Zap ((a,b,c,d,e,()),8,8,())=some (r,())∧(r=true→FewG a c d e):=by
 unfold Zap
 simp only
 by_cases h1 : c.length≤8
 ·by_cases h2 : d.length≤8
  ·by_cases h3 : e.length≤6
   ·by_cases h4 : a.size≤40
    ·rw [nE (show ((c.length : Nat) : Int)≤8 by omega),nE (show ((d.length : Nat) : Int)≤8 by omega),nE (show ((e.length : Nat) : Int)≤6 by omega),nE (show ((a.size : Nat) : Int)≤40 by omega)]
     simp only [cond_false,Az h1,Option.bind_some]
     cases hn : c.any oh with
     | true=>exact ⟨_,rfl,fun h=>by cases h⟩
     | false =>
      simp only [cond_false,Sum.elim_inr,Sum.elim_inl,zG h2,Option.bind_some]
      cases hd : d.any oe with
      | true=>exact ⟨_,rfl,fun h=>by cases h⟩
      | false =>
       simp only [cond_false,Sum.elim_inr,Sum.elim_inl,tE h3,Option.bind_some]
       cases he : e.any fun p=>gtI (p.1.size : Nat) 40 with
       | true=>exact ⟨_,rfl,fun h=>by cases h⟩
       | false =>
        refine ⟨_,rfl,fun _=>⟨by omega,by omega,by omega,by omega,fun x hx=>?_,fun x hx=>?_,fun x hx=>?_⟩⟩
        ·have:=List.any_eq_false.1 hn x hx
         simp only [oh,Bool.or_eq_true,not_or,Bool.not_eq_true] at this
         obtain ⟨q1,q2,q3,q4⟩:=this
         have q1:=dW q1
         have q2:=dW q2
         have q3:=dW q3
         refine ⟨by omega,by omega,by omega,fun p hp=>?_⟩
         have:=List.any_eq_false.1 q4 p hp
         have:=dW (Bool.not_eq_true _ ▸ this)
         omega
        ·have:=List.any_eq_false.1 hd x hx
         simp only [oe,Bool.or_eq_true,not_or,Bool.not_eq_true] at this
         have:=dW this.1
         omega
        ·have:=List.any_eq_false.1 he x hx
         have:=dW (Bool.not_eq_true _ ▸ this)
         omega
    ·rw [nu (show (40 : Int) < (a.size : Nat) by omega)]
     cases gtI (c.length : Nat) 8 <;> cases gtI (d.length : Nat) 8 <;> cases gtI (e.length : Nat) 6 <;> exact ⟨_,rfl,fun h=>by cases h⟩
   ·rw [nu (show (6 : Int) < (e.length : Nat) by omega)]
    cases gtI (c.length : Nat) 8 <;> cases gtI (d.length : Nat) 8 <;> exact ⟨_,rfl,fun h=>by cases h⟩
  ·rw [nu (show (8 : Int) < (d.length : Nat) by omega)]
   cases gtI (c.length : Nat) 8 <;> exact ⟨_,rfl,fun h=>by cases h⟩
 ·rw [nu (show (8 : Int) < (c.length : Nat) by omega)]
  exact ⟨_,rfl,fun h=>by cases h⟩
end
section
variable {f g i : List eU} {h : List (List PtD)} {k l m n o p : Int} {q : List Int}
theorem xH : wv (f,g,h,i,k,l,m,n,o,p,q,0,())=some (cond ((h.take 21).any fun r=>gtI (r.length : Nat) 30) (.inl (false,())) (.inr (.inl (f,g,h,i,k,l,m,n,o,p,q,())))) :=
 jT (B:=pV) (h.take 21) (fun j=>(f,g,h,i,k,l,m,n,o,p,q,(j : Int),())) _ _ _ (by
  intro j hj
  rw [List.length_take] at hj
  have hj' : j < h.length:=by omega
  simp only [pV,List.getElem_take]
  rw [bi (by omega),cond_true,bi (by omega),cond_true,aB,List.getElem?_eq_getElem hj',cR (by omega)]
  simp only [Option.bind_some]
  cases gtI (h[j].length : Nat) 30 <;> rfl) (by
  simp only [pV,List.length_take]
  by_cases hh : h.length≤21
  ·rw [aZ (by omega)]; rfl
  ·rw [bi (by omega),aZ (b:=21) (by omega)]; rfl)
structure FewD (f g i : List eU) (h : List (List PtD)) : Prop where
 hf : f.length≤20
 hg : g.length≤20
 hi : i.length≤20
 hh : h.length≤20
 hr : ∀ r∈h,r.length≤30
theorem mb {x y : Int} (h : leI x y=true) : x≤y:=by simpa [leI] using h
theorem uW : ∃ r,Zan ((f,g,h,i,(k,l,m,n,()),o,p,q,()),())=some (r,())∧(r=true→FewD f g i h):=by
 unfold Zan
 simp only [xH,Option.bind_some]
 cases hn : (h.take 21).any fun r=>gtI (r.length : Nat) 30 with
 | true=>exact ⟨_,rfl,fun h=>by cases h⟩
 | false =>
  simp only [cond_false,Sum.elim_inr,Sum.elim_inl]
  cases h1 : leI (f.length : Nat) 20 with
  | false=>exact ⟨_,rfl,fun h=>by cases h⟩
  | true =>
  cases h2 : leI (g.length : Nat) 20 with
  | false=>exact ⟨_,rfl,fun h=>by cases h⟩
  | true =>
  cases h3 : leI (i.length : Nat) 20 with
  | false=>exact ⟨_,rfl,fun h=>by cases h⟩
  | true =>
  cases h4 : leI (h.length : Nat) 20 with
  | false=>exact ⟨_,rfl,fun h=>by cases h⟩
  | true =>
  have h1:=mb h1
  have h2:=mb h2
  have h3:=mb h3
  have h4:=mb h4
  refine ⟨_,rfl,fun _=>⟨by omega,by omega,by omega,by omega,fun r hr=>?_⟩⟩
  rw [List.take_of_length_le (by omega)] at hn
  have:=List.any_eq_false.1 hn r hr
  have:=dW (Bool.not_eq_true _ ▸ this)
  omega
end
def ptB (p : PtD) : Bool:=geI p.1 (-268435456) && (leI p.1 268435456 && (geI p.2.1 (-268435456) && leI p.2.1 268435456))
theorem pM (p : PtD) : Zbq (p,())=some (ptB p,()):=by
 unfold Zbq ptB
 simp only
 cases geI p.1 (-268435456) <;> cases leI p.1 268435456 <;> cases geI p.2.1 (-268435456) <;> rfl
theorem FB (p : PtD) : Zae (p,())=some (ptB p,()):=pM p
def bxB (b : eU) : Bool:=ptB (b.1,b.2.1,()) && (ptB (b.2.2.1,b.2.2.2.1,()) && (leI b.1 b.2.2.1 && leI b.2.1 b.2.2.2.1))
theorem BM (b : eU) : Zbx (b,())=some (bxB b,()):=by
 unfold Zbx bxB
 simp only [pM,Option.bind_some]
 cases ptB (b.1,b.2.1,()) <;> cases ptB (b.2.2.1,b.2.2.2.1,()) <;> cases leI b.1 b.2.2.1 <;> rfl
theorem FZ (b : eU) : Zad (b,())=some (bxB b,()):=BM b
theorem gW (l : List eU) (hl : l.length≤1000) : Zbo (l,())=some (l.all bxB,()):=by
 have h2 : l.all bxB=!l.any (fun b=>!bxB b):=List.all_eq_not_any_not
 have : ∃ k : Int,Zi (l,(),())=some (k,())∧geI k 0=l.any (fun b=>!bxB b):=by
  -- a loop that gives the place
  obtain ⟨r,h,hr⟩:=gw (f:=yb) (fun x=>∃ i : Nat,x=(l,(),(l.length : Int),(i : Int),())∧i≤l.length∧(l.take i).any (fun b=>!bxB b)=false) (fun x=>l.length - x.2.2.2.1.toNat)
   (fun r=>(∃ i : Nat,r=.inl ((i : Int),())∧l.any (fun b=>!bxB b)=true)∨(r=.inr (.inl ())∧l.any (fun b=>!bxB b)=false)) (by
   rintro x ⟨i,rfl,hi,ht⟩
   simp only [yb]
   by_cases h : i < l.length
   ·rw [bi (by omega),cond_true,aB,List.getElem?_eq_getElem h,cR (by omega)]
    simp only [Option.bind_some,Zax,BM]
    cases hb : bxB l[i] with
    | false=>exact .inr ⟨_,rfl,.inl ⟨i,rfl,List.any_eq_true.2 ⟨_,List.getElem_mem h,by simp [hb]⟩⟩⟩
    | true =>
     refine .inl ⟨_,rfl,⟨i+1,rfl,h,?_⟩,by show l.length - ((i+1 : Nat) : Int).toNat < l.length - (i : Int).toNat; omega⟩
     rw [List.take_succ_eq_append_getElem h,List.any_append,ht]
     simp [hb]
   ·rw [aZ (by omega)]
    rw [List.take_of_length_le (by omega)] at ht
    exact .inr ⟨_,rfl,.inr ⟨rfl,ht⟩⟩) (l,(),(l.length : Int),0,()) ⟨0,rfl,Nat.zero_le _,rfl⟩
  have h' : Bd (l,(),(l.length : Int),0,())=some r:=h
  unfold Zi
  simp only [h',Option.bind_some]
  rcases hr with ⟨i,rfl,ha⟩ | ⟨rfl,ha⟩
  ·exact ⟨_,rfl,by rw [ha,gX (by omega)]⟩
  ·exact ⟨_,rfl,by rw [ha]; rfl⟩
 obtain ⟨k,h1,h3⟩:=this
 unfold Zbo Ze
 simp only [h1,Option.bind_some,h3,h2]
theorem mT (l : List eU) (n : Int) (hl : l.length≤1000) : Zab (l,n,())=some (l.all bxB && eqI (l.length : Nat) n,()):=by
 have h2 : l.all bxB=!l.any (fun b=>!bxB b):=List.all_eq_not_any_not
 have h1 : v6 (l,n,0,())=some (cond (l.any fun b=>!bxB b) (.inl (false,())) (.inr (.inl (l,n,())))) :=
  jT (B:=o6) l (fun i=>(l,n,(i : Int),())) _ _ _ (by
   intro i hi
   simp only [o6]
   rw [bi (by omega),cond_true,aB,List.getElem?_eq_getElem hi,cR (by omega)]
   simp only [Option.bind_some,FZ]
   cases bxB l[i] <;> rfl) (by
   simp only [o6]
   rw [aZ (by omega)]; rfl)
 unfold Zab
 simp only [h1,Option.bind_some,h2]
 cases l.any fun b=>!bxB b <;> rfl
end Go.Vm

/-
 AuditCounts: routes, what fits.
-/
namespace Go.Vm
open Go.Proofs
set_option maxRecDepth 100000
attribute [local irreducible] ai
def qT (a b : PtD) : Bool:=(eqI a.1 b.1) && ((eqI a.2.1 b.2.1) && true)
theorem py (a b : PtD) : qT a b=qT b a:=by
 unfold qT
 by_cases h1 : a.1=b.1
 ·by_cases h2 : a.2.1=b.2.1
  ·rw [qI h1,qI h2,qI h1.symm,qI h2.symm]
  ·rw [vJ h2,vJ (Ne.symm h2)]; simp
 ·rw [vJ h1,vJ (Ne.symm h1)]; rfl
def nz (l : List PtD) (i : Nat) : Prop:=∃ a b,0 < i∧l[i - 1]?=some a∧l[i]?=some b∧qT a b=true
theorem uZ (l : List PtD) (hl : l.length≤1000) : ∃ r,Zba (l,())=some (r,())∧(r=true↔∀ i,¬ nz l i):=by
 obtain ⟨r,h,hr⟩:=gw (f:=tN) (fun x=>∃ i : Nat,x=(l,((i+1 : Nat) : Int),())∧i≤l.length∧∀ j,j≤i→¬ nz l j) (fun x=>l.length+1 - x.2.1.toNat)
  (fun r=>(r=.inl (false,())∧∃ i,nz l i)∨(r=.inr (.inl ())∧∀ i,¬ nz l i)) (by
  rintro x ⟨i,rfl,hi,ht⟩
  simp only [tN]
  by_cases h : i+1 < l.length
  ·rw [bi (by omega),cond_true,zR (by omega),show ((i+1 : Nat) : Int) - 1=(i : Nat) by omega,aB,aB,List.getElem?_eq_getElem h,List.getElem?_eq_getElem (show i < l.length by omega),cR (by omega)]
   simp only [Option.bind_some]
   cases hb : (eqI l[i].1 l[i+1].1) && ((eqI l[i].2.1 l[i+1].2.1) && true) with
   | true=>exact .inr ⟨_,rfl,.inl ⟨rfl,i+1,_,_,by omega,List.getElem?_eq_getElem (show i < l.length by omega),List.getElem?_eq_getElem h,hb⟩⟩
   | false =>
    refine .inl ⟨_,rfl,⟨i+1,rfl,by omega,fun j hj=>?_⟩,by show l.length+1 - ((i+1+1 : Nat) : Int).toNat < l.length+1 - ((i+1 : Nat) : Int).toNat; omega⟩
    rcases Nat.lt_or_ge j (i+1) with h' | h'
    ·exact ht j (by omega)
    ·have : j=i+1:=by omega
     subst this
     rintro ⟨a,b,_,h1,h2,h3⟩
     rw [Nat.add_sub_cancel,List.getElem?_eq_getElem (show i < l.length by omega)] at h1
     rw [List.getElem?_eq_getElem h] at h2
     cases h1; cases h2
     rw [qT,hb] at h3
     cases h3
  ·rw [aZ (by omega)]
   refine .inr ⟨_,rfl,.inr ⟨rfl,fun j hj=>?_⟩⟩
   have hj':=hj
   obtain ⟨_,_,_,_,h2,_⟩:=hj
   have:=(List.getElem?_eq_some_iff.1 h2).1
   exact ht j (by omega) hj') (l,1,()) ⟨0,rfl,Nat.zero_le _,fun j hj h=>by obtain ⟨_,_,h,_⟩:=h; omega⟩
 have h' : w9 (l,1,())=some r:=h
 unfold Zba
 simp only [h',Option.bind_some]
 rcases hr with ⟨rfl,i,hi⟩ | ⟨rfl,hn⟩
 ·exact ⟨_,rfl,(fun h=>by cases h),fun h=>absurd hi (h i)⟩
 ·exact ⟨_,rfl,fun _=>hn,fun _=>rfl⟩
theorem wN (l : List PtD) (hl : l.length≤1000) : Zc (l,(),())=some (l.any (fun b=>!ptB b),()):=by
 have : ∃ k : Int,Zf (l,(),())=some (k,())∧geI k 0=l.any (fun b=>!ptB b):=by
  obtain ⟨r,h,hr⟩:=gw (f:=yQ) (fun x=>∃ i : Nat,x=(l,(),(l.length : Int),(i : Int),())∧i≤l.length∧(l.take i).any (fun b=>!ptB b)=false) (fun x=>l.length - x.2.2.2.1.toNat)
   (fun r=>(∃ i : Nat,r=.inl ((i : Int),())∧l.any (fun b=>!ptB b)=true)∨(r=.inr (.inl ())∧l.any (fun b=>!ptB b)=false)) (by
   rintro x ⟨i,rfl,hi,ht⟩
   simp only [yQ]
   by_cases h : i < l.length
   ·rw [bi (by omega),cond_true,aB,List.getElem?_eq_getElem h,cR (by omega)]
    simp only [Option.bind_some,Zbb,pM]
    cases hb : ptB l[i] with
    | false=>exact .inr ⟨_,rfl,.inl ⟨i,rfl,List.any_eq_true.2 ⟨_,List.getElem_mem h,by simp [hb]⟩⟩⟩
    | true =>
     refine .inl ⟨_,rfl,⟨i+1,rfl,h,?_⟩,by show l.length - ((i+1 : Nat) : Int).toNat < l.length - (i : Int).toNat; omega⟩
     rw [List.take_succ_eq_append_getElem h,List.any_append,ht]
     simp [hb]
   ·rw [aZ (by omega)]
    rw [List.take_of_length_le (by omega)] at ht
    exact .inr ⟨_,rfl,.inr ⟨rfl,ht⟩⟩) (l,(),(l.length : Int),0,()) ⟨0,rfl,Nat.zero_le _,rfl⟩
  have h' : Cf (l,(),(l.length : Int),0,())=some r:=h
  unfold Zf
  simp only [h',Option.bind_some]
  rcases hr with ⟨i,rfl,ha⟩ | ⟨rfl,ha⟩
  ·exact ⟨_,rfl,by rw [ha,gX (by omega)]⟩
  ·exact ⟨_,rfl,by rw [ha]; rfl⟩
 obtain ⟨k,h1,h3⟩:=this
 unfold Zc
 simp only [h1,Option.bind_some,h3]
def OkR (l : List PtD) : Prop:=l≠[]∧l.length≤512∧(∀ p∈l,ptB p=true)∧∀ i,¬ nz l i
theorem ln (l : List PtD) (hl : l.length≤1000) : ∃ r,Zbu (l,())=some (r,())∧(r=true↔OkR l):=by
 obtain ⟨r,h1,h2⟩:=uZ l hl
 have h3:=wN l hl
 unfold Zbu Zbl
 simp only [h1,Option.bind_some,h3]
 cases r with
 | false=>exact ⟨_,rfl,(fun h=>by cases h),fun h=>by have:=h2.2 h.2.2.2; cases this⟩
 | true =>
  have h2:=h2.1 rfl
  cases l with
  | nil=>exact ⟨_,rfl,(fun h=>by cases h),fun h=>absurd rfl h.1⟩
  | cons p l =>
   rw [gX (by rw [List.length_cons]; omega)]
   by_cases hs : (p :: l).length≤512
   ·rw [Fq (by omega)]
    simp only [cond_true,Option.bind_some]
    cases ha : (p :: l).any fun b=>!ptB b with
    | true =>
     refine ⟨_,rfl,(fun h=>by cases h),fun h=>?_⟩
     obtain ⟨x,hx,hb⟩:=List.any_eq_true.1 ha
     rw [h.2.2.1 x hx] at hb
     cases hb
    | false =>
     refine ⟨_,rfl,fun _=>⟨by simp,hs,fun x hx=>?_,h2⟩,fun _=>rfl⟩
     have:=List.any_eq_false.1 ha x hx
     simpa using this
   ·rw [E4 (by omega)]
    exact ⟨_,rfl,(fun h=>by cases h),fun h=>absurd h.2.1 hs⟩
theorem mA (l : List PtD) (hl : l.length≤1000) : ∃ r,Zy (l,())=some (r,())∧(r=true↔OkR l):=by
 obtain ⟨r,h,hr⟩:=gw (f:=yg) (fun x=>∃ i : Nat,x=(l,(i : Int),())∧i≤l.length∧(∀ p∈l.take i,ptB p=true)∧∀ j,j < i→¬ nz l j) (fun x=>l.length - x.2.1.toNat)
  (fun r=>(r=.inl (false,())∧¬ ((∀ p∈l,ptB p=true)∧∀ i,¬ nz l i))∨(r=.inr (.inl ())∧(∀ p∈l,ptB p=true)∧∀ i,¬ nz l i)) (by
  rintro x ⟨i,rfl,hi,hp,ht⟩
  simp only [yg]
  by_cases h : i < l.length
  ·rw [bi (by omega),cond_true,aB,List.getElem?_eq_getElem h,cR (by omega)]
   simp only [Option.bind_some,FB]
   cases hb : ptB l[i] with
   | false=>exact .inr ⟨_,rfl,.inl ⟨rfl,fun hh=>by have:=hh.1 _ (List.getElem_mem h); rw [hb] at this; cases this⟩⟩
   | true =>
    have hp' : ∀ p∈l.take (i+1),ptB p=true:=by
     intro p hpm
     rw [List.take_succ_eq_append_getElem h,List.mem_append] at hpm
     rcases hpm with hpm | hpm
     ·exact hp p hpm
     ·rw [List.mem_singleton] at hpm; rw [hpm]; exact hb
    rcases Nat.eq_zero_or_pos i with h0 | h0
    ·subst h0
     rw [show gtI ((0 : Nat) : Int) 0=false from rfl]
     refine .inl ⟨_,rfl,⟨1,rfl,h,hp',fun j hj=>?_⟩,by show l.length - ((0+1 : Nat) : Int).toNat < l.length - ((0 : Nat) : Int).toNat; omega⟩
     rintro ⟨_,_,h,_⟩
     omega
    ·obtain ⟨k,rfl⟩ : ∃ k,i=k+1:=⟨i - 1,by omega⟩
     rw [nu (by omega),zR (by omega),show ((k+1 : Nat) : Int) - 1=(k : Nat) by omega,aB,List.getElem?_eq_getElem (show k < l.length by omega)]
     simp only [Bool.not_true,cond_false,cond_true,Option.bind_some]
     cases hs : (eqI l[k+1].1 l[k].1) && ((eqI l[k+1].2.1 l[k].2.1) && true) with
     | true =>
      refine .inr ⟨_,rfl,.inl ⟨rfl,fun hh=>hh.2 (k+1) ⟨_,_,by omega,List.getElem?_eq_getElem (show k < l.length by omega),List.getElem?_eq_getElem h,?_⟩⟩⟩
      rw [py]; exact hs
     | false =>
      refine .inl ⟨_,rfl,⟨k+1+1,rfl,h,hp',fun j hj=>?_⟩,by show l.length - ((k+1+1 : Nat) : Int).toNat < l.length - ((k+1 : Nat) : Int).toNat; omega⟩
      rcases Nat.lt_or_ge j (k+1) with h' | h'
      ·exact ht j h'
      ·have : j=k+1:=by omega
       subst this
       rintro ⟨a,b,_,h1,h2,h3⟩
       rw [Nat.add_sub_cancel,List.getElem?_eq_getElem (show k < l.length by omega)] at h1
       rw [List.getElem?_eq_getElem h] at h2
       cases h1; cases h2
       rw [py,qT,hs] at h3
       cases h3
  ·rw [aZ (by omega)]
   rw [List.take_of_length_le (by omega)] at hp
   refine .inr ⟨_,rfl,.inr ⟨rfl,hp,fun j hj=>?_⟩⟩
   have hj':=hj
   obtain ⟨_,_,_,_,h2,_⟩:=hj
   have:=(List.getElem?_eq_some_iff.1 h2).1
   exact ht j (by omega) hj') (l,0,()) ⟨0,rfl,Nat.zero_le _,fun p hp=>by simp at hp,fun j hj=>by omega⟩
 have h' : CC (l,0,())=some r:=h
 unfold Zy
 simp only [h',Option.bind_some]
 cases l with
 | nil=>exact ⟨_,rfl,(fun h=>by cases h),fun h=>absurd rfl h.1⟩
 | cons p l =>
  rw [aZ (by rw [List.length_cons]; omega)]
  by_cases hs : (p :: l).length≤512
  ·rw [nE (by omega)]
   rcases hr with ⟨rfl,hn⟩ | ⟨rfl,hn⟩
   ·exact ⟨_,rfl,(fun h=>by cases h),fun h=>absurd h.2.2 hn⟩
   ·exact ⟨_,rfl,fun _=>⟨by simp,hs,hn⟩,fun _=>rfl⟩
  ·rw [nu (by omega)]
   exact ⟨_,rfl,(fun h=>by cases h),fun h=>absurd h.2.1 hs⟩
theorem v8 (l : List PtD) (hl : l.length≤1000) : ∃ r,Zbu (l,())=some (r,())∧Zy (l,())=some (r,())∧(r=true↔OkR l):=by
 obtain ⟨r,h1,h2⟩:=ln l hl
 obtain ⟨s,h3,h4⟩:=mA l hl
 have : r=s:=by
  cases r with
  | true=>exact (h4.2 (h2.1 rfl)).symm
  | false =>
   cases s with
   | false=>rfl
   | true=>exact absurd (h2.2 (h4.1 rfl)) (by simp)
 subst this
 exact ⟨r,h1,h3,h2⟩
section
variable {a : ByteArray} {b : Bool} {c : List qB} {d : List vQ} {e : List lZ} {f g i : List eU} {h : List (List PtD)} {k l m n o p : Int} {q : List Int}
theorem tX (H : FewD f g i h) : ∃ r : Bool,xI (f,g,h,i,k,l,m,n,o,p,q,h,(h.length : Int),0,())=some (cond r (.inr (.inl (f,g,h,i,k,l,m,n,o,p,q,()))) (.inl (false,()))) ∧
  wc (f,g,h,i,k,l,m,n,o,p,q,0,())=some (cond r (.inr (.inl ())) (.inl (false,())))∧(r=true→∀ x∈h,OkR x):=by
 obtain ⟨r,u,h1,h2,h3⟩:=qo (B:=sq) (C:=rY) (fun x y=>∃ j : Nat,x=(f,g,h,i,k,l,m,n,o,p,q,h,(h.length : Int),(j : Int),())∧y=(f,g,h,i,k,l,m,n,o,p,q,(j : Int),())∧j≤h.length∧∀ z∈h.take j,OkR z) (fun x=>h.length - x.2.2.2.2.2.2.2.2.2.2.2.2.2.1.toNat)
  (fun r u=>(r=.inl (false,())∧u=.inl (false,()))∨(r=.inr (.inl (f,g,h,i,k,l,m,n,o,p,q,()))∧u=.inr (.inl ())∧∀ x∈h,OkR x)) (by
  rintro x y ⟨j,rfl,rfl,hj,ht⟩
  have hh:=H.hh
  simp only [sq,rY]
  by_cases hjl : j < h.length
  ·obtain ⟨r,r1,r2,r3⟩:=v8 h[j] (by have:=H.hr _ (List.getElem_mem hjl); omega)
   rw [bi (by omega),cond_true,cond_true,aB,List.getElem?_eq_getElem hjl,cR (by omega)]
   simp only [Option.bind_some,r1,r2]
   cases r with
   | false=>exact .inr ⟨_,_,rfl,rfl,.inl ⟨rfl,rfl⟩⟩
   | true =>
    refine .inl ⟨_,_,rfl,rfl,⟨j+1,rfl,rfl,hjl,fun z hz=>?_⟩,by show h.length - ((j+1 : Nat) : Int).toNat < h.length - (j : Int).toNat; omega⟩
    rw [List.take_succ_eq_append_getElem hjl,List.mem_append] at hz
    rcases hz with hz | hz
    ·exact ht z hz
    ·rw [List.mem_singleton] at hz; rw [hz]; exact r3.1 rfl
  ·rw [aZ (by omega)]
   rw [List.take_of_length_le (by omega)] at ht
   exact .inr ⟨_,_,rfl,rfl,.inr ⟨rfl,rfl,ht⟩⟩) (f,g,h,i,k,l,m,n,o,p,q,h,(h.length : Int),0,()) (f,g,h,i,k,l,m,n,o,p,q,0,()) ⟨0,rfl,rfl,Nat.zero_le _,fun z hz=>by simp at hz⟩
 rcases h3 with ⟨rfl,rfl⟩ | ⟨rfl,rfl,h3⟩
 ·exact ⟨false,h1,h2,fun h=>by cases h⟩
 ·exact ⟨true,h1,h2,fun _=>h3⟩
theorem DZ (x y : Int) : neI x y=!eqI x y:=by
 by_cases h : x=y
 ·rw [tU h,qI h]; rfl
 ·rw [C1 h,vJ h]; rfl
theorem Af (H : FewG a c d e) (K : FewD f g i h) : ∃ r,Zbs ((a,b,c,d,e,()),(f,g,h,i,(k,l,m,n,()),o,p,q,()),())=some (r,()) ∧
  Zag ((a,b,c,d,e,()),(f,g,h,i,(k,l,m,n,()),o,p,q,()),())=some (r,())∧(r=true→∀ x∈h,OkR x):=by
 obtain ⟨v,v1,v2⟩:=xx (b:=b) H
 obtain ⟨t,t1,t2,t3⟩:=tX (k:=k) (l:=l) (m:=m) (n:=n) (o:=o) (p:=p) (q:=q) K
 have kf:=K.hf
 have kg:=K.hg
 have ki:=K.hi
 unfold Zbs Zag
 simp only [v1,v2,Option.bind_some,t1,t2,gW f (by omega),gW g (by omega),gW i (by omega),mT f _ (show f.length≤1000 by omega),mT g _ (show g.length≤1000 by omega),mT i _ (show i.length≤1000 by omega),DZ]
 cases t with
 | false =>
  cases eqI v 0 <;> cases eqI (f.length : Nat) (c.length : Nat) <;> cases eqI (g.length : Nat) (e.length : Nat) <;> cases eqI (h.length : Nat) (d.length : Nat) <;> cases eqI (i.length : Nat) (d.length : Nat) <;> cases f.all bxB <;> cases g.all bxB <;> cases i.all bxB <;> exact ⟨false,rfl,rfl,fun h=>by cases h⟩
 | true =>
  have t3:=t3 rfl
  cases eqI v 0 <;> cases eqI (f.length : Nat) (c.length : Nat) <;> cases eqI (g.length : Nat) (e.length : Nat) <;> cases eqI (h.length : Nat) (d.length : Nat) <;> cases eqI (i.length : Nat) (d.length : Nat) <;> simp only [Bool.and_true,Bool.and_false,Bool.not_true,Bool.not_false,cond_true,cond_false,Option.bind_some,Sum.elim_inr,Sum.elim_inl,gW f (show f.length≤1000 by omega),gW g (show g.length≤1000 by omega),gW i (show i.length≤1000 by omega)] <;> cases f.all bxB <;> cases g.all bxB <;> cases i.all bxB <;> exact ⟨_,rfl,rfl,fun _=>t3⟩
end
end Go.Vm

/-
 AuditCounts: overlaps and crossings.
-/
namespace Go.Vm
open Go.Proofs
set_option maxRecDepth 100000
attribute [local irreducible] ai
def ovB (x y : eU) : Bool:=bxB x && (bxB y && (ltI (maxI x.1 y.1) (jw x.2.2.1 y.2.2.1) && ltI (maxI x.2.1 y.2.1) (jw x.2.2.2.1 y.2.2.2.1)))
theorem EE (x y : eU) : Zbj (x,y,())=some (ovB x y,()):=by
 unfold Zbj ovB
 simp only [BM,Option.bind_some]
 show (cond (bxB x) ((cond (bxB y) (cond (ltI (maxI x.1 y.1) (jw x.2.2.1 y.2.2.1)) _ _) _)) _ : Option (Bool×Unit))=_
 cases bxB x <;> cases bxB y <;> cases ltI (maxI x.1 y.1) (jw x.2.2.1 y.2.2.1) <;> rfl
theorem F5 (x y : eU) : Zp (x,y,())=some (ovB x y,()):=EE x y
def iL (b : Bool) : Nat:=cond b 1 0
theorem jK (b : Bool) : iL b≤1:=by cases b <;> decide
section
variable {f g i : List eU} {h : List (List PtD)} {k l m n o p : Int} {q : List Int}
def tK (z : List eU) (j : Nat) : Nat:=((z.take j).map fun y=>iL (match z[j]? with | some x=>ovB x y | none=>false)).sum
theorem x9 {z : List eU} {j : Nat} {x : eU} (hx : z[j]?=some x) : tK z j=((z.take j).map fun y=>iL (ovB x y)).sum:=by
 unfold tK
 rw [hx]
theorem yV (z : List eU) (j : Nat) (hz : z.length≤40) : tK z j≤40:=by
 have:=oX (fun y=>iL (match z[j]? with | some x=>ovB x y | none=>false)) 1 (z.take j) (fun a _=>jK _)
 rw [List.length_take] at this
 unfold tK
 omega
theorem Hm (z w : List eU) (hz : z.length≤40) (x : eU) (n0 : Nat) (hn : n0≤100000) (u N j : Int) (v : List eU) :
  wx (x.1,x.2.1,x.2.2.1,x.2.2.2.1,w,(n0 : Int),v,N,j,z,(z.length : Int),0,())=some (.inl (w,((n0+(z.map fun y=>iL (ovB x y)).sum : Nat) : Int),v,N,j,())) :=
 ef (B:=oW) z (fun y=>iL (ovB x y)) 1 n0 (fun _ _=>jK _) (fun n i=>(x.1,x.2.1,x.2.2.1,x.2.2.2.1,w,(n : Int),v,N,j,z,(z.length : Int),(i : Int),())) (fun n=>.inl (w,(n : Int),v,N,j,())) (by
  intro n i hi hb
  simp only [oW]
  rw [bi (by omega),cond_true,aB,List.getElem?_eq_getElem hi,cR (show i < 9223372036854775807 by omega),cR (show n < 9223372036854775807 by omega)]
  simp only [Option.bind_some]
  have:=EE x z[i]
  rw [show Zbj ((x.1,x.2.1,x.2.2.1,x.2.2.2.1,()),(z[i].1,z[i].2.1,z[i].2.2.1,z[i].2.2.2.1,()),())=some (ovB x z[i],()) from this]
  simp only [Option.bind_some]
  cases ovB x z[i] <;> rfl) (by
  intro n
  simp only [oW]
  rw [aZ (by omega)]; rfl)
theorem Gk (z : List eU) (hz : z.length≤40) : xE (z,0,z,(z.length : Int),0,())=some (.inl ((((List.range z.length).map (tK z)).sum : Nat),())):=by
 have:=ef (B:=qc) (List.range z.length) (tK z) 40 0 (fun j _=>yV z j hz) (fun n i=>(z,(n : Int),z,(z.length : Int),(i : Int),())) (fun n=>.inl ((n : Int),())) (by
  intro n i hi hb
  rw [List.length_range] at hi
  simp only [qc]
  rw [bi (by omega),cond_true,aB,List.getElem?_eq_getElem hi]
  simp only [Option.bind_some,fN (Nat.le_of_lt hi)]
  rw [Hm (z.take i) z (by rw [List.length_take]; omega) z[i] n (by omega) 0 (z.length : Int) (i : Int) z]
  simp only [Option.bind_some,Sum.elim_inl,List.getElem_range]
  rw [x9 (List.getElem?_eq_getElem hi),cR (show i < 9223372036854775807 by omega)]) (by
  intro n
  simp only [qc,List.length_range]
  rw [aZ (by omega)]; rfl)
 rw [Nat.zero_add] at this
 exact this
theorem Gn (z : List eU) (hz : z.length≤40) (j : Nat) (hj : j < z.length) (n0 : Nat) (hn : n0≤100000) :
  wA (z,(n0 : Int),(j : Int),0,())=some (.inl (z,((n0+tK z j : Nat) : Int),(j : Int),())):=by
 rw [x9 (List.getElem?_eq_getElem hj)]
 exact ef (B:=oU) (z.take j) (fun y=>iL (ovB z[j] y)) 1 n0 (fun _ _=>jK _) (fun n i=>(z,(n : Int),(j : Int),(i : Int),())) (fun n=>.inl (z,(n : Int),(j : Int),())) (by
  intro n i hi hb
  rw [List.length_take] at hi
  have hi' : i < z.length:=by omega
  simp only [oU,List.getElem_take]
  rw [bi (by omega),cond_true,s8 hj,s8 hi']
  simp only [Option.bind_some,List.getElem?_eq_getElem hj,List.getElem?_eq_getElem hi',F5,cR (show i < 9223372036854775807 by omega),cR (show n < 9223372036854775807 by omega)]
  cases ovB z[j] z[i] <;> rfl) (by
  intro n
  simp only [oU,List.length_take]
  rw [aZ (by omega),Nat.min_eq_left (Nat.le_of_lt hj)]; rfl)
theorem DK (z : List eU) (hz : z.length≤40) : ya (z,0,0,())=some (.inl ((((List.range z.length).map (tK z)).sum : Nat),())):=by
 have:=ef (B:=ud) (List.range z.length) (tK z) 40 0 (fun j _=>yV z j hz) (fun n i=>(z,(n : Int),(i : Int),())) (fun n=>.inl ((n : Int),())) (by
  intro n i hi hb
  rw [List.length_range] at hi
  simp only [ud]
  rw [bi (by omega),cond_true,Gn z hz i hi n (by omega)]
  simp only [Option.bind_some,Sum.elim_inl,List.getElem_range]
  rw [cR (show i < 9223372036854775807 by omega)]) (by
  intro n
  simp only [ud,List.length_range]
  rw [aZ (by omega)]; rfl)
 rw [Nat.zero_add] at this
 exact this
theorem zL (z : List eU) (hz : z.length≤1000) : Zai (z,())=some (z,()):=by
 unfold Zai
 have : app [] z=some z:=by rw [sH (by simp; omega)]; rfl
 simp only [this,Option.bind_some]
 cases z with
 | nil=>simp [uh]
 | cons _ _=>rfl
theorem zS (K : FewD f g i h) : ∃ r,Zaw ((f,g,h,i,(k,l,m,n,()),o,p,q,()),())=some (r,())∧((app [] f).bind fun a2=>(app a2 i).bind fun a3=>(ya (a3,0,0,())).bind (Sum.elim (fun z5=>some (z5.1,())) (fun _=>none)))=some (r,()):=by
 have hf:=K.hf
 have hi:=K.hi
 have e1 : app [] f=some f:=by rw [sH (by simp; omega)]; rfl
 have e2 : app f i=some (f++i):=by rw [sH (by omega)]
 have hl : (f++i).length≤40:=by rw [List.length_append]; omega
 unfold Zaw
 simp only [zL f (by omega),e1,e2,Option.bind_some,Gk _ hl,DK _ hl,Sum.elim_inl]
 exact ⟨_,rfl,rfl⟩
end
def otI (a b c : PtD) : Int:=cv .i64 (gj .i64 (cv .i64 b.1 a.1) (cv .i64 c.2.1 a.2.1)) (gj .i64 (cv .i64 b.2.1 a.2.1) (cv .i64 c.1 a.1))
def l5 (n : Int) : Int:=cond (gtI n 0) 1 (cond (ltI n 0) (-1) 0)
def crB (s t : SegD) : Bool:=ltI (gj .i64 (l5 (otI s.1 s.2.1 t.1)) (l5 (otI s.1 s.2.1 t.2.1))) 0 && ltI (gj .i64 (l5 (otI t.1 t.2.1 s.1)) (l5 (otI t.1 t.2.1 s.2.1))) 0
theorem Db (s t : SegD) : crB s t=crB t s:=by unfold crB; exact Bool.and_comm _ _
theorem xZ (s : SegD) (c : PtD) : Zas ((s.1,s.2.1,()),c,())=some (l5 (otI s.1 s.2.1 c),()):=by
 unfold Zas l5 otI
 simp only
 cases gtI (cv .i64 (gj .i64 (cv .i64 s.2.1.1 s.1.1) (cv .i64 c.2.1 s.1.2.1)) (gj .i64 (cv .i64 s.2.1.2.1 s.1.2.1) (cv .i64 c.1 s.1.1))) 0 with
 | true=>rfl
 | false=>cases ltI (cv .i64 (gj .i64 (cv .i64 s.2.1.1 s.1.1) (cv .i64 c.2.1 s.1.2.1)) (gj .i64 (cv .i64 s.2.1.2.1 s.1.2.1) (cv .i64 c.1 s.1.1))) 0 <;> rfl
theorem vE (s t : SegD) : Zaf ((s.1,s.2.1,()),(t.1,t.2.1,()),())=some (ltI (gj .i64 (l5 (otI s.1 s.2.1 t.1)) (l5 (otI s.1 s.2.1 t.2.1))) 0,()):=by
 unfold Zaf
 have h1:=xZ s t.1
 have h2:=xZ s t.2.1
 simp only
 rw [show Zas (((s.1.1,s.1.2.1,()),(s.2.1.1,s.2.1.2.1,()),()),(t.1.1,t.1.2.1,()),())=_ from h1,show Zas (((s.1.1,s.1.2.1,()),(s.2.1.1,s.2.1.2.1,()),()),(t.2.1.1,t.2.1.2.1,()),())=_ from h2]
 rfl
theorem Fj (s : SegD) (h1 : ptB s.1=true) (h2 : ptB s.2.1=true) : Zby ((s.1,s.2.1,()),())=some ((s.1,s.2.1,()),true,()):=by
 unfold Zby
 simp only
 rw [show Zbq ((s.1.1,s.1.2.1,()),())=some (true,()) from (pM s.1).trans (by rw [h1]),show Zbq ((s.2.1.1,s.2.1.2.1,()),())=some (true,()) from (pM s.2.1).trans (by rw [h2])]
 rfl
def okS (s : SegD) : Prop:=ptB s.1=true∧ptB s.2.1=true
theorem CF (s t : SegD) (hs : okS s) (ht : okS t) : Zbv (s,t,())=some (crB s t,()):=by
 unfold Zbv
 simp only
 rw [show Zby (((s.1.1,s.1.2.1,()),(s.2.1.1,s.2.1.2.1,()),()),())=_ from Fj s hs.1 hs.2,show Zby (((t.1.1,t.1.2.1,()),(t.2.1.1,t.2.1.2.1,()),()),())=_ from Fj t ht.1 ht.2]
 simp only [Option.bind_some,cond_true]
 have h1:=vE s t
 have h2:=vE t s
 rw [show Zaf (((s.1.1,s.1.2.1,()),(s.2.1.1,s.2.1.2.1,()),()),((t.1.1,t.1.2.1,()),(t.2.1.1,t.2.1.2.1,()),()),())=_ from h1,show Zaf (((t.1.1,t.1.2.1,()),(t.2.1.1,t.2.1.2.1,()),()),((s.1.1,s.1.2.1,()),(s.2.1.1,s.2.1.2.1,()),()),())=_ from h2]
 unfold crB
 simp only [Option.bind_some]
 cases ltI (gj .i64 (l5 (otI s.1 s.2.1 t.1)) (l5 (otI s.1 s.2.1 t.2.1))) 0 <;> rfl
theorem Br (n : Int) : Zal (n,())=some (l5 n,()):=by
 unfold Zal l5
 by_cases h : n < 0
 ·rw [bi h,nE (by omega)]; rfl
 ·rw [aZ (by omega)]
  cases gtI n 0 <;> rfl
theorem zX (a b c d : PtD) : Zaa (a,b,c,d,())=some (crB (a,b,()) (c,d,()),()):=by
 have ho : ∀ a b c : PtD,Zs (a,b,c,())=some (otI a b c,()):=fun _ _ _=>rfl
 unfold Zaa crB
 simp only
 rw [show Zs ((a.1,a.2.1,()),(b.1,b.2.1,()),(c.1,c.2.1,()),())=_ from ho a b c,show Zs ((a.1,a.2.1,()),(b.1,b.2.1,()),(d.1,d.2.1,()),())=_ from ho a b d,
  show Zs ((c.1,c.2.1,()),(d.1,d.2.1,()),(a.1,a.2.1,()),())=_ from ho c d a,show Zs ((c.1,c.2.1,()),(d.1,d.2.1,()),(b.1,b.2.1,()),())=_ from ho c d b]
 simp only [Option.bind_some,Br]
 cases ltI (gj .i64 (l5 (otI a b c)) (l5 (otI a b d))) 0 <;> rfl
end Go.Vm

/-
 AuditCounts: the counts of crossings; the law.
-/
namespace Go.Vm
open Go.Proofs
set_option maxRecDepth 100000
attribute [local irreducible] ai
theorem yh {α : Type} (v w : α→Nat) : ∀ l : List α,(l.map fun a=>v a+w a).sum=(l.map v).sum+(l.map w).sum
 | []=>rfl
 | a :: l=>by
  simp only [List.map_cons,List.sum_cons,yh v w l]
  omega
theorem uy {α : Type} : ∀ l : List α,(l.map fun _=>0).sum=0
 | []=>rfl
 | _ :: l=>by simp only [List.map_cons,List.sum_cons,uy l]
theorem vl {α β : Type} (w : α→β→Nat) (r : List β) : ∀ l : List α,(l.map fun a=>(r.map fun b=>w a b).sum).sum=(r.map fun b=>(l.map fun a=>w a b).sum).sum
 | []=>by simp only [List.map_nil,List.sum_nil,uy]
 | a :: l=>by simp only [List.map_cons,List.sum_cons,vl w r l,yh]
def crN (x y : List PtD) : Nat:=((sgD x).map fun s=>((sgD y).map fun t=>iL (crB s t)).sum).sum
theorem Dj (x y : List PtD) : crN x y=crN y x:=by
 unfold crN
 rw [vl]
 simp only [Db]
theorem dt (l : List PtD) : (sgD l).length=l.length - 1:=by
 unfold sgD
 rw [List.length_map,List.length_zip,List.length_drop]
 omega
theorem wb (l : List PtD) (i : Nat) (h : i < (sgD l).length) (h1 : i < l.length) (h2 : i+1 < l.length) : (sgD l)[i]=(l[i],l[i+1],()):=by
 rw [List.getElem_of_eq (show sgD l=(List.zip l (l.drop 1)).map (fun p=>(p.1,(p.2,()))) from rfl) h]
 simp only [List.getElem_map,List.getElem_zip,List.getElem_drop]
 simp only [Nat.add_comm 1 i]
theorem Ca (l : List PtD) (h : ∀ p∈l,ptB p=true) : ∀ s∈sgD l,okS s:=by
 intro s hs
 obtain ⟨i,hi,rfl⟩:=List.getElem_of_mem hs
 have hl:=dt l
 rw [wb l i hi (by omega) (by omega)]
 exact ⟨h _ (List.getElem_mem _),h _ (List.getElem_mem _)⟩
theorem xq (x : SegD) (y : List PtD) (hy : y.length≤30) : ((sgD y).map fun t=>iL (crB x t)).sum≤30:=by
 have:=oX (fun t=>iL (crB x t)) 1 (sgD y) (fun _ _=>jK _)
 have:=dt y
 omega
theorem pk (x y : List PtD) (hx : x.length≤30) (hy : y.length≤30) : crN x y≤900:=by
 have h1:=oX (fun s=>((sgD y).map fun t=>iL (crB s t)).sum) 30 (sgD x) (fun s _=>xq s y hy)
 have h2:=dt x
 unfold crN
 have : (sgD x).length * 30≤30 * 30:=Nat.mul_le_mul_right 30 (by omega)
 omega
theorem qV (s : SegD) (hs : okS s) : ∀ (ts : List SegD) (n : Nat),(∀ t∈ts,okS t)→n+ts.length≤1000000→jm Zbv s (n : Int) ts=some ((n+(ts.map fun t=>iL (crB s t)).sum : Nat) : Int)
 | [],n,_,_=>by simp [jm]
 | t :: ts,n,ht,hn=>by
  rw [List.length_cons] at hn
  rw [jm,CF s t hs (ht t (List.mem_cons_self ..)),Option.bind_some,cR (by omega),List.map_cons,List.sum_cons,← Nat.add_assoc]
  have ih:=qV s hs ts (n+iL (crB s t)) (fun u hu=>ht u (List.mem_cons_of_mem _ hu)) (by have:=jK (crB s t); omega)
  rw [← ih]
  cases crB s t <;> rfl
theorem qj (y : List PtD) (hy : y.length≤30) (hyo : ∀ p∈y,ptB p=true) : ∀ (ss : List SegD) (n : Nat),(∀ s∈ss,okS s)→n+ss.length * 30≤900000→fX Zbv (n : Int) ss (sgD y)=some ((n+(ss.map fun s=>((sgD y).map fun t=>iL (crB s t)).sum).sum : Nat) : Int)
 | [],n,_,_=>by simp [fX]
 | s :: ss,n,hs,hn=>by
  rw [List.length_cons,Nat.add_mul,Nat.one_mul] at hn
  have hl:=dt y
  rw [fX,qV s (hs s (List.mem_cons_self ..)) (sgD y) n (Ca y hyo) (by omega),Option.bind_some,List.map_cons,List.sum_cons,← Nat.add_assoc]
  have hr:=xq s y hy
  exact qj y hy hyo ss _ (fun u hu=>hs u (List.mem_cons_of_mem _ hu)) (by omega)
theorem BV (x y : List PtD) (hx : x.length≤30) (hy : y.length≤30) (ox : OkR x) (oy : OkR y) : Zau (x,y,())=some ((crN x y : Int),()):=by
 obtain ⟨r1,a1,a2⟩:=ln x (by omega)
 obtain ⟨r2,b1,b2⟩:=ln y (by omega)
 have a2:=a2.2 ox
 have b2:=b2.2 oy
 subst a2 b2
 have hl:=dt x
 have:=qj y hy oy.2.2.1 (sgD x) 0 (Ca x ox.2.2.1) (by have : (sgD x).length * 30≤30 * 30:=Nat.mul_le_mul_right 30 (by omega); omega)
 show lP Zbu Zbv (x,y,())=_
 unfold lP
 have hs : m5 x y=true:=by
  unfold m5
  rw [Bool.and_eq_true]
  exact ⟨Nat.ble_eq_true_of_le (by omega),Nat.ble_eq_true_of_le (by omega)⟩
 simp only [hs,cond_true,a1,b1,Option.bind_some]
 rw [show ((0 : Nat) : Int)=0 from rfl] at this
 rw [this,Nat.zero_add]
 rfl
theorem FI (x y : List PtD) (i : Nat) (hi : i+1 < x.length) (hx : x.length≤30) (hy : y.length≤30) (hy0 : y≠[]) (n0 : Nat) (hn : n0≤100000) :
  Dp (x,y,(n0 : Int),((i+1 : Nat) : Int),1,())=some (.inl (x,y,((n0+((sgD y).map fun t=>iL (crB (x[i],x[i+1],()) t)).sum : Nat) : Int),((i+1 : Nat) : Int),())):=by
 have hl:=dt y
 have hy1 : 0 < y.length:=List.length_pos_iff.2 hy0
 exact ef (B:=vk) (sgD y) (fun t=>iL (crB (x[i],x[i+1],()) t)) 1 n0 (fun _ _=>jK _) (fun n j=>(x,y,(n : Int),((i+1 : Nat) : Int),((j+1 : Nat) : Int),())) (fun n=>.inl (x,y,(n : Int),((i+1 : Nat) : Int),())) (by
  intro n j hj hb
  simp only [vk]
  rw [bi (by omega),cond_true,zR (by omega),zR (by omega),show ((i+1 : Nat) : Int) - 1=(i : Nat) by omega,show ((j+1 : Nat) : Int) - 1=(j : Nat) by omega,aB,aB,aB,aB,
   List.getElem?_eq_getElem hi,List.getElem?_eq_getElem (show i < x.length by omega),List.getElem?_eq_getElem (show j+1 < y.length by omega),List.getElem?_eq_getElem (show j < y.length by omega),cR (show n < 9223372036854775807 by omega),cR (show j+1 < 9223372036854775807 by omega)]
  simp only [Option.bind_some,zX]
  rw [wb y j hj (by omega) (by omega)]
  cases crB (x[i],x[i+1],()) (y[j],y[j+1],()) <;> rfl) (by
  intro n
  simp only [vk]
  rw [aZ (by omega)]; rfl)
theorem DC (x y : List PtD) (hx : x.length≤30) (hy : y.length≤30) (ox : OkR x) (oy : OkR y) : Zl (x,y,())=some ((crN x y : Int),()):=by
 obtain ⟨r1,a1,a2⟩:=mA x (by omega)
 obtain ⟨r2,b1,b2⟩:=mA y (by omega)
 have a2:=a2.2 ox
 have b2:=b2.2 oy
 subst a2 b2
 have hl:=dt x
 have hx1 : 0 < x.length:=List.length_pos_iff.2 ox.1
 have:=ef (B:=vg) (sgD x) (fun s=>((sgD y).map fun t=>iL (crB s t)).sum) 30 0 (fun s _=>xq s y hy) (fun n j=>(x,y,(n : Int),((j+1 : Nat) : Int),())) (fun n=>.inl ((n : Int),())) (by
  intro n j hj hb
  simp only [vg]
  rw [bi (by omega),cond_true,FI x y j (by omega) hx hy oy.1 n (by omega)]
  simp only [Option.bind_some,Sum.elim_inl]
  rw [wb x j hj (by omega) (by omega),cR (show j+1 < 9223372036854775807 by omega)]) (by
  intro n
  simp only [vg]
  rw [aZ (by omega)]; rfl)
 rw [show 0+((sgD x).map fun s=>((sgD y).map fun t=>iL (crB s t)).sum).sum=crN x y from Nat.zero_add _] at this
 have h5 : CO (x,y,0,1,())=some (.inl ((crN x y : Int),())):=this
 unfold Zl
 simp only [a1,b1,h5,Option.bind_some]
 rfl
section
variable {f g i : List eU} {h : List (List PtD)} {k l m n o p : Int} {q : List Int}
def qq (h : List (List PtD)) (j : Nat) : Nat:=((h.take j).map fun y=>match h[j]? with | some x=>crN y x | none=>0).sum
theorem rT {h : List (List PtD)} {j : Nat} {x : List PtD} (hx : h[j]?=some x) : qq h j=((h.take j).map fun y=>crN y x).sum:=by
 unfold qq
 rw [hx]
theorem yN (K : FewD f g i h) (j : Nat) (hj : j < h.length) : qq h j≤18000:=by
 have hx : h[j]?=some h[j]:=List.getElem?_eq_getElem hj
 rw [rT hx]
 have:=oX (fun y=>crN y h[j]) 900 (h.take j) (fun y hy=>pk _ _ (K.hr _ (List.mem_of_mem_take hy)) (K.hr _ (List.getElem_mem hj)))
 have hh:=K.hh
 have : (h.take j).length * 900≤20 * 900:=Nat.mul_le_mul_right 900 (by rw [List.length_take]; omega)
 omega
theorem qn (K : FewD f g i h) (O : ∀ x∈h,OkR x) (j : Nat) (hj : j < h.length) (n0 : Nat) (hn : n0≤1000000) (v : List (List PtD)) (N J : Int) :
  wg (f,g,h,i,k,l,m,n,o,p,q,(n0 : Int),h[j],v,N,J,h.take j,((h.take j).length : Int),0,())=some (.inl (f,g,h,i,k,l,m,n,o,p,q,((n0+qq h j : Nat) : Int),v,N,J,())):=by
 rw [rT (List.getElem?_eq_getElem hj)]
 exact ef (B:=oL) (h.take j) (fun y=>crN y h[j]) 900 n0 (fun y hy=>pk _ _ (K.hr _ (List.mem_of_mem_take hy)) (K.hr _ (List.getElem_mem hj))) (fun n0 s=>(f,g,h,i,k,l,m,n,o,p,q,(n0 : Int),h[j],v,N,J,h.take j,((h.take j).length : Int),(s : Int),())) (fun n0=>.inl (f,g,h,i,k,l,m,n,o,p,q,(n0 : Int),v,N,J,())) (by
  intro t s hs hb
  have hh:=K.hh
  have hsl : s < h.length:=by rw [List.length_take] at hs; omega
  have hle:=pk h[s] h[j] (K.hr _ (List.getElem_mem hsl)) (K.hr _ (List.getElem_mem hj))
  have hsb : s * 900≤20 * 900:=Nat.mul_le_mul_right 900 (by omega)
  simp only [oL]
  rw [bi (by omega),cond_true,aB,List.getElem?_eq_getElem hs,cR (show s < 9223372036854775807 by omega)]
  simp only [Option.bind_some,List.getElem_take]
  rw [BV h[s] h[j] (K.hr _ (List.getElem_mem hsl)) (K.hr _ (List.getElem_mem hj)) (O _ (List.getElem_mem hsl)) (O _ (List.getElem_mem hj))]
  simp only [Option.bind_some]
  rw [wF (by omega) (by omega),← Int.natCast_add]) (by
  intro t
  simp only [oL]
  rw [aZ (by omega)]; rfl)
theorem wT (K : FewD f g i h) (O : ∀ x∈h,OkR x) : Zat ((f,g,h,i,(k,l,m,n,()),o,p,q,()),())=some (((((List.range h.length).map (qq h)).sum : Nat) : Int),()):=by
 have hh:=K.hh
 have:=ef (B:=pQ) (List.range h.length) (qq h) 18000 0 (fun j hj=>yN K j (List.mem_range.1 hj)) (fun t j=>(f,g,h,i,k,l,m,n,o,p,q,(t : Int),h,(h.length : Int),(j : Int),())) (fun t=>.inl ((t : Int),())) (by
  intro t j hj hb
  rw [List.length_range] at hj
  have hjb : j * 18000≤20 * 18000:=Nat.mul_le_mul_right _ (by omega)
  simp only [pQ]
  rw [bi (by omega),cond_true,aB,List.getElem?_eq_getElem hj]
  simp only [Option.bind_some,fN (Nat.le_of_lt hj)]
  rw [qn K O j hj t (by omega)]
  simp only [Option.bind_some,Sum.elim_inl,List.getElem_range]
  rw [cR (show j < 9223372036854775807 by omega)]) (by
  intro t
  simp only [pQ,List.length_range]
  rw [aZ (by omega)]; rfl)
 rw [Nat.zero_add] at this
 have h3 : vX (f,g,h,i,k,l,m,n,o,p,q,0,h,(h.length : Int),0,())=some (.inl (((((List.range h.length).map (qq h)).sum : Nat) : Int),())):=this
 unfold Zat
 simp only [h3,Option.bind_some]
 rfl
theorem sr (K : FewD f g i h) (O : ∀ x∈h,OkR x) (j : Nat) (hj : j < h.length) (n0 : Nat) (hn : n0≤1000000) :
  CD (f,g,h,i,k,l,m,n,o,p,q,(n0 : Int),(j : Int),0,())=some (.inl (f,g,h,i,k,l,m,n,o,p,q,((n0+qq h j : Nat) : Int),(j : Int),())):=by
 rw [rT (List.getElem?_eq_getElem hj)]
 exact ef (B:=uD) (h.take j) (fun y=>crN y h[j]) 900 n0 (fun y hy=>pk _ _ (K.hr _ (List.mem_of_mem_take hy)) (K.hr _ (List.getElem_mem hj))) (fun n0 s=>(f,g,h,i,k,l,m,n,o,p,q,(n0 : Int),(j : Int),(s : Int),())) (fun n0=>.inl (f,g,h,i,k,l,m,n,o,p,q,(n0 : Int),(j : Int),())) (by
  intro t s hs hb
  have hh:=K.hh
  rw [List.length_take] at hs
  have hsl : s < h.length:=by omega
  have hle:=pk h[s] h[j] (K.hr _ (List.getElem_mem hsl)) (K.hr _ (List.getElem_mem hj))
  have hsb : s * 900≤20 * 900:=Nat.mul_le_mul_right 900 (by omega)
  simp only [uD]
  rw [bi (by omega),cond_true,aB,aB,List.getElem?_eq_getElem hj,List.getElem?_eq_getElem hsl,cR (show s < 9223372036854775807 by omega)]
  simp only [Option.bind_some,List.getElem_take]
  rw [DC h[j] h[s] (K.hr _ (List.getElem_mem hj)) (K.hr _ (List.getElem_mem hsl)) (O _ (List.getElem_mem hj)) (O _ (List.getElem_mem hsl)),Dj]
  simp only [Option.bind_some]
  rw [wF (by omega) (by omega),← Int.natCast_add]) (by
  intro t
  simp only [uD,List.length_take]
  rw [aZ (by omega)]; rfl)
theorem zC (K : FewD f g i h) (O : ∀ x∈h,OkR x) : xN (f,g,h,i,k,l,m,n,o,p,q,0,0,())=some (.inl (((((List.range h.length).map (qq h)).sum : Nat) : Int),())):=by
 have hh:=K.hh
 have:=ef (B:=vC) (List.range h.length) (qq h) 18000 0 (fun j hj=>yN K j (List.mem_range.1 hj)) (fun t j=>(f,g,h,i,k,l,m,n,o,p,q,(t : Int),(j : Int),())) (fun t=>.inl ((t : Int),())) (by
  intro t j hj hb
  rw [List.length_range] at hj
  have hjb : j * 18000≤20 * 18000:=Nat.mul_le_mul_right _ (by omega)
  simp only [vC]
  rw [bi (by omega),cond_true,sr K O j hj t (by omega)]
  simp only [Option.bind_some,Sum.elim_inl,List.getElem_range]
  rw [cR (show j < 9223372036854775807 by omega)]) (by
  intro t
  simp only [vC,List.length_range]
  rw [aZ (by omega)]; rfl)
 rw [Nat.zero_add] at this
 exact this
end
theorem ua (x : Int) : eqI x x=true:=qI rfl
theorem ma (x) (_ : uB Zj_c.ins x) : Zj x=some (true,()):=by
 obtain ⟨⟨a,b,c,d,e,_⟩,⟨f,g,h,i,⟨k,l,m,n,_⟩,o,p,q,_⟩,_⟩:=x
 have hlives : Zx ()=some (true,()):=rfl
 obtain ⟨r1,x1,x2⟩:=AB (a:=a) (b:=b) (c:=c) (d:=d) (e:=e)
 obtain ⟨r2,y1,y2⟩:=uW (f:=f) (g:=g) (h:=h) (i:=i) (k:=k) (l:=l) (m:=m) (n:=n) (o:=o) (p:=p) (q:=q)
 unfold Zj
 simp only
 rw [show Zap ((a,b,c,d,e,()),8,8,())=some (r1,()) from x1]
 simp only [Option.bind_some]
 cases r1 with
 | false=>simp only [Bool.not_false,cond_true,hlives,Option.bind_some]
 | true =>
  have H:=x2 rfl
  rw [show Zan ((f,g,h,i,(k,l,m,n,()),o,p,q,()),())=some (r2,()) from y1]
  simp only [Bool.not_true,cond_false,Option.bind_some]
  cases r2 with
  | false=>simp only [Bool.not_false,cond_true,hlives,Option.bind_some]
  | true =>
   have K:=y2 rfl
   obtain ⟨v,f1,f2,f3⟩:=Af (b:=b) (k:=k) (l:=l) (m:=m) (n:=n) (o:=o) (p:=p) (q:=q) H K
   obtain ⟨s,o1,o2⟩:=zS (k:=k) (l:=l) (m:=m) (n:=n) (o:=o) (p:=p) (q:=q) K
   unfold Zav Zn Zaq Zk
   simp only
   rw [show Zbs ((a,b,c,d,e,()),(f,g,h,i,(k,l,m,n,()),o,p,q,()),())=_ from f1,show Zag ((a,b,c,d,e,()),(f,g,h,i,(k,l,m,n,()),o,p,q,()),())=_ from f2]
   simp only [Bool.not_true,cond_false,Option.bind_some]
   cases v with
   | false=>simp only [Bool.not_false,cond_true,Option.bind_some,ua,hlives]
   | true =>
    have O:=f3 rfl
    simp only [Bool.not_true,cond_false]
    rw [show Zaw ((f,g,h,i,(k,l,m,n,()),o,p,q,()),())=_ from o1,o2,
     show Zat ((f,g,h,i,(k,l,m,n,()),o,p,q,()),())=_ from wT K O,show xN (f,g,h,i,k,l,m,n,o,p,q,0,0,())=_ from zC K O]
    simp only [Option.bind_some,Sum.elim_inl,ua,cond_true,hlives]
end Go.Vm


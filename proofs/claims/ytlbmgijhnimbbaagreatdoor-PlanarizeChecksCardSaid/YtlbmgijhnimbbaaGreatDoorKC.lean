/-
 Digraphs; paths of darts; the law.
-/
import Derived.Test.YtlbmgijhnimbbaaGreatDoorDP34
import Derived.Test.YtlbmgijhnimbbaaGreatDoorVmD
import Derived.KernelRfl
import Derived.Test.YtlbmgijhnimbbaaGreatDoorKB
set_option linter.unusedVariables false
set_option linter.unusedSimpArgs false
namespace Go.Vm
open Go.Proofs
set_option maxRecDepth 100000
attribute [local irreducible] ae
abbrev Pt:=Int×(Int×Unit)
def mU (N : Int) (a : Pt) : Bool:=ltI a.1 0 || (geI a.1 N || (ltI a.2.1 0 || geI a.2.1 N))
theorem A0 (N : Int) (a : Pt) : (ltI (mw a.1 a.2.1) 0 || geI (maxI a.1 a.2.1) N)=mU N a:=by
 have e1 : ltI (mw a.1 a.2.1) 0=(ltI a.1 0 || ltI a.2.1 0):=by
  unfold mw
  split
  ·by_cases h : a.2.1 < 0
   ·rw [aX h,Bool.or_true]
   ·rw [aQ (by omega),aQ (by omega)]; rfl
  ·by_cases h : a.1 < 0
   ·rw [aX h,Bool.true_or]
   ·rw [aQ (by omega),aQ (by omega)]; rfl
 have e2 : geI (maxI a.1 a.2.1) N=(geI a.1 N || geI a.2.1 N):=by
  unfold maxI
  split
  ·by_cases h : N≤a.2.1
   ·rw [uC h,Bool.or_true]
   ·rw [l8 (by omega),l8 (by omega)]; rfl
  ·by_cases h : N≤a.1
   ·rw [uC h,Bool.true_or]
   ·rw [l8 (by omega),l8 (by omega)]; rfl
 rw [e1,e2,mU]
 cases ltI a.1 0 <;> cases ltI a.2.1 0 <;> cases geI a.1 N <;> cases geI a.2.1 N <;> rfl
def dvB (N : Int) (E : List Pt) : Bool:=!ltI N 0 && (!gtI N 64 && (!gtI (E.length : Nat) 256 && !E.any (mU N)))
def qX (N : Int) (_ : Nat) (_ : Unit) (a : Pt) : Option (Unit⊕Unit):=some (cond (mU N a) (.inr ()) (.inl ()))
theorem wJ (N : Int) : ∀ (E : List Pt) (i : Nat),ak (qX N) i () E=some (cond (E.any (mU N)) (.inr ()) (.inl ()))
 | [],_=>rfl
 | a :: E,i=>by
  simp only [ak,qX,Option.bind_some,List.any_cons]
  cases mU N a with
  | true=>rfl
  | false=>exact wJ N E (i+1)
theorem DI (N : Int) (E : List Pt) (hE : E.length≤256) : wX (N,E,E,(E.length : Nat),0,())=some (cond (E.any (mU N)) (.inl (false,())) (.inr (.inl ()))):=by
 have:=pR (B:=oM) (fun (_ : Unit) i=>(N,E,E,((E.length : Nat) : Int),(i : Int),())) (fun _=>.inr (.inl ())) (fun (_ : Unit)=>.inl (false,())) (qX N) E (by
  intro s i a ha
  have hi : i < E.length:=(List.getElem?_eq_some_iff.1 ha).1
  simp only [oM]
  rw [aX (by omega),cond_true,aw,ha,Option.bind_some,cG (by omega)]
  simp only [qX,← A0]
  cases ltI (mw a.1 a.2.1) 0 <;> cases geI (maxI a.1 a.2.1) N <;> rfl) (by
  intro s
  simp only [oM]
  rw [aQ (by omega)]; rfl) ()
 rw [wJ] at this
 show ae _ _=_
 refine this.trans ?_
 cases E.any (mU N) <;> rfl
theorem As (N : Int) (E : List Pt) (hE : E.length≤256) : Bz (N,E,0,())=some (cond (E.any (mU N)) (.inl (false,())) (.inr (.inl ()))):=by
 have:=pR (B:=uO) (fun (_ : Unit) i=>(N,E,(i : Int),())) (fun _=>.inr (.inl ())) (fun (_ : Unit)=>.inl (false,())) (qX N) E (by
  intro s i a ha
  have hi : i < E.length:=(List.getElem?_eq_some_iff.1 ha).1
  simp only [uO]
  rw [aX (by omega),cond_true,aw,ha,Option.bind_some,cG (by omega)]
  simp only [qX,mU]
  cases ltI a.1 0 <;> cases geI a.1 N <;> cases ltI a.2.1 0 <;> cases geI a.2.1 N <;> rfl) (by
  intro s
  simp only [uO]
  rw [aQ (by omega)]; rfl) ()
 rw [wJ] at this
 show ae _ _=_
 refine this.trans ?_
 cases E.any (mU N) <;> rfl
theorem Fj (N : Int) (E : List Pt) (u : Unit) : Zae ((N,E,u),())=some (dvB N E,()):=by
 unfold Zae dvB
 simp only
 cases ltI N 0 with
 | true=>rfl
 | false =>
  cases gtI N 64 with
  | true=>rfl
  | false =>
   by_cases h : E.length≤256
   ·rw [fv (by omega)]
    simp only [cond_false,Bool.not_false,Bool.true_and]
    rw [DI N E h]
    cases E.any (mU N) <;> rfl
   ·rw [fT (by omega)]; rfl
theorem EQ (N : Int) (E : List Pt) (u : Unit) : Zj ((N,E,u),())=some (dvB N E,()):=by
 unfold Zj dvB
 simp only
 cases ltI N 0 with
 | true=>rfl
 | false =>
  cases gtI N 64 with
  | true=>rfl
  | false =>
   by_cases h : E.length≤256
   ·rw [fv (by omega)]
    simp only [cond_false,Bool.not_false,Bool.true_and]
    rw [As N E h]
    cases E.any (mU N) <;> rfl
   ·rw [fT (by omega)]; rfl
end Go.Vm

/-
 PlanarizeChecks: the check of the program and of the reference are one.
-/
namespace Go.Vm
open Go.Proofs
set_option maxRecDepth 100000
attribute [local irreducible] ae
def nP (d : Int) (i : Nat) (_ : Unit) (y : Int) : Option (Unit⊕Nat):=some (cond (eqI d y) (.inr i) (.inl ()))
def plc (d : Int) (l : List Int) : Int:=match ak (nP d) 0 () l with
 | some (.inr j)=>(j : Int)
 | _=>-1
theorem xl (d : Int) : ∀ (l : List Int) (i : Nat),ak (nP d) i () l=some (.inl ())∨∃ j,ak (nP d) i () l=some (.inr j)
 | [],_=>.inl rfl
 | a :: l,i=>by
  simp only [ak,nP]
  cases eqI d a with
  | false=>exact xl d l (i+1)
  | true=>exact .inr ⟨_,rfl⟩
theorem BM (a b : Int) : eqI a b=eqI b a:=by
 by_cases h : a=b
 ·rw [h]
 ·rw [fb h,fb (Ne.symm h)]
theorem u5 (d : Int) (l : List Int) (hl : l.length≤9223372036854775807) : Zt (l,d,())=some (plc d l,()):=by
 have hs:=pR (B:=ux) (fun (_ : Unit) i=>(l,d,((l.length : Nat) : Int),(i : Int),())) (fun _=>.inr (.inl ())) (fun (j : Nat)=>.inl ((j : Int),())) (nP d) l (by
  intro s i a ha
  have hi : i < l.length:=(List.getElem?_eq_some_iff.1 ha).1
  simp only [ux]
  rw [aX (by omega),cond_true,aw,ha,Option.bind_some,cG (by omega)]
  simp only [nP]
  cases eqI d a <;> rfl) (by
  intro s
  simp only [ux]
  rw [aQ (by omega)]; rfl) ()
 unfold Zt Bn
 simp only
 rw [show ((0 : Int))=((0 : Nat) : Int) from rfl,hs]
 unfold plc
 rcases xl d l 0 with h | ⟨j,h⟩
 ·rw [h]; rfl
 ·rw [h]; rfl
theorem tq (d : Int) (l : List Int) (hl : l.length≤9223372036854775807) : Zm (l,d,())=some (plc d l,()):=by
 have hs:=pR (B:=tt) (fun (_ : Unit) i=>(l,d,(i : Int),())) (fun _=>.inr (.inl ())) (fun (j : Nat)=>.inl ((j : Int),())) (nP d) l (by
  intro s i a ha
  have hi : i < l.length:=(List.getElem?_eq_some_iff.1 ha).1
  simp only [tt]
  rw [aX (by omega),cond_true,aw,ha,Option.bind_some,cG (by omega)]
  simp only [nP]
  rw [BM a d]
  cases eqI d a <;> rfl) (by
  intro s
  simp only [tt]
  rw [aQ (by omega)]; rfl) ()
 unfold Zm BG
 simp only
 rw [show ((0 : Int))=((0 : Nat) : Int) from rfl,hs]
 unfold plc
 rcases xl d l 0 with h | ⟨j,h⟩
 ·rw [h]; rfl
 ·rw [h]; rfl
section
variable {N : Nat} {E : List Arc} {A : List (List Int)}
theorem rR (h : RotOK (N : Nat) E A) {k : Nat} (hk : k < 2 * E.length) : Zu (((N : Int),E,A,()),((k : Int),()))=some (tl E k,()):=by
 have hm1:=h.m1
 unfold Zu
 simp only
 rw [hU ((N : Int),E,A,()) h.lists,h.validB,Option.bind_some]
 simp only [Bool.not_true,cond_false]
 have e2 : i6 .i64 2 (E.length : Nat)=((2 * E.length : Nat) : Int):=by rw [mE (by omega) (by omega)]; omega
 rw [aQ (by omega),cond_false,e2,l8 (by omega),cond_false,tG _ _ _ _ hm1,Option.bind_some]
 simp only
 rw [bz (by rw [fi]; exact hk),Option.bind_some,mJ E k hk]
 rfl
theorem xE (h : RotOK (N : Nat) E A) {k : Nat} (hk : k < 2 * E.length) : Zv (((N : Int),E,A,()),((k : Int),()))=some (hd E k,()):=by
 have hm1:=h.m1
 unfold Zv
 simp only
 rw [Cl (by omega),rR h (e8 hk)]; rfl
theorem t8 (h : RotOK (N : Nat) E A) {k : Nat} (hk : k < 2 * E.length) : Zac (((N : Int),E,A,()),((k : Int),()))=some (tl E k,()):=by
 have hm1:=h.m1
 have hke : k / 2 < E.length:=by omega
 unfold Zac
 simp only
 rw [AX (by omega),aw,Dq]
 obtain ⟨a,ha⟩ : ∃ a,E[k / 2]?=some a:=⟨_,List.getElem?_eq_getElem hke⟩
 rw [ha]
 unfold tl
 rw [ha]
 simp only [Option.bind_some]
 by_cases e : k % 2=0
 ·rw [lK (by omega),if_pos e]; rfl
 ·rw [fb (by omega),if_neg e]; rfl
theorem Ci (k : Nat) (hk : k < 4611686018427387904) : Zad ((k : Int),())=some (((oth k : Nat) : Int),()):=by
 unfold Zad
 simp only
 rw [Cl hk]
def Cn (A : List (List Int)) (v : Int) (c d : Nat) : Bool :=
 eqI ((A.getD v.toNat []).length : Nat) 4 && (geI (plc ((oth c : Nat) : Int) (A.getD v.toNat [])) 0 && (geI (plc (d : Int) (A.getD v.toNat [])) 0 &&
  (eqI (cl .i64 (plc ((oth c : Nat) : Int) (A.getD v.toNat [])) (plc (d : Int) (A.getD v.toNat []))) 2 || eqI (cl .i64 (plc (d : Int) (A.getD v.toNat [])) (plc ((oth c : Nat) : Int) (A.getD v.toNat []))) 2)))
def chB (n : Int) (E : List Arc) (A : List (List Int)) (c d : Nat) : Bool:=!ltI (tl E d) n && (!neI (tl E d) (hd E c) && Cn A (tl E d) c d)
theorem xK (h : RotOK (N : Nat) E A) {v : Nat} (hv : v < N) : aR A (v : Int)=some (A.getD v [])∧(A.getD v []).length≤100000:=by
 have hlen:=h.len
 have hi : v < A.length:=by omega
 have e : A[v]?=some (A.getD v []):=by simp [hi]
 have:=h.list_len (List.mem_of_getElem? e)
 have hm1:=h.m1
 exact ⟨by rw [aw,e],by omega⟩
theorem yE (h : RotOK (N : Nat) E A) {c d : Nat} (hc : c < 2 * E.length) (hd' : d < 2 * E.length) : Zh (((N : Int),E,A,()),((c : Int),((d : Int),())))=some (Cn A (tl E d) c d,()):=by
 have hm1:=h.m1
 obtain ⟨v,e1,hv⟩:=h.tl_lt hd'
 obtain ⟨q1,q2⟩:=xK h hv
 unfold Zh
 simp only
 rw [t8 h hd',e1,Ci c (by omega)]
 simp only [Option.bind_some]
 rw [q1]
 simp only [Option.bind_some]
 rw [u5 _ _ (by omega),u5 _ _ (by omega)]
 simp only [Option.bind_some,Cn,Int.toNat_natCast]
 cases eqI ((A.getD v []).length : Nat) 4 <;> cases geI (plc ((oth c : Nat) : Int) (A.getD v [])) 0 <;> cases geI (plc (d : Int) (A.getD v [])) 0 <;> cases eqI (cl .i64 (plc ((oth c : Nat) : Int) (A.getD v [])) (plc (d : Int) (A.getD v []))) 2 <;> rfl
theorem zJ (h : RotOK (N : Nat) E A) {n : Int} {Ps : List (List Int)} {c d : Nat} (hc : c < 2 * E.length) (hd' : d < 2 * E.length) : Zd ((((N : Int),E,A,()),(n,(Ps,()))),((c : Int),((d : Int),())))=some (chB n E A c d,()):=by
 have hm1:=h.m1
 obtain ⟨v,e1,hv⟩:=h.hd_lt hc
 obtain ⟨q1,q2⟩:=xK h hv
 unfold Zd
 simp only
 rw [xE h hc,rR h hd',e1]
 simp only [Option.bind_some]
 unfold chB
 rw [e1]
 by_cases hlt : (v : Int) < n
 ·rw [aX hlt,cond_true]
  by_cases hne : tl E d=(v : Int)
  ·rw [hne,aX hlt]; rfl
  ·rw [iN hne]; simp
 ·rw [aQ (by omega),cond_false]
  by_cases hne : tl E d=(v : Int)
  ·rw [iQ hne,cond_false,hne,aQ (by omega),Cl (by omega),q1]
   simp only [Option.bind_some]
   rw [tq _ _ (by omega),tq _ _ (by omega)]
   simp only [Option.bind_some,Cn,Int.toNat_natCast]
   cases eqI ((A.getD v []).length : Nat) 4 <;> cases geI (plc ((oth c : Nat) : Int) (A.getD v [])) 0 <;> cases geI (plc (d : Int) (A.getD v [])) 0 <;> cases eqI (cl .i64 (plc ((oth c : Nat) : Int) (A.getD v [])) (plc (d : Int) (A.getD v []))) 2 <;> rfl
  ·rw [iN hne]; simp
end
end Go.Vm

/-
 Paths of darts, in the program and in the reference.
-/
namespace Go.Vm
open Go.Proofs
set_option maxRecDepth 100000
attribute [local irreducible] ae
def okD (m : Nat) (d : Int) : Bool:=!ltI d 0 && !geI d ((2 * m : Nat) : Int)
theorem fV {m : Nat} {d : Int} (h : okD m d=true) : ∃ k : Nat,d=(k : Int)∧k < 2 * m:=by
 simp only [okD,Bool.and_eq_true,Bool.not_eq_true'] at h
 have h1 : 0≤d:=by
  rcases Int.lt_or_le d 0 with h' | h'
  ·rw [aX h'] at h; cases h.1
  ·exact h'
 have h2 : d < ((2 * m : Nat) : Int):=by
  rcases Int.lt_or_le d ((2 * m : Nat) : Int) with h' | h'
  ·exact h'
  ·rw [uC h'] at h; cases h.2
 exact ⟨d.toNat,by omega,by omega⟩
def kK (n : Int) (E : List Arc) (A : List (List Int)) : Int→List Int→Bool
 | _,[]=>true
 | c,d :: r=>okD E.length d && (chB n E A c.toNat d.toNat && kK n E A d r)
def oZ (l : List Int) : Int:=l.getD (l.length - 1) 0
def nv (n : Int) (E : List Arc) (A : List (List Int)) (a : Arc) : List Int→Bool
 | []=>false
 | d :: r=>okD E.length d && (eqI (tl E d.toNat) a.1 && (kK n E A d r && eqI (hd E (oZ (d :: r)).toNat) a.2.1))
theorem kO (n : Int) (E : List Arc) (A : List (List Int)) (a : Arc) (d : Int) (r : List Int) : nv n E A a (d :: r)=(okD E.length d && (eqI (tl E d.toNat) a.1 && (kK n E A d r && eqI (hd E (oZ (d :: r)).toNat) a.2.1))):=rfl
def nu (u : List Bool) (d : Int) : Bool:=!(u.getD (d.toNat / 2) true)
def mk (u : List Bool) : List Int→Option (List Bool)
 | []=>some u
 | d :: r=>cond (nu u d) (mk (u.set (d.toNat / 2) true) r) none
def mkR (u : List Bool) (l : List Int) : List Bool⊕Unit:=match mk u l with
 | some u'=>.inl u'
 | none=>.inr ()
theorem Dd {u : List Bool} {d : Int} (h : nu u d=true) : u[d.toNat / 2]?=some false:=by
 unfold nu at h
 rw [List.getD_eq_getElem?_getD] at h
 cases hq : u[d.toNat / 2]? with
 | none=>rw [hq] at h; cases h
 | some b=>rw [hq] at h; cases b <;> simp_all
theorem qh : ∀ {l : List Int} {u u' : List Bool},mk u l=some u'→u'.length=u.length∧unm u'+l.length=unm u
 | [],u,u',h=>by cases h; exact ⟨rfl,rfl⟩
 | d :: r,u,u',h=>by
  unfold mk at h
  cases hn : nu u d with
  | false=>rw [hn] at h; cases h
  | true =>
   rw [hn,cond_true] at h
   obtain ⟨h1,h2⟩:=qh h
   have:=fg (Dd hn)
   rw [List.length_set] at h1
   exact ⟨h1,by simp only [List.length_cons]; omega⟩
section
variable {N : Nat} {E : List Arc} {A : List (List Int)}
def dS (n : Int) (E : List Arc) (A : List (List Int)) (a : Arc) (l : List Int) (i : Nat) (u : List Bool) (d : Int) : Option (List Bool⊕Unit) :=
 cond (okD E.length d && (nu u d && cond (Nat.beq i 0) (eqI (tl E d.toNat) a.1) (chB n E A (l.getD (i - 1) 0).toNat d.toNat))) (some (.inl (u.set (d.toNat / 2) true))) (some (.inr ()))
theorem Ab (n : Int) (a : Arc) (l : List Int) : ∀ (r p : List Int) (c : Int) (u : List Bool),(p++[c])++r=l→ak (dS n E A a l) (p.length+1) u r=some (cond (kK n E A c r) (mkR u r) (.inr ()))
 | [],p,c,u,_=>rfl
 | d :: r,p,c,u,h=>by
  have hc : l.getD (p.length+1 - 1) 0=c:=by rw [← h]; simp
  have ih:=fun u'=>Ab n a l r (p++[c]) d u' (by rw [← h]; simp)
  simp only [List.length_append,List.length_cons,List.length_nil] at ih
  simp only [ak,dS,hc,kK,mkR,mk]
  rw [show Nat.beq (p.length+1) 0=false from rfl,cond_false]
  cases okD E.length d with
  | false=>rfl
  | true =>
   cases nu u d with
   | false =>
    cases chB n E A c.toNat d.toNat <;> cases kK n E A d r <;> rfl
   | true =>
    cases chB n E A c.toNat d.toNat with
    | false=>rfl
    | true =>
     simp only [Bool.true_and,cond_true]
     exact ih _
theorem EO (n : Int) (a : Arc) (d : Int) (r : List Int) (u : List Bool) : ak (dS n E A a (d :: r)) 0 u (d :: r)=some (cond (okD E.length d && (eqI (tl E d.toNat) a.1 && kK n E A d r)) (mkR u (d :: r)) (.inr ())):=by
 have ih:=fun u'=>Ab (E:=E) (A:=A) n a (d :: r) r [] d u' rfl
 simp only [List.length_nil,Nat.zero_add] at ih
 simp only [ak,dS,mkR,mk]
 rw [show Nat.beq 0 0=true from rfl,cond_true]
 cases okD E.length d with
 | false=>rfl
 | true =>
  cases nu u d with
  | false=>cases eqI (tl E d.toNat) a.1 <;> cases kK n E A d r <;> rfl
  | true =>
   cases eqI (tl E d.toNat) a.1 with
   | false=>rfl
   | true =>
    simp only [Bool.true_and,cond_true]
    exact ih _
theorem vW (h : RotOK (N : Nat) E A) (n : Int) (X : List Arc) (e : Nat) {a : Arc} (ha : X[e]?=some a) (l : List Int) (hl : l.length≤9223372036854775807) (Ps : List (List Int)) (cP z : Int) (u : List Bool) (hu : u.length=E.length) :
  v7 (n,X,(N : Int),E,A,u,(unm u : Nat),(e : Int),l,Ps,cP,z,l,(l.length : Nat),0,()) =
   (ak (dS n E A a l) 0 u l).bind (Sum.elim (fun u=>some (.inr (.inl (n,X,(N : Int),E,A,u,(unm u : Nat),(e : Int),l,Ps,cP,z,())))) (fun _=>some (.inl (false,())))):=by
 have hm1:=h.m1
 refine dP (B:=oJ) (fun i u=>u.length=E.length∧∀ j c,j < i→l[j]?=some c→okD E.length c=true) (fun u i=>(n,X,(N : Int),E,A,u,((unm u : Nat) : Int),(e : Int),l,Ps,cP,z,l,((l.length : Nat) : Int),(i : Int),()))
  (fun u=>.inr (.inl (n,X,(N : Int),E,A,u,((unm u : Nat) : Int),(e : Int),l,Ps,cP,z,()))) (fun _=>.inl (false,())) (dS n E A a l) l ?_ ?_ ?_ u ⟨hu,fun j c hj=>absurd hj (Nat.not_lt_zero _)⟩
 ·rintro u i d ⟨hu,hprev⟩ hd1
  have hi : i < l.length:=(List.getElem?_eq_some_iff.1 hd1).1
  simp only [oJ]
  rw [aX (by omega),cond_true,aw,hd1,Option.bind_some]
  have e2 : i6 .i64 2 (u.length : Nat)=((2 * E.length : Nat) : Int):=by rw [hu,mE (by omega) (by omega)]; omega
  rw [e2]
  unfold dS
  by_cases hok : okD E.length d=true
  ·rw [hok,Bool.true_and]
   have hok':=hok
   simp only [okD,Bool.and_eq_true,Bool.not_eq_true'] at hok'
   obtain ⟨k,rfl,hk⟩:=fV hok
   rw [hok'.1,cond_false,hok'.2,cond_false,AX (by omega)]
   have hku : k / 2 < u.length:=by omega
   rw [bz hku,Option.bind_some]
   obtain ⟨b,hb⟩ : ∃ b,u[k / 2]?=some b:=⟨_,List.getElem?_eq_getElem hku⟩
   rw [hb,Option.bind_some]
   have hnu : nu u (k : Int)=!b:=by
    unfold nu
    rw [List.getD_eq_getElem?_getD,Int.toNat_natCast,hb]; rfl
   rw [hnu]
   cases b with
   | true=>rfl
   | false =>
    have hun:=fg hb
    have esub : cl .i64 ((unm u : Nat) : Int) 1=((unm (u.set (k / 2) true) : Nat) : Int):=by
     have:=List.countP_le_length (p:=fun b=>!b) (l:=u)
     have hle : unm u≤u.length:=this
     rw [kP (by omega) (by omega)]; omega
    rw [cond_false,esub]
    simp only [Option.bind_some,hb,Bool.not_false,Bool.true_and,Int.toNat_natCast]
    cases i with
    | zero =>
     rw [show eqI ((0 : Nat) : Int) 0=true from rfl,cond_true,show Nat.beq 0 0=true from rfl,cond_true,t8 h hk,aw,ha]
     simp only [Option.bind_some]
     have e1 : aT .i64 ((0 : Nat) : Int) 1=((0+1 : Nat) : Int):=rfl
     by_cases ht : tl E k=a.1
     ·rw [iQ ht,lK ht,cond_false,cond_true,e1]; rfl
     ·rw [iN ht,fb ht,cond_true,cond_false]; rfl
    | succ i =>
     obtain ⟨c,hc⟩ : ∃ c,l[i]?=some c:=⟨_,List.getElem?_eq_getElem (show i < l.length by omega)⟩
     obtain ⟨q,rfl,hq⟩:=fV (hprev i c (by omega) hc)
     have e3 : cl .i64 ((i+1 : Nat) : Int) 1=(i : Int):=by rw [kP (by omega) (by omega)]; omega
     have e4 : aT .i64 ((i+1 : Nat) : Int) 1=((i+1+1 : Nat) : Int):=cG (by omega)
     rw [show eqI ((i+1 : Nat) : Int) 0=false from fb (by omega),cond_false,show Nat.beq (i+1) 0=false from rfl,cond_false,t8 h hk,e3,aw,hc]
     simp only [Option.bind_some]
     rw [Ci q (by omega)]
     simp only [Option.bind_some]
     rw [t8 h (e8 hq),yE h hq hk,e4]
     simp only [Option.bind_some]
     have hg : (l.getD (i+1 - 1) 0).toNat=q:=by
      rw [List.getD_eq_getElem?_getD,Nat.add_sub_cancel,hc]; rfl
     rw [hg]
     unfold chB
     rw [show tl E (oth q)=hd E q from rfl]
     cases ltI (tl E k) n <;> cases neI (tl E k) (hd E q) <;> cases Cn A (tl E k) q k <;> rfl
  ·have hok0 : okD E.length d=false:=by simpa using hok
   rw [hok0]
   simp only [okD] at hok0
   cases h1 : ltI d 0 with
   | true=>rfl
   | false =>
    rw [h1] at hok0
    cases h2 : geI d ((2 * E.length : Nat) : Int) with
    | true=>rfl
    | false=>rw [h2] at hok0; cases hok0
 ·rintro u i d t ⟨hu,hprev⟩ hd1 hg
  unfold dS at hg
  cases hc : (okD E.length d && (nu u d && cond (Nat.beq i 0) (eqI (tl E d.toNat) a.1) (chB n E A (l.getD (i - 1) 0).toNat d.toNat))) with
  | false=>rw [hc] at hg; cases hg
  | true =>
   rw [hc] at hg
   cases hg
   simp only [Bool.and_eq_true] at hc
   refine ⟨by rw [List.length_set]; exact hu,fun j c hj hjc=>?_⟩
   by_cases e : j=i
   ·subst e; rw [hd1] at hjc; cases hjc; exact hc.1
   ·exact hprev j c (by omega) hjc
 ·rintro u ⟨hu,_⟩
  simp only [oJ]
  rw [aQ (by omega)]; rfl
def gP (n : Int) (E : List Arc) (A : List (List Int)) (X : List Arc) (e : Nat) (u : List Bool) (l : List Int) : Option (List Bool⊕Unit) :=
 some (cond (nv n E A (X.getD e (0,0,())) l) (mkR u l) (.inr ()))
theorem sX {n : Int} : ∀ {r : List Int} {c : Int},okD E.length c=true→kK n E A c r=true→∀ d∈c :: r,okD E.length d=true
 | [],c,h1,_,d,hd'=>by rw [List.mem_singleton.1 hd']; exact h1
 | x :: r,c,h1,h2,d,hd'=>by
  simp only [kK,Bool.and_eq_true] at h2
  rcases List.mem_cons.1 hd' with e | hd'
  ·rw [e]; exact h1
  ·exact sX h2.1 h2.2.2 d hd'
theorem tN : ∀ {l : List Int},l≠[]→oZ l∈l∧l[l.length - 1]?=some (oZ l):=by
 intro l hl
 have : 0 < l.length:=List.length_pos_iff.2 hl
 have e : l[l.length - 1]?=some (oZ l):=by
  unfold oZ
  rw [List.getD_eq_getElem?_getD,List.getElem?_eq_getElem (by omega)]; rfl
 exact ⟨List.mem_of_getElem? e,e⟩
theorem wW (h : RotOK (N : Nat) E A) (n : Int) (X : List Arc) (Ps : List (List Int)) (hX : X.length=Ps.length) (hPl : Ps.length≤100000) (hPs : ∀ l∈Ps,l.length≤9223372036854775807) (u : List Bool) (hu : u.length=E.length) :
  wM (n,X,(N : Int),E,A,u,(unm u : Nat),Ps,(Ps.length : Nat),0,()) =
   (ak (gP n E A X) 0 u Ps).bind (Sum.elim (fun u=>some (.inr (.inl (((unm u : Nat) : Int),())))) (fun _=>some (.inl (false,())))):=by
 have hm1:=h.m1
 refine dP (B:=pu) (fun i u=>u.length=E.length) (fun u i=>(n,X,(N : Int),E,A,u,((unm u : Nat) : Int),Ps,((Ps.length : Nat) : Int),(i : Int),()))
  (fun u=>.inr (.inl (((unm u : Nat) : Int),()))) (fun _=>.inl (false,())) (gP n E A X) Ps ?_ ?_ ?_ u hu
 ·rintro u i l hu hl1
  have hi : i < Ps.length:=(List.getElem?_eq_some_iff.1 hl1).1
  have hll:=hPs l (List.mem_of_getElem? hl1)
  have ha : X[i]?=some (X.getD i (0,0,())):=by simp [show i < X.length by omega]
  have e1 : aT .i64 (i : Int) 1=((i+1 : Nat) : Int):=cG (by omega)
  simp only [pu]
  rw [aX (by omega),cond_true,aw,hl1,Option.bind_some]
  unfold gP
  match l,hl1,hll with
  | [],_,_=>rfl
  | d :: r,hl1,hll =>
   rw [fb (by simp only [List.length_cons]; omega),cond_false,vW h n X i ha (d :: r) hll _ _ _ u hu,EO]
   simp only [Option.bind_some,kO]
   cases hok : okD E.length d with
   | false=>rfl
   | true =>
    cases eqI (tl E d.toNat) (X.getD i (0,0,())).1 with
    | false=>rfl
    | true =>
     cases hr : kK n E A d r with
     | false=>rfl
     | true =>
      simp only [Bool.true_and,cond_true]
      obtain ⟨h1,h2⟩:=tN (l:=d :: r) (by simp)
      obtain ⟨q,hq1,hq⟩:=fV (sX hok hr _ h1)
      unfold mkR
      cases hmk : mk u (d :: r) with
      | none=>cases eqI (hd E (oZ (d :: r)).toNat) (X.getD i (0,0,())).2.1 <;> rfl
      | some u' =>
       simp only [Option.bind_some,Sum.elim_inl,Sum.elim_inr]
       have e3 : cl .i64 (((d :: r).length : Nat) : Int) 1=(((d :: r).length - 1 : Nat) : Int):=by
        have : 1≤(d :: r).length:=by simp
        rw [kP (by omega) (by omega)]; omega
       rw [e3,aw,h2,hq1]
       simp only [Option.bind_some]
       rw [Ci q (by omega)]
       simp only [Option.bind_some]
       rw [t8 h (e8 hq),aw,ha]
       simp only [Option.bind_some,Int.toNat_natCast]
       rw [show tl E (oth q)=hd E q from rfl,e1]
       by_cases ht : hd E q=(X.getD i (0,0,())).2.1
       ·rw [iQ ht,lK ht]; rfl
       ·rw [iN ht,fb ht]; rfl
 ·rintro u i l t hu hl1 hg
  unfold gP mkR at hg
  cases hp : nv n E A (X.getD i (0,0,())) l with
  | false=>rw [hp] at hg; cases hg
  | true =>
   rw [hp,cond_true] at hg
   cases hmk : mk u l with
   | none=>rw [hmk] at hg; cases hg
   | some u'=>rw [hmk] at hg; cases hg; rw [(qh hmk).1]; exact hu
 ·rintro u hu
  simp only [pu]
  rw [aQ (by omega)]; rfl
end
end Go.Vm

/-
 PlanarizeChecks: the reference's paths; the law.
-/
namespace Go.Vm
open Go.Proofs
set_option maxRecDepth 100000
attribute [local irreducible] ae
section
variable {N : Nat} {E : List Arc} {A : List (List Int)}
def rS (n : Int) (E : List Arc) (A : List (List Int)) (l : List Int) (i : Nat) (_ : Unit) (d : Int) : Option (Unit⊕Unit) :=
 some (cond (okD E.length d && (Nat.beq i 0 || chB n E A (l.getD (i - 1) 0).toNat d.toNat)) (.inl ()) (.inr ()))
theorem zX (n : Int) (l : List Int) : ∀ (r p : List Int) (c : Int),(p++[c])++r=l→ak (rS n E A l) (p.length+1) () r=some (cond (kK n E A c r) (.inl ()) (.inr ()))
 | [],p,c,_=>rfl
 | d :: r,p,c,h=>by
  have hc : l.getD (p.length+1 - 1) 0=c:=by rw [← h]; simp
  have ih:=zX n l r (p++[c]) d (by rw [← h]; simp)
  simp only [List.length_append,List.length_cons,List.length_nil] at ih
  simp only [ak,rS,hc,kK]
  rw [show Nat.beq (p.length+1) 0=false from rfl,Bool.false_or]
  cases okD E.length d with
  | false=>rfl
  | true =>
   cases chB n E A c.toNat d.toNat with
   | false=>rfl
   | true =>
    simp only [Bool.true_and,cond_true]
    exact ih
theorem E1 (n : Int) (d : Int) (r : List Int) : ak (rS n E A (d :: r)) 0 () (d :: r)=some (cond (okD E.length d && kK n E A d r) (.inl ()) (.inr ())):=by
 have ih:=zX (E:=E) (A:=A) n (d :: r) r [] d rfl
 simp only [List.length_nil,Nat.zero_add] at ih
 simp only [ak,rS]
 rw [show Nat.beq 0 0=true from rfl,Bool.true_or]
 cases okD E.length d with
 | false=>rfl
 | true =>
  simp only [Bool.true_and,cond_true]
  exact ih
theorem w7 (h : RotOK (N : Nat) E A) (n x y : Int) (Ps : List (List Int)) (l : List Int) (hl : l.length≤9223372036854775807) :
  AD ((N : Int),E,A,n,Ps,x,y,l,0,()) =
   (ak (rS n E A l) 0 () l).bind (Sum.elim (fun _=>some (.inr (.inl ((N : Int),E,A,n,Ps,x,y,l,())))) (fun _=>some (.inl (false,())))):=by
 have hm1:=h.m1
 refine dP (B:=tE) (fun i _=>∀ j c,j < i→l[j]?=some c→okD E.length c=true) (fun _ i=>((N : Int),E,A,n,Ps,x,y,l,(i : Int),()))
  (fun _=>.inr (.inl ((N : Int),E,A,n,Ps,x,y,l,()))) (fun _=>.inl (false,())) (rS n E A l) l ?_ ?_ ?_ () (fun j c hj=>absurd hj (Nat.not_lt_zero _))
 ·rintro s i d hprev hd1
  have hi : i < l.length:=(List.getElem?_eq_some_iff.1 hd1).1
  have e1 : aT .i64 (i : Int) 1=((i+1 : Nat) : Int):=cG (by omega)
  have e2 : i6 .i64 2 (E.length : Nat)=((2 * E.length : Nat) : Int):=by rw [mE (by omega) (by omega)]; omega
  simp only [tE]
  rw [aX (by omega),cond_true,aw,hd1,Option.bind_some]
  simp only [Option.bind_some,e2]
  unfold rS
  by_cases hok : okD E.length d=true
  ·rw [hok,Bool.true_and]
   have hok':=hok
   simp only [okD,Bool.and_eq_true,Bool.not_eq_true'] at hok'
   obtain ⟨k,rfl,hk⟩:=fV hok
   rw [hok'.1,cond_false,hok'.2,cond_false]
   cases i with
   | zero=>rfl
   | succ i =>
    obtain ⟨c,hc⟩ : ∃ c,l[i]?=some c:=⟨_,List.getElem?_eq_getElem (show i < l.length by omega)⟩
    obtain ⟨q,rfl,hq⟩:=fV (hprev i c (by omega) hc)
    have e3 : cl .i64 ((i+1 : Nat) : Int) 1=(i : Int):=by rw [kP (by omega) (by omega)]; omega
    rw [fT (by omega),cond_true,e3,aw,hc]
    simp only [Option.bind_some]
    rw [zJ h hq hk,e1]
    have hg : (l.getD (i+1 - 1) 0).toNat=q:=by
     rw [List.getD_eq_getElem?_getD,Nat.add_sub_cancel,hc]; rfl
    rw [hg,show Nat.beq (i+1) 0=false from rfl,Bool.false_or]
    simp only [Option.bind_some,Int.toNat_natCast]
    cases chB n E A q k <;> rfl
  ·have hok0 : okD E.length d=false:=by simpa using hok
   rw [hok0]
   simp only [okD] at hok0
   cases h1 : ltI d 0 with
   | true=>rfl
   | false =>
    rw [h1] at hok0
    cases h2 : geI d ((2 * E.length : Nat) : Int) with
    | true=>rfl
    | false=>rw [h2] at hok0; cases hok0
 ·rintro s i d t hprev hd1 hg j c hj hjc
  unfold rS at hg
  by_cases e : j=i
  ·subst e
   rw [hd1] at hjc; cases hjc
   cases hok : okD E.length d with
   | true=>rfl
   | false=>rw [hok] at hg; cases hg
  ·exact hprev j c (by omega) hjc
 ·intro s _
  simp only [tE]
  rw [aQ (by omega)]; rfl
theorem BY (h : RotOK (N : Nat) E A) (n : Int) (Ps : List (List Int)) (a : Arc) (l : List Int) (hl : l.length≤9223372036854775807) : Zs ((((N : Int),E,A,()),(n,(Ps,()))),(a,(l,())))=some (nv n E A a l,()):=by
 have hm1:=h.m1
 unfold Zs
 simp only
 match l,hl with
 | [],_=>rfl
 | d :: r,hl =>
  rw [fb (by simp only [List.length_cons]; omega),cond_false,w7 h n a.1 a.2.1 Ps (d :: r) hl,E1,kO]
  simp only [Option.bind_some]
  cases hok : okD E.length d with
  | false=>rfl
  | true =>
   cases hr : kK n E A d r with
   | false=>simp only [Bool.true_and,Bool.false_and,Bool.and_false,cond_false]; rfl
   | true =>
    simp only [Bool.true_and,cond_true,Option.bind_some,Sum.elim_inl,Sum.elim_inr]
    obtain ⟨k,hk1,hk⟩:=fV hok
    obtain ⟨h1,h2⟩:=tN (l:=d :: r) (by simp)
    obtain ⟨q,hq1,hq⟩:=fV (sX hok hr _ h1)
    have e0 : aR (d :: r) 0=some d:=rfl
    have e3 : cl .i64 (((d :: r).length : Nat) : Int) 1=(((d :: r).length - 1 : Nat) : Int):=by
     have : 1≤(d :: r).length:=by simp
     rw [kP (by omega) (by omega)]; omega
    rw [e0]
    simp only [Option.bind_some]
    rw [hk1,rR h hk]
    rw [← hk1]
    simp only [Option.bind_some]
    have hkk : d.toNat=k:=by omega
    rw [hkk]
    cases eqI (tl E k) a.1 with
    | false=>rfl
    | true =>
     rw [cond_true,e3,aw,h2]
     simp only [Option.bind_some]
     rw [hq1,xE h hq]
     simp only [Option.bind_some,Int.toNat_natCast,Bool.true_and]
def mS (_ : Nat) (u : List Bool) (d : Int) : Option (List Bool⊕Unit):=some (cond (nu u d) (.inl (u.set (d.toNat / 2) true)) (.inr ()))
theorem Cd : ∀ (l : List Int) (i : Nat) (u : List Bool),ak mS i u l=some (mkR u l)
 | [],i,u=>rfl
 | d :: r,i,u=>by
  simp only [ak,mS,mkR,mk]
  cases nu u d with
  | false=>rfl
  | true =>
   simp only [cond_true]
   exact Cd r (i+1) _
theorem pP (u : List Bool) : unm u≤u.length:=List.countP_le_length
theorem vV (n : Int) (X : List Arc) (p : Int) (Ps : List (List Int)) (e : Nat) (l : List Int) (he : Ps[e]?=some l) (hl : l.length≤9223372036854775807) (hok : ∀ d∈l,okD E.length d=true) (hm : E.length≤32768) (u : List Bool) (hu : u.length=E.length) :
  vX (n,X,(N : Int),E,A,p,Ps,u,((E.length - unm u : Nat) : Int),(e : Int),0,()) =
   some (match mkR u l with | .inl u=>.inr (.inl (n,X,(N : Int),E,A,p,Ps,u,((E.length - unm u : Nat) : Int),(e : Int),())) | .inr _=>.inl (false,())):=by
 have hs:=dP (B:=pE) (fun _ u=>u.length=E.length) (fun u i=>(n,X,(N : Int),E,A,p,Ps,u,((E.length - unm u : Nat) : Int),(e : Int),(i : Int),()))
  (fun u=>.inr (.inl (n,X,(N : Int),E,A,p,Ps,u,((E.length - unm u : Nat) : Int),(e : Int),()))) (fun _=>.inl (false,())) mS l ?_ ?_ ?_ u hu
 ·refine hs.trans ?_
  rw [Cd]
  simp only [Option.bind_some]
  cases mkR u l <;> rfl
 ·rintro u i d hu hd1
  have hi : i < l.length:=(List.getElem?_eq_some_iff.1 hd1).1
  have e1 : aT .i64 (i : Int) 1=((i+1 : Nat) : Int):=cG (by omega)
  obtain ⟨k,rfl,hk⟩:=fV (hok d (List.mem_of_getElem? hd1))
  have hku : k / 2 < u.length:=by omega
  obtain ⟨b,hb⟩ : ∃ b,u[k / 2]?=some b:=⟨_,List.getElem?_eq_getElem hku⟩
  have hnu : nu u (k : Int)=!b:=by
   unfold nu
   rw [List.getD_eq_getElem?_getD,Int.toNat_natCast,hb]; rfl
  have hle:=pP u
  simp only [pE]
  rw [aw,he]
  simp only [Option.bind_some]
  rw [aX (by omega),cond_true,aw,hd1]
  simp only [Option.bind_some]
  rw [AX (by omega),bz hku]
  simp only [Option.bind_some,hb,mS,hnu]
  cases b with
  | true=>rfl
  | false =>
   have hun:=fg hb
   have e4 : aT .i64 ((E.length - unm u : Nat) : Int) 1=((E.length - unm (u.set (k / 2) true) : Nat) : Int):=by
    rw [sV (by omega) (by omega)]; omega
   simp only [cond_false,Bool.not_false,cond_true,e1,e4]
   rfl
 ·rintro u i d t hu hd1 hg
  unfold mS at hg
  cases hn : nu u d with
  | false=>rw [hn] at hg; cases hg
  | true=>rw [hn] at hg; cases hg; rw [List.length_set]; exact hu
 ·intro u _
  simp only [pE]
  rw [aw,he]
  simp only [Option.bind_some]
  rw [aQ (by omega)]; rfl
theorem uH (h : RotOK (N : Nat) E A) (n : Int) (X : List Arc) (Ps : List (List Int)) (hX : X.length=Ps.length) (hPl : Ps.length≤100000) (hPs : ∀ l∈Ps,l.length≤9223372036854775807) (u : List Bool) (hu : u.length=E.length) :
  wS (n,X,(N : Int),E,A,n,Ps,u,((E.length - unm u : Nat) : Int),0,()) =
   (ak (gP n E A X) 0 u Ps).bind (Sum.elim (fun u=>some (.inr (.inl (u,((E.length - unm u : Nat) : Int),())))) (fun _=>some (.inl (false,())))):=by
 have hm1:=h.m1
 refine dP (B:=px) (fun i u=>u.length=E.length) (fun u i=>(n,X,(N : Int),E,A,n,Ps,u,((E.length - unm u : Nat) : Int),(i : Int),()))
  (fun u=>.inr (.inl (u,((E.length - unm u : Nat) : Int),()))) (fun _=>.inl (false,())) (gP n E A X) Ps ?_ ?_ ?_ u hu
 ·rintro u i l hu hl1
  have hi : i < Ps.length:=(List.getElem?_eq_some_iff.1 hl1).1
  have hll:=hPs l (List.mem_of_getElem? hl1)
  have ha : X[i]?=some (X.getD i (0,0,())):=by simp [show i < X.length by omega]
  have e1 : aT .i64 (i : Int) 1=((i+1 : Nat) : Int):=cG (by omega)
  have hle:=pP u
  simp only [px]
  rw [aX (by omega),cond_true,aw,hl1]
  simp only [Option.bind_some]
  unfold gP
  by_cases hlong : (E.length : Int) < (l.length : Int)
  ·rw [hu,fT hlong,cond_true]
   have hno : mkR u l=.inr ():=by
    unfold mkR
    cases hmk : mk u l with
    | none=>rfl
    | some u'=>have:=(qh hmk).2; omega
   rw [hno]
   cases nv n E A (X.getD i (0,0,())) l <;> rfl
  ·rw [hu,fv (by omega),cond_false,aw,ha]
   simp only [Option.bind_some]
   rw [show Zs ((((N : Int),E,A,()),(n,(Ps,()))),(((X.getD i (0,0,())).1,((X.getD i (0,0,())).2.1,())),(l,())))=_ from BY h n Ps (X.getD i (0,0,())) l hll]
   simp only [Option.bind_some]
   cases hp : nv n E A (X.getD i (0,0,())) l with
   | false=>rfl
   | true =>
    have hok : ∀ d∈l,okD E.length d=true:=by
     match l,hp with
     | d :: r,hp =>
      rw [kO] at hp
      simp only [Bool.and_eq_true] at hp
      exact sX hp.1 hp.2.2.1
    simp only [Bool.not_true,cond_false,cond_true]
    rw [vV n X n Ps i l hl1 hll hok hm1 u hu]
    simp only [Option.bind_some]
    cases mkR u l with
    | inr e=>rfl
    | inl u' =>
     simp only [Sum.elim_inl,Sum.elim_inr]
     rw [e1]
 ·rintro u i l t hu hl1 hg
  unfold gP mkR at hg
  cases hp : nv n E A (X.getD i (0,0,())) l with
  | false=>rw [hp] at hg; cases hg
  | true =>
   rw [hp,cond_true] at hg
   cases hmk : mk u l with
   | none=>rw [hmk] at hg; cases hg
   | some u'=>rw [hmk] at hg; cases hg; rw [(qh hmk).1]; exact hu
 ·rintro u hu
  simp only [px]
  rw [aQ (by omega)]; rfl
def lS (_ : Nat) (_ : Unit) (l : List Int) : Option (Unit⊕Unit):=some (cond (neI (l.length : Nat) 4) (.inr ()) (.inl ()))
theorem Cm : ∀ (l : List (List Int)) (i : Nat),ak lS i () l=some (.inl ())∨ak lS i () l=some (.inr ())
 | [],_=>.inl rfl
 | a :: l,i=>by
  simp only [ak,lS]
  cases neI (a.length : Nat) 4 with
  | true=>exact .inr rfl
  | false=>exact Cm l (i+1)
theorem FM (n : Int) (X : List Arc) (N : Int) (E : List Arc) (A : List (List Int)) (p : Int) (Ps : List (List Int)) (B : List (List Int)) (hB : B.length≤100000) :
  Bb (n,X,N,E,A,p,Ps,N,E,A,B,(B.length : Nat),0,())=(ak lS 0 () B).bind (Sum.elim (fun _=>some (.inr (.inl (n,X,N,E,A,p,Ps,N,E,A,())))) (fun _=>some (.inl (false,())))) :=
 pR (B:=tv) (fun (_ : Unit) i=>(n,X,N,E,A,p,Ps,N,E,A,B,((B.length : Nat) : Int),(i : Int),())) (fun _=>.inr (.inl (n,X,N,E,A,p,Ps,N,E,A,()))) (fun (_ : Unit)=>.inl (false,())) lS B (by
  intro s i a ha
  have hi : i < B.length:=(List.getElem?_eq_some_iff.1 ha).1
  simp only [tv]
  rw [aX (by omega),cond_true,aw,ha,Option.bind_some,cG (by omega)]
  simp only [lS]
  cases neI (a.length : Nat) 4 <;> rfl) (by
  intro s
  simp only [tv]
  rw [aQ (by omega)]; rfl) ()
theorem EV (h : RotOK (N : Nat) E A) (n : Nat) (hn : n≤N) (X : List Arc) (Ps : List (List Int)) :
  Bp ((n : Int),X,(N : Int),E,A,(n : Int),Ps,(n : Int),())=(ak lS 0 () (A.drop n)).bind (Sum.elim (fun _=>some (.inr (.inl ((n : Int),X,(N : Int),E,A,(n : Int),Ps,())))) (fun _=>some (.inl (false,())))):=by
 have hlen:=h.len
 have hn1:=h.n16
 exact pR (B:=tW) (fun (_ : Unit) i=>((n : Int),X,(N : Int),E,A,(n : Int),Ps,((n+i : Nat) : Int),())) (fun _=>.inr (.inl ((n : Int),X,(N : Int),E,A,(n : Int),Ps,()))) (fun (_ : Unit)=>.inl (false,())) lS (A.drop n) (by
  intro s i a ha
  have hi : i < (A.drop n).length:=(List.getElem?_eq_some_iff.1 ha).1
  rw [List.length_drop] at hi
  rw [List.getElem?_drop] at ha
  have e1 : aT .i64 ((n+i : Nat) : Int) 1=((n+(i+1) : Nat) : Int):=cG (by omega)
  simp only [tW]
  rw [aX (by omega),cond_true,aw,ha,Option.bind_some,e1]
  simp only [lS]
  cases neI (a.length : Nat) 4 <;> rfl) (by
  intro s
  simp only [tW]
  rw [List.length_drop,aQ (by omega)]; rfl) ()
theorem tS (n : Int) (X : List Arc) : ∀ (Ps : List (List Int)) (i : Nat) (u : List Bool),u.length=E.length→(∃ u',ak (gP n E A X) i u Ps=some (.inl u')∧u'.length=E.length)∨ak (gP n E A X) i u Ps=some (.inr ())
 | [],i,u,hu=>.inl ⟨u,rfl,hu⟩
 | l :: Ps,i,u,hu=>by
  simp only [ak,gP]
  cases nv n E A (X.getD i (0,0,())) l with
  | false=>exact .inr rfl
  | true =>
   unfold mkR
   cases hmk : mk u l with
   | none=>exact .inr rfl
   | some u'=>exact tS n X Ps (i+1) u' ((qh hmk).1.trans hu)
theorem CW (m : Nat) : unm (List.replicate m false)=m:=by unfold unm; simp [List.countP_replicate]
theorem wo (n : Int) (X : List Arc) (Ni : Int) (E : List Arc) (A : List (List Int)) (p : Int) (Ps : List (List Int)) (hPl : Ps.length≤120) (hPs : ∀ l∈Ps,l.length≤9223372036854775807) (hA : ∀ l∈A,l.length≤9223372036854775807) :
  ∃ b,Zy ((n,X,()),((Ni,E,A,()),(p,(Ps,()))),())=some (b,())∧Zq ((n,X,()),((Ni,E,A,()),(p,(Ps,()))),())=some (b,()):=by
 unfold Zy Zq
 simp only
 rw [Fj,EQ,lY (Ni,E,A,()) hA,hU (Ni,E,A,()) hA]
 simp only [Option.bind_some]
 cases hd1 : dvB n X with
 | false=>exact ⟨false,rfl,rfl⟩
 | true =>
  simp only [Bool.not_true,cond_false]
  cases hv : validB (Ni,E,A,()) with
  | false=>exact ⟨false,rfl,rfl⟩
  | true =>
   simp only [Bool.not_true,cond_false]
   have h0:=Cc hv
   obtain ⟨N,rfl⟩ : ∃ N : Nat,Ni=N:=⟨Ni.toNat,by have:=h0.n0; omega⟩
   have h : RotOK (N : Nat) E A:=h0
   obtain ⟨nx,_,hn⟩:=rP h ()
   obtain ⟨g1,g2⟩:=zS h hn
   rw [g1,g2]
   simp only [Option.bind_some]
   cases neI (EM N E A (aW nx).length) 0 with
   | true=>exact ⟨false,rfl,rfl⟩
   | false =>
    simp only [cond_false]
    by_cases hp : p=n
    ·subst hp
     rw [iQ rfl,cond_false,cond_false]
     by_cases hlt : (N : Int) < p
     ·rw [aX hlt]; exact ⟨false,rfl,rfl⟩
     ·rw [aQ (by omega),cond_false,cond_false]
      by_cases hX : Ps.length=X.length
      ·have hX' : ((Ps.length : Nat) : Int)=((X.length : Nat) : Int):=by rw [hX]
       rw [iQ hX',cond_false,cond_false]
       have hn0 : 0≤p:=by
        unfold dvB at hd1
        simp only [Bool.and_eq_true,Bool.not_eq_true'] at hd1
        rcases Int.lt_or_le p 0 with h' | h'
        ·rw [aX h'] at hd1; cases hd1.1
        ·exact h'
       obtain ⟨n,rfl⟩ : ∃ n : Nat,p=n:=⟨p.toNat,by omega⟩
       have hlen:=h.len
       have hn1:=h.n16
       have hm1:=h.m1
       have hsl : o9 A (n : Int) (A.length : Nat)=some (A.drop n):=by
        unfold o9
        rw [if_pos ⟨by omega,by omega,by omega⟩]
        simp
       rw [hsl]
       simp only [Option.bind_some]
       rw [FM _ _ _ _ _ _ _ (A.drop n) (by rw [List.length_drop]; omega),EV h n (by omega)]
       rcases Cm (A.drop n) 0 with hf | hf
       ·rw [hf]
        simp only [Option.bind_some,Sum.elim_inl,Sum.elim_inr]
        rw [eE (Nat.le_refl _) (by omega)]
        simp only [Option.bind_some]
        have hz : List.replicate E.length (aB .bool)=List.replicate E.length false:=rfl
        rw [hz]
        have hul : (List.replicate E.length false).length=E.length:=List.length_replicate
        have k1:=wW h (n : Int) X Ps hX.symm (by omega) hPs _ hul
        have k2:=uH h (n : Int) X Ps hX.symm (by omega) hPs _ hul
        rw [CW] at k1 k2
        rw [Nat.sub_self,show ((0 : Nat) : Int)=0 from rfl] at k2
        rw [hul,k1,k2]
        rcases tS (E:=E) (A:=A) (n : Int) X Ps 0 _ hul with ⟨u',hu1,hu2⟩ | hu1
        ·rw [hu1]
         simp only [Option.bind_some,Sum.elim_inl,Sum.elim_inr]
         have hle:=pP u'
         by_cases hz : unm u'=0
         ·exact ⟨true,by rw [lK (by omega)],by rw [lK (by omega)]⟩
         ·exact ⟨false,by rw [fb (by omega)],by rw [fb (by omega)]⟩
        ·rw [hu1]
         exact ⟨false,rfl,rfl⟩
       ·rw [hf]; exact ⟨false,rfl,rfl⟩
      ·have hX' : ((Ps.length : Nat) : Int)≠((X.length : Nat) : Int):=by omega
       rw [iN hX']; exact ⟨false,rfl,rfl⟩
    ·rw [iN hp]; exact ⟨false,rfl,rfl⟩
def oO (_ : Nat) (_ : Unit) (l : List Int) : Option (Unit⊕Unit):=some (cond (gtI (l.length : Nat) 300) (.inr ()) (.inl ()))
theorem yn : ∀ (l : List (List Int)) (i : Nat),(ak oO i () l=some (.inl ())∧∀ x∈l,x.length≤300)∨ak oO i () l=some (.inr ())
 | [],_=>.inl ⟨rfl,fun x hx=>by cases hx⟩
 | a :: l,i=>by
  simp only [ak,oO]
  by_cases h : a.length≤300
  ·rw [fv (by omega),cond_false]
   rcases yn l (i+1) with ⟨h1,h2⟩ | h1
   ·refine .inl ⟨h1,fun x hx=>?_⟩
    rcases List.mem_cons.1 hx with e | hx
    ·rw [e]; exact h
    ·exact h2 x hx
   ·exact .inr h1
  ·rw [fT (by omega),cond_true]; exact .inr rfl
theorem Br (Ni : Int) (E : List Arc) (A : List (List Int)) (p : Int) (Ps : List (List Int)) : Zp (((Ni,E,A,()),(p,(Ps,()))),())=some (false,()) ∨
  (Zp (((Ni,E,A,()),(p,(Ps,()))),())=some (true,())∧Ps.length≤120∧∀ x∈A,x.length≤300):=by
 unfold Zp
 simp only
 by_cases h1 : E.length≤120
 ·rw [fv (by omega),cond_false]
  by_cases h2 : A.length≤120
  ·rw [fv (by omega),cond_false]
   by_cases h3 : Ps.length≤120
   ·rw [fv (by omega),cond_false]
    have hs:=pR (B:=uL) (fun (_ : Unit) i=>(Ni,E,A,p,Ps,(i : Int),())) (fun _=>.inr (.inl ())) (fun (_ : Unit)=>.inl (false,())) oO A (by
     intro s i a ha
     have hi : i < A.length:=(List.getElem?_eq_some_iff.1 ha).1
     simp only [uL]
     rw [aX (by omega),cond_true,aw,ha,Option.bind_some,cG (by omega)]
     simp only [oO]
     cases gtI (a.length : Nat) 300 <;> rfl) (by
     intro s
     simp only [uL]
     rw [aQ (by omega)]; rfl) ()
    unfold AQ
    rw [show ((0 : Int))=((0 : Nat) : Int) from rfl,hs]
    rcases yn A 0 with ⟨h4,h5⟩ | h4
    ·rw [h4]; exact .inr ⟨rfl,h3,h5⟩
    ·rw [h4]; exact .inl rfl
   ·rw [fT (by omega)]; exact .inl rfl
  ·rw [fT (by omega)]; exact .inl rfl
 ·rw [fT (by omega)]; exact .inl rfl
theorem iT (x : ((Int×((List (Int×(Int×Unit)))×Unit))×(((Int×((List (Int×(Int×Unit)))×((List (List Int))×Unit)))×(Int×((List (List Int))×Unit)))×Unit))) (hx : uR Za_c.ins x) : Za x=some (true,()):=by
 obtain ⟨⟨n,X,u1⟩,⟨⟨Ni,E,A,u2⟩,p,Ps,u3⟩,u4⟩:=x
 have haw : Zi ()=some (true,()):=rfl
 have hPs : ∀ l∈Ps,l.length≤9223372036854775807:=by
  intro l hl
  have h9 : l.length≤maxLen:=(hx.2.1.2.2.1.2 l hl).1
  exact Nat.le_trans h9 (by unfold maxLen; omega)
 unfold Za
 simp only
 rcases Br Ni E A p Ps with h | ⟨h,h1,h2⟩
 ·rw [h,haw]; rfl
 ·rw [h,haw]
  have hA : ∀ l∈A,l.length≤9223372036854775807:=fun l hl=>by have:=h2 l hl; omega
  obtain ⟨b,k1,k2⟩:=wo n X Ni E A p Ps h1 hPs hA
  simp only [Option.bind_some,Bool.not_true,cond_false]
  rw [k1,k2]
  simp only [Option.bind_some]
  have hb : eqB b b=true:=by cases b <;> rfl
  rw [hb,cond_true]
  unfold Ze Zc
  simp only
  rw [lY (Ni,E,A,()) hA,hU (Ni,E,A,()) hA]
  simp only [Option.bind_some]
  have hI : ∀ a : Int,eqI a a=true:=fun a=>lK rfl
  cases validB (Ni,E,A,()) with
  | false=>rfl
  | true =>
   cases ltI p 0 with
   | true=>rfl
   | false =>
    cases gtI p Ni with
    | true=>rfl
    | false =>
     simp only [Bool.not_true,cond_false,Option.bind_some,hI,cond_true]
end
end Go.Vm


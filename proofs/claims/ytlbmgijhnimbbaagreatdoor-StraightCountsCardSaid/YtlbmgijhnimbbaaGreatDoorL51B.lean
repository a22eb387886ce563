/-
 StraightCounts: the counts of the program and of the reference are one.
-/
import Derived.Test.YtlbmgijhnimbbaaGreatDoorL51A
import Derived.Test.YtlbmgijhnimbbaaGreatDoorVmD
set_option linter.unusedVariables false
set_option linter.unusedSimpArgs false
namespace Go.Vm
open Go.Proofs
set_option maxRecDepth 100000
attribute [local irreducible] aL
def g8 (N : Int) (a : Pt) : Bool:=ltI a.1 0 || (geI a.1 N || (ltI a.2.1 0 || geI a.2.1 N))
theorem xF (N : Int) (a : Pt) : (ltI (fb a.1 a.2.1) 0 || geI (maxI a.1 a.2.1) N)=g8 N a:=by
 have e1 : ltI (fb a.1 a.2.1) 0=(ltI a.1 0 || ltI a.2.1 0):=by
  unfold fb
  split
  ·by_cases h : a.2.1 < 0
   ·rw [gl h,Bool.or_true]
   ·rw [eM (by omega),eM (by omega)]; rfl
  ·by_cases h : a.1 < 0
   ·rw [gl h,Bool.true_or]
   ·rw [eM (by omega),eM (by omega)]; rfl
 have e2 : geI (maxI a.1 a.2.1) N=(geI a.1 N || geI a.2.1 N):=by
  unfold maxI
  split
  ·by_cases h : N≤a.2.1
   ·rw [v6 h,Bool.or_true]
   ·rw [ub (by omega),ub (by omega)]; rfl
  ·by_cases h : N≤a.1
   ·rw [v6 h,Bool.true_or]
   ·rw [ub (by omega),ub (by omega)]; rfl
 rw [e1,e2,g8]
 cases ltI a.1 0 <;> cases ltI a.2.1 0 <;> cases geI a.1 N <;> cases geI a.2.1 N <;> rfl
def dvB (N : Int) (E : List Pt) : Bool:=!ltI N 0 && (!gtI N 64 && (!gtI (E.length : Nat) 256 && !E.any (g8 N)))
def oH (N : Int) (_ : Nat) (_ : Unit) (a : Pt) : Option (Unit⊕Unit):=some (cond (g8 N a) (.inr ()) (.inl ()))
theorem tQ (N : Int) : ∀ (E : List Pt) (i : Nat),bp (oH N) i () E=some (cond (E.any (g8 N)) (.inr ()) (.inl ()))
 | [],_=>rfl
 | a :: E,i=>by
  simp only [bp,oH,Option.bind_some,List.any_cons]
  cases g8 N a with
  | true=>rfl
  | false=>exact tQ N E (i+1)
theorem yO (N : Int) (E : List Pt) (hE : E.length≤256) : xn (N,E,E,(E.length : Nat),0,())=some (cond (E.any (g8 N)) (.inl (false,())) (.inr (.inl ()))):=by
 have:=oa (B:=rx) (fun (_ : Unit) i=>(N,E,E,((E.length : Nat) : Int),(i : Int),())) (fun _=>.inr (.inl ())) (fun (_ : Unit)=>.inl (false,())) (oH N) E (by
  intro s i a ha
  have hi : i < E.length:=(List.getElem?_eq_some_iff.1 ha).1
  simp only [rx]
  rw [gl (by omega),cond_true,dL,ha,Option.bind_some,oi (by omega)]
  simp only [oH,← xF]
  cases ltI (fb a.1 a.2.1) 0 <;> cases geI (maxI a.1 a.2.1) N <;> rfl) (by
  intro s
  simp only [rx]
  rw [eM (by omega)]; rfl) ()
 rw [tQ] at this
 show aL _ _=_
 refine this.trans ?_
 cases E.any (g8 N) <;> rfl
theorem xf (N : Int) (E : List Pt) (hE : E.length≤256) : wA (N,E,0,())=some (cond (E.any (g8 N)) (.inl (false,())) (.inr (.inl ()))):=by
 have:=oa (B:=rG) (fun (_ : Unit) i=>(N,E,(i : Int),())) (fun _=>.inr (.inl ())) (fun (_ : Unit)=>.inl (false,())) (oH N) E (by
  intro s i a ha
  have hi : i < E.length:=(List.getElem?_eq_some_iff.1 ha).1
  simp only [rG]
  rw [gl (by omega),cond_true,dL,ha,Option.bind_some,oi (by omega)]
  simp only [oH,g8]
  cases ltI a.1 0 <;> cases geI a.1 N <;> cases ltI a.2.1 0 <;> cases geI a.2.1 N <;> rfl) (by
  intro s
  simp only [rG]
  rw [eM (by omega)]; rfl) ()
 rw [tQ] at this
 show aL _ _=_
 refine this.trans ?_
 cases E.any (g8 N) <;> rfl
theorem A0 (N : Int) (E : List Pt) (u : Unit) : Zu ((N,E,u),())=some (dvB N E,()):=by
 unfold Zu dvB
 simp only
 cases ltI N 0 with
 | true=>rfl
 | false =>
  cases gtI N 64 with
  | true=>rfl
  | false =>
   by_cases h : E.length≤256
   ·rw [ru (by omega)]
    simp only [cond_false,Bool.not_false,Bool.true_and]
    rw [yO N E h]
    cases E.any (g8 N) <;> rfl
   ·rw [qA (by omega)]; rfl
theorem zZ (N : Int) (E : List Pt) (u : Unit) : Zj ((N,E,u),())=some (dvB N E,()):=by
 unfold Zj dvB
 simp only
 cases ltI N 0 with
 | true=>rfl
 | false =>
  cases gtI N 64 with
  | true=>rfl
  | false =>
   by_cases h : E.length≤256
   ·rw [ru (by omega)]
    simp only [cond_false,Bool.not_false,Bool.true_and]
    rw [xf N E h]
    cases E.any (g8 N) <;> rfl
   ·rw [qA (by omega)]; rfl
def nF (i : Nat) (_ : Unit) (q : Pt) : Option (Unit⊕Nat):=some (cond (pv q) (.inl ()) (.inr i))
theorem su : ∀ (P : List Pt) (i : Nat),(P.all pv=true∧bp nF i () P=some (.inl ()))∨(P.all pv=false∧∃ j,bp nF i () P=some (.inr j))
 | [],_=>.inl ⟨rfl,rfl⟩
 | a :: P,i=>by
  simp only [bp,nF,List.all_cons]
  cases pv a with
  | true=>exact su P (i+1)
  | false=>exact .inr ⟨rfl,_,rfl⟩
theorem rz (P : List Pt) (hP : P.length≤100) : Za (P,(),())=some (!P.all pv,()):=by
 have hs:=oa (B:=rn) (fun (_ : Unit) i=>(P,(),((P.length : Nat) : Int),(i : Int),())) (fun _=>.inr (.inl ())) (fun (j : Nat)=>.inl ((j : Int),())) nF P (by
  intro s i a ha
  have hi : i < P.length:=(List.getElem?_eq_some_iff.1 ha).1
  simp only [rn]
  rw [gl (by omega),cond_true,dL,ha,Option.bind_some,oi (by omega)]
  change ((Zv (a,())).bind fun r1=>some ((!r1.1),())).bind _=_
  rw [iW]
  simp only [Option.bind_some,nF]
  cases pv a <;> rfl) (by
  intro s
  simp only [rn]
  rw [eM (by omega)]; rfl) ()
 unfold Za Zb wN
 simp only
 rw [show ((0 : Int))=((0 : Nat) : Int) from rfl,hs]
 rcases su P 0 with ⟨h1,h2⟩ | ⟨h1,j,h2⟩
 ·rw [h1,h2]; rfl
 ·rw [h1,h2]
  simp only [Option.bind_some,Sum.elim_inr,Sum.elim_inl]
  rw [v6 (by omega)]; rfl
theorem rO (N : Int) (E P : List Pt) (hN : (P.length : Int)=N) (hP : P.length≤100) : t7 (N,E,P,0,())=some (cond (P.all pv) (.inr (.inl (N,E,P,()))) (.inl (-1,()))):=by
 have hs:=oa (B:=rf) (fun (_ : Unit) i=>(N,E,P,(i : Int),())) (fun _=>.inr (.inl (N,E,P,()))) (fun (_ : Nat)=>.inl (-1,())) nF P (by
  intro s i a ha
  have hi : i < P.length:=(List.getElem?_eq_some_iff.1 ha).1
  simp only [rf]
  rw [gl (by omega),cond_true,dL,ha,Option.bind_some,oi (by omega),dj]
  simp only [Option.bind_some,nF]
  cases pv a <;> rfl) (by
  intro s
  simp only [rf]
  rw [eM (by omega)]; rfl) ()
 unfold t7
 rw [show ((0 : Int))=((0 : Nat) : Int) from rfl,hs]
 rcases su P 0 with ⟨h1,h2⟩ | ⟨h1,j,h2⟩
 ·rw [h1,h2]; rfl
 ·rw [h1,h2]; rfl
def apB (a b : Pt) : Bool:=neI a.1 b.1 && (neI a.1 b.2.1 && (neI a.2.1 b.1 && neI a.2.1 b.2.1))
def at_ (P : List Pt) (i : Int) : Pt:=P.getD i.toNat (0,0,())
def s1 (P : List Pt) (a : Pt) (_ : Nat) (n : Int) (b : Pt) : Option (Int⊕Empty):=some (.inl (cond (apB a b && lN (at_ P a.1) (at_ P a.2.1) (at_ P b.1) (at_ P b.2.1)) (ct .i64 n 1) n))
def s2 (P : List Pt) (a : Pt) (v : Nat) (n : Int) (q : Pt) : Option (Int⊕Empty):=some (.inl (cond (neI (v : Int) a.1 && (neI (v : Int) a.2.1 && onB (at_ P a.1) (at_ P a.2.1) q)) (ct .i64 n 1) n))
def s3 (P E : List Pt) (i : Nat) (n : Int) (a : Pt) : Option (Int⊕Empty):=(bp (s1 P a) 0 n (E.take i)).bind (Sum.elim (fun m=>bp (s2 P a) 0 m P) (fun _=>none))
structure CntOK (N : Int) (E P : List Pt) : Prop where
 hN : (P.length : Int)=N
 hP : P.length≤100
 hE : E.length≤256
 hv : P.all pv=true
 hb : E.any (g8 N)=false
section
variable {N : Int} {E P : List Pt}
theorem rq (H : CntOK N E P) {a : Pt} (ha : a∈E) : cS P a.1=some (at_ P a.1)∧cS P a.2.1=some (at_ P a.2.1)∧pv (at_ P a.1)=true∧pv (at_ P a.2.1)=true:=by
 have hN:=H.hN; have hP:=H.hP; have hE:=H.hE; have hv:=H.hv; have hb:=H.hb
 have h : g8 N a=false:=by
  cases h : g8 N a with
  | false=>rfl
  | true=>rw [List.any_eq_true.2 ⟨a,ha,h⟩] at hb; cases hb
 simp only [g8,Bool.or_eq_false_iff,ltI,geI,decide_eq_false_iff_not] at h
 have one : ∀ i : Int,0≤i→i < N→cS P i=some (at_ P i)∧pv (at_ P i)=true:=by
  intro i h0 h1
  have hi : i.toNat < P.length:=by omega
  have e : P[i.toNat]?=some (at_ P i):=by simp [at_,hi]
  exact ⟨by rw [wg h0,e],List.all_eq_true.1 hv _ (List.mem_of_getElem? e)⟩
 obtain ⟨k1,k2⟩:=one a.1 (by omega) (by omega)
 obtain ⟨k3,k4⟩:=one a.2.1 (by omega) (by omega)
 exact ⟨k1,k3,k2,k4⟩
theorem Bb (H : CntOK N E P) {a : Pt} (ha : a∈E) (i : Nat) (hi : i≤E.length) (n : Int) (c d : Int) (X : List Pt) :
  wK (N,E,a.1,a.2.1,(at_ P a.1).1,(at_ P a.1).2.1,(at_ P a.2.1).1,(at_ P a.2.1).2.1,P,n,X,c,d,E.take i,((E.take i).length : Nat),0,()) =
   (bp (s1 P a) 0 n (E.take i)).bind (Sum.elim (fun m=>some (.inl (N,E,a.1,a.2.1,(at_ P a.1).1,(at_ P a.1).2.1,(at_ P a.2.1).1,(at_ P a.2.1).2.1,P,m,X,c,d,()))) (fun _=>none)):=by
 have hN:=H.hN; have hP:=H.hP; have hE:=H.hE; have hv:=H.hv; have hb:=H.hb
 obtain ⟨q1,q2,q3,q4⟩:=rq H ha
 have hs:=oa (B:=rX) (fun (n : Int) k=>(N,E,a.1,a.2.1,(at_ P a.1).1,(at_ P a.1).2.1,(at_ P a.2.1).1,(at_ P a.2.1).2.1,P,n,X,c,d,E.take i,(((E.take i).length : Nat) : Int),(k : Int),()))
  (fun m=>.inl (N,E,a.1,a.2.1,(at_ P a.1).1,(at_ P a.1).2.1,(at_ P a.2.1).1,(at_ P a.2.1).2.1,P,m,X,c,d,())) (fun (e : Empty)=>nomatch e) (s1 P a) (E.take i) (by
  intro n k b hk
  have hkl : k < (E.take i).length:=(List.getElem?_eq_some_iff.1 hk).1
  have hbE : b∈E:=List.mem_of_mem_take (List.mem_of_getElem? hk)
  obtain ⟨r1,r2,r3,r4⟩:=rq H hbE
  have hm:=zq q3 q4 r3 r4
  simp only [rX]
  rw [gl (by omega),cond_true,dL,hk,Option.bind_some,oi (by rw [List.length_take] at hkl; omega),r1,r2]
  simp only [Option.bind_some,s1,apB]
  change cond _ (cond _ (cond _ (cond _ ((Zw ((at_ P a.1,at_ P a.2.1,()),(at_ P b.1,at_ P b.2.1,()),())).bind _) _) _) _) _=_
  rw [hm]
  simp only [Option.bind_some]
  cases neI a.1 b.1 <;> cases neI a.1 b.2.1 <;> cases neI a.2.1 b.1 <;> cases neI a.2.1 b.2.1 <;> cases lN (at_ P a.1) (at_ P a.2.1) (at_ P b.1) (at_ P b.2.1) <;> rfl) (by
  intro s
  simp only [rX]
  rw [eM (by omega)]; rfl) n
 refine hs.trans ?_
 cases bp (s1 P a) 0 n (E.take i) with
 | none=>rfl
 | some x=>cases x with
  | inl t=>rfl
  | inr e=>cases e
theorem Bp (H : CntOK N E P) {a : Pt} (ha : a∈E) (n : Int) (c d : Int) (X : List Pt) :
  tH (N,E,a.1,a.2.1,(at_ P a.1).1,(at_ P a.1).2.1,(at_ P a.2.1).1,(at_ P a.2.1).2.1,P,n,X,c,d,P,(P.length : Nat),0,()) =
   (bp (s2 P a) 0 n P).bind (Sum.elim (fun m=>some (.inl (N,E,P,m,X,c,d,()))) (fun _=>none)):=by
 have hN:=H.hN; have hP:=H.hP; have hE:=H.hE; have hv:=H.hv; have hb:=H.hb
 obtain ⟨q1,q2,q3,q4⟩:=rq H ha
 have hs:=oa (B:=mZ) (fun (n : Int) k=>(N,E,a.1,a.2.1,(at_ P a.1).1,(at_ P a.1).2.1,(at_ P a.2.1).1,(at_ P a.2.1).2.1,P,n,X,c,d,P,((P.length : Nat) : Int),(k : Int),()))
  (fun m=>.inl (N,E,P,m,X,c,d,())) (fun (e : Empty)=>nomatch e) (s2 P a) P (by
  intro n k b hk
  have hkl : k < P.length:=(List.getElem?_eq_some_iff.1 hk).1
  have hm:=A8 q3 q4 (List.all_eq_true.1 hv _ (List.mem_of_getElem? hk))
  simp only [mZ]
  rw [gl (by omega),cond_true,dL,hk,Option.bind_some,oi (by omega)]
  simp only [s2]
  change cond _ (cond _ ((Zy (b,(at_ P a.1,at_ P a.2.1,()),())).bind _) _) _=_
  rw [hm]
  simp only [Option.bind_some]
  cases neI (k : Int) a.1 <;> cases neI (k : Int) a.2.1 <;> cases onB (at_ P a.1) (at_ P a.2.1) b <;> rfl) (by
  intro s
  simp only [mZ]
  rw [eM (by omega)]; rfl) n
 refine hs.trans ?_
 cases bp (s2 P a) 0 n P with
 | none=>rfl
 | some x=>cases x with
  | inl t=>rfl
  | inr e=>cases e
theorem AN (H : CntOK N E P) : wh (N,E,P,0,E,(E.length : Nat),0,())=(bp (s3 P E) 0 0 E).bind (Sum.elim (fun m=>some (.inl (m,()))) (fun _=>none)):=by
 have hN:=H.hN; have hP:=H.hP; have hE:=H.hE; have hv:=H.hv; have hb:=H.hb
 have hs:=oa (B:=so) (fun (n : Int) k=>(N,E,P,n,E,((E.length : Nat) : Int),(k : Int),())) (fun m=>.inl (m,())) (fun (e : Empty)=>nomatch e) (s3 P E) E (by
  intro n k a hk
  have hkl : k < E.length:=(List.getElem?_eq_some_iff.1 hk).1
  have ha : a∈E:=List.mem_of_getElem? hk
  obtain ⟨q1,q2,q3,q4⟩:=rq H ha
  have hsl : nP E 0 (k : Int)=some (E.take k):=by
   unfold nP
   rw [if_pos ⟨by omega,by omega,by omega⟩]
   simp
  simp only [so]
  rw [gl (by omega),cond_true,dL,hk,Option.bind_some,q1,q2]
  have h1k : ct .i64 (k : Int) 1=((k+1 : Nat) : Int):=oi (by omega)
  simp only [Option.bind_some,hsl]
  rw [Bb H ha k (by omega)]
  unfold s3
  cases bp (s1 P a) 0 n (E.take k) with
  | none=>rfl
  | some x=>cases x with
   | inr e=>cases e
   | inl m =>
    simp only [Option.bind_some,Sum.elim_inl]
    rw [Bp H ha]
    cases bp (s2 P a) 0 m P with
    | none=>rfl
    | some x=>cases x with
     | inr e=>cases e
     | inl m=>simp only [Option.bind_some,Sum.elim_inl,h1k]) (by
  intro s
  simp only [so]
  rw [eM (by omega)]; rfl) 0
 refine hs.trans ?_
 cases bp (s3 P E) 0 0 E with
 | none=>rfl
 | some x=>cases x with
  | inl t=>rfl
  | inr e=>cases e
theorem AI (H : CntOK N E P) {a : Pt} (ha : a∈E) (i : Nat) (hi : i≤E.length) (n : Int) :
  ta (N,E,a.1,a.2.1,(at_ P a.1).1,(at_ P a.1).2.1,(at_ P a.2.1).1,(at_ P a.2.1).2.1,P,n,(i : Int),0,()) =
   (bp (s1 P a) 0 n (E.take i)).bind (Sum.elim (fun m=>some (.inl (N,E,a.1,a.2.1,(at_ P a.1).1,(at_ P a.1).2.1,(at_ P a.2.1).1,(at_ P a.2.1).2.1,P,m,(i : Int),()))) (fun _=>none)):=by
 have hN:=H.hN; have hP:=H.hP; have hE:=H.hE; have hv:=H.hv; have hb:=H.hb
 obtain ⟨q1,q2,q3,q4⟩:=rq H ha
 have hl : (E.take i).length=i:=by rw [List.length_take]; omega
 have hs:=oa (B:=nh) (fun (n : Int) k=>(N,E,a.1,a.2.1,(at_ P a.1).1,(at_ P a.1).2.1,(at_ P a.2.1).1,(at_ P a.2.1).2.1,P,n,(i : Int),(k : Int),()))
  (fun m=>.inl (N,E,a.1,a.2.1,(at_ P a.1).1,(at_ P a.1).2.1,(at_ P a.2.1).1,(at_ P a.2.1).2.1,P,m,(i : Int),())) (fun (e : Empty)=>nomatch e) (s1 P a) (E.take i) (by
  intro n k b hk
  have hkl : k < (E.take i).length:=(List.getElem?_eq_some_iff.1 hk).1
  have hki : k < i:=by omega
  have hkE : E[k]?=some b:=by rw [List.getElem?_take,if_pos hki] at hk; exact hk
  have hbE : b∈E:=List.mem_of_getElem? hkE
  obtain ⟨r1,r2,r3,r4⟩:=rq H hbE
  have hm:=vU q3 q4 r3 r4
  simp only [nh]
  rw [gl (by omega),cond_true,dL,hkE,Option.bind_some,oi (by omega),r1,r2]
  change (cond (neI a.1 b.1) (cond (neI a.1 b.2.1) (cond (neI a.2.1 b.1) (some (neI a.2.1 b.2.1,())) (some (false,()))) (some (false,()))) (some (false,()))).bind _=_
  simp only [Option.bind_some,s1,apB]
  rw [show Zo (((((at_ P a.1).1,(at_ P a.1).2.1,()),((at_ P a.2.1).1,(at_ P a.2.1).2.1,()),())),((((at_ P b.1).1,(at_ P b.1).2.1,()),((at_ P b.2.1).1,(at_ P b.2.1).2.1,()),())),())=_ from hm]
  simp only [Option.bind_some]
  cases neI a.1 b.1 <;> cases neI a.1 b.2.1 <;> cases neI a.2.1 b.1 <;> cases neI a.2.1 b.2.1 <;> cases lN (at_ P a.1) (at_ P a.2.1) (at_ P b.1) (at_ P b.2.1) <;> rfl) (by
  intro s
  simp only [nh]
  rw [eM (by omega)]; rfl) n
 refine hs.trans ?_
 cases bp (s1 P a) 0 n (E.take i) with
 | none=>rfl
 | some x=>cases x with
  | inl t=>rfl
  | inr e=>cases e
theorem Ay (H : CntOK N E P) {a : Pt} (ha : a∈E) (n : Int) (d : Int) :
  sx (N,E,a.1,a.2.1,(at_ P a.1).1,(at_ P a.1).2.1,(at_ P a.2.1).1,(at_ P a.2.1).2.1,P,n,d,0,()) =
   (bp (s2 P a) 0 n P).bind (Sum.elim (fun m=>some (.inl (N,E,P,m,d,()))) (fun _=>none)):=by
 have hN:=H.hN; have hP:=H.hP; have hE:=H.hE; have hv:=H.hv; have hb:=H.hb
 obtain ⟨q1,q2,q3,q4⟩:=rq H ha
 have hs:=oa (B:=nB) (fun (n : Int) k=>(N,E,a.1,a.2.1,(at_ P a.1).1,(at_ P a.1).2.1,(at_ P a.2.1).1,(at_ P a.2.1).2.1,P,n,d,(k : Int),()))
  (fun m=>.inl (N,E,P,m,d,())) (fun (e : Empty)=>nomatch e) (s2 P a) P (by
  intro n k b hk
  have hkl : k < P.length:=(List.getElem?_eq_some_iff.1 hk).1
  have hm:=nv q3 q4 (List.all_eq_true.1 hv _ (List.mem_of_getElem? hk))
  simp only [nB]
  rw [gl (by omega),cond_true,dL,hk,Option.bind_some,oi (by omega)]
  simp only [s2]
  rw [show Zs (b,((((at_ P a.1).1,(at_ P a.1).2.1,()),((at_ P a.2.1).1,(at_ P a.2.1).2.1,()),())),())=_ from hm]
  simp only [Option.bind_some]
  cases neI (k : Int) a.1 <;> cases neI (k : Int) a.2.1 <;> cases onB (at_ P a.1) (at_ P a.2.1) b <;> rfl) (by
  intro s
  simp only [nB]
  rw [eM (by omega)]; rfl) n
 refine hs.trans ?_
 cases bp (s2 P a) 0 n P with
 | none=>rfl
 | some x=>cases x with
  | inl t=>rfl
  | inr e=>cases e
theorem Au (H : CntOK N E P) : sM (N,E,P,0,0,())=(bp (s3 P E) 0 0 E).bind (Sum.elim (fun m=>some (.inl (m,()))) (fun _=>none)):=by
 have hN:=H.hN; have hP:=H.hP; have hE:=H.hE; have hv:=H.hv; have hb:=H.hb
 have hs:=oa (B:=mN) (fun (n : Int) k=>(N,E,P,n,(k : Int),())) (fun m=>.inl (m,())) (fun (e : Empty)=>nomatch e) (s3 P E) E (by
  intro n k a hk
  have hkl : k < E.length:=(List.getElem?_eq_some_iff.1 hk).1
  have ha : a∈E:=List.mem_of_getElem? hk
  obtain ⟨q1,q2,q3,q4⟩:=rq H ha
  simp only [mN]
  rw [gl (by omega),cond_true,dL,hk,Option.bind_some,q1,q2]
  simp only [Option.bind_some]
  rw [AI H ha k (by omega)]
  unfold s3
  cases bp (s1 P a) 0 n (E.take k) with
  | none=>rfl
  | some x=>cases x with
   | inr e=>cases e
   | inl m =>
    simp only [Option.bind_some,Sum.elim_inl]
    rw [Ay H ha]
    have h1k : ct .i64 (k : Int) 1=((k+1 : Nat) : Int):=oi (by omega)
    cases bp (s2 P a) 0 m P with
    | none=>rfl
    | some x=>cases x with
     | inr e=>cases e
     | inl m=>simp only [Option.bind_some,Sum.elim_inl,h1k]) (by
  intro s
  simp only [mN]
  rw [eM (by omega)]; rfl) 0
 refine hs.trans ?_
 cases bp (s3 P E) 0 0 E with
 | none=>rfl
 | some x=>cases x with
  | inl t=>rfl
  | inr e=>cases e
theorem vY : ∃ m,bp (s3 P E) 0 0 E=some (.inl m):=by
 have t1 : ∀ a i n l,∃ m,bp (s1 P a) i n l=some (.inl m):=fun a i n l=>pk (fun _ n b=>cond (apB a b && lN (at_ P a.1) (at_ P a.2.1) (at_ P b.1) (at_ P b.2.1)) (ct .i64 n 1) n) (fun _ _ _ _=>rfl)
 have t2 : ∀ a i n l,∃ m,bp (s2 P a) i n l=some (.inl m):=fun a i n l=>pk (fun v n q=>cond (neI (v : Int) a.1 && (neI (v : Int) a.2.1 && onB (at_ P a.1) (at_ P a.2.1) q)) (ct .i64 n 1) n) (fun _ _ _ _=>rfl)
 have t3 : ∀ l i n,∃ m,bp (s3 P E) i n l=some (.inl m):=by
  intro l
  induction l with
  | nil=>intro i n; exact ⟨n,rfl⟩
  | cons a l ih =>
   intro i n
   obtain ⟨m,hm⟩:=t1 a 0 n (E.take i)
   obtain ⟨m',hm'⟩:=t2 a 0 m P
   obtain ⟨m'',hm''⟩:=ih (i+1) m'
   refine ⟨m'',?_⟩
   simp only [bp,s3,hm,Option.bind_some,Sum.elim_inl,hm']
   exact hm''
 exact t3 E 0 0
end
theorem iP (x : ((Int×((List (Int×(Int×Unit)))×Unit))×((List (Int×(Int×Unit)))×Unit))) (_ : qR Zc_c.ins x) : Zc x=some (true,()):=by
 obtain ⟨⟨N,E,u⟩,P,u'⟩:=x
 unfold Zc
 simp only
 have haw : Zi ()=some (true,()):=rfl
 by_cases h1 : E.length≤40
 ·rw [ru (by omega),cond_false]
  by_cases h2 : P.length≤100
  ·rw [ru (by omega),cond_false,haw]
   have key : ∃ n,Zf ((N,E,()),P,())=some (n,())∧Zd ((N,E,()),P,())=some (n,()):=by
    unfold Zf Zd
    simp only
    rw [A0,zZ]
    simp only [Option.bind_some]
    cases hd : dvB N E with
    | false=>exact ⟨-1,rfl,rfl⟩
    | true =>
     simp only [Bool.not_true,cond_false]
     by_cases hN : (P.length : Int)=N
     ·rw [zD hN]
      simp only [cond_false]
      rw [rz P h2,rO N E P hN h2]
      cases hv : P.all pv with
      | false=>exact ⟨-1,rfl,rfl⟩
      | true =>
       have hb : E.any (g8 N)=false:=by
        unfold dvB at hd
        simp only [Bool.and_eq_true,Bool.not_eq_true'] at hd
        exact hd.2.2.2
       simp only [Option.bind_some,Bool.not_true,cond_false,cond_true,Sum.elim_inl,Sum.elim_inr]
       rw [AN ⟨hN,h2,by omega,hv,hb⟩,Au ⟨hN,h2,by omega,hv,hb⟩]
       obtain ⟨m,hm⟩:=vY (E:=E) (P:=P)
       rw [hm]
       exact ⟨m,rfl,rfl⟩
     ·rw [zQ hN]
      exact ⟨-1,rfl,rfl⟩
   obtain ⟨n,k1,k2⟩:=key
   rw [k1,k2]
   simp only [Option.bind_some]
   rw [zF rfl]; rfl
  ·rw [qA (by omega),cond_true,haw]; rfl
 ·rw [qA (by omega),cond_true,haw]; rfl
end Go.Vm

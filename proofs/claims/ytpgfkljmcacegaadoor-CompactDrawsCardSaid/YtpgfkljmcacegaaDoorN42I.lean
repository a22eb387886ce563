/-
 The law CompactChecks on values.
-/
import Derived.Test.YtpgfkljmcacegaaDoorN42H
set_option linter.unusedVariables false
set_option linter.unusedSimpArgs false
namespace Go.Vm
open Go.Proofs
set_option maxRecDepth 100000
attribute [local irreducible] loopFix
def eqP (x y : Pt) : Bool:=eqI x.1 y.1 && (eqI x.2.1 y.2.1 && true)
theorem eqI_symm (a b : Int) : eqI a b=eqI b a:=by
 by_cases h : a=b
 ·rw [eqI_t h,eqI_t h.symm]
 ·rw [eqI_f h,eqI_f (Ne.symm h)]
theorem eqP_symm (x y : Pt) : eqP x y=eqP y x:=by
 unfold eqP
 rw [eqI_symm x.1,eqI_symm x.2.1]
theorem pmap_get (x : Pt) : ∀ s : List Pt,mapGet (.prod I (.prod I .unit)) .bool x (s.map fun y=>(y,true))=cond (s.any (eqP x)) (some true) none
 | []=>rfl
 | y :: s=>by
  simp only [List.map_cons,mapGet,List.any_cons]
  rw [pmap_get x s,show eqK (.prod I (.prod I .unit)) x y=eqP x y from rfl]
  cases eqP x y <;> rfl
theorem pmap_set (x : Pt) : ∀ s : List Pt,s.any (eqP x)=false→mapSet (.prod I (.prod I .unit)) .bool x true (s.map fun y=>(y,true))=(s++[x]).map fun y=>(y,true)
 | [],_=>rfl
 | y :: s,h=>by
  simp only [List.any_cons,Bool.or_eq_false_iff] at h
  simp only [List.map_cons,mapSet,List.cons_append]
  rw [show eqK (.prod I (.prod I .unit)) x y=eqP x y from rfl,h.1,cond_false,pmap_set x s h.2]
def difS (P : List Pt) (i : Nat) (_ : Unit) (x : Pt) : Option (Unit⊕Unit):=some (cond (vP x && !((P.take i).any (eqP x))) (.inl ()) (.inr ()))
theorem different_eq (P : List Pt) (hP : P.length≤1000000) : Zab (P,())=(foldE (difS P) 0 () P).bind (Sum.elim (fun _=>some (true,())) (fun _=>some (false,()))):=by
 have k:=scanI (B:=Zab_B3) (fun i (m : List (Pt×Bool))=>m=(P.take i).map fun y=>(y,true)) (fun m i=>(m,P,((P.length : Nat) : Int),(i : Int),())) (fun _=>.inr (.inl ())) (fun (_ : Unit)=>.inl (false,()))
  (fun i m (x : Pt)=>some (cond (vP x && !((P.take i).any (eqP x))) (.inl (m++[(x,true)])) (.inr ()))) P (by
   intro m i x hm hx
   have hi : i < P.length:=(List.getElem?_eq_some_iff.1 hx).1
   unfold Zab_B3
   simp only
   rw [ltI_t (by omega),cond_true,getI_of,hx,Option.bind_some,add1 (by omega),hm]
   rw [show Zca ((x.1,x.2.1,()),())=_ from pvalid x,Option.bind_some]
   cases hv : vP x with
   | false=>rfl
   | true =>
    simp only [Bool.not_true,cond_false,Bool.true_and]
    have e1 : mapGet (.prod I (.prod I .unit)) .bool (x.1,x.2.1,()) ((P.take i).map fun y=>(y,true))=_:=pmap_get x (P.take i)
    rw [e1]
    cases hb : (P.take i).any (eqP x) with
    | true=>rfl
    | false =>
     have e2 : mapSet (.prod I (.prod I .unit)) .bool (x.1,x.2.1,()) true ((P.take i).map fun y=>(y,true))=_:=pmap_set x (P.take i) hb
     simp only [cond_false,Option.getD_none]
     rw [e2]
     simp
     rfl) (by
   intro m i x t hm hx ht
   cases hb : vP x && !((P.take i).any (eqP x)) with
   | false=>rw [hb] at ht; cases ht
   | true =>
    rw [hb] at ht
    simp only [cond_true,Option.some.injEq,Sum.inl.injEq] at ht
    subst ht
    rw [hm,List.take_add_one,hx]
    simp) (by
   intro m _
   unfold Zab_B3
   simp only
   rw [ltI_f (by omega)]; rfl) [] (by simp)
 have hf : ∀ (l : List Pt) (i : Nat) (m : List (Pt×Bool)),(foldE (fun i m (x : Pt)=>(some (cond (vP x && !((P.take i).any (eqP x))) (.inl (m++[(x,true)])) (.inr ())) : Option (List (Pt×Bool)⊕Unit))) i m l).bind (Sum.elim (fun _=>some true) (fun _=>some false)) =
   (foldE (difS P) i () l).bind (Sum.elim (fun _=>some true) (fun _=>some false)):=by
  intro l
  induction l with
  | nil=>intro i m; rfl
  | cons x l ih =>
   intro i m
   simp only [foldE,difS]
   cases vP x && !((P.take i).any (eqP x)) with
   | false=>rfl
   | true=>exact ih (i+1) _
 unfold Zab
 simp only
 rw [show Zab_L3 ([],P,((P.length : Nat) : Int),0,())=_ from k]
 have h0:=hf P 0 []
 generalize foldE (fun i m (x : Pt)=>(some (cond (vP x && !((P.take i).any (eqP x))) (.inl (m++[(x,true)])) (.inr ())) : Option (List (Pt×Bool)⊕Unit))) 0 [] P=u at h0
 generalize foldE (difS P) 0 () P=w at h0
 cases u with
 | none =>
  cases w with
  | none=>rfl
  | some w=>cases w <;> cases h0
 | some u =>
  cases u with
  | inl u =>
   cases w with
   | none=>cases h0
   | some w =>
    cases w with
    | inl w=>rfl
    | inr w=>cases h0
  | inr u =>
   cases w with
   | none=>cases h0
   | some w =>
    cases w with
    | inl w=>cases h0
    | inr w=>rfl
section
variable {N : Nat} {E : List Arc} {A : List (List Int)} {nx fw g : List Int} {B : List ByteArray} {o : Int} {k : Nat→Int}
theorem rdif_inner (N' : Int) (E' : List Arc) (A' : List (List Int)) (g' : List Int) (B' : List ByteArray) (o' : Int) (D : List Int) (P : List Pt) (hP : P.length≤1000000) {i : Nat} {x : Pt} (hx : P[i]?=some x) :
  Zan_L10 (N',E',A',g',B',o',D,P,(i : Int),0,())=some (cond ((P.take i).any (eqP x)) (.inl (false,())) (.inr (.inl (N',E',A',g',B',o',D,P,(i : Int),())))):=by
 have hi : i < P.length:=(List.getElem?_eq_some_iff.1 hx).1
 have hl : (P.take i).length=i:=by simp; omega
 have key:=scan (B:=Zan_B10) (fun (_ : Unit) j=>(N',E',A',g',B',o',D,P,(i : Int),(j : Int),())) (fun _=>.inr (.inl (N',E',A',g',B',o',D,P,(i : Int),()))) (fun (_ : Unit)=>.inl (false,())) (fun _ (_ : Unit) y=>some (cond (eqP x y) (.inr ()) (.inl ()))) (P.take i) (by
  intro _ j y hy
  have hj : j < i:=by have:=(List.getElem?_eq_some_iff.1 hy).1; omega
  rw [List.getElem?_take,if_pos hj] at hy
  unfold Zan_B10
  simp only
  rw [ltI_t (by omega),cond_true,getI_of,hy,Option.bind_some,getI_of,hx,Option.bind_some,add1 (by omega)]
  rw [show (eqI y.1 x.1 && (eqI y.2.1 x.2.1 && true))=eqP x y from eqP_symm y x]
  cases eqP x y <;> rfl) (by
  intro _
  unfold Zan_B10
  simp only
  rw [hl,ltI_f (by omega)]; rfl) ()
 have hf : ∀ (l : List Pt) (j : Nat),foldE (fun (_ : Nat) (_ : Unit) y=>(some (cond (eqP x y) (.inr ()) (.inl ())) : Option (Unit⊕Unit))) j () l=some (cond (l.any (eqP x)) (.inr ()) (.inl ())):=by
  intro l
  induction l with
  | nil=>intro j; rfl
  | cons y l ih =>
   intro j
   simp only [foldE,Option.bind_some,List.any_cons]
   cases eqP x y with
   | true=>rfl
   | false=>exact ih (j+1)
 rw [hf] at key
 refine Eq.trans key ?_
 cases (P.take i).any (eqP x) <;> rfl
theorem rdif_eq (N' : Int) (E' : List Arc) (A' : List (List Int)) (g' : List Int) (B' : List ByteArray) (o' : Int) (D : List Int) (P : List Pt) (hP : P.length≤1000000) :
  Zan_L5 (N',E',A',g',B',o',D,P,0,())=(foldE (difS P) 0 () P).bind (Sum.elim (fun _=>some (.inr (.inl (N',E',A',g',B',o',D,P,())))) (fun _=>some (.inl (false,())))):=by
 refine scan (B:=Zan_B5) (fun (_ : Unit) i=>(N',E',A',g',B',o',D,P,(i : Int),())) (fun _=>.inr (.inl (N',E',A',g',B',o',D,P,()))) (fun (_ : Unit)=>.inl (false,())) (difS P) P ?_ ?_ ()
 ·intro _ i x hx
  have hi : i < P.length:=(List.getElem?_eq_some_iff.1 hx).1
  unfold Zan_B5 difS
  simp only
  rw [ltI_t (by omega),cond_true,getI_of,hx,Option.bind_some,rvalidP,Option.bind_some]
  cases hv : vP x with
  | false=>rfl
  | true =>
   simp only [Bool.not_true,cond_false,Bool.true_and]
   rw [rdif_inner N' E' A' g' B' o' D P hP hx]
   cases (P.take i).any (eqP x) with
   | true=>rfl
   | false =>
    simp only [cond_false,Option.bind_some,Sum.elim_inl,Sum.elim_inr]
    rw [add1 (by omega)]; rfl
 ·intro _
  unfold Zan_B5
  simp only
  rw [ltI_f (by omega)]; rfl
theorem dif_valid (P : List Pt) : ∀ (l : List Pt) (i : Nat),foldE (difS P) i () l=some (.inl ())→∀ x∈l,vP x=true
 | [],_,_,x,hx=>by simp at hx
 | y :: l,i,h,x,hx=>by
  simp only [foldE,difS] at h
  cases hb : vP y && !((P.take i).any (eqP y)) with
  | false=>rw [hb] at h; cases h
  | true =>
   rw [hb] at h
   rcases List.mem_cons.1 hx with rfl | hx
   ·exact (Bool.and_eq_true _ _ ▸ hb).1
   ·exact dif_valid P l (i+1) (by simpa using h) x hx
theorem dif_some (P : List Pt) : ∀ (l : List Pt) (i : Nat),foldE (difS P) i () l=some (.inl ())∨foldE (difS P) i () l=some (.inr ())
 | [],_=>.inl rfl
 | y :: l,i=>by
  simp only [foldE,difS]
  cases vP y && !((P.take i).any (eqP y)) with
  | false=>exact .inr rfl
  | true=>exact dif_some P l (i+1)
def ldB (p q : Pt) (e : Int) : Bool:=cond (eqI e 0) (eqI p.1 q.1 && ltI q.2.1 p.2.1) (cond (eqI e 1) (eqI p.2.1 q.2.1 && gtI q.1 p.1) (cond (eqI e 2) (eqI p.1 q.1 && gtI q.2.1 p.2.1) (eqI p.2.1 q.2.1 && ltI q.1 p.1)))
theorem leads_eq (p q : Pt) (e : Int) : Zbp (p,q,e,())=some (ldB p q e,())∧Zw (p,q,e,())=some (ldB p q e,()):=by
 unfold Zbp Zw ldB
 simp only
 cases eqI e 0 with
 | true=>cases eqI p.1 q.1 <;> exact ⟨rfl,rfl⟩
 | false =>
  cases eqI e 1 with
  | true=>cases eqI p.2.1 q.2.1 <;> exact ⟨rfl,rfl⟩
  | false =>
   cases eqI e 2 with
   | true=>cases eqI p.1 q.1 <;> exact ⟨rfl,rfl⟩
   | false=>cases eqI p.2.1 q.2.1 <;> exact ⟨rfl,rfl⟩
def ptAt (P : List Pt) (v : Nat) : Pt:=P.getD v (0,0,())
def ledS (E : List Arc) (P : List Pt) (d : Nat) (_ : Unit) (e : Int) : Option (Unit⊕Unit):=some (cond (ldB (ptAt P (tln E d)) (ptAt P (tln E (oth d))) e) (.inl ()) (.inr ()))
theorem ptAt_get {P : List Pt} {v : Nat} (h : v < P.length) : P[v]?=some (ptAt P v):=by
 unfold ptAt
 rw [List.getD_eq_getElem?_getD,List.getElem?_eq_getElem h]; rfl
theorem led_eq (h : RotOK (N : Nat) E A) (P : List Pt) (hP : P.length=N) : Zbt_L4 ((N : Int),E,A,g,B,o,dirL k E.length,P,((2 * E.length : Nat) : Int),0,())=(foldE (ledS E P) 0 () (dirL k E.length)).bind (Sum.elim (fun _=>some (.inr (.inl ((N : Int),E,A,g,B,o,P,())))) (fun _=>some (.inl (false,())))) ∧
  Zan_L15 ((N : Int),E,A,g,B,o,dirL k E.length,P,0,())=(foldE (ledS E P) 0 () (dirL k E.length)).bind (Sum.elim (fun _=>some (.inr (.inl ((N : Int),E,A,g,B,o,P,())))) (fun _=>some (.inl (false,())))):=by
 have hm1:=h.m1
 constructor
 ·refine scan (B:=Zbt_B4) (fun (_ : Unit) i=>((N : Int),E,A,g,B,o,dirL k E.length,P,((2 * E.length : Nat) : Int),(i : Int),())) (fun _=>.inr (.inl ((N : Int),E,A,g,B,o,P,()))) (fun (_ : Unit)=>.inl (false,())) (ledS E P) (dirL k E.length) ?_ ?_ ()
  ·intro _ d e hd'
   have hd : d < 2 * E.length:=by have:=(List.getElem?_eq_some_iff.1 hd').1; rwa [dirL_len] at this
   have hu:=(tln_eq h hd).2
   have hw:=(tln_eq h (oth_lt hd)).2
   unfold Zbt_B4 ledS
   simp only
   rw [ltI_t (by omega),cond_true,dirL_len,idxI_of hd,Option.bind_some,hd',Option.bind_some,ptail h hd,Option.bind_some,getI_of,ptAt_get (by omega),Option.bind_some,xor1 (by omega),ptail h (oth_lt hd),Option.bind_some,getI_of,ptAt_get (by omega),Option.bind_some,(leads_eq _ _ _).1,Option.bind_some,add1 (by omega)]
   cases ldB (ptAt P (tln E d)) (ptAt P (tln E (oth d))) e <;> rfl
  ·intro _
   unfold Zbt_B4
   simp only
   rw [dirL_len,ltI_f (by omega)]; rfl
 ·refine scan (B:=Zan_B15) (fun (_ : Unit) i=>((N : Int),E,A,g,B,o,dirL k E.length,P,(i : Int),())) (fun _=>.inr (.inl ((N : Int),E,A,g,B,o,P,()))) (fun (_ : Unit)=>.inl (false,())) (ledS E P) (dirL k E.length) ?_ ?_ ()
  ·intro _ d e hd'
   have hd : d < 2 * E.length:=by have:=(List.getElem?_eq_some_iff.1 hd').1; rwa [dirL_len] at this
   have hu:=(tln_eq h hd).2
   have hw:=(tln_eq h (oth_lt hd)).2
   unfold Zan_B15 ledS
   simp only
   rw [dirL_len,ltI_t (by omega),cond_true,rtail h hd,Option.bind_some,getI_of,ptAt_get (by omega),Option.bind_some,xor1 (by omega),rtail h (oth_lt hd),Option.bind_some,getI_of,ptAt_get (by omega),Option.bind_some,idxI_of hd,Option.bind_some,hd',Option.bind_some,(leads_eq _ _ _).2,Option.bind_some,add1 (by omega)]
   cases ldB (ptAt P (tln E d)) (ptAt P (tln E (oth d))) e <;> rfl
  ·intro _
   unfold Zan_B15
   simp only
   rw [dirL_len,ltI_f (by omega)]; rfl
def tB (N : Int) (E : List Arc) (A : List (List Int)) (P : List Pt) (i j : Nat) : Bool:=match Zak ((N,E,A,()),P,(i : Int),(j : Int),()) with
 | some (b,_)=>b
 | none=>false
theorem tB_eq (h : RotOK (N : Nat) E A) (P : List Pt) (hP : P.length=N) (hv : ∀ p∈P,vP p=true) {i j : Nat} {x y : Arc} (hx : E[i]?=some x) (hy : E[j]?=some y) : Zbu (P,x,y,())=some (!(tB (N : Int) E A P i j),())∧Zak (((N : Int),E,A,()),P,(i : Int),(j : Int),())=some (tB (N : Int) E A P i j,()):=by
 obtain ⟨a1,a2,a3,a4,a5⟩:=h.edge x (List.mem_of_getElem? hx)
 obtain ⟨b1,b2,b3,b4,b5⟩:=h.edge y (List.mem_of_getElem? hy)
 have get : ∀ z : Int,0≤z→z < (N : Int)→getI P z=some (ptAt P z.toNat)∧vP (ptAt P z.toNat)=true:=fun z h0 h1=>by
  have:=ptAt_get (P:=P) (v:=z.toNat) (by omega)
  refine ⟨by rw [getI_int h0]; exact this,hv _ (List.mem_of_getElem? this)⟩
 obtain ⟨g1,v1⟩:=get x.1 a1 a2
 obtain ⟨g2,v2⟩:=get x.2.1 a3 a4
 obtain ⟨g3,v3⟩:=get y.1 b1 b2
 obtain ⟨g4,v4⟩:=get y.2.1 b3 b4
 obtain ⟨t,t1,t2⟩:=touch_eq (N : Int) E A P i j x y hx hy g1 g2 g3 g4 v1 v2 v3 v4 a5 b5
 have : tB (N : Int) E A P i j=t:=by unfold tB; rw [t2]
 rw [this]
 exact ⟨t1,t2⟩
def inS (N : Int) (E : List Arc) (A : List (List Int)) (P : List Pt) (i : Nat) : Option (Unit⊕Unit):=foldE (fun j (_ : Unit) (_ : Arc)=>some (cond (tB N E A P i j) (.inr ()) (.inl ()))) 0 () (E.take i)
theorem inS_some (N : Int) (E : List Arc) (A : List (List Int)) (P : List Pt) (i : Nat) : inS N E A P i=some (.inl ())∨inS N E A P i=some (.inr ()):=by
 have : ∀ (l : List Arc) (j : Nat),foldE (fun j (_ : Unit) (_ : Arc)=>(some (cond (tB N E A P i j) (.inr ()) (.inl ())) : Option (Unit⊕Unit))) j () l=some (.inl ())∨foldE (fun j (_ : Unit) (_ : Arc)=>(some (cond (tB N E A P i j) (.inr ()) (.inl ())) : Option (Unit⊕Unit))) j () l=some (.inr ()):=by
  intro l
  induction l with
  | nil=>intro j; exact .inl rfl
  | cons y l ih =>
   intro j
   simp only [foldE]
   cases tB N E A P i j with
   | true=>exact .inr rfl
   | false=>exact ih (j+1)
 exact this _ _
theorem apart_loops (h : RotOK (N : Nat) E A) (P : List Pt) (hP : P.length=N) (hv : ∀ p∈P,vP p=true) :
  Zbt_L10 ((N : Int),E,A,g,B,o,P,E,((E.length : Nat) : Int),0,())=(foldE (fun i (_ : Unit) (_ : Arc)=>inS (N : Int) E A P i) 0 () E).bind (Sum.elim (fun _=>some (.inr (.inl ()))) (fun _=>some (.inl (false,())))) ∧
  Zan_L20 ((N : Int),E,A,g,B,o,P,0,())=(foldE (fun i (_ : Unit) (_ : Arc)=>inS (N : Int) E A P i) 0 () E).bind (Sum.elim (fun _=>some (.inr (.inl ()))) (fun _=>some (.inl (false,())))):=by
 have hm1:=h.m1
 constructor
 ·refine scan (B:=Zbt_B10) (fun (_ : Unit) i=>((N : Int),E,A,g,B,o,P,E,((E.length : Nat) : Int),(i : Int),())) (fun _=>.inr (.inl ())) (fun (_ : Unit)=>.inl (false,())) (fun i (_ : Unit) (_ : Arc)=>inS (N : Int) E A P i) E ?_ ?_ ()
  ·intro _ i x hx
   have hi : i < E.length:=(List.getElem?_eq_some_iff.1 hx).1
   have hs : sliceL E 0 (i : Int)=some (E.take i):=by
    unfold sliceL
    rw [if_pos ⟨by omega,by omega,by omega⟩]
    simp
   have hl : (E.take i).length=i:=by simp; omega
   have key:=scan (B:=Zbt_B13) (fun (_ : Unit) j=>((N : Int),E,A,g,B,o,x.1,x.2.1,P,E,((E.length : Nat) : Int),(i : Int),E.take i,(((E.take i).length : Nat) : Int),(j : Int),())) (fun _=>.inr (.inl ((N : Int),E,A,g,B,o,P,E,((E.length : Nat) : Int),(i : Int),()))) (fun (_ : Unit)=>.inl (false,())) (fun j (_ : Unit) (_ : Arc)=>some (cond (tB (N : Int) E A P i j) (.inr ()) (.inl ()))) (E.take i) (by
    intro _ j y hy
    have hj : j < i:=by have:=(List.getElem?_eq_some_iff.1 hy).1; omega
    have hy':=hy
    rw [List.getElem?_take,if_pos hj] at hy'
    unfold Zbt_B13
    simp only
    rw [ltI_t (by omega),cond_true,getI_of,hy,Option.bind_some]
    rw [show Zbu (P,(x.1,x.2.1,()),(y.1,y.2.1,()),())=_ from (tB_eq h P hP hv hx hy').1,Option.bind_some,add1 (by omega)]
    cases tB (N : Int) E A P i j <;> rfl) (by
    intro _
    unfold Zbt_B13
    simp only
    rw [ltI_f (by omega)]; rfl) ()
   unfold Zbt_B10
   simp only
   rw [ltI_t (by omega),cond_true,getI_of,hx,Option.bind_some,hs,Option.bind_some]
   rw [show Zbt_L13 ((N : Int),E,A,g,B,o,x.1,x.2.1,P,E,((E.length : Nat) : Int),(i : Int),E.take i,(((E.take i).length : Nat) : Int),0,())=_ from key]
   rw [show foldE (fun j (_ : Unit) (_ : Arc)=>(some (cond (tB (N : Int) E A P i j) (.inr ()) (.inl ())) : Option (Unit⊕Unit))) 0 () (E.take i)=inS (N : Int) E A P i from rfl]
   rcases inS_some (N : Int) E A P i with e | e
   ·rw [e]
    simp only [Option.bind_some,Sum.elim_inl,Sum.elim_inr]
    rw [add1 (by omega)]
   ·rw [e]; rfl
  ·intro _
   unfold Zbt_B10
   simp only
   rw [ltI_f (by omega)]; rfl
 ·refine scan (B:=Zan_B20) (fun (_ : Unit) i=>((N : Int),E,A,g,B,o,P,(i : Int),())) (fun _=>.inr (.inl ())) (fun (_ : Unit)=>.inl (false,())) (fun i (_ : Unit) (_ : Arc)=>inS (N : Int) E A P i) E ?_ ?_ ()
  ·intro _ i x hx
   have hi : i < E.length:=(List.getElem?_eq_some_iff.1 hx).1
   have hl : (E.take i).length=i:=by simp; omega
   have key:=scan (B:=Zan_B23) (fun (_ : Unit) j=>((N : Int),E,A,g,B,o,P,(i : Int),(j : Int),())) (fun _=>.inr (.inl ((N : Int),E,A,g,B,o,P,(i : Int),()))) (fun (_ : Unit)=>.inl (false,())) (fun j (_ : Unit) (_ : Arc)=>some (cond (tB (N : Int) E A P i j) (.inr ()) (.inl ()))) (E.take i) (by
    intro _ j y hy
    have hj : j < i:=by have:=(List.getElem?_eq_some_iff.1 hy).1; omega
    rw [List.getElem?_take,if_pos hj] at hy
    unfold Zan_B23
    simp only
    rw [ltI_t (by omega),cond_true,(tB_eq h P hP hv hx hy).2,Option.bind_some,add1 (by omega)]
    cases tB (N : Int) E A P i j <;> rfl) (by
    intro _
    unfold Zan_B23
    simp only
    rw [hl,ltI_f (by omega)]; rfl) ()
   unfold Zan_B20
   simp only
   rw [ltI_t (by omega),cond_true]
   rw [show Zan_L23 ((N : Int),E,A,g,B,o,P,(i : Int),0,())=_ from key]
   rw [show foldE (fun j (_ : Unit) (_ : Arc)=>(some (cond (tB (N : Int) E A P i j) (.inr ()) (.inl ())) : Option (Unit⊕Unit))) 0 () (E.take i)=inS (N : Int) E A P i from rfl]
   rcases inS_some (N : Int) E A P i with e | e
   ·rw [e]
    simp only [Option.bind_some,Sum.elim_inl,Sum.elim_inr]
    rw [add1 (by omega)]
   ·rw [e]; rfl
  ·intro _
   unfold Zan_B20
   simp only
   rw [ltI_f (by omega)]; rfl
theorem led_some (E : List Arc) (P : List Pt) : ∀ (l : List Int) (i : Nat),foldE (ledS E P) i () l=some (.inl ())∨foldE (ledS E P) i () l=some (.inr ())
 | [],_=>.inl rfl
 | y :: l,i=>by
  simp only [foldE,ledS]
  cases ldB (ptAt P (tln E i)) (ptAt P (tln E (oth i))) y with
  | false=>exact .inr rfl
  | true=>exact led_some E P l (i+1)
theorem out_some (N : Int) (E : List Arc) (A : List (List Int)) (P : List Pt) : ∀ (l : List Arc) (i : Nat),foldE (fun i (_ : Unit) (_ : Arc)=>inS N E A P i) i () l=some (.inl ())∨foldE (fun i (_ : Unit) (_ : Arc)=>inS N E A P i) i () l=some (.inr ())
 | [],_=>.inl rfl
 | y :: l,i=>by
  simp only [foldE]
  rcases inS_some N E A P i with e | e
  ·rw [e]; exact out_some N E A P l (i+1)
  ·rw [e]; exact .inr rfl
def chkB (N : Int) (E : List Arc) (A : List (List Int)) (k : Nat→Int) (P : List Pt) : Prop:=foldE (difS P) 0 () P=some (.inl ())∧foldE (ledS E P) 0 () (dirL k E.length)=some (.inl ())∧foldE (fun i (_ : Unit) (_ : Arc)=>inS N E A P i) 0 () E=some (.inl ())
theorem check_both (N0 : Int) (E : List Arc) (A : List (List Int)) (g : List Int) (B : List ByteArray) (o : Int) (P : List Pt) (hP : P.length≤1000000) (hA : ∀ l∈A,l.length≤9223372036854775807) :
  ∃ b,Zbt (((N0,E,A,()),g,B,o,()),P,())=some (b,())∧Zan (((N0,E,A,()),g,B,o,()),P,())=some (b,()) ∧
   ∀ k,Zf (((N0,E,A,()),g,B,o,()),())=some (dirL k E.length,0,())→(b=true↔(P.length : Int)=N0∧chkB N0 E A k P):=by
 obtain ⟨b,b1,b2,hf,ht⟩:=directions_both N0 E A g B o hA
 cases b with
 | false =>
  obtain ⟨f1,f2⟩:=hf rfl
  refine ⟨false,?_,?_,fun k hk=>by rw [f2] at hk; simp at hk⟩
  ·unfold Zbt
   simp only
   rw [b1]; rfl
  ·unfold Zan
   simp only
   rw [f2]; rfl
 | true =>
  obtain ⟨N,rfl,nx,fw,k,h,ff,hk,hk0,hbe,d1,d2,d3⟩:=ht rfl
  by_cases hPN : P.length=N
  ·have hled:=led_eq h.rot P hPN (g:=g) (B:=B) (o:=o) (k:=k)
   have huniq : ∀ k',Zf ((((N : Int),E,A,()),g,B,o,()),())=some (dirL k' E.length,0,())→dirL k' E.length=dirL k E.length:=fun k' hk'=>by
    rw [d3] at hk'
    have:=congrArg Prod.fst (Option.some.inj hk')
    exact this.symm
   have pc : Zbt ((((N : Int),E,A,()),g,B,o,()),P,())=((foldE (difS P) 0 () P).bind (Sum.elim (fun _=>some (true,())) (fun _=>some (false,())))).bind fun r2=>cond (!r2.1) (some (false,())) ((Zbt_L4 ((N : Int),E,A,g,B,o,dirL k E.length,P,((2 * E.length : Nat) : Int),0,())).bind (Sum.elim (fun z5=>some (z5.1,())) (Sum.elim (fun z=>(Zbt_L10 (z.1,z.2.1,z.2.2.1,z.2.2.2.1,z.2.2.2.2.1,z.2.2.2.2.2.1,z.2.2.2.2.2.2.1,z.2.1,((z.2.1.length : Nat) : Int),0,())).bind (Sum.elim (fun z8=>some (z8.1,())) (Sum.elim (fun _=>some (true,())) (fun _=>none)))) (fun _=>none)))):=by
    unfold Zbt
    simp only
    rw [b1,Option.bind_some]
    simp only [Bool.not_true,cond_false]
    rw [neI_f (by omega),cond_false,different_eq P hP,d1]
    simp only [Option.bind_some,dirL_len]
   have rc : Zan ((((N : Int),E,A,()),g,B,o,()),P,())=(Zan_L5 ((N : Int),E,A,g,B,o,dirL k E.length,P,0,())).bind (Sum.elim (fun z3=>some (z3.1,())) (Sum.elim (fun z=>(Zan_L15 (z.1,z.2.1,z.2.2.1,z.2.2.2.1,z.2.2.2.2.1,z.2.2.2.2.2.1,z.2.2.2.2.2.2.1,z.2.2.2.2.2.2.2.1,0,())).bind (Sum.elim (fun z6=>some (z6.1,())) (Sum.elim (fun z=>(Zan_L20 (z.1,z.2.1,z.2.2.1,z.2.2.2.1,z.2.2.2.2.1,z.2.2.2.2.2.1,z.2.2.2.2.2.2.1,0,())).bind (Sum.elim (fun z9=>some (z9.1,())) (Sum.elim (fun _=>some (true,())) (fun _=>none)))) (fun _=>none)))) (fun _=>none))):=by
    unfold Zan
    simp only
    rw [d3,Option.bind_some]
    simp only
    rw [neI_f rfl,cond_false,neI_f (by omega),cond_false]
   rw [pc,rc,rdif_eq _ _ _ _ _ _ _ P hP,hled.1]
   rcases dif_some P P 0 with e1 | e1
   ·have hv:=dif_valid P P 0 e1
    have hap:=apart_loops h.rot P hPN hv (g:=g) (B:=B) (o:=o)
    rw [e1]
    simp only [Option.bind_some,Sum.elim_inl,Sum.elim_inr,Bool.not_true,cond_false]
    rw [hled.2]
    rcases led_some E P (dirL k E.length) 0 with e2 | e2
    ·rw [e2]
     simp only [Option.bind_some,Sum.elim_inl,Sum.elim_inr]
     rw [hap.1,hap.2]
     rcases out_some (N : Int) E A P E 0 with e3 | e3
     ·rw [e3]
      exact ⟨true,rfl,rfl,fun k' hk'=>⟨fun _=>⟨by omega,e1,by rw [huniq k' hk']; exact e2,e3⟩,fun _=>rfl⟩⟩
     ·rw [e3]
      refine ⟨false,rfl,rfl,fun k' hk'=>⟨fun h=>(by cases h),fun ⟨_,_,_,q⟩=>?_⟩⟩
      rw [e3] at q; cases q
    ·rw [e2]
     refine ⟨false,rfl,rfl,fun k' hk'=>⟨fun h=>(by cases h),fun ⟨_,_,q,_⟩=>?_⟩⟩
     rw [huniq k' hk',e2] at q; cases q
   ·rw [e1]
    refine ⟨false,rfl,rfl,fun k' hk'=>⟨fun h=>(by cases h),fun ⟨_,q,_⟩=>?_⟩⟩
    rw [e1] at q; cases q
  ·refine ⟨false,?_,?_,fun k' _=>Iff.intro (fun h=>by cases h) (fun q=>absurd (by have:=q.1; omega) hPN)⟩
   ·unfold Zbt
    simp only
    rw [b1,Option.bind_some]
    simp only [Bool.not_true,cond_false]
    rw [neI_t (by omega)]; rfl
   ·unfold Zan
    simp only
    rw [d3,Option.bind_some]
    simp only
    rw [neI_f rfl,cond_false,neI_t (by omega)]; rfl
end
end Go.Vm

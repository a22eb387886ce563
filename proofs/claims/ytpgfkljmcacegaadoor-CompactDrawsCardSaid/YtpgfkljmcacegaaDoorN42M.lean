/-
 Rectangular shapes; the law CompactPlaces on values.
-/
import Derived.Test.YtpgfkljmcacegaaDoorN42L
set_option linter.unusedVariables false
set_option linter.unusedSimpArgs false
namespace Go.Vm
open Go.Proofs
set_option maxRecDepth 100000
attribute [local irreducible] loopFix
theorem has42 (f : List Int) (x : Int) (hf : f.length < 9223372036854775807) : Zba (f,x,())=some (inB f x,()):=by
 have key : ∀ (q p : List Int),p++q=f→Zba_L2 (f,x,((p.length : Nat) : Int),())=some (cond (inB q x) (.inl (true,())) (.inr (.inl ()))):=by
  intro q
  induction q with
  | nil =>
   intro p hp
   refine loop_done ?_
   simp only [Zba_B2]
   rw [ltI_f (by rw [← hp]; simp)]
   simp [inB]
  | cons a q ih =>
   intro p hp
   have hpl : p.length < f.length:=by rw [← hp]; simp
   have ha : f[p.length]?=some a:=by rw [← hp]; simp
   by_cases e : a=x
   ·refine loop_done ?_
    simp only [Zba_B2]
    rw [ltI_t (by omega),cond_true,getI_of,ha,Option.bind_some,eqI_t e]
    simp [inB,e]
   ·have hs : Zba_B2 (f,x,((p.length : Nat) : Int),())=some (.inl (f,x,(((p++[a]).length : Nat) : Int),())):=by
     simp only [Zba_B2]
     rw [ltI_t (by omega),cond_true,getI_of,ha,Option.bind_some,eqI_f e,cond_false,add1 (by omega)]
     simp
    refine (loop_step hs).trans ?_
    refine (ih (p++[a]) (by simp [hp])).trans ?_
    have : inB (a :: q) x=inB q x:=by
     unfold inB
     have : (x∈a :: q)↔x∈q:=by simp [Ne.symm e]
     exact decide_eq_decide.2 this
    rw [this]
 unfold Zba
 simp only
 rw [show Zba_L2 (f,x,0,())=_ from key f [] rfl]
 cases inB f x <;> rfl
def corS (g : List Int) (w : Int) (_ : Nat) (n : Int) (d : Int) : Option (Int⊕Unit):=some (cond (eqI (2 - gN g (oth d.toNat)) 0) (.inl n) (cond (eqI (2 - gN g (oth d.toNat)) w) (.inl (n+1)) (.inr ())))
def faceR (g : List Int) (w : Int) (f : List Int) : Bool:=match foldE (corS g w) 0 0 f with
 | some (.inl n)=>eqI n 4
 | _=>false
theorem corS_some {g : List Int} {w : Int} : ∀ (f : List Int) (i : Nat) (n : Int),∃ x,foldE (corS g w) i n f=some x
 | [],_,n=>⟨_,rfl⟩
 | d :: f,i,n=>by
  simp only [foldE,corS]
  cases eqI (2 - gN g (oth d.toNat)) 0 with
  | true=>exact corS_some f (i+1) n
  | false =>
   cases eqI (2 - gN g (oth d.toNat)) w with
   | true=>exact corS_some f (i+1) (n+1)
   | false=>exact ⟨_,rfl⟩
section
variable {N : Nat} {E : List Arc} {A : List (List Int)} {nx fw g : List Int} {B : List ByteArray} {o : Int} {k : Nat→Int}
def wOf (o : Int) (f : List Int) : Int:=cond (inB f o) (-1) 1
theorem rturn_loop (N' : Int) (E' : List Arc) (A' : List (List Int)) (g' : List Int) (B' : List ByteArray) (o : Int) (G : List (List Int)) (f m : List Int) (l i : Int) (hm : m.length≤1000000) : ∀ (q p : List Int) (w : Int),p++q=m→w=wOf o p →
  Zp_L8 (N',E',A',g',B',o,G,f,w,l,i,m,((m.length : Nat) : Int),((p.length : Nat) : Int),())=some (.inl (N',E',A',g',B',o,G,f,wOf o m,l,i,())):=by
 intro q
 induction q with
 | nil =>
  intro p w hp hw
  have : p=m:=by simpa using hp
  subst this
  subst hw
  refine loop_done ?_
  unfold Zp_B8
  simp only
  rw [ltI_f (by omega)]; rfl
 | cons a q ih =>
  intro p w hp hw
  have hpl : p.length < m.length:=by rw [← hp]; simp
  have ha : m[p.length]?=some a:=by rw [← hp]; simp
  have hwa : wOf o (p++[a])=cond (eqI a o) (-1) w:=by
   subst hw
   unfold wOf inB
   by_cases e : a=o
   ·subst e
    rw [eqI_t rfl]
    simp
   ·rw [eqI_f e]
    have : (o∈p++[a])↔o∈p:=by
     rw [List.mem_append,List.mem_singleton]
     constructor
     ·rintro (h | h)
      ·exact h
      ·exact absurd h.symm e
     ·exact .inl
    rw [decide_eq_decide.2 this]; rfl
  refine (loop_step ?_).trans (ih (p++[a]) (cond (eqI a o) (-1) w) (by simp [hp]) hwa.symm)
  unfold Zp_B8
  simp only
  rw [ltI_t (by omega),cond_true,getI_of,ha,Option.bind_some,add1 (by omega)]
  cases eqI a o <;> simp
theorem rect_prog (h : ShapeOK N E A g B o nx) (G : List (List Int)) (w : Int) (l i : Int) {f : List Int} (hf : ∀ d∈f,∃ k : Nat,d=(k : Int)∧k < 2 * E.length) (hl : f.length≤1000000) :
  Zp_L15 ((N : Int),E,A,g,B,o,G,w,0,l,i,f,((f.length : Nat) : Int),0,())=(foldE (corS g w) 0 0 f).bind (Sum.elim (fun n=>some (.inr (.inl ((N : Int),E,A,g,B,o,G,n,l,i,())))) (fun _=>some (.inl (false,())))):=by
 have hm1:=h.rot.m1
 have hgl:=h.turn.glen
 refine scanI (B:=Zp_B15) (fun j (n : Int)=>0≤n∧n≤j) (fun n j=>((N : Int),E,A,g,B,o,G,w,n,l,i,f,((f.length : Nat) : Int),(j : Int),())) (fun n=>.inr (.inl ((N : Int),E,A,g,B,o,G,n,l,i,()))) (fun (_ : Unit)=>.inl (false,())) (corS g w) f ?_ ?_ ?_ 0 ⟨Int.le_refl _,Int.le_refl _⟩
 ·intro n j d hn hd
  have hj : j < f.length:=(List.getElem?_eq_some_iff.1 hd).1
  obtain ⟨m,rfl,hm⟩:=hf d (List.mem_of_getElem? hd)
  have ho:=oth_lt hm
  have gg : g[oth m]?=some (gN g (oth m)):=by
   unfold gN
   rw [List.getD_eq_getElem?_getD,List.getElem?_eq_getElem (by omega)]; rfl
  have ga:=shape_ang h _ ho
  unfold Zp_B15 corS
  simp only [Int.toNat_natCast]
  rw [ltI_t (by omega),cond_true,getI_of,hd,Option.bind_some,xor1 (by omega),getI_of,gg,Option.bind_some,subI64 (by omega) (by omega),add1 (by omega),addI64 (by omega) (by omega)]
  cases eqI (2 - gN g (oth m)) 0 with
  | true=>rfl
  | false=>cases eqI (2 - gN g (oth m)) w <;> rfl
 ·intro n j d t hn _ ht
  unfold corS at ht
  simp only [Option.some.injEq] at ht
  cases c1 : eqI (2 - gN g (oth d.toNat)) 0 with
  | true=>rw [c1] at ht; cases ht; omega
  | false =>
   rw [c1] at ht
   cases c2 : eqI (2 - gN g (oth d.toNat)) w with
   | true=>rw [c2] at ht; cases ht; omega
   | false=>rw [c2] at ht; cases ht
 ·intro n _
  unfold Zp_B15
  simp only
  rw [ltI_f (by omega)]; rfl
theorem rect_ref (h : ShapeOK N E A g B o nx) (G : List (List Int)) (w : Int) (c : Nat) {f : List Int} (hc : G[c]?=some f) (hf : ∀ d∈f,∃ k : Nat,d=(k : Int)∧k < 2 * E.length) (hl : f.length≤1000000) :
  Ze_L12 ((N : Int),E,A,g,B,o,G,(c : Int),w,0,0,())=(foldE (corS g w) 0 0 f).bind (Sum.elim (fun n=>some (.inr (.inl ((N : Int),E,A,g,B,o,G,(c : Int),n,())))) (fun _=>some (.inl (false,())))):=by
 have hm1:=h.rot.m1
 have hgl:=h.turn.glen
 have hcl : c < G.length:=(List.getElem?_eq_some_iff.1 hc).1
 refine scanI (B:=Ze_B12) (fun j (n : Int)=>0≤n∧n≤j) (fun n j=>((N : Int),E,A,g,B,o,G,(c : Int),w,n,(j : Int),())) (fun n=>.inr (.inl ((N : Int),E,A,g,B,o,G,(c : Int),n,()))) (fun (_ : Unit)=>.inl (false,())) (corS g w) f ?_ ?_ ?_ 0 ⟨Int.le_refl _,Int.le_refl _⟩
 ·intro n j d hn hd
  have hj : j < f.length:=(List.getElem?_eq_some_iff.1 hd).1
  obtain ⟨m,rfl,hm⟩:=hf d (List.mem_of_getElem? hd)
  have ho:=oth_lt hm
  have gg : g[oth m]?=some (gN g (oth m)):=by
   unfold gN
   rw [List.getD_eq_getElem?_getD,List.getElem?_eq_getElem (by omega)]; rfl
  have ga:=shape_ang h _ ho
  unfold Ze_B12 corS
  simp only [Int.toNat_natCast]
  have ic : idxI G.length (c : Int)=some c:=idxI_of hcl
  simp only [ic,Option.bind_some,hc]
  rw [ltI_t (by omega),cond_true,getI_of,hd,Option.bind_some,xor1 (by omega),getI_of,gg,Option.bind_some,subI64 (by omega) (by omega),add1 (by omega),addI64 (by omega) (by omega)]
  by_cases c1 : 2 - gN g (oth m)=0
  ·rw [neI_f c1,eqI_t c1]; rfl
  ·rw [neI_t c1,eqI_f c1]
   by_cases c2 : 2 - gN g (oth m)=w
   ·rw [neI_f c2,eqI_t c2]; rfl
   ·rw [neI_t c2,eqI_f c2]; rfl
 ·intro n j d t hn _ ht
  unfold corS at ht
  simp only [Option.some.injEq] at ht
  cases c1 : eqI (2 - gN g (oth d.toNat)) 0 with
  | true=>rw [c1] at ht; cases ht; omega
  | false =>
   rw [c1] at ht
   cases c2 : eqI (2 - gN g (oth d.toNat)) w with
   | true=>rw [c2] at ht; cases ht; omega
   | false=>rw [c2] at ht; cases ht
 ·intro n _
  unfold Ze_B12
  have ic : idxI G.length (c : Int)=some c:=idxI_of hcl
  simp only [ic,Option.bind_some,hc]
  rw [ltI_f (by omega)]; rfl
def rectB (g : List Int) (o : Int) (G : List (List Int)) : Bool:=G.all fun f=>faceR g (wOf o f) f
theorem all_fold {α : Type} (p : α→Bool) : ∀ (l : List α) (i : Nat),foldE (fun (_ : Nat) (_ : Unit) a=>(some (cond (p a) (.inl ()) (.inr ())) : Option (Unit⊕Unit))) i () l=some (cond (l.all p) (.inl ()) (.inr ()))
 | [],_=>rfl
 | a :: l,i=>by
  simp only [foldE,Option.bind_some,List.all_cons]
  cases p a with
  | false=>rfl
  | true=>exact all_fold p l (i+1)
theorem rect_faces (h : ShapeOK N E A g B o nx) (G : List (List Int)) (hG : FacesIn (2 * E.length) G) : Zp_L4 ((N : Int),E,A,g,B,o,G,((G.length : Nat) : Int),0,())=some (cond (rectB g o G) (.inr (.inl ())) (.inl (false,()))) ∧
  Ze_L5 ((N : Int),E,A,g,B,o,G,0,())=some (cond (rectB g o G) (.inr (.inl ())) (.inl (false,()))):=by
 have hlen:=hG.1
 constructor
 ·have key:=scan (B:=Zp_B4) (fun (_ : Unit) i=>((N : Int),E,A,g,B,o,G,((G.length : Nat) : Int),(i : Int),())) (fun _=>.inr (.inl ())) (fun (_ : Unit)=>.inl (false,())) (fun _ (_ : Unit) f=>some (cond (faceR g (wOf o f) f) (.inl ()) (.inr ()))) G (by
   intro _ i f hf
   have hi : i < G.length:=(List.getElem?_eq_some_iff.1 hf).1
   obtain ⟨f1,f2⟩:=hG.2 f (List.mem_of_getElem? hf)
   unfold Zp_B4
   simp only
   rw [ltI_t (by omega),cond_true,idxI_of hi,Option.bind_some,hf,Option.bind_some]
   have ht:=rturn_loop (N : Int) E A g B o G f f ((G.length : Nat) : Int) (i : Int) (by omega) f [] 1 rfl rfl
   rw [show Zp_L8 ((N : Int),E,A,g,B,o,G,f,1,((G.length : Nat) : Int),(i : Int),f,((f.length : Nat) : Int),0,())=_ from ht]
   simp only [Option.bind_some,Sum.elim_inl]
   rw [rect_prog h G (wOf o f) _ _ f2 (by omega)]
   unfold faceR
   obtain ⟨x,hx⟩:=corS_some (g:=g) (w:=wOf o f) f 0 0
   rw [hx]
   cases x with
   | inr e=>rfl
   | inl n =>
    simp only [Option.bind_some,Sum.elim_inl,Sum.elim_inr]
    rw [add1 (by omega)]
    by_cases c : n=4
    ·rw [neI_f c,eqI_t c]; rfl
    ·rw [neI_t c,eqI_f c]; rfl) (by
   intro _
   unfold Zp_B4
   simp only
   rw [ltI_f (by omega)]; rfl) ()
  rw [all_fold] at key
  refine key.trans ?_
  unfold rectB
  cases G.all _ <;> rfl
 ·have key:=scan (B:=Ze_B5) (fun (_ : Unit) i=>((N : Int),E,A,g,B,o,G,(i : Int),())) (fun _=>.inr (.inl ())) (fun (_ : Unit)=>.inl (false,())) (fun _ (_ : Unit) f=>some (cond (faceR g (wOf o f) f) (.inl ()) (.inr ()))) G (by
   intro _ i f hf
   have hi : i < G.length:=(List.getElem?_eq_some_iff.1 hf).1
   obtain ⟨f1,f2⟩:=hG.2 f (List.mem_of_getElem? hf)
   unfold Ze_B5
   simp only
   rw [ltI_t (by omega),cond_true,idxI_of hi,Option.bind_some,hf,Option.bind_some,has42 f o (by omega),Option.bind_some]
   have fin : ∀ w : Int,((Ze_L12 ((N : Int),E,A,g,B,o,G,(i : Int),w,0,0,())).bind (Sum.elim (fun z5 : Bool×Unit=>some (.inr (.inl (z5.1,())))) (Sum.elim (fun z : Int×List Arc×List (List Int)×List Int×List ByteArray×Int×List (List Int)×Int×Int×Unit=>cond (neI z.2.2.2.2.2.2.2.2.1 4) (some (.inr (.inl (false,())))) (some (.inl (z.1,z.2.1,z.2.2.1,z.2.2.2.1,z.2.2.2.2.1,z.2.2.2.2.2.1,z.2.2.2.2.2.2.1,(addI .i64 z.2.2.2.2.2.2.2.1 1),())))) (fun _=>none))) : Option ((Int×List Arc×List (List Int)×List Int×List ByteArray×Int×List (List Int)×Int×Unit)⊕((Bool×Unit)⊕(Unit⊕Empty)))) =
     some (cond (faceR g w f) (.inl ((N : Int),E,A,g,B,o,G,((i+1 : Nat) : Int),())) (.inr (.inl (false,())))):=by
    intro w
    rw [rect_ref h G w i hf f2 (by omega)]
    unfold faceR
    obtain ⟨x,hx⟩:=corS_some (g:=g) (w:=w) f 0 0
    rw [hx]
    cases x with
    | inr e=>rfl
    | inl n =>
     simp only [Option.bind_some,Sum.elim_inl,Sum.elim_inr]
     rw [add1 (by omega)]
     by_cases c : n=4
     ·rw [neI_f c,eqI_t c]; rfl
     ·rw [neI_t c,eqI_f c]; rfl
   unfold wOf
   cases inB f o with
   | true=>refine (fin (-1)).trans ?_; simp only [cond_true]; cases faceR g (-1) f <;> rfl
   | false=>refine (fin 1).trans ?_; simp only [cond_false]; cases faceR g 1 f <;> rfl) (by
   intro _
   unfold Ze_B5
   simp only
   rw [ltI_f (by omega)]; rfl) ()
  rw [all_fold] at key
  refine key.trans ?_
  unfold rectB
  cases G.all _ <;> rfl
def ptsL (R S : Nat→Nat) (N : Nat) : List (Int×Int×Unit):=(List.range N).map fun v=>((R v : Int),(S v : Int),())
theorem rankL_get {R : Nat→Nat} {N v : Nat} (hv : v < N) : (rankL R N)[v]?=some ((R v : Nat) : Int):=by
 unfold rankL
 rw [List.getElem?_map,List.getElem?_range hv]; rfl
theorem rankL_len {R : Nat→Nat} {N : Nat} : (rankL R N).length=N:=by simp [rankL]
theorem place_loop {R S : Nat→Nat} (hN : N≤1000000) : ∀ (r j : Nat),j+r=N →
  Zbs_L8 (rankL R N,rankL S N,ptsL R S j++List.replicate r (0,0,()),(N : Int),(j : Int),())=some (.inl (ptsL R S N,()))
 | 0,j,hj=>by
  refine loop_done ?_
  unfold Zbs_B8
  simp only
  rw [ltI_f (by omega)]
  have : j=N:=by omega
  subst this
  simp
 | r+1,j,hj=>by
  have ih:=place_loop hN (R:=R) (S:=S) r (j+1) (by omega)
  refine (loop_step ?_).trans ih
  unfold Zbs_B8
  simp only
  rw [ltI_t (by omega),cond_true,rankL_len,rankL_len,idxI_of (by omega),Option.bind_some,rankL_get (by omega),Option.bind_some,Option.bind_some,rankL_get (by omega),Option.bind_some,idxI_of (by simp [ptsL]),Option.bind_some]
  have hg : (ptsL R S j++List.replicate (r+1) ((0 : Int),(0 : Int),()))[j]?=some (0,0,()):=by
   rw [List.getElem?_append_right (by simp [ptsL])]
   simp [ptsL]
  rw [hg,Option.bind_some,add1 (by omega)]
  have hset : (ptsL R S j++List.replicate (r+1) ((0 : Int),(0 : Int),())).set j ((R j : Int),(S j : Int),())=ptsL R S (j+1)++List.replicate r (0,0,()):=by
   unfold ptsL
   rw [List.set_append_right _ _ (by simp),List.length_map,List.length_range,Nat.sub_self,List.replicate_succ,List.set_cons_zero,List.range_succ,List.map_append]
   simp
  rw [hset]
theorem rplace_loop (E' : List Arc) (A' : List (List Int)) (g' : List Int) (B' : List ByteArray) (o' : Int) {R S : Nat→Nat} (hN : N≤1000000) : ∀ (r j : Nat),j+r=N →
  Zam_L8 ((N : Int),E',A',g',B',o',rankL R N,rankL S N,ptsL R S j,(j : Int),())=some (.inl (ptsL R S N,()))
 | 0,j,hj=>by
  refine loop_done ?_
  unfold Zam_B8
  simp only
  rw [ltI_f (by omega)]
  have : j=N:=by omega
  subst this
  rfl
 | r+1,j,hj=>by
  have ih:=rplace_loop E' A' g' B' o' hN (R:=R) (S:=S) r (j+1) (by omega)
  refine (loop_step ?_).trans ih
  unfold Zam_B8
  simp only
  rw [ltI_t (by omega),cond_true,rankL_len,rankL_len,idxI_of (by omega),Option.bind_some,rankL_get (by omega),Option.bind_some,Option.bind_some,rankL_get (by omega),Option.bind_some,app_of (by simp [ptsL]; omega),Option.bind_some,add1 (by omega)]
  have hset : ptsL R S j++[((R j : Int),(S j : Int),())]=ptsL R S (j+1):=by
   unfold ptsL
   rw [List.range_succ,List.map_append]
   simp
  rw [hset]
theorem place_both (N0 : Int) (E : List Arc) (A : List (List Int)) (g : List Int) (B : List ByteArray) (o : Int) (hA : ∀ l∈A,l.length≤9223372036854775807) :
  ∃ b,Ze (((N0,E,A,()),g,B,o,()),())=some (b,())∧(b=false→Zbs (((N0,E,A,()),g,B,o,()),())=some ([],13,())∧Zam (((N0,E,A,()),g,B,o,()),())=some ([],13,())) ∧
   (b=true→∃ N : Nat,N0=(N : Int)∧0 < E.length∧∃ nx fw k,ShapeOK N E A g B o nx∧Fol id E A fw∧Dirs E.length (nxN fw) (gN g) k∧(∀ k,k < 2 * E.length→(at0 B k).size=0)∧rectB g o (facesOf nx)=true ∧
    Zay (((N0,E,A,()),g,B,o,()),())=some (dirL k E.length,())∧Zf (((N0,E,A,()),g,B,o,()),())=some (dirL k E.length,0,())∧∃ R S,
    (∀ v,v < N→Up (tln E) E.length k 1 (R v) v∧(∀ n,Up (tln E) E.length k 1 n v→n≤R v)∧R v < N)∧(∀ v,v < N→Up (tln E) E.length k 2 (S v) v∧(∀ n,Up (tln E) E.length k 2 n v→n≤S v)∧S v < N) ∧
    Zbs (((N0,E,A,()),g,B,o,()),())=some (ptsL R S N,0,())∧Zam (((N0,E,A,()),g,B,o,()),())=some (ptsL R S N,0,())):=by
 obtain ⟨b,b1,b2,hf,ht⟩:=directions_both N0 E A g B o hA
 have hr : Zam (((N0,E,A,()),g,B,o,()),())=(Ze (((N0,E,A,()),g,B,o,()),())).bind fun r1=>cond (!r1.1) (some ([],13,())) ((Zf (((N0,E,A,()),g,B,o,()),())).bind fun r2=>(Zq (((N0,E,A,()),g,B,o,()),r2.1,1,0,())).bind fun r3=>(Zq (((N0,E,A,()),g,B,o,()),r2.1,2,1,())).bind fun r4=>(Zam_L8 (N0,E,A,g,B,o,r3.1,r4.1,[],0,())).bind (Sum.elim (fun z6=>some (z6.1,0,())) (fun _=>none))):=rfl
 cases b with
 | false =>
  have h1 : Ze (((N0,E,A,()),g,B,o,()),())=some (false,()):=by
   unfold Ze
   simp only
   rw [b2]; rfl
  refine ⟨false,h1,fun _=>⟨?_,by rw [hr,h1]; rfl⟩,fun h=>by cases h⟩
  unfold Zbs
  simp only
  rw [b1]; rfl
 | true =>
  obtain ⟨N,rfl,nx,fw,k,h,ff,hk,hk0,hbe,d1,d2,d3⟩:=ht rfl
  have hgl:=h.turn.glen
  have hm1:=h.rot.m1
  have hn16:=h.rot.n16
  by_cases hE : 0 < E.length
  ·have hG : FacesIn (2 * E.length) (facesOf nx):=by
    obtain ⟨m,hm⟩:=h.inv
    rw [← h.folOK.len]
    exact facesIn_of (by rw [h.folOK.len]; omega) hm
   obtain ⟨r1,r2⟩:=rect_faces h _ hG
   have p1 : Zp ((((N : Int),E,A,()),g,B,o,()),())=some (rectB g o (facesOf nx),()):=by
    unfold Zp
    simp only
    rw [eqI_f (by omega),cond_false,h.faces,Option.bind_some]
    simp only
    rw [r1]
    cases rectB g o (facesOf nx) <;> rfl
   have p2 : Ze ((((N : Int),E,A,()),g,B,o,()),())=some (rectB g o (facesOf nx),()):=by
    unfold Ze
    simp only
    rw [b2,Option.bind_some]
    simp only [Bool.not_true,cond_false]
    rw [eqI_f (by omega),cond_false,h.rfaces,Option.bind_some]
    simp only
    rw [r2]
    cases rectB g o (facesOf nx) <;> rfl
   refine ⟨_,p2,fun hb=>⟨?_,by rw [hr,p2,hb]; rfl⟩,fun hb=>?_⟩
   ·unfold Zbs
    simp only
    rw [b1,Option.bind_some]
    simp only [Bool.not_true,cond_false]
    rw [p1,hb]; rfl
   ·have p:=shape_plane h ff hE hbe
    have ha:=shape_angl (fw:=fw) h hE hbe
    obtain ⟨R,hR⟩:=p.rank ha hk (a:=1) (.inl rfl)
    obtain ⟨S,hS⟩:=p.rank ha hk (a:=2) (.inr rfl)
    obtain ⟨c1,c2,c3,c4⟩:=classes_eq h.rot hk (B:=B) (o:=o) (a:=1) (b:=0) (by decide)
    obtain ⟨e1,e2,e3,e4⟩:=classes_eq h.rot hk (B:=B) (o:=o) (a:=2) (b:=1) (by decide)
    have k1:=ranks_eq h.rot hk (B:=B) (o:=o) c3 c4 hR
    have k2:=ranks_eq h.rot hk (B:=B) (o:=o) e3 e4 hS
    have q1:=places_eq h.rot hk (B:=B) (o:=o) (a:=1) (b:=0) (by decide) hR
    have q2:=places_eq h.rot hk (B:=B) (o:=o) (a:=2) (b:=1) (by decide) hS
    refine ⟨N,rfl,hE,nx,fw,k,h,ff,hk,hbe,hb,d1,d3,R,S,hR,hS,?_,?_⟩
    ·unfold Zbs
     simp only
     rw [b1,Option.bind_some]
     simp only [Bool.not_true,cond_false]
     rw [p1,hb,Option.bind_some]
     simp only [Bool.not_true,cond_false]
     rw [d1,Option.bind_some]
     simp only
     rw [c2,Option.bind_some]
     simp only
     rw [k1,Option.bind_some,e2,Option.bind_some]
     simp only
     rw [k2,Option.bind_some,makeL_of (Nat.le_refl _) (by omega),Option.bind_some,List.length_replicate]
     have hp:=place_loop (N:=N) (R:=R) (S:=S) (by omega) N 0 (by omega)
     rw [show Zbs_L8 (rankL R N,rankL S N,List.replicate N (zeroVal (.prod I (.prod I .unit))),(N : Int),0,())=_ from hp]
     rfl
    ·rw [hr,p2,hb,Option.bind_some]
     simp only [Bool.not_true,cond_false]
     rw [d3,Option.bind_some]
     simp only
     rw [q1,Option.bind_some,q2,Option.bind_some]
     simp only
     have hp:=rplace_loop E A g B o (N:=N) (R:=R) (S:=S) (by omega) N 0 (by omega)
     rw [show Zam_L8 ((N : Int),E,A,g,B,o,rankL R N,rankL S N,[],0,())=_ from hp]
     rfl
  ·have hE0 : E.length=0:=by omega
   have hg0 : g.length=0:=by omega
   have h1 : Ze ((((N : Int),E,A,()),g,B,o,()),())=some (false,()):=by
    unfold Ze
    simp only
    rw [b2,Option.bind_some]
    simp only [Bool.not_true,cond_false]
    rw [eqI_t (by omega)]; rfl
   refine ⟨false,h1,fun _=>⟨?_,by rw [hr,h1]; rfl⟩,fun h=>by cases h⟩
   unfold Zbs
   simp only
   rw [b1,Option.bind_some]
   simp only [Bool.not_true,cond_false]
   have : Zp ((((N : Int),E,A,()),g,B,o,()),())=some (false,()):=by
    unfold Zp
    simp only
    rw [eqI_t (by omega)]; rfl
   rw [this]; rfl
end
end Go.Vm

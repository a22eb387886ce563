/-
 The places in a direction, in the program: classes of vertices, and the longest ways between them.
-/
import Derived.Test.YtpgfkljmcacegaaDoorN42K
set_option linter.unusedVariables false
set_option linter.unusedSimpArgs false
namespace Go.Vm
open Go.Proofs
set_option maxRecDepth 100000
attribute [local irreducible] loopFix
theorem minI_nat (x y : Nat) : minI (x : Int) (y : Int)=((min x y : Nat) : Int):=by
 unfold minI
 split <;> omega
theorem maxI_nat (x y : Nat) : maxI (x : Int) (y : Int)=((max x y : Nat) : Int):=by
 unfold maxI
 split <;> omega
section
variable {N : Nat} {E : List Arc} {A : List (List Int)} {nx fw g : List Int} {B : List ByteArray} {o : Int} {k : Nat→Int} {a b : Int}
theorem dir_get {d M : Nat} (hd : d < 2 * M) : (dirL k M)[d]?=some (k d):=by
 unfold dirL
 rw [List.getElem?_map,List.getElem?_range hd]; rfl
structure ClsOK (N : Nat) (E : List Arc) (k : Nat→Int) (a : Int) (cl : List Int) : Prop where
 len : cl.length=N
 val : ∀ v,v < N→∃ c : Nat,cl[v]?=some (c : Int)∧c < N∧Vert (tln E) E.length k a c v
theorem cls_put (hk : Dirs E.length (nxN fw) (gN g) k) {cl : List Int} (hc : ClsOK N E k a cl) {u v x y : Nat} (hu : u < N) (hv : v < N) (huv : Vert (tln E) E.length k a u v) (hx : cl[u]?=some (x : Int)) (hy : cl[v]?=some (y : Int)) (hne : x≠y) :
  ClsOK N E k a ((cl.set u ((min x y : Nat) : Int)).set v ((min x y : Nat) : Int))∧tot Int.toNat ((cl.set u ((min x y : Nat) : Int)).set v ((min x y : Nat) : Int)) < tot Int.toNat cl:=by
 have hlen:=hc.len
 obtain ⟨x',x1,x2,x3⟩:=hc.val u hu
 obtain ⟨y',y1,y2,y3⟩:=hc.val v hv
 rw [hx] at x1
 rw [hy] at y1
 have : x=x':=by have:=Option.some.inj x1; omega
 subst this
 have : y=y':=by have:=Option.some.inj y1; omega
 subst this
 have huv2 : u≠v:=fun e=>by subst e; rw [hx] at hy; have:=Option.some.inj hy; omega
 have hset : ∀ w,((cl.set u ((min x y : Nat) : Int)).set v ((min x y : Nat) : Int))[w]?=if v=w then (if v < (cl.set u ((min x y : Nat) : Int)).length then some ((min x y : Nat) : Int) else none) else if u=w then (if u < cl.length then some ((min x y : Nat) : Int) else none) else cl[w]?:=fun w=>by
  rw [List.getElem?_set,List.getElem?_set]
 have hmu : Vert (tln E) E.length k a (min x y) u:=by
  rcases Nat.le_total x y with c | c
  ·rw [Nat.min_eq_left c]; exact x3
  ·rw [Nat.min_eq_right c]; exact y3.trans (huv.symm hk)
 refine ⟨⟨by simp [hlen],fun w hw=>?_⟩,?_⟩
 ·rw [hset]
  by_cases c1 : v=w
  ·subst c1
   rw [if_pos rfl,if_pos (by simp; omega)]
   exact ⟨_,rfl,by omega,hmu.trans huv⟩
  ·rw [if_neg c1]
   by_cases c2 : u=w
   ·subst c2
    rw [if_pos rfl,if_pos (by omega)]
    exact ⟨_,rfl,by omega,hmu⟩
   ·rw [if_neg c2]; exact hc.val w hw
 ·have h1:=tot_set Int.toNat (y:=((min x y : Nat) : Int)) hx
  have h2:=tot_set Int.toNat (l:=cl.set u ((min x y : Nat) : Int)) (i:=v) (x:=(y : Int)) (y:=((min x y : Nat) : Int)) (by rw [List.getElem?_set,if_neg huv2,hy])
  simp only [Int.toNat_natCast] at h1 h2
  omega
def clC (E : List Arc) (k : Nat→Int) (b : Int) (cl : List Int) (d : Nat) : Prop:=k d=b→cl.getD (tln E d) 0=cl.getD (tln E (oth d)) 0
theorem cls_step (h : RotOK (N : Nat) E A) (hk : Dirs E.length (nxN fw) (gN g) k) (hab : a % 2≠b % 2) (cl : List Int) (ch : Bool) (d : Nat) (hd : d < 2 * E.length) (hc : ClsOK N E k a cl) :
  ∃ t c,Zbb_B11 ((N : Int),E,A,g,B,o,cl,dirL k E.length,b,ch,dirL k E.length,((2 * E.length : Nat) : Int),(d : Int),())=some (.inl ((N : Int),E,A,g,B,o,t,dirL k E.length,b,c,dirL k E.length,((2 * E.length : Nat) : Int),((d+1 : Nat) : Int),()))∧ClsOK N E k a t ∧
   ((c=ch∧t=cl∧clC E k b cl d)∨(c=true∧tot Int.toNat t < tot Int.toNat cl)):=by
 have hm1:=h.m1
 have hod:=oth_lt hd
 have hlen:=hc.len
 have hu:=(tln_eq h hd).2
 have hw:=(tln_eq h hod).2
 obtain ⟨x,x1,x2,x3⟩:=hc.val _ hu
 obtain ⟨y,y1,y2,y3⟩:=hc.val _ hw
 have gu : cl.getD (tln E d) 0=(x : Int):=by rw [List.getD_eq_getElem?_getD,x1]; rfl
 have gw : cl.getD (tln E (oth d)) 0=(y : Int):=by rw [List.getD_eq_getElem?_getD,y1]; rfl
 have iu : idxI cl.length ((tln E d : Nat) : Int)=some (tln E d):=idxI_of (by omega)
 have iw : idxI cl.length ((tln E (oth d) : Nat) : Int)=some (tln E (oth d)):=idxI_of (by omega)
 unfold Zbb_B11
 simp only
 rw [ltI_t (by omega),cond_true,getI_of,dir_get hd,Option.bind_some,ptail h hd,Option.bind_some,xor1 (by omega),ptail h hod,Option.bind_some]
 by_cases c1 : k d=b
 ·rw [eqI_t c1,cond_true]
  simp only [iu,iw,Option.bind_some,x1,y1,List.length_set,minI_nat]
  by_cases c2 : x=y
  ·rw [neI_f (by omega),cond_false,add1 (by omega)]
   exact ⟨cl,ch,rfl,hc,.inl ⟨rfl,rfl,fun _=>by rw [gu,gw]; omega⟩⟩
  ·rw [neI_t (by omega),cond_true,add1 (by omega)]
   have hs : (cl.set (tln E d) ((min x y : Nat) : Int))[tln E d]?=some ((min x y : Nat) : Int):=by rw [List.getElem?_set,if_pos rfl,if_pos (by omega)]
   rw [hs,Option.bind_some]
   have hsome : ∃ z,(cl.set (tln E d) ((min x y : Nat) : Int))[tln E (oth d)]?=some z:=⟨_,List.getElem?_eq_getElem (by simp; omega)⟩
   obtain ⟨z,hz⟩:=hsome
   rw [hz,Option.bind_some]
   obtain ⟨q1,q2⟩:=cls_put hk hc hu hw (Vert.dart hd (by rw [c1]; omega)) x1 y1 c2
   exact ⟨_,true,rfl,q1,.inr ⟨rfl,q2⟩⟩
 ·rw [eqI_f c1,cond_false,add1 (by omega)]
  exact ⟨cl,ch,rfl,hc,.inl ⟨rfl,rfl,fun e=>absurd e c1⟩⟩
theorem init_loop (N : Int) (E : List Arc) (A : List (List Int)) (g : List Int) (B : List ByteArray) (o : Int) (D : List Int) (b : Int) (L : Nat) (hL : L≤1000000) : ∀ (r j : Nat),j+r=L →
  Zbb_L3 (N,E,A,g,B,o,(List.range j).map (fun v : Nat=>(v : Int))++List.replicate r 0,D,b,(L : Int),(j : Int),())=some (.inl (N,E,A,g,B,o,(List.range L).map (fun v : Nat=>(v : Int)),D,b,()))
 | 0,j,hj=>by
  refine loop_done ?_
  unfold Zbb_B3
  simp only
  rw [ltI_f (by omega)]
  have : j=L:=by omega
  subst this
  simp
 | r+1,j,hj=>by
  have ih:=init_loop N E A g B o D b L hL r (j+1) (by omega)
  refine (loop_step ?_).trans ih
  unfold Zbb_B3
  simp only
  rw [ltI_t (by omega),cond_true,idxI_of (by simp),Option.bind_some]
  have hg : ((List.range j).map (fun v : Nat=>(v : Int))++List.replicate (r+1) 0)[j]?=some 0:=by
   rw [List.getElem?_append_right (by simp)]
   simp
  rw [hg,Option.bind_some,add1 (by omega)]
  have hset : ((List.range j).map (fun v : Nat=>(v : Int))++List.replicate (r+1) 0).set j (j : Int)=(List.range (j+1)).map (fun v : Nat=>(v : Int))++List.replicate r 0:=by
   rw [List.set_append_right _ _ (by simp),List.length_map,List.length_range,Nat.sub_self,List.replicate_succ,List.set_cons_zero,List.range_succ,List.map_append]
   simp
  rw [hset]
theorem classes_eq (h : RotOK (N : Nat) E A) (hk : Dirs E.length (nxN fw) (gN g) k) (hab : a % 2≠b % 2∧0≤b∧b≤1) : ∃ cl,Zbb ((((N : Int),E,A,()),g,B,o,()),dirL k E.length,b,())=some (cl,())∧ClsOK N E k a cl∧∀ d,d < 2 * E.length→k d % 2≠a % 2→cl.getD (tln E d) 0=cl.getD (tln E (oth d)) 0:=by
 have hn16:=h.n16
 have h0 : ClsOK N E k a ((List.range N).map (fun v : Nat=>(v : Int))):=⟨by simp,fun v hv=>⟨v,by rw [List.getElem?_map,List.getElem?_range hv]; rfl,hv,Vert.refl v⟩⟩
 obtain ⟨t,t1,t2,t3⟩:=rounds (B:=Zbb_B8) (fun (cl : List Int) c=>((N : Int),E,A,g,B,o,cl,dirL k E.length,b,c,())) (fun cl=>.inl (cl,())) (ClsOK N E k a) (tot Int.toNat) (fun cl=>∀ d,d < 2 * E.length→clC E k b cl d)
  (fun s=>rfl) (fun s hs=>by
   obtain ⟨t,c,q1,q2,q3⟩:=sweep (B:=Zbb_B11) (fun (cl : List Int) c (d : Nat)=>((N : Int),E,A,g,B,o,cl,dirL k E.length,b,c,dirL k E.length,((2 * E.length : Nat) : Int),(d : Int),())) (fun cl c=>.inl ((N : Int),E,A,g,B,o,cl,dirL k E.length,b,c,())) (ClsOK N E k a) (tot Int.toNat) (clC E k b) (2 * E.length)
    (fun s b'=>by
     unfold Zbb_B11
     simp only
     rw [ltI_f (by omega)]; rfl) (fun s b' d hd hs=>cls_step h hk hab.1 s b' d hd hs) (2 * E.length) 0 s false (by omega) hs
   refine ⟨t,c,?_,q2,?_⟩
   ·unfold Zbb_B8
    simp only [cond_true]
    rw [dirL_len,show Zbb_L11 ((N : Int),E,A,g,B,o,s,dirL k E.length,b,false,dirL k E.length,((2 * E.length : Nat) : Int),0,())=_ from q1]
    rfl
   ·rcases q3 with ⟨r1,r2,r3⟩ | r
    ·exact .inl ⟨r1,r2,fun d hd=>by rw [r2] at *; exact r3 d (Nat.zero_le _) hd⟩
    ·exact .inr r) _ _ (Nat.le_refl _) h0
 refine ⟨t,?_,t2,fun d hd hs=>?_⟩
 ·unfold Zbb
  simp only
  rw [makeL_of (Nat.le_refl _) (by omega),Option.bind_some]
  have hi:=init_loop (N : Int) E A g B o (dirL k E.length) b N (by omega) N 0 (by omega)
  simp only [List.range_zero,List.map_nil,List.nil_append] at hi
  rw [List.length_replicate,show Zbb_L3 ((N : Int),E,A,g,B,o,List.replicate N (zeroVal I),dirL k E.length,b,(N : Int),0,())=_ from hi]
  simp only [Option.bind_some,Sum.elim_inl]
  rw [show Zbb_L8 ((N : Int),E,A,g,B,o,(List.range N).map (fun v : Nat=>(v : Int)),dirL k E.length,b,true,())=_ from t1]
  rfl
 ·have kd:=hk.nn d hd
  have ko:=hk.nn _ (oth_lt hd)
  have kk:=hk.oth d hd
  by_cases c : k d=b
  ·exact t3 d hd c
  ·have:=t3 _ (oth_lt hd) (by omega)
   rw [oth_oth] at this
   exact this.symm
def cN (cl : List Int) (v : Nat) : Nat:=(cl.getD v 0).toNat
theorem cN_eq {cl : List Int} (hc : ClsOK N E k a cl) {v : Nat} (hv : v < N) : cl[v]?=some ((cN cl v : Nat) : Int)∧cN cl v < N∧Vert (tln E) E.length k a (cN cl v) v:=by
 obtain ⟨c,c1,c2,c3⟩:=hc.val v hv
 have : cN cl v=c:=by unfold cN; rw [List.getD_eq_getElem?_getD,c1]; rfl
 rw [this]
 exact ⟨c1,c2,c3⟩
theorem rk_sweep (h : RotOK (N : Nat) E A) (hk : Dirs E.length (nxN fw) (gN g) k) {cl : List Int} (hc : ClsOK N E k a cl) (hb : ∀ n v,v < N→Up (tln E) E.length k a n v→n < N) (r0 : List Int) (q : Int) (i : Int) : ∀ (r d : Nat) (s : List Int),d+r=2 * E.length→Vals N E k a s→(∀ c,r0.getD c 0≤s.getD c 0) →
  ∃ t,Zbq_L5 ((N : Int),E,A,g,B,o,s,dirL k E.length,cl,a,q,i,dirL k E.length,((2 * E.length : Nat) : Int),(d : Int),())=some (.inl ((N : Int),E,A,g,B,o,t,dirL k E.length,cl,a,q,i,()))∧Vals N E k a t∧(∀ c,s.getD c 0≤t.getD c 0) ∧
   ∀ e,d≤e→e < 2 * E.length→k e=a→r0.getD (cN cl (tln E e)) 0+1≤t.getD (cN cl (tln E (oth e))) 0
 | 0,d,s,hd,hs,_=>by
  refine ⟨s,loop_done ?_,hs,fun _=>Int.le_refl _,fun e h1 h2=>by omega⟩
  unfold Zbq_B5
  simp only
  rw [ltI_f (by omega)]; rfl
 | r+1,d,s,hdr,hs,hge=>by
  have hd : d < 2 * E.length:=by omega
  have hm1:=h.m1
  have hn16:=h.n16
  have hod:=oth_lt hd
  have hu:=(tln_eq h hd).2
  have hw:=(tln_eq h hod).2
  obtain ⟨u1,u2,u3⟩:=cN_eq hc hu
  obtain ⟨w1,w2,w3⟩:=cN_eq hc hw
  have hlen:=hs.len
  obtain ⟨x,x1,x2⟩:=hs.val _ u2
  obtain ⟨y,y1,y2⟩:=hs.val _ w2
  have gx : s.getD (cN cl (tln E d)) 0=(x : Int):=by rw [List.getD_eq_getElem?_getD,x1]; rfl
  have gy : s.getD (cN cl (tln E (oth d))) 0=(y : Int):=by rw [List.getD_eq_getElem?_getD,y1]; rfl
  have hxN:=hb x _ u2 x2
  by_cases c1 : k d=a
  ·have hup : Up (tln E) E.length k a (x+1) (cN cl (tln E (oth d))):=(w3.symm hk).up (.along (u3.up x2) hd c1)
   have hupm : Up (tln E) E.length k a (max y (x+1)) (cN cl (tln E (oth d))):=by
    rcases Nat.le_total y (x+1) with c | c
    ·rw [Nat.max_eq_right c]; exact hup
    ·rw [Nat.max_eq_left c]; exact y2
   have hget : ∀ c,(s.set (cN cl (tln E (oth d))) ((max y (x+1) : Nat) : Int)).getD c 0=if cN cl (tln E (oth d))=c then ((max y (x+1) : Nat) : Int) else s.getD c 0:=by
    intro c
    rw [List.getD_eq_getElem?_getD,List.getElem?_set,List.getD_eq_getElem?_getD]
    by_cases e : cN cl (tln E (oth d))=c
    ·rw [if_pos e,if_pos e,if_pos (by omega)]; rfl
    ·rw [if_neg e,if_neg e]
   have hv' : Vals N E k a (s.set (cN cl (tln E (oth d))) ((max y (x+1) : Nat) : Int)):=by
    refine ⟨by simp [hlen],fun c hcN=>?_⟩
    rw [List.getElem?_set]
    by_cases e : cN cl (tln E (oth d))=c
    ·subst e; rw [if_pos rfl,if_pos (by omega)]; exact ⟨_,rfl,hupm⟩
    ·rw [if_neg e]; exact hs.val c hcN
   have hmono : ∀ c,s.getD c 0≤(s.set (cN cl (tln E (oth d))) ((max y (x+1) : Nat) : Int)).getD c 0:=by
    intro c
    rw [hget]
    by_cases e : cN cl (tln E (oth d))=c
    ·rw [if_pos e,← e,gy]; omega
    ·rw [if_neg e]; exact Int.le_refl _
   obtain ⟨t,t1,t2,t3,t4⟩:=rk_sweep h hk hc hb r0 q i r (d+1) _ (by omega) hv' (fun c=>Int.le_trans (hge c) (hmono c))
   refine ⟨t,(loop_step ?_).trans t1,t2,fun c=>Int.le_trans (hmono c) (t3 c),fun e e1 e2 e3=>?_⟩
   ·unfold Zbq_B5
    simp only
    have iu : idxI s.length ((cN cl (tln E d) : Nat) : Int)=some (cN cl (tln E d)):=idxI_of (by omega)
    have iw : idxI s.length ((cN cl (tln E (oth d)) : Nat) : Int)=some (cN cl (tln E (oth d))):=idxI_of (by omega)
    rw [ltI_t (by omega),cond_true,getI_of,dir_get hd,Option.bind_some,ptail h hd,Option.bind_some,xor1 (by omega),ptail h hod]
    simp only [Option.bind_some,getI_of,u1,w1,iu,iw,x1,y1]
    rw [eqI_t c1,cond_true,add1 (by omega),add1 (by omega),maxI_nat]
   ·by_cases e4 : e=d
    ·subst e4
     have h1:=hge (cN cl (tln E e))
     have h2:=t3 (cN cl (tln E (oth e)))
     rw [hget,if_pos rfl] at h2
     rw [gx] at h1
     omega
    ·exact t4 e (by omega) e2 e3
  ·obtain ⟨t,t1,t2,t3,t4⟩:=rk_sweep h hk hc hb r0 q i r (d+1) s (by omega) hs hge
   refine ⟨t,(loop_step ?_).trans t1,t2,t3,fun e e1 e2 e3=>?_⟩
   ·unfold Zbq_B5
    simp only
    rw [ltI_t (by omega),cond_true,getI_of,dir_get hd,Option.bind_some,ptail h hd,Option.bind_some,xor1 (by omega),ptail h hod]
    simp only [Option.bind_some,getI_of,u1,w1]
    rw [eqI_f c1,cond_false,add1 (by omega)]
   ·by_cases e4 : e=d
    ·subst e4; exact absurd e3 c1
    ·exact t4 e (by omega) e2 e3
theorem rk_rounds (h : RotOK (N : Nat) E A) (hk : Dirs E.length (nxN fw) (gN g) k) {cl : List Int} (hc : ClsOK N E k a cl) (hs : ∀ d,d < 2 * E.length→k d % 2≠a % 2→cl.getD (tln E d) 0=cl.getD (tln E (oth d)) 0) (hb : ∀ n v,v < N→Up (tln E) E.length k a n v→n < N) : ∀ (r j : Nat) (s : List Int),j+r=N→Vals N E k a s →
  (∀ n w,n≤j→w < N→Up (tln E) E.length k a n w→(n : Int)≤s.getD (cN cl w) 0) →
  ∃ t,Zbq_L3 ((N : Int),E,A,g,B,o,s,dirL k E.length,cl,a,(N : Int),(j : Int),())=some (.inl ((N : Int),E,A,g,B,o,t,cl,()))∧Vals N E k a t∧∀ n w,n≤N→w < N→Up (tln E) E.length k a n w→(n : Int)≤t.getD (cN cl w) 0
 | 0,j,s,hj,hv,hge=>by
  have : j=N:=by omega
  subst this
  refine ⟨s,loop_done ?_,hv,hge⟩
  unfold Zbq_B3
  simp only
  rw [ltI_f (by omega)]; rfl
 | r+1,j,s,hj,hv,hge=>by
  have hn16:=h.n16
  obtain ⟨t,t1,t2,t3,t4⟩:=rk_sweep h hk hc hb s (N : Int) (j : Int) (B:=B) (o:=o) (2 * E.length) 0 s (by omega) hv (fun _=>Int.le_refl _)
  obtain ⟨u,u1,u2,u3⟩:=rk_rounds h hk hc hs hb r (j+1) t (by omega) t2 (fun n w hn hw hu=>by
   rcases hu.last with h0 | ⟨m,d,e,hd,hka,hum,hve⟩
   ·subst h0
    obtain ⟨c,c1,_⟩:=t2.val _ (cN_eq hc hw).2.1
    rw [List.getD_eq_getElem?_getD,c1]; simp
   ·subst e
    have h1:=hge m _ (by omega) (tln_eq h hd).2 hum
    have h2:=t4 d (Nat.zero_le _) hd hka
    have h3 : cN cl (tln E (oth d))=cN cl w:=by
     have:=Vert.same (L:=fun v=>cl.getD v 0) (fun d hd hks=>hs d hd hks) hve
     unfold cN
     rw [this]
    rw [h3] at h2
    omega)
  refine ⟨u,(loop_step ?_).trans u1,u2,u3⟩
  unfold Zbq_B3
  simp only
  rw [ltI_t (by omega),cond_true,dirL_len]
  rw [show Zbq_L5 ((N : Int),E,A,g,B,o,s,dirL k E.length,cl,a,(N : Int),(j : Int),dirL k E.length,((2 * E.length : Nat) : Int),0,())=_ from t1]
  simp only [Option.bind_some,Sum.elim_inl]
  rw [add1 (by omega)]
theorem out_loop {cl t : List Int} {R : Nat→Nat} (hN : N≤1000000) (ht : t.length=N) (hcl : ∀ v,v < N→cl[v]?=some ((cN cl v : Nat) : Int)∧cN cl v < N∧t[cN cl v]?=some ((R v : Nat) : Int)) : ∀ (r j : Nat),j+r=N →
  Zbq_L14 (t,(List.range j).map (fun v : Nat=>((R v : Nat) : Int))++List.replicate r 0,cl,(N : Int),(j : Int),())=some (.inl (rankL R N,()))
 | 0,j,hj=>by
  refine loop_done ?_
  unfold Zbq_B14
  simp only
  rw [ltI_f (by omega)]
  have : j=N:=by omega
  subst this
  simp [rankL]
 | r+1,j,hj=>by
  have ih:=out_loop hN ht hcl r (j+1) (by omega)
  obtain ⟨c1,c2,c3⟩:=hcl j (by omega)
  refine (loop_step ?_).trans ih
  unfold Zbq_B14
  simp only
  rw [ltI_t (by omega),cond_true,getI_of,c1,Option.bind_some,idxI_of (by omega),Option.bind_some,c3,Option.bind_some,idxI_of (by simp),Option.bind_some]
  have hg : ((List.range j).map (fun v : Nat=>((R v : Nat) : Int))++List.replicate (r+1) 0)[j]?=some 0:=by
   rw [List.getElem?_append_right (by simp)]
   simp
  rw [hg,Option.bind_some,add1 (by omega)]
  have hset : ((List.range j).map (fun v : Nat=>((R v : Nat) : Int))++List.replicate (r+1) 0).set j ((R j : Nat) : Int)=(List.range (j+1)).map (fun v : Nat=>((R v : Nat) : Int))++List.replicate r 0:=by
   rw [List.set_append_right _ _ (by simp),List.length_map,List.length_range,Nat.sub_self,List.replicate_succ,List.set_cons_zero,List.range_succ,List.map_append]
   simp
  rw [hset]
theorem ranks_eq (h : RotOK (N : Nat) E A) (hk : Dirs E.length (nxN fw) (gN g) k) {cl : List Int} (hc : ClsOK N E k a cl) (hs : ∀ d,d < 2 * E.length→k d % 2≠a % 2→cl.getD (tln E d) 0=cl.getD (tln E (oth d)) 0) {R : Nat→Nat} (hR : ∀ v,v < N→Up (tln E) E.length k a (R v) v∧(∀ n,Up (tln E) E.length k a n v→n≤R v)∧R v < N) :
  Zbq ((((N : Int),E,A,()),g,B,o,()),dirL k E.length,cl,a,())=some (rankL R N,()):=by
 have hn16:=h.n16
 have hb : ∀ n v,v < N→Up (tln E) E.length k a n v→n < N:=fun n v hv hu=>by
  have:=(hR v hv).2.1 n hu
  have:=(hR v hv).2.2
  omega
 have h0 : Vals N E k a (List.replicate N 0):=⟨by simp,fun v hv=>⟨0,by rw [List.getElem?_replicate,if_pos hv]; rfl,.base v⟩⟩
 obtain ⟨t,t1,t2,t3⟩:=rk_rounds h hk hc hs hb (B:=B) (o:=o) N 0 _ (by omega) h0 (fun n w hn hw _=>by
  obtain ⟨c,c1,_⟩:=h0.val _ (cN_eq hc hw).2.1
  rw [List.getD_eq_getElem?_getD,c1]; simp; omega)
 have hcl : ∀ v,v < N→cl[v]?=some ((cN cl v : Nat) : Int)∧cN cl v < N∧t[cN cl v]?=some ((R v : Nat) : Int):=by
  intro v hv
  obtain ⟨c1,c2,c3⟩:=cN_eq hc hv
  obtain ⟨n,n1,n2⟩:=t2.val _ c2
  have a1:=(hR v hv).2.1 n (c3.up n2)
  have a2:=t3 (R v) v (by have:=(hR v hv).2.2; omega) hv (hR v hv).1
  rw [List.getD_eq_getElem?_getD,n1] at a2
  have a2 : ((R v : Nat) : Int)≤(n : Int):=a2
  have : n=R v:=by omega
  rw [this] at n1
  exact ⟨c1,c2,n1⟩
 have ho:=out_loop (by omega) t2.len hcl N 0 (by omega)
 simp only [List.range_zero,List.map_nil,List.nil_append] at ho
 unfold Zbq
 simp only
 rw [makeL_of (Nat.le_refl _) (by omega),Option.bind_some]
 rw [show Zbq_L3 ((N : Int),E,A,g,B,o,List.replicate N (zeroVal I),dirL k E.length,cl,a,(N : Int),0,())=_ from t1]
 simp only [Option.bind_some,Sum.elim_inl]
 rw [makeL_of (Nat.le_refl _) (by omega),Option.bind_some,List.length_replicate]
 rw [show Zbq_L14 (t,List.replicate N (zeroVal I),cl,(N : Int),0,())=_ from ho]
 rfl
end
end Go.Vm

/-
 The places in a direction, in the reference.
-/
import Derived.Test.YtpgfkljmcacegaaDoorN42J
set_option linter.unusedVariables false
set_option linter.unusedSimpArgs false
namespace Go.Vm
open Go.Proofs
set_option maxRecDepth 100000
attribute [local irreducible] loopFix
theorem rem_two {x : Int} (h : 0≤x) : remI x 2=x % 2:=by
 obtain ⟨n,rfl⟩ : ∃ n : Nat,x=(n : Int):=⟨x.toNat,by omega⟩
 rw [rem2]; omega
section
variable {N : Nat} {E : List Arc} {A : List (List Int)} {nx fw g : List Int} {B : List ByteArray} {o : Int} {k : Nat→Int} {a b : Int}
theorem ptail (h : RotOK (N : Nat) E A) {d : Nat} (hd : d < 2 * E.length) : Zbm (((N : Int),E,A,()),(d : Int),())=some (((tln E d : Nat) : Int),()):=by
 rw [Tail_eq h h.validB h.lists hd,(tln_eq h hd).1]
theorem rtail (h : RotOK (N : Nat) E A) {d : Nat} (hd : d < 2 * E.length) : Zav (((N : Int),E,A,()),(d : Int),())=some (((tln E d : Nat) : Int),()):=by
 have hm1:=h.m1
 have e2 : mulI .i64 2 (E.length : Nat)=((2 * E.length : Nat) : Int):=by rw [mulI64 (by omega) (by omega)]; omega
 unfold Zav
 simp only
 rw [rvalid_eq ((N : Int),E,A,()) h.lists,h.validB,Option.bind_some]
 simp only [Bool.not_true,cond_false]
 rw [ltI_f (by omega),cond_false,e2,geI_f (by omega),cond_false,tails_eq (N : Int) E A () hm1,Option.bind_some]
 simp only
 rw [idxI_of (by rw [tails_length]; exact hd),Option.bind_some,tails_get E d hd,(tln_eq h hd).1]
 rfl
structure Vals (N : Nat) (E : List Arc) (k : Nat→Int) (a : Int) (out : List Int) : Prop where
 len : out.length=N
 val : ∀ v,v < N→∃ n : Nat,out[v]?=some (n : Int)∧Up (tln E) E.length k a n v
def plC (E : List Arc) (k : Nat→Int) (a : Int) (out : List Int) (d : Nat) : Prop:=(k d=a→out.getD (tln E d) 0+1≤out.getD (tln E (oth d)) 0)∧(k d % 2≠a % 2→out.getD (tln E d) 0≤out.getD (tln E (oth d)) 0)
theorem Vals.put {out : List Int} (hv : Vals N E k a out) (hb : ∀ n v,v < N→Up (tln E) E.length k a n v→n < N) {v m : Nat} (hvN : v < N) (hm : Up (tln E) E.length k a m v) (hlt : out.getD v 0 < (m : Int)) :
  Vals N E k a (out.set v (m : Int))∧tot (fun x=>N - x.toNat) (out.set v (m : Int)) < tot (fun x=>N - x.toNat) out:=by
 have hlen:=hv.len
 obtain ⟨n,n1,n2⟩:=hv.val v hvN
 have hg : out.getD v 0=(n : Int):=by rw [List.getD_eq_getElem?_getD,n1]; rfl
 have hmN:=hb m v hvN hm
 refine ⟨⟨by simp [hlen],fun w hw=>?_⟩,?_⟩
 ·rw [List.getElem?_set]
  by_cases c : v=w
  ·subst c; rw [if_pos rfl,if_pos (by omega)]; exact ⟨m,rfl,hm⟩
  ·rw [if_neg c]; exact hv.val w hw
 ·have:=tot_set (fun x=>N - x.toNat) (y:=(m : Int)) n1
  simp only [Int.toNat_natCast] at this
  omega
theorem pl_step (h : RotOK (N : Nat) E A) (hk : Dirs E.length (nxN fw) (gN g) k) (hab : a % 2≠b % 2∧0≤b∧0≤a) (hb : ∀ n v,v < N→Up (tln E) E.length k a n v→n < N) (out : List Int) (ch : Bool) (d : Nat) (hd : d < 2 * E.length) (hv : Vals N E k a out) :
  ∃ t c,Zq_B6 ((N : Int),E,A,g,B,o,out,dirL k E.length,a,b,ch,(d : Int),())=some (.inl ((N : Int),E,A,g,B,o,t,dirL k E.length,a,b,c,((d+1 : Nat) : Int),()))∧Vals N E k a t ∧
   ((c=ch∧t=out∧plC E k a out d)∨(c=true∧tot (fun x=>N - x.toNat) t < tot (fun x=>N - x.toNat) out)):=by
 have hm1:=h.m1
 have hn16:=h.n16
 have hod:=oth_lt hd
 have hlen:=hv.len
 have hu:=(tln_eq h hd).2
 have hw:=(tln_eq h hod).2
 obtain ⟨n,n1,n2⟩:=hv.val _ hu
 obtain ⟨m,m1,m2⟩:=hv.val _ hw
 have gu : out.getD (tln E d) 0=(n : Int):=by rw [List.getD_eq_getElem?_getD,n1]; rfl
 have gw : out.getD (tln E (oth d)) 0=(m : Int):=by rw [List.getD_eq_getElem?_getD,m1]; rfl
 have iu : idxI out.length ((tln E d : Nat) : Int)=some (tln E d):=idxI_of (by omega)
 have iw : idxI out.length ((tln E (oth d) : Nat) : Int)=some (tln E (oth d)):=idxI_of (by omega)
 have kd:=hk.nn d hd
 have hnN:=hb n _ hu n2
 have gdir : (dirL k E.length)[d]?=some (k d):=by
  unfold dirL
  rw [List.getElem?_map,List.getElem?_range hd]; rfl
 unfold Zq_B6
 simp only
 rw [dirL_len,ltI_t (by omega),cond_true,rtail h hd,Option.bind_some,xor1 (by omega),rtail h hod,Option.bind_some,getI_of,gdir,Option.bind_some]
 simp only [iu,iw,Option.bind_some,n1,m1,rem_two kd.1,rem_two hab.2.1]
 by_cases c1 : k d=a
 ·rw [eqI_t c1,cond_true]
  rw [eqI_f (show k d % 2≠b % 2 by rw [c1]; exact hab.1),cond_false,addI64 (by omega) (by omega),add1 (by omega)]
  by_cases c2 : (m : Int) < (n : Int)+1
  ·rw [ltI_t c2,cond_true]
   have e1 : (n : Int)+1=((n+1 : Nat) : Int):=by omega
   rw [e1]
   obtain ⟨q1,q2⟩:=hv.put hb hw (m:=n+1) (.along n2 hd c1) (by rw [gw]; omega)
   exact ⟨_,true,rfl,q1,.inr ⟨rfl,q2⟩⟩
  ·rw [ltI_f (by omega),cond_false]
   refine ⟨out,ch,rfl,hv,.inl ⟨rfl,rfl,fun _=>?_,fun hs=>absurd (by rw [c1]) hs⟩⟩
   rw [gu,gw]; omega
 ·rw [eqI_f c1,cond_false]
  by_cases c2 : k d % 2=b % 2
  ·have hs : k d % 2≠a % 2:=by omega
   rw [eqI_t c2,cond_true,add1 (by omega)]
   by_cases c3 : (m : Int) < (n : Int)
   ·rw [ltI_t c3,cond_true]
    obtain ⟨q1,q2⟩:=hv.put hb hw (m:=n) (.side n2 hd hs) (by rw [gw]; exact c3)
    exact ⟨_,true,rfl,q1,.inr ⟨rfl,q2⟩⟩
   ·rw [ltI_f (by omega),cond_false]
    refine ⟨out,ch,rfl,hv,.inl ⟨rfl,rfl,fun e=>absurd e c1,fun _=>?_⟩⟩
    rw [gu,gw]; omega
  ·have hs : k d % 2=a % 2:=by omega
   rw [eqI_f c2,cond_false,ltI_f (by omega),cond_false,add1 (by omega)]
   exact ⟨out,ch,rfl,hv,.inl ⟨rfl,rfl,fun e=>absurd e c1,fun e=>absurd hs e⟩⟩
def rankL (R : Nat→Nat) (N : Nat) : List Int:=(List.range N).map fun v=>(R v : Int)
theorem places_eq (h : RotOK (N : Nat) E A) (hk : Dirs E.length (nxN fw) (gN g) k) (hab : a % 2≠b % 2∧0≤b∧0≤a) {R : Nat→Nat} (hR : ∀ v,v < N→Up (tln E) E.length k a (R v) v∧(∀ n,Up (tln E) E.length k a n v→n≤R v)∧R v < N) :
  Zq ((((N : Int),E,A,()),g,B,o,()),dirL k E.length,a,b,())=some (rankL R N,()):=by
 have hn16:=h.n16
 have hb : ∀ n v,v < N→Up (tln E) E.length k a n v→n < N:=fun n v hv hu=>by
  have:=(hR v hv).2.1 n hu
  have:=(hR v hv).2.2
  omega
 have h0 : Vals N E k a (List.replicate N 0):=⟨by simp,fun v hv=>⟨0,by rw [List.getElem?_replicate,if_pos hv]; rfl,.base v⟩⟩
 obtain ⟨t,t1,t2,t3⟩:=rounds (B:=Zq_B3) (fun (out : List Int) c=>((N : Int),E,A,g,B,o,out,dirL k E.length,a,b,c,())) (fun out=>.inl (out,())) (Vals N E k a) (tot fun x=>N - x.toNat) (fun out=>∀ d,d < 2 * E.length→plC E k a out d)
  (fun s=>rfl) (fun s hs=>by
   obtain ⟨t,c,q1,q2,q3⟩:=sweep (B:=Zq_B6) (fun (out : List Int) c (d : Nat)=>((N : Int),E,A,g,B,o,out,dirL k E.length,a,b,c,(d : Int),())) (fun out c=>.inl ((N : Int),E,A,g,B,o,out,dirL k E.length,a,b,c,())) (Vals N E k a) (tot fun x=>N - x.toNat) (plC E k a) (2 * E.length)
    (fun s b'=>by
     unfold Zq_B6
     simp only
     rw [dirL_len,ltI_f (by omega)]; rfl) (fun s b' d hd hs=>pl_step h hk hab hb s b' d hd hs) (2 * E.length) 0 s false (by omega) hs
   refine ⟨t,c,?_,q2,?_⟩
   ·unfold Zq_B3
    simp only [cond_true]
    rw [show Zq_L6 ((N : Int),E,A,g,B,o,s,dirL k E.length,a,b,false,0,())=_ from q1]
    rfl
   ·rcases q3 with ⟨r1,r2,r3⟩ | r
    ·exact .inl ⟨r1,r2,fun d hd=>by rw [r2] at *; exact r3 d (Nat.zero_le _) hd⟩
    ·exact .inr r) _ _ (Nat.le_refl _) h0
 have ht : t=rankL R N:=by
  refine List.ext_getElem? fun v=>?_
  unfold rankL
  by_cases hv : v < N
  ·obtain ⟨n,n1,n2⟩:=t2.val v hv
   have hX : ∀ {n w : Nat},Up (tln E) E.length k a n w→w < N→(n : Int)≤t.getD w 0:=by
    intro n w hu
    induction hu with
    | base w =>
     intro hw
     obtain ⟨m,m1,_⟩:=t2.val w hw
     rw [List.getD_eq_getElem?_getD,m1]; simp
    | @along n d _ hd hka ih =>
     intro _
     have:=ih (tln_eq h hd).2
     have:=(t3 d hd).1 hka
     omega
    | @side n d _ hd hks ih =>
     intro _
     have:=ih (tln_eq h hd).2
     have:=(t3 d hd).2 hks
     omega
   have h1:=(hR v hv).2.1 n n2
   have h2:=hX (hR v hv).1 hv
   rw [List.getD_eq_getElem?_getD,n1] at h2
   have h2 : ((R v : Nat) : Int)≤(n : Int):=h2
   rw [n1,List.getElem?_map,List.getElem?_range hv]
   show some (n : Int)=some ((R v : Nat) : Int)
   congr 1
   omega
  ·rw [List.getElem?_eq_none (by rw [t2.len]; omega),List.getElem?_eq_none (by simp; omega)]
 unfold Zq
 simp only
 rw [makeL_of (Nat.le_refl _) (by omega),Option.bind_some]
 rw [show Zq_L3 ((N : Int),E,A,g,B,o,List.replicate N (zeroVal I),dirL k E.length,a,b,true,())=_ from t1,ht]
 rfl
end
end Go.Vm

/-
 A new vertex on an edge; labels of faces; the pair of darts for a join.
-/
import Derived.Test.YtgihliccohoggaaDoorKD
import Derived.Test.YtgihliccohoggaaDoorKC
set_option linter.unusedVariables false
set_option linter.unusedSimpArgs false
namespace Go.Vm
open Go.Proofs
set_option maxRecDepth 100000
attribute [local irreducible] loopFix
def repD (b c x : Int) : Int:=if x=b then c else x
def repL (b c : Int) (l : List Int) : List Int:=l.map (repD b c)
def splE (E : List Arc) (N e : Nat) (x y : Nat) : List Arc:=E.set e ((x : Int),(N : Int),())++[((N : Int),(y : Int),())]
def splA (A : List (List Int)) (e m y : Nat) : List (List Int):=A.set y (repL (2 * e+1 : Nat) (2 * m+1 : Nat) (subL A y))++[[((2 * e+1 : Nat) : Int),((2 * m : Nat) : Int)]]
structure SplitOK (N : Nat) (E : List Arc) (A : List (List Int)) (e x y : Nat) : Prop where
 rot : RotOK (N : Nat) E A
 val : validB ((N : Int),E,A,())=true
 he : e < E.length
 arc : E[e]?=some ((x : Int),(y : Int),())
 xn : x < N
 yn : y < N
 ne : x≠y
 m : E.length < 32768
 n : N < 16384
theorem rep_set {l : List Int} (hn : l.Nodup) {k : Nat} {b c : Int} (hk : l[k]?=some b) : l.set k c=repL b c l:=by
 obtain ⟨e,n1,n2⟩:=nodup_split hn hk
 have hlt : k < l.length:=(List.getElem?_eq_some_iff.1 hk).1
 have keep : ∀ {s : List Int},b∉s→s.map (repD b c)=s:=by
  intro s hs
  refine (List.map_congr_left fun x hx=>?_).trans (List.map_id s)
  unfold repD
  rw [if_neg (fun e2=>hs (by rw [← e2]; exact hx))]; rfl
 unfold repL
 conv=>rhs; rw [e]
 rw [List.map_append,List.map_cons,keep n1,keep n2]
 have : repD b c b=c:=by unfold repD; rw [if_pos rfl]
 rw [this,List.set_eq_take_append_cons_drop,if_pos hlt]
theorem rsplit_inner (N : Int) (E : List Arc) (A : List (List Int)) (z n : Int) (F : List Arc) (B : List (List Int)) (e m v : Nat) (l : List Int) (hl : A[v]?=some l) (hlen : l.length≤1000000) (he : e≤1000000) (hm : m≤1000000) :
  Zw_L16 (N,E,A,z,n,[],F,B,(e : Int),(m : Int),(v : Int),0,())=some (.inl (z,n,repL (2 * e+1 : Nat) (2 * m+1 : Nat) l,F,B,(e : Int),(m : Int),(v : Int),())):=by
 have e1 : ∀ k : Nat,k≤1000000→addI .i64 (mulI .i64 2 (k : Int)) 1=((2 * k+1 : Nat) : Int):=fun k hk=>by
  rw [mulI64 (by omega) (by omega),addI64 (by omega) (by omega)]; omega
 have h:=scanI (B:=Zw_B16) (fun i (s : List Int)=>s.length=i) (fun s i=>(N,E,A,z,n,s,F,B,(e : Int),(m : Int),(v : Int),(i : Int),())) (fun s=>.inl (z,n,s,F,B,(e : Int),(m : Int),(v : Int),())) (fun (e : Empty)=>e.elim)
  (fun i s (d : Int)=>some (.inl (s++[repD (2 * e+1 : Nat) (2 * m+1 : Nat) d]))) l (by
   intro s i d hs hd
   have hi : i < l.length:=(List.getElem?_eq_some_iff.1 hd).1
   unfold Zw_B16
   simp only
   rw [getI_of,hl,Option.bind_some,ltI_t (by omega),cond_true,Option.bind_some,getI_of,hd,Option.bind_some,e1 e he,e1 m hm]
   unfold repD
   by_cases c1 : d=((2 * e+1 : Nat) : Int)
   ·rw [eqI_t c1,cond_true,app_of (by simp; omega),Option.bind_some,add1 (by omega),if_pos c1]; rfl
   ·rw [eqI_f c1,cond_false,Option.bind_some,getI_of,hd,Option.bind_some,app_of (by simp; omega),Option.bind_some,add1 (by omega),if_neg c1]; rfl) (by
   intro s i d t hs hd ht
   simp only [Option.some.injEq,Sum.inl.injEq] at ht
   subst ht
   simp [hs]) (by
   intro s _
   unfold Zw_B16
   simp only
   rw [getI_of,hl,Option.bind_some,ltI_f (by omega)]; rfl) [] rfl
 have hf : ∀ (l : List Int) (i : Nat) (s : List Int),foldE (fun (_ : Nat) s (d : Int)=>(some (.inl (s++[repD (2 * e+1 : Nat) (2 * m+1 : Nat) d])) : Option (List Int⊕Empty))) i s l=some (.inl (s++repL (2 * e+1 : Nat) (2 * m+1 : Nat) l)):=by
  intro l
  induction l with
  | nil=>intro i s; simp [foldE,repL]
  | cons a l ih =>
   intro i s
   simp only [foldE,Option.bind_some,Sum.elim_inl]
   rw [ih]
   simp [repL]
 unfold Zw_L16
 rw [show ((N,E,A,z,n,[],F,B,(e : Int),(m : Int),(v : Int),0,()) : Int×List Arc×List (List Int)×Int×Int×List Int×List Arc×List (List Int)×Int×Int×Int×Int×Unit)=(N,E,A,z,n,[],F,B,(e : Int),(m : Int),(v : Int),((0 : Nat) : Int),()) from rfl,h,hf]
 rfl
theorem split33 (N : Int) (E : List Arc) (A : List (List Int)) (d : Int) (hl : ∀ l∈A,l.length≤9223372036854775807) :
  (∃ e,e≠0∧Zbl ((N,E,A,()),d,())=some ((0,[],[],()),e,())∧Zw ((N,E,A,()),d,())=some ((0,[],[],()),e,())) ∨
  ∃ n e x y : Nat,N=(n : Int)∧d=(e : Int)∧SplitOK n E A e x y ∧
   Zbl ((N,E,A,()),d,())=some ((((n+1 : Nat) : Int),splE E n e x y,splA A e E.length y,()),0,())∧Zw ((N,E,A,()),d,())=some ((((n+1 : Nat) : Int),splE E n e x y,splA A e E.length y,()),0,()):=by
 unfold Zbl Zw
 dsimp only
 rw [valid_eq (N,E,A,()) hl,rvalid_eq (N,E,A,()) hl,Option.bind_some,Option.bind_some]
 cases hv : validB (N,E,A,()) with
 | false=>exact .inl ⟨13,by decide,rfl,rfl⟩
 | true =>
  have h:=valid_ok hv
  have hm1:=h.m1
  have hn0:=h.n0
  obtain ⟨n,rfl⟩ : ∃ n : Nat,N=(n : Int):=⟨N.toNat,(Int.toNat_of_nonneg hn0).symm⟩
  have hal:=h.al
  have hn16:=h.n16
  simp only [Bool.not_true,cond_false]
  by_cases hd : 0≤d∧d < ((E.length : Nat) : Int)
  ·obtain ⟨d0,d1⟩:=hd
   obtain ⟨e,rfl⟩ : ∃ e : Nat,d=(e : Int):=⟨d.toNat,(Int.toNat_of_nonneg d0).symm⟩
   have he : e < E.length:=by omega
   rw [ltI_f d0,cond_false,geI_f d1,cond_false,cond_false,cond_false]
   by_cases hlim : n < 16384∧E.length < 32768
   ·obtain ⟨hn,hm⟩:=hlim
    rw [geI_f (by omega),cond_false,geI_f (by omega),cond_false,cond_false,cond_false]
    have hll : ∀ l∈A,l.length≤65536:=fun l hl'=>by have:=h.list_len hl'; omega
    rw [copied_eq _ _ _ (by omega) (by omega) (fun l hl'=>by have:=hll l hl'; omega)]
    simp only [Option.bind_some]
    have harc:=List.getElem?_eq_getElem he
    obtain ⟨a1,a2,a3,a4,a5⟩:=h.edge E[e] (List.getElem_mem he)
    obtain ⟨x,hx⟩ : ∃ x : Nat,E[e].1=(x : Int):=⟨E[e].1.toNat,(Int.toNat_of_nonneg a1).symm⟩
    obtain ⟨y,hy⟩ : ∃ y : Nat,E[e].2.1=(y : Int):=⟨E[e].2.1.toNat,(Int.toNat_of_nonneg a3).symm⟩
    have harc2 : E[e]=((x : Int),(y : Int),()):=by rw [← hx,← hy]
    have hyl : y < A.length:=by omega
    have hAy:=List.getElem?_eq_getElem hyl
    have hsub:=subL_eq hyl
    have hyA:=hll _ (List.getElem_mem hyl)
    have ht : tl E (2 * e+1)=(y : Int):=by
     unfold tl
     rw [show (2 * e+1) / 2=e by omega,harc]
     simp only
     rw [if_neg (by omega),hy]
    have hin : ((2 * e+1 : Nat) : Int)∈A[y]:=h.around (by omega) ht hAy
    have hnd:=h.list_nodup (List.getElem_mem hyl)
    have e1 : addI .i64 (mulI .i64 2 (e : Int)) 1=((2 * e+1 : Nat) : Int):=by rw [mulI64 (by omega) (by omega),addI64 (by omega) (by omega)]; omega
    have e2 : mulI .i64 2 (E.length : Nat)=((2 * E.length : Nat) : Int):=by rw [mulI64 (by omega) (by omega)]; omega
    have e3 : addI .i64 ((2 * E.length : Nat) : Int) 1=((2 * E.length+1 : Nat) : Int):=by rw [addI64 (by omega) (by omega)]; omega
    have e4 : addI .i64 (n : Int) 1=((n+1 : Nat) : Int):=by rw [addI64 (by omega) (by omega)]; omega
    rw [e1,e2,e3,e4,getI_of,harc,Option.bind_some,Option.bind_some,idxI_of he,Option.bind_some,harc,Option.bind_some,harc2]
    simp only
    rw [app_of (by simp; omega),Option.bind_some,idxI_of hyl]
    simp only [Option.bind_some]
    rw [hsub]
    rcases index_int A[y] ((2 * e+1 : Nat) : Int) (by omega) with ⟨_,hno⟩ | ⟨k,k1,k2⟩
    ·exact absurd hin hno
    have hkl : k < A[y].length:=(List.getElem?_eq_some_iff.1 k1).1
    rw [k2]
    simp only [Option.bind_some]
    rw [idxI_of hkl,Option.bind_some,rep_set hnd k1,app_of (by simp; omega),Option.bind_some,app_of (by simp; omega)]
    simp only [Option.bind_some,List.nil_append]
    rw [idxI_of he]
    simp only [Option.bind_some]
    rw [harc]
    simp only [Option.bind_some]
    rw [harc2]
    simp only
    rw [app_of (by simp; omega)]
    simp only [Option.bind_some]
    rw [app_of (by simp; omega)]
    simp only [Option.bind_some,List.nil_append]
    rw [rsplit_inner _ _ _ _ _ _ _ _ _ _ A[y] hAy (by omega) (by omega) (by omega)]
    simp only [Option.bind_some,Sum.elim_inl]
    rw [idxI_of hyl]
    simp only [Option.bind_some]
    rw [hAy,Option.bind_some,e1,e2,app_of (by simp; omega)]
    refine .inr ⟨n,e,x,y,rfl,rfl,⟨h,hv,he,by rw [harc,harc2],by omega,by omega,by rw [hx,hy] at a5; omega,hm,hn⟩,?_,?_⟩
    ·unfold splE splA; rw [hsub]
    ·unfold splE splA; rw [hsub]; rfl
   ·left
    refine ⟨2,by decide,?_,?_⟩
    ·by_cases h1 : n < 16384
     ·rw [geI_f (by omega),cond_false,geI_t (by omega)]; rfl
     ·rw [geI_t (by omega)]; rfl
    ·by_cases h1 : E.length < 32768
     ·rw [geI_f (by omega),cond_false,geI_t (by omega)]; rfl
     ·rw [geI_t (by omega)]; rfl
  ·left
   refine ⟨3,by decide,?_,?_⟩
   ·by_cases h1 : d < 0
    ·rw [ltI_t h1]; rfl
    ·rw [ltI_f (by omega),cond_false,geI_t (by omega)]; rfl
   ·by_cases h1 : d < 0
    ·rw [ltI_t h1]; rfl
    ·rw [ltI_f (by omega),cond_false,geI_t (by omega)]; rfl
end Go.Vm

namespace Go.Vm
open Go.Proofs
set_option maxRecDepth 100000
attribute [local irreducible] loopFix
section
variable {N : Nat} {E : List Arc} {A : List (List Int)} {e x y : Nat}
theorem splE_len : (splE E N e x y).length=E.length+1:=by simp [splE]
theorem splA_len {m : Nat} : (splA A e m y).length=A.length+1:=by simp [splA]
theorem SplitOK.tl0 (h : SplitOK N E A e x y) : tl E (2 * e)=(x : Int):=by
 unfold tl
 rw [show 2 * e / 2=e by omega,h.arc]
 simp only
 rw [if_pos (by omega)]
theorem SplitOK.tl1 (h : SplitOK N E A e x y) : tl E (2 * e+1)=(y : Int):=by
 unfold tl
 rw [show (2 * e+1) / 2=e by omega,h.arc]
 simp only
 rw [if_neg (by omega)]
theorem SplitOK.tails (h : SplitOK N E A e x y) : tl (splE E N e x y) (2 * e)=(x : Int)∧tl (splE E N e x y) (2 * e+1)=(N : Int)∧tl (splE E N e x y) (2 * E.length)=(N : Int)∧tl (splE E N e x y) (2 * E.length+1)=(y : Int) ∧
  ∀ k,k < 2 * E.length→k≠2 * e+1→tl (splE E N e x y) k=tl E k:=by
 have he:=h.he
 have hs : ∀ k,k < E.length→(splE E N e x y)[k]?=if k=e then some ((x : Int),(N : Int),()) else E[k]?:=by
  intro k hk
  unfold splE
  rw [List.getElem?_append_left (by simpa using hk),List.getElem?_set]
  by_cases c : e=k
  ·subst c; simp [he]
  ·rw [if_neg c,if_neg (Ne.symm c)]
 have hlast : (splE E N e x y)[E.length]?=some ((N : Int),(y : Int),()):=by
  unfold splE
  rw [List.getElem?_append_right (by simp)]
  simp
 have h0 : tl (splE E N e x y) (2 * e)=(x : Int):=by
  unfold tl
  rw [show 2 * e / 2=e by omega,hs e he,if_pos rfl]
  simp only
  rw [if_pos (by omega)]
 refine ⟨h0,?_,?_,?_,fun k hk hne=>?_⟩
 ·unfold tl
  rw [show (2 * e+1) / 2=e by omega,hs e he,if_pos rfl]
  simp only
  rw [if_neg (by omega)]
 ·unfold tl
  rw [show 2 * E.length / 2=E.length by omega,hlast]
  simp only
  rw [if_pos (by omega)]
 ·unfold tl
  rw [show (2 * E.length+1) / 2=E.length by omega,hlast]
  simp only
  rw [if_neg (by omega)]
 ·by_cases c : k=2 * e
  ·subst c; rw [h0,h.tl0]
  ·unfold tl
   rw [hs _ (by omega),if_neg (by omega)]
theorem splA_get {m : Nat} (hy : y < A.length) (w : Nat) : (splA A e m y)[w]?=if w=y then some (repL (2 * e+1 : Nat) (2 * m+1 : Nat) (subL A y)) else if w=A.length then some [((2 * e+1 : Nat) : Int),((2 * m : Nat) : Int)] else A[w]?:=by
 unfold splA
 by_cases c1 : w < A.length
 ·rw [List.getElem?_append_left (by simpa using c1),List.getElem?_set]
  by_cases c2 : y=w
  ·subst c2; simp [hy]
  ·rw [if_neg c2,if_neg (Ne.symm c2),if_neg (by omega)]
 ·rw [List.getElem?_append_right (by simp; omega),if_neg (by omega)]
  by_cases c2 : w=A.length
  ·subst c2; simp
  ·rw [if_neg c2,List.getElem?_eq_none (by simp; omega),List.getElem?_eq_none (by omega)]
theorem repL_mem {b c z : Int} {l : List Int} : z∈repL b c l↔(z∈l∧z≠b)∨(z=c∧b∈l):=by
 unfold repL repD
 rw [List.mem_map]
 constructor
 ·rintro ⟨w,hw,he⟩
  split at he
  ·rename_i e1; subst e1; exact .inr ⟨he.symm,hw⟩
  ·rename_i e1; subst he; exact .inl ⟨hw,e1⟩
 ·rintro (⟨h1,h2⟩ | ⟨rfl,h2⟩)
  ·exact ⟨z,h1,by rw [if_neg h2]⟩
  ·exact ⟨b,h2,by rw [if_pos rfl]⟩
theorem repL_split {b c : Int} {p q : List Int} (hp : b∉p) (hq : b∉q) : repL b c (p++b :: q)=p++c :: q:=by
 have keep : ∀ {s : List Int},b∉s→s.map (repD b c)=s:=by
  intro s hs
  refine (List.map_congr_left fun x hx=>?_).trans (List.map_id s)
  unfold repD
  rw [if_neg (fun e2=>hs (by rw [← e2]; exact hx))]; rfl
 have : repD b c b=c:=by unfold repD; rw [if_pos rfl]
 unfold repL
 rw [List.map_append,List.map_cons,keep hp,keep hq,this]
theorem SplitOK.al (h : SplitOK N E A e x y) : A.length=N:=h.rot.al
theorem SplitOK.split (h : SplitOK N E A e x y) : ∃ p q,A[y]?=some (p++((2 * e+1 : Nat) : Int) :: q)∧((2 * e+1 : Nat) : Int)∉p∧((2 * e+1 : Nat) : Int)∉q ∧
  repL (2 * e+1 : Nat) (2 * E.length+1 : Nat) (subL A y)=p++((2 * E.length+1 : Nat) : Int) :: q:=by
 have he:=h.he
 obtain ⟨p,q,h1,h2,h3,h4⟩:=h.rot.split (k:=2 * e+1) (by omega) h.tl1 h.yn
 exact ⟨p,q,h1,h3,h4,by rw [h2]; exact repL_split h3 h4⟩
theorem SplitOK.rot' (h : SplitOK N E A e x y) : RotOK ((N+1 : Nat) : Nat) (splE E N e x y) (splA A e E.length y):=by
 have hal:=h.al
 have he:=h.he
 have hm:=h.m
 have hn:=h.n
 have hx:=h.xn
 have hy:=h.yn
 have hne:=h.ne
 have hyl : y < A.length:=by omega
 obtain ⟨t0,t1,t2,t3,t4⟩:=h.tails
 obtain ⟨p,q,s1,s2,s3,s4⟩:=h.split
 have hlen : (splE E N e x y).length=E.length+1:=splE_len
 have hdart:=h.rot.dart
 refine rotOK_of (by omega) (by omega) (by rw [splA_len]; omega) ?_ ?_ ?_ ?_
 ·intro a ha
  unfold splE at ha
  rcases List.mem_append.1 ha with ha | ha
  ·rcases List.mem_or_eq_of_mem_set ha with ha | rfl
   ·obtain ⟨q1,q2,q3,q4,q5⟩:=h.rot.edge a ha
    exact ⟨q1,by omega,q3,by omega,q5⟩
   ·refine ⟨by show (0 : Int)≤x; omega,by show (x : Int) < (N+1 : Nat); omega,by show (0 : Int)≤N; omega,by show (N : Int) < (N+1 : Nat); omega,?_⟩
    show (x : Int)≠N
    omega
  ·rw [List.mem_singleton] at ha
   subst ha
   refine ⟨by show (0 : Int)≤N; omega,by show (N : Int) < (N+1 : Nat); omega,by show (0 : Int)≤y; omega,by show (y : Int) < (N+1 : Nat); omega,?_⟩
   show (N : Int)≠y
   omega
 ·intro l hl
  obtain ⟨w,hw⟩:=List.mem_iff_getElem?.1 hl
  rw [splA_get hyl] at hw
  split at hw
  ·cases hw
   rw [s4]
   have hnd:=h.rot.list_nodup (List.mem_of_getElem? s1)
   have hno : ((2 * E.length+1 : Nat) : Int)∉p++((2 * e+1 : Nat) : Int) :: q:=fun hm2=>by
    obtain ⟨z,e1,e2,_⟩:=hdart y _ s1 _ hm2
    omega
   rw [List.nodup_append,List.nodup_cons] at hnd ⊢
   refine ⟨hnd.1,⟨fun hm2=>hno (List.mem_append.2 (.inr (List.mem_cons_of_mem _ hm2))),hnd.2.1.2⟩,?_⟩
   intro a ha b hb e1
   rcases List.mem_cons.1 hb with rfl | hb
   ·subst e1; exact hno (List.mem_append.2 (.inl ha))
   ·exact hnd.2.2 a ha b (List.mem_cons_of_mem _ hb) e1
  ·split at hw
   ·cases hw
    rw [List.nodup_cons]
    exact ⟨by simp; omega,by simp⟩
   ·exact h.rot.list_nodup (List.mem_of_getElem? hw)
 ·intro w l hw z hz
  rw [splA_get hyl] at hw
  have old : ∀ {w : Nat} {l : List Int},A[w]?=some l→∀ z∈l,z≠((2 * e+1 : Nat) : Int)→∃ k : Nat,z=(k : Int)∧k < 2 * (splE E N e x y).length∧tl (splE E N e x y) k=w:=by
   intro w l hl z hz hnz
   obtain ⟨k,e1,e2,e3⟩:=hdart w l hl z hz
   exact ⟨k,e1,by rw [hlen]; omega,by rw [t4 k e2 (by omega)]; exact e3⟩
  split at hw
  ·rename_i e1
   cases hw
   subst e1
   rcases repL_mem.1 hz with ⟨h1,h2⟩ | ⟨rfl,_⟩
   ·exact old (by rw [List.getElem?_eq_getElem hyl,← subL_eq hyl]) z h1 h2
   ·exact ⟨2 * E.length+1,rfl,by rw [hlen]; omega,t3⟩
  ·split at hw
   ·rename_i e1
    cases hw
    subst e1
    rw [hal]
    rcases List.mem_cons.1 hz with rfl | hz
    ·exact ⟨2 * e+1,rfl,by rw [hlen]; omega,t1⟩
    ·rw [List.mem_singleton] at hz
     exact ⟨2 * E.length,hz,by rw [hlen]; omega,t2⟩
   ·rename_i e1 _
    refine old hw z hz fun e2=>e1 ?_
    subst e2
    obtain ⟨k,f1,f2,f3⟩:=hdart w l hw _ hz
    have : k=2 * e+1:=by omega
    subst this
    rw [h.tl1] at f3
    omega
 ·intro k hk
  rw [hlen] at hk
  have into : ∀ w l,(splA A e E.length y)[w]?=some l→(k : Int)∈l→∃ l∈splA A e E.length y,(k : Int)∈l:=fun w l h1 h2=>⟨l,List.mem_of_getElem? h1,h2⟩
  have gy:=splA_get (e:=e) (m:=E.length) hyl y
  have gN:=splA_get (e:=e) (m:=E.length) hyl A.length
  rw [if_pos rfl] at gy
  rw [if_neg (by omega),if_pos rfl] at gN
  by_cases c1 : k=2 * e+1
  ·subst c1; exact into _ _ gN (by simp)
  ·rcases Nat.lt_or_ge k (2 * E.length) with hk2 | hk2
   ·obtain ⟨w,hw,hwN⟩:=h.rot.tl_lt hk2
    have hwA : w < A.length:=by omega
    have hm2:=h.rot.around hk2 hw (List.getElem?_eq_getElem hwA)
    by_cases e1 : w=y
    ·subst e1
     exact into _ _ gy (repL_mem.2 (.inl ⟨by rw [subL_eq hwA]; exact hm2,by omega⟩))
    ·have gw:=splA_get (e:=e) (m:=E.length) hyl w
     rw [if_neg e1,if_neg (by omega),List.getElem?_eq_getElem hwA] at gw
     exact into _ _ gw hm2
   ·by_cases c2 : k=2 * E.length
    ·subst c2; exact into _ _ gN (by simp)
    ·have : k=2 * E.length+1:=by omega
     subst this
     refine into _ _ gy ?_
     rw [s4]; simp
theorem list_rep {fw fw' : List Int} {p q : List Int} {b c : Int} (h : Cyc fw (p++b :: q)) (h' : Cyc fw' (p++c :: q)) (hp : b∉p) (hq : b∉q) :
  (∀ z,fw[b.toNat]?=some z→fw'[c.toNat]?=some (repD b c z))∧∀ z∈p++b :: q,z≠b→∀ t,fw[z.toNat]?=some t→fw'[z.toNat]?=some (repD b c t):=by
 have h1:=cyc_path (cyc_rot h)
 have h2:=cyc_path (cyc_rot h')
 obtain ⟨_,y1,w1,r1⟩:=h1
 obtain ⟨_,y2,w2,r2⟩:=h2
 have r1 : Path fw y1 (q++p) b:=r1
 have r2 : Path fw' y2 (q++p) c:=r2
 have hs : b∉q++p:=by simp [hp,hq]
 cases hqp : q++p with
 | nil =>
  rw [hqp] at r1 r2
  have e1 : y1=b:=r1
  have e2 : y2=c:=r2
  subst e1; subst e2
  refine ⟨fun z hz=>?_,fun z hz hne=>?_⟩
  ·rw [w1] at hz
   have : y1=z:=Option.some.inj hz
   subst this
   unfold repD
   rw [if_pos rfl]; exact w2
  ·have : z∈q++p:=by
    simp at hz ⊢
    rcases hz with h | h | h
    ·exact .inr h
    ·exact absurd h hne
    ·exact .inl h
   rw [hqp] at this
   simp at this
 | cons a s =>
  rw [hqp] at r1 r2 hs
  have e1 : a=y1:=r1.1
  have e2 : a=y2:=r2.1
  subst e1; subst e2
  have hab : a≠b:=fun e=>hs (by simp [e])
  have two:=path_two r1 r2 (fun hm=>hs (List.mem_of_mem_tail hm))
  refine ⟨fun z hz=>?_,fun z hz hne t ht=>?_⟩
  ·rw [w1] at hz
   have : a=z:=Option.some.inj hz
   subst this
   unfold repD
   rw [if_neg hab]; exact w2
  ·have hzm : z∈a :: s:=by
    rw [← hqp]
    simp at hz ⊢
    rcases hz with h | h | h
    ·exact .inr h
    ·exact absurd h hne
    ·exact .inl h
   obtain ⟨q1,q2⟩:=two z hzm
   unfold repD
   by_cases c1 : t=b
   ·subst c1
    rw [if_pos rfl]; exact q1 ht
   ·rw [if_neg c1,q2 (by rw [ht]; exact fun e=>c1 (Option.some.inj e)),ht]
theorem SplitOK.next (h : SplitOK N E A e x y) {nx nx' : List Int} (hn : Fol oth E A nx) (hn' : Fol oth (splE E N e x y) (splA A e E.length y) nx') :
  nx'[2 * e]?=some ((2 * E.length : Nat) : Int)∧nx'[2 * E.length+1]?=some ((2 * e+1 : Nat) : Int) ∧
  (∀ z,nx[2 * e]?=some z→nx'[2 * E.length]?=some (repD (2 * e+1 : Nat) (2 * E.length+1 : Nat) z)) ∧
  ∀ k,k < 2 * E.length→k≠2 * e→∀ z,nx[k]?=some z→nx'[k]?=some (repD (2 * e+1 : Nat) (2 * E.length+1 : Nat) z):=by
 have hr':=h.rot'
 have hal:=h.al
 have he:=h.he
 have hy:=h.yn
 have hyl : y < A.length:=by omega
 have hlen : (splE E N e x y).length=E.length+1:=splE_len
 obtain ⟨fw,_,ff⟩:=rfollow_eq h.rot ()
 obtain ⟨fw',_,ff'⟩:=rfollow_eq hr' ()
 have gy:=splA_get (e:=e) (m:=E.length) hyl y
 have gN:=splA_get (e:=e) (m:=E.length) hyl A.length
 rw [if_pos rfl] at gy
 rw [if_neg (by omega),if_pos rfl] at gN
 obtain ⟨p,q,s1,s2,s3,s4⟩:=h.split
 rw [s4] at gy
 obtain ⟨l1,l2⟩:=list_rep (ff.cyc (List.mem_of_getElem? s1) (by simp)) (ff'.cyc (List.mem_of_getElem? gy) (by simp)) s2 s3
 obtain ⟨_,z1,w1,w2,z2,w3,w4⟩:=cyc_path (ff'.cyc (List.mem_of_getElem? gN) (by simp))
 have w2 : ((2 * E.length : Nat) : Int)=z1:=w2
 have w4 : z2=((2 * e+1 : Nat) : Int):=w4
 subst w2; subst w4
 rw [Int.toNat_natCast] at w1 w3
 have conv : ∀ k,k < 2 * E.length→nx[k]?=fw[oth k]?:=fun k hk=>by
  obtain ⟨y,_,h1,h2⟩:=fol_both h.rot hn ff hk; rw [h1,h2]
 have conv' : ∀ k,k < 2 * E.length+2→nx'[k]?=fw'[oth k]?:=fun k hk=>by
  obtain ⟨y,_,h1,h2⟩:=fol_both hr' hn' ff' (k:=k) (by rw [hlen]; omega); rw [h1,h2]
 refine ⟨?_,?_,fun z hz=>?_,fun k hk hne z hz=>?_⟩
 ·rw [conv' _ (by omega),oth2]; exact w1
 ·rw [conv' _ (by omega),oth21]; exact w3
 ·rw [conv _ (by omega),oth2] at hz
  rw [conv' _ (by omega),oth2]
  have:=l1 z (by rw [Int.toNat_natCast]; exact hz)
  rwa [Int.toNat_natCast] at this
 ·rw [conv k hk] at hz
  rw [conv' k (by omega)]
  have hok:=oth_lt hk
  have hko : oth k≠2 * e+1:=fun e1=>hne (by rw [← oth_oth k,e1,oth21])
  obtain ⟨w,hw,hwN⟩:=h.rot.tl_lt hok
  have hwA : w < A.length:=by omega
  have hm:=h.rot.around hok hw (List.getElem?_eq_getElem hwA)
  by_cases e1 : w=y
  ·subst e1
   have hm2 : ((oth k : Nat) : Int)∈p++((2 * e+1 : Nat) : Int) :: q:=by
    rw [List.getElem?_eq_getElem hwA] at s1; rw [← Option.some.inj s1]; exact hm
   have:=l2 _ hm2 (by omega) z (by rw [Int.toNat_natCast]; exact hz)
   rwa [Int.toNat_natCast] at this
  ·have gw:=splA_get (e:=e) (m:=E.length) hyl w
   rw [if_neg e1,if_neg (by omega),List.getElem?_eq_getElem hwA] at gw
   obtain ⟨i,hi,e2⟩:=List.getElem_of_mem hm
   have q1:=ff.get _ (List.getElem_mem hwA) i hi
   have q2:=ff'.get _ (List.mem_of_getElem? gw) i hi
   rw [e2] at q1 q2
   simp only [id,Int.toNat_natCast] at q1 q2
   rw [q1] at hz
   have hz2:=Option.some.inj hz
   have hzin : z∈A[w]:=by
    have hm3 : (i+1) % A[w].length < A[w].length:=Nat.mod_lt _ (by omega)
    rw [← hz2,List.getD_eq_getElem?_getD,List.getElem?_eq_getElem hm3]; exact List.getElem_mem hm3
   have hzb : z≠((2 * e+1 : Nat) : Int):=fun e3=>by
    obtain ⟨k',f1,f2,f3⟩:=h.rot.dart w _ (List.getElem?_eq_getElem hwA) z hzin
    have : k'=2 * e+1:=by omega
    subst this
    rw [h.tl1] at f3
    omega
   unfold repD
   rw [q2,hz2,if_neg hzb]
def sig (e m : Nat) (z : Int) : List Int:=if z=((2 * e : Nat) : Int) then [z,((2 * m : Nat) : Int)] else if z=((2 * e+1 : Nat) : Int) then [((2 * m+1 : Nat) : Int),z] else [z]
theorem path_sig {nx nx' : List Int} {e m : Nat} (n0 : nx'[2 * e]?=some ((2 * m : Nat) : Int)) (n1 : nx'[2 * m+1]?=some ((2 * e+1 : Nat) : Int))
  (n2 : ∀ z,nx[2 * e]?=some z→nx'[2 * m]?=some (repD (2 * e+1 : Nat) (2 * m+1 : Nat) z)) (n3 : ∀ k,k < 2 * m→k≠2 * e→∀ z,nx[k]?=some z→nx'[k]?=some (repD (2 * e+1 : Nat) (2 * m+1 : Nat) z)) (he : e < m) :
  ∀ {s : List Int} {x z : Int},(∀ d∈s,∃ k : Nat,d=(k : Int)∧k < 2 * m)→Path nx x s z→Path nx' (repD (2 * e+1 : Nat) (2 * m+1 : Nat) x) (s.flatMap (sig e m)) (repD (2 * e+1 : Nat) (2 * m+1 : Nat) z)
 | [],x,z,_,h=>by have : x=z:=h; subst this; exact rfl
 | a :: s,x,z,hs,⟨e1,y,e2,e3⟩=>by
  subst e1
  have ih:=path_sig n0 n1 n2 n3 he (fun d hd=>hs d (by simp [hd])) e3
  obtain ⟨k,rfl,hk⟩:=hs a (by simp)
  rw [Int.toNat_natCast] at e2
  rw [List.flatMap_cons]
  refine path_app.2 ⟨_,?_,ih⟩
  by_cases c1 : k=2 * e
  ·subst c1
   have : repD ((2 * e+1 : Nat) : Int) ((2 * m+1 : Nat) : Int) ((2 * e : Nat) : Int)=((2 * e : Nat) : Int):=by unfold repD; rw [if_neg (by omega)]
   rw [this]
   unfold sig
   rw [if_pos rfl]
   exact ⟨rfl,_,n0,rfl,_,by rw [Int.toNat_natCast]; exact n2 y e2,rfl⟩
  ·by_cases c2 : k=2 * e+1
   ·subst c2
    have : repD ((2 * e+1 : Nat) : Int) ((2 * m+1 : Nat) : Int) ((2 * e+1 : Nat) : Int)=((2 * m+1 : Nat) : Int):=by unfold repD; rw [if_pos rfl]
    rw [this]
    unfold sig
    rw [if_neg (by omega),if_pos rfl]
    exact ⟨rfl,_,n1,rfl,_,by rw [Int.toNat_natCast]; exact n3 _ (by omega) (by omega) y e2,rfl⟩
   ·have : repD ((2 * e+1 : Nat) : Int) ((2 * m+1 : Nat) : Int) (k : Int)=(k : Int):=by unfold repD; rw [if_neg (by omega)]
    rw [this]
    unfold sig
    rw [if_neg (by omega),if_neg (by omega)]
    exact ⟨rfl,_,by rw [Int.toNat_natCast]; exact n3 k hk c1 y e2,rfl⟩
theorem sig_count {e m : Nat} (he : e < m) : ∀ {s : List Int},(∀ d∈s,∃ k : Nat,d=(k : Int)∧k < 2 * m)→(∀ k : Nat,k < 2 * m→(s.flatMap (sig e m)).count (k : Int)=s.count (k : Int)) ∧
  (s.flatMap (sig e m)).count ((2 * m : Nat) : Int)=s.count ((2 * e : Nat) : Int)∧(s.flatMap (sig e m)).count ((2 * m+1 : Nat) : Int)=s.count ((2 * e+1 : Nat) : Int)
 | [],_=>by simp
 | a :: s,hs=>by
  obtain ⟨i1,i2,i3⟩:=sig_count he (s:=s) (fun d hd=>hs d (by simp [hd]))
  obtain ⟨k,rfl,hk⟩:=hs a (by simp)
  rw [List.flatMap_cons]
  have hc : ∀ z : Int,(sig e m (k : Int)).count z=(if k=2 * e then (if ((2 * e : Nat) : Int)=z then 1 else 0)+(if ((2 * m : Nat) : Int)=z then 1 else 0) else if k=2 * e+1 then (if ((2 * m+1 : Nat) : Int)=z then 1 else 0)+(if ((2 * e+1 : Nat) : Int)=z then 1 else 0) else if (k : Int)=z then 1 else 0):=by
   intro z
   unfold sig
   by_cases c1 : k=2 * e
   ·subst c1
    rw [if_pos rfl,if_pos rfl]
    simp only [List.count_cons,List.count_nil,beq_iff_eq]; omega
   ·by_cases c2 : k=2 * e+1
    ·subst c2
     rw [if_neg (by omega),if_pos rfl,if_neg (by omega),if_pos rfl]
     simp only [List.count_cons,List.count_nil,beq_iff_eq]; omega
    ·rw [if_neg (by omega),if_neg (by omega),if_neg c1,if_neg c2]
     simp only [List.count_cons,List.count_nil,beq_iff_eq]; omega
  have hd : ∀ z : Int,((k : Int) :: s).count z=s.count z+if (k : Int)=z then 1 else 0:=fun z=>by
   rw [List.count_cons]; simp only [beq_iff_eq]
  refine ⟨fun j hj=>?_,?_,?_⟩
  ·rw [List.count_append,i1 j hj,hc,hd]
   by_cases c1 : k=2 * e
   ·subst c1
    rw [if_pos rfl,if_neg (by omega : ¬ ((2 * m : Nat) : Int)=(j : Int))]; omega
   ·by_cases c2 : k=2 * e+1
    ·subst c2
     rw [if_neg (by omega),if_pos rfl,if_neg (by omega : ¬ ((2 * m+1 : Nat) : Int)=(j : Int))]; omega
    ·rw [if_neg c1,if_neg c2]; omega
  ·rw [List.count_append,i2,hc,hd]
   by_cases c1 : k=2 * e
   ·subst c1
    rw [if_pos rfl,if_neg (by omega : ¬ ((2 * e : Nat) : Int)=((2 * m : Nat) : Int)),if_pos rfl,if_pos rfl]; omega
   ·by_cases c2 : k=2 * e+1
    ·subst c2
     rw [if_neg (by omega),if_pos rfl,if_neg (by omega : ¬ ((2 * m+1 : Nat) : Int)=((2 * m : Nat) : Int)),if_neg (by omega : ¬ ((2 * e+1 : Nat) : Int)=((2 * m : Nat) : Int)),if_neg (by omega)]; omega
    ·rw [if_neg c1,if_neg c2,if_neg (by omega),if_neg (by omega)]; omega
  ·rw [List.count_append,i3,hc,hd]
   by_cases c1 : k=2 * e
   ·subst c1
    rw [if_pos rfl,if_neg (by omega : ¬ ((2 * e : Nat) : Int)=((2 * m+1 : Nat) : Int)),if_neg (by omega : ¬ ((2 * m : Nat) : Int)=((2 * m+1 : Nat) : Int)),if_neg (by omega)]; omega
   ·by_cases c2 : k=2 * e+1
    ·subst c2
     rw [if_neg (by omega),if_pos rfl,if_pos rfl,if_neg (by omega : ¬ ((2 * e+1 : Nat) : Int)=((2 * m+1 : Nat) : Int)),if_pos rfl]; omega
    ·rw [if_neg c1,if_neg c2,if_neg (by omega),if_neg (by omega)]; omega
theorem flat_sig (e m : Nat) : ∀ fs : List (List Int),(fs.map fun f=>f.flatMap (sig e m)).flatten=fs.flatten.flatMap (sig e m)
 | []=>rfl
 | f :: fs=>by rw [List.map_cons,List.flatten_cons,flat_sig e m fs,List.flatten_cons,List.flatMap_append]
theorem sig_mem {e m : Nat} {s : List Int} (he : e < m) (hs : ∀ d∈s,∃ k : Nat,d=(k : Int)∧k < 2 * m) : ∀ d∈s.flatMap (sig e m),∃ k : Nat,d=(k : Int)∧k < 2 * m+2:=by
 intro d hd
 obtain ⟨z,hz,hdz⟩:=List.mem_flatMap.1 hd
 obtain ⟨k,rfl,hk⟩:=hs z hz
 unfold sig at hdz
 split at hdz
 ·simp at hdz
  rcases hdz with h | h
  ·exact ⟨k,h,by omega⟩
  ·exact ⟨2 * m,by omega,by omega⟩
 ·split at hdz
  ·simp at hdz
   rcases hdz with h | h
   ·exact ⟨2 * m+1,by omega,by omega⟩
   ·exact ⟨k,h,by omega⟩
  ·simp at hdz
   exact ⟨k,hdz,by omega⟩
theorem SplitOK.faces (h : SplitOK N E A e x y) {nx nx' : List Int} (hn : Fol oth E A nx) (hn' : Fol oth (splE E N e x y) (splA A e E.length y) nx') : (facesOf nx').length=(facesOf nx).length:=by
 have he:=h.he
 obtain ⟨hf,cf⟩:=facesOf_fs h.rot hn
 obtain ⟨hf',cf'⟩:=facesOf_fs h.rot' hn'
 have hlen : (splE E N e x y).length=E.length+1:=splE_len
 obtain ⟨n0,n1,n2,n3⟩:=h.next hn hn'
 rw [hlen] at hf'
 have hel : ∀ d∈(facesOf nx).flatten,∃ k : Nat,d=(k : Int)∧k < 2 * E.length:=fun d hd=>by
  obtain ⟨l,hl,hdl⟩:=List.mem_flatten.1 hd
  exact (hf.elem l hl).2 d hdl
 obtain ⟨c1,c2,c3⟩:=sig_count he hel
 have hone:=List.nodup_iff_count.1 hf.nodup
 have hg : FsOK (2 * (E.length+1)) ((facesOf nx).map fun f=>f.flatMap (sig e E.length)):=by
  refine ⟨?_,?_,?_,?_⟩
  ·intro g hg
   obtain ⟨f,hfm,rfl⟩:=List.mem_map.1 hg
   obtain ⟨q1,q2⟩:=hf.elem f hfm
   refine ⟨?_,fun d hd=>?_⟩
   ·cases f with
    | nil=>exact absurd rfl q1
    | cons a s =>
     rw [List.flatMap_cons]
     unfold sig
     split
     ·simp
     ·split <;> simp
   ·obtain ⟨k,e1,e2⟩:=sig_mem he q2 d hd
    exact ⟨k,e1,by omega⟩
  ·rw [flat_sig,List.nodup_iff_count]
   intro z
   by_cases hz : z∈(facesOf nx).flatten.flatMap (sig e E.length)
   ·obtain ⟨k,rfl,hk⟩:=sig_mem he hel z hz
    rcases Nat.lt_or_ge k (2 * E.length) with c | c
    ·rw [c1 k c]; exact hone _
    ·by_cases c4 : k=2 * E.length
     ·subst c4; rw [c2]; exact hone _
     ·have : k=2 * E.length+1:=by omega
      subst this; rw [c3]; exact hone _
   ·rw [List.count_eq_zero.2 hz]; omega
  ·intro k hk
   rw [flat_sig]
   refine List.count_pos_iff.1 ?_
   rcases Nat.lt_or_ge k (2 * E.length) with c | c
   ·rw [c1 k c]; exact List.count_pos_iff.2 (hf.cover k c)
   ·by_cases c4 : k=2 * E.length
    ·subst c4; rw [c2]; exact List.count_pos_iff.2 (hf.cover _ (by omega))
    ·have : k=2 * E.length+1:=by omega
     subst this; rw [c3]; exact List.count_pos_iff.2 (hf.cover _ (by omega))
  ·have:=hf.num
   rw [List.length_map]; omega
 have cg : ∀ g∈((facesOf nx).map fun f=>f.flatMap (sig e E.length)),Cyc nx' g:=by
  intro g hgm
  obtain ⟨f,hfm,rfl⟩:=List.mem_map.1 hgm
  have hc:=cf f hfm
  cases f with
  | nil=>exact absurd rfl hc.1
  | cons a s =>
   exact path_cyc (path_sig n0 n1 n2 n3 he (hf.elem _ hfm).2 (cyc_path hc)) ((hg.elem _ hgm).1)
 rw [parts_eq hf' hg cf' cg,List.length_map]
theorem SplitOK.reach (h : SplitOK N E A e x y) {a b : Nat} (ha : a < N) (hb : b < N) : Reach (splE E N e x y) a b↔Reach E a b:=by
 have he:=h.he
 have hlen : (splE E N e x y).length=E.length+1:=splE_len
 obtain ⟨t0,t1,t2,t3,t4⟩:=h.tails
 have hxN:=h.xn
 have hyN:=h.yn
 have exy : Reach E x y:=.step (.refl _) (k:=2 * e) (by omega) h.tl0 (by unfold hd; rw [oth2]; exact h.tl1)
 constructor
 ·intro hr
  have key : ∀ {a b : Nat},Reach (splE E N e x y) a b→Reach E (if a=N then x else a) (if b=N then x else b):=by
   intro a b hr
   induction hr with
   | refl=>exact .refl _
   | @step v w k _ hk e1 e2 ih =>
    refine ih.trans ?_
    rw [hlen] at hk
    unfold hd at e2
    by_cases c1 : k=2 * e
    ·subst c1
     rw [t0] at e1
     rw [oth2,t1] at e2
     rw [if_neg (by omega),if_pos (by omega),show v=x by omega]
     exact .refl _
    ·by_cases c2 : k=2 * e+1
     ·subst c2
      rw [t1] at e1
      rw [oth21,t0] at e2
      rw [if_pos (by omega),if_neg (by omega),show w=x by omega]
      exact .refl _
     ·by_cases c3 : k=2 * E.length
      ·subst c3
       rw [t2] at e1
       rw [oth2,t3] at e2
       rw [if_pos (by omega),if_neg (by omega),show w=y by omega]
       exact exy
      ·by_cases c4 : k=2 * E.length+1
       ·subst c4
        rw [t3] at e1
        rw [oth21,t2] at e2
        rw [if_neg (by omega),if_pos (by omega),show v=y by omega]
        exact exy.symm
       ·have hk2 : k < 2 * E.length:=by omega
        have hok : oth k≠2 * e+1:=fun e3=>c1 (by rw [← oth_oth k,e3,oth21])
        rw [t4 k hk2 c2] at e1
        rw [t4 _ (oth_lt hk2) hok] at e2
        obtain ⟨v',q1,q2⟩:=h.rot.tl_lt hk2
        obtain ⟨w',q3,q4⟩:=h.rot.tl_lt (oth_lt hk2)
        rw [if_neg (by omega),if_neg (by omega)]
        exact .step (.refl _) hk2 e1 e2
  have:=key hr
  rwa [if_neg (by omega),if_neg (by omega)] at this
 ·intro hr
  clear ha hb
  induction hr with
  | refl=>exact .refl _
  | @step v w k _ hk e1 e2 ih =>
   refine ih.trans ?_
   unfold hd at e2
   have s0 : Reach (splE E N e x y) x N:=.step (.refl _) (k:=2 * e) (by rw [hlen]; omega) t0 (by unfold hd; rw [oth2]; exact t1)
   have s1 : Reach (splE E N e x y) N y:=.step (.refl _) (k:=2 * E.length) (by rw [hlen]; omega) t2 (by unfold hd; rw [oth2]; exact t3)
   by_cases c1 : k=2 * e
   ·subst c1
    rw [h.tl0] at e1
    rw [oth2,h.tl1] at e2
    rw [show v=x by omega,show w=y by omega]
    exact s0.trans s1
   ·by_cases c2 : k=2 * e+1
    ·subst c2
     rw [h.tl1] at e1
     rw [oth21,h.tl0] at e2
     rw [show v=y by omega,show w=x by omega]
     exact (s0.trans s1).symm
    ·have hok : oth k≠2 * e+1:=fun e3=>c1 (by rw [← oth_oth k,e3,oth21])
     exact .step (.refl _) (k:=k) (by rw [hlen]; omega) (by rw [t4 k hk c2]; exact e1) (by unfold hd; rw [t4 _ (oth_lt hk) hok]; exact e2)
theorem SplitOK.toN (h : SplitOK N E A e x y) : Reach (splE E N e x y) x N:=by
 have he:=h.he
 obtain ⟨t0,t1,_⟩:=h.tails
 exact .step (.refl _) (k:=2 * e) (by rw [splE_len]; omega) t0 (by unfold hd; rw [oth2]; exact t1)
theorem SplitOK.comps (h : SplitOK N E A e x y) : comps (N+1) (splE E N e x y)=comps N E:=by
 unfold Go.Vm.comps
 rw [List.range_succ,List.countP_append]
 have h1 : minB (splE E N e x y) N=false:=by
  cases hb : minB (splE E N e x y) N with
  | false=>rfl
  | true=>exact absurd h.toN (minB_iff.1 hb x h.xn)
 have h2 : List.countP (minB (splE E N e x y)) (List.range N)=List.countP (minB E) (List.range N):=by
  refine List.countP_congr fun v hv=>?_
  have hv:=List.mem_range.1 hv
  rw [minB_iff,minB_iff]
  unfold MinV
  exact forall_congr' fun u=>forall_congr' fun hu=>not_congr (h.reach (by omega) hv)
 rw [h2]
 simp [h1]
theorem SplitOK.emp (h : SplitOK N E A e x y) : emp (splA A e E.length y)=emp A:=by
 have hyl : y < A.length:=by rw [h.al]; exact h.yn
 obtain ⟨p,q,s1,s2,s3,s4⟩:=h.split
 unfold splA
 have e0 : ∀ (a b : List (List Int)),Go.Vm.emp (a++b)=Go.Vm.emp a+Go.Vm.emp b:=fun a b=>List.countP_append ..
 rw [e0,emp_set hyl]
 ·rfl
 ·rw [s4,subL_eq hyl]
  rw [List.getElem?_eq_getElem hyl] at s1
  rw [Option.some.inj s1]
  cases p <;> rfl
theorem SplitOK.genus (h : SplitOK N E A e x y) {nx nx' : List Int} (hn : Fol oth E A nx) (hn' : Fol oth (splE E N e x y) (splA A e E.length y) nx') :
  genZ (N+1) (splE E N e x y) (splA A e E.length y) (facesOf nx').length=genZ N E A (facesOf nx).length:=by
 unfold genZ
 rw [h.faces hn hn',h.emp,h.comps,splE_len]
 congr 2
 omega
end
end Go.Vm

namespace Go.Vm
open Go.Proofs
set_option maxRecDepth 100000
attribute [local irreducible] loopFix
def SameF (nx : List Int) (L a b : Nat) : Prop:=∃ g,Cyc nx g∧(∀ d∈g,∃ k : Nat,d=(k : Int)∧k < L)∧(a : Int)∈g∧(b : Int)∈g
structure LabS (L : Nat) (nx : List Int) (lam : Nat→Nat) (Lv : Nat→Prop) : Prop where
 step : ∀ k y : Nat,nx[k]?=some (y : Int)→Lv (lam k)∨Lv (lam y)→lam y=lam k
 same : ∀ a b,a < L→b < L→lam a=lam b→Lv (lam a)→SameF nx L a b
theorem LabS.go {L : Nat} {nx : List Int} {lam : Nat→Nat} {Lv : Nat→Prop} (h : LabS L nx lam Lv) {g : List Int} (hc : Cyc nx g) (hg : ∀ d∈g,∃ k : Nat,d=(k : Int)∧k < L) {i : Nat} (hi : i < g.length) (hl : Lv (lam g[i].toNat)) :
  ∀ t,lam (g.getD ((i+t) % g.length) 0).toNat=lam g[i].toNat
 | 0=>by rw [Nat.add_zero,Nat.mod_eq_of_lt hi,List.getD_eq_getElem?_getD,List.getElem?_eq_getElem hi]; rfl
 | t+1=>by
  have ih:=h.go hc hg hi hl t
  have hm : (i+t) % g.length < g.length:=Nat.mod_lt _ (by omega)
  have hm2 : (i+(t+1)) % g.length < g.length:=Nat.mod_lt _ (by omega)
  have hs:=hc.2 _ hm
  rw [Nat.mod_add_mod,Nat.add_assoc] at hs
  rw [List.getD_eq_getElem?_getD,List.getElem?_eq_getElem hm,Option.getD_some] at ih
  obtain ⟨k,k1,k2⟩:=hg _ (List.getElem_mem hm)
  obtain ⟨y,y1,y2⟩:=hg _ (List.getElem_mem hm2)
  rw [List.getD_eq_getElem?_getD,List.getElem?_eq_getElem hm2,Option.getD_some] at hs ⊢
  rw [k1,y1,Int.toNat_natCast] at hs
  rw [k1,Int.toNat_natCast] at ih
  rw [y1,Int.toNat_natCast,← ih]
  exact h.step k y hs (.inl (by rw [ih]; exact hl))
theorem LabS.of {L : Nat} {nx : List Int} {lam : Nat→Nat} {Lv : Nat→Prop} (h : LabS L nx lam Lv) {a b : Nat} (hs : SameF nx L a b) (hl : Lv (lam a)∨Lv (lam b)) : lam a=lam b:=by
 obtain ⟨g,hc,hg,ha,hb⟩:=hs
 have key : ∀ {a b : Nat},(a : Int)∈g→(b : Int)∈g→Lv (lam a)→lam b=lam a:=by
  intro a b ha hb hl
  obtain ⟨i,hi,e⟩:=List.getElem_of_mem ha
  obtain ⟨j,hj,e2⟩:=List.getElem_of_mem hb
  have:=h.go hc hg hi (by rw [e,Int.toNat_natCast]; exact hl) (j+(g.length - i))
  rw [show i+(j+(g.length - i))=j+g.length by omega,Nat.add_mod_right,Nat.mod_eq_of_lt hj,List.getD_eq_getElem?_getD,List.getElem?_eq_getElem hj,Option.getD_some,e,e2,Int.toNat_natCast,Int.toNat_natCast] at this
  exact this
 rcases hl with hl | hl
 ·exact (key ha hb hl).symm
 ·exact key hb ha hl
def lamX (lam : Nat→Nat) (M a b : Nat) (k : Nat) : Nat:=if k=2 * M then a else if k=2 * M+1 then b else lam k
section
variable {N : Nat} {E : List Arc} {A : List (List Int)} {e x y : Nat} {lam : Nat→Nat} {Lv : Nat→Prop}
theorem lamX_old {M a b k : Nat} (hk : k < 2 * M) : lamX lam M a b k=lam k:=by unfold lamX; rw [if_neg (by omega),if_neg (by omega)]
theorem lamX_0 {M a b : Nat} : lamX lam M a b (2 * M)=a:=by unfold lamX; rw [if_pos rfl]
theorem lamX_1 {M a b : Nat} : lamX lam M a b (2 * M+1)=b:=by unfold lamX; rw [if_neg (by omega),if_pos rfl]
theorem SplitOK.label (h : SplitOK N E A e x y) {nx nx' : List Int} (hn : Fol oth E A nx) (hn' : Fol oth (splE E N e x y) (splA A e E.length y) nx') (hl : LabS (2 * E.length) nx lam Lv) :
  LabS (2 * (E.length+1)) nx' (lamX lam E.length (lam (2 * e)) (lam (2 * e+1))) Lv:=by
 have he:=h.he
 obtain ⟨n0,n1,n2,n3⟩:=h.next hn hn'
 have L' : (splE E N e x y).length=E.length+1:=splE_len
 have hrep : ∀ z : Nat,z < 2 * E.length→∃ w : Nat,repD ((2 * e+1 : Nat) : Int) ((2 * E.length+1 : Nat) : Int) (z : Int)=(w : Int)∧lamX lam E.length (lam (2 * e)) (lam (2 * e+1)) w=lam z:=by
  intro z hz
  unfold repD
  by_cases c : z=2 * e+1
  ·subst c
   rw [if_pos rfl]
   exact ⟨_,rfl,lamX_1⟩
  ·rw [if_neg (by omega)]
   exact ⟨z,rfl,lamX_old hz⟩
 refine ⟨fun k z hz hlv=>?_,fun a b ha hb hab hlv=>?_⟩
 ·have hz':=(next_tail h.rot' hn' hz).1
  rw [L'] at hz'
  have old : ∀ j,j < 2 * E.length→∃ w : Nat,nx[j]?=some (w : Int)∧w < 2 * E.length:=by
   intro j hj
   obtain ⟨_,_,ff⟩:=rfollow_eq h.rot ()
   obtain ⟨w,w1,w2,_⟩:=fol_both h.rot hn ff hj
   exact ⟨w,w2,w1⟩
  by_cases c0 : k=2 * e
  ·subst c0
   rw [n0] at hz
   have : z=2 * E.length:=by have:=Option.some.inj hz; omega
   subst this
   rw [lamX_0,lamX_old (by omega)]
  ·by_cases c1 : k=2 * E.length+1
   ·subst c1
    rw [n1] at hz
    have : z=2 * e+1:=by have:=Option.some.inj hz; omega
    subst this
    rw [lamX_1,lamX_old (by omega)]
   ·have both : ∀ j,j < 2 * E.length→lamX lam E.length (lam (2 * e)) (lam (2 * e+1)) k=lam j→(∀ w : Int,nx[j]?=some w→nx'[k]?=some (repD ((2 * e+1 : Nat) : Int) ((2 * E.length+1 : Nat) : Int) w)) →
      lamX lam E.length (lam (2 * e)) (lam (2 * e+1)) z=lamX lam E.length (lam (2 * e)) (lam (2 * e+1)) k:=by
     intro j hj hjk hw
     obtain ⟨w,w1,w2⟩:=old j hj
     obtain ⟨v,v1,v2⟩:=hrep w w2
     have e1:=hw _ w1
     rw [v1,hz] at e1
     have : z=v:=by have:=Option.some.inj e1; omega
     subst this
     rw [v2,hjk]
     refine hl.step j w w1 ?_
     rcases hlv with hlv | hlv
     ·rw [hjk] at hlv; exact .inl hlv
     ·rw [v2] at hlv; exact .inr hlv
    by_cases c2 : k=2 * E.length
    ·subst c2
     exact both (2 * e) (by omega) lamX_0 n2
    ·exact both k (by omega) (lamX_old (by omega)) (fun w hw=>n3 k (by omega) c0 w hw)
 ·-- a dart of the old system in the new dart's face
  have hold : ∀ c,c < 2 * (E.length+1)→∃ k,k < 2 * E.length∧lamX lam E.length (lam (2 * e)) (lam (2 * e+1)) c=lam k∧∀ s : List Int,(k : Int)∈s→(c : Int)∈s.flatMap (sig e E.length):=by
   intro c hc
   have inn : ∀ (z w : Int) (s : List Int),z∈s→w∈sig e E.length z→w∈s.flatMap (sig e E.length):=fun z w s h1 h2=>List.mem_flatMap.2 ⟨z,h1,h2⟩
   by_cases c0 : c=2 * E.length
   ·subst c0
    refine ⟨2 * e,by omega,lamX_0,fun s hs=>inn _ _ s hs ?_⟩
    unfold sig; rw [if_pos rfl]; simp
   ·by_cases c1 : c=2 * E.length+1
    ·subst c1
     refine ⟨2 * e+1,by omega,lamX_1,fun s hs=>inn _ _ s hs ?_⟩
     unfold sig; rw [if_neg (by omega),if_pos rfl]; simp
    ·refine ⟨c,by omega,lamX_old (by omega),fun s hs=>inn _ _ s hs ?_⟩
     unfold sig; split
     ·simp
     ·split <;> simp
  obtain ⟨k,k1,k2,k3⟩:=hold a ha
  obtain ⟨j,j1,j2,j3⟩:=hold b hb
  rw [k2,j2] at hab
  rw [k2] at hlv
  obtain ⟨g,g1,g2,g3,g4⟩:=hl.same k j k1 j1 hab hlv
  refine ⟨g.flatMap (sig e E.length),?_,fun d hd=>?_,k3 g g3,j3 g g4⟩
  ·cases g with
   | nil=>exact absurd rfl g1.1
   | cons z s =>
    refine path_cyc (path_sig n0 n1 n2 n3 he g2 (cyc_path g1)) ?_
    rw [List.flatMap_cons]
    unfold sig
    split
    ·simp
    ·split <;> simp
  ·obtain ⟨q,q1,q2⟩:=sig_mem he g2 d hd
   exact ⟨q,q1,by omega⟩
theorem EdgeOK.label {d f u v : Nat} (h : EdgeOK N E A d f u v) {nx nx' : List Int} (hn : Fol oth E A nx) (hn' : Fol oth (E++[((u : Int),(v : Int),())]) (insA A u v E.length d f) nx') (hl : LabS (2 * E.length) nx lam Lv)
  (hdf : lam f=lam d) {Lv' : Nat→Prop} (sub : ∀ c,Lv' c→Lv c) (dead : ¬ Lv' (lam d)) : LabS (2 * (E.length+1)) nx' (lamX lam E.length (lam d) (lam d)) Lv':=by
 obtain ⟨na,nb,no⟩:=h.next hn hn'
 have L' : (E++[((u : Int),(v : Int),())]).length=E.length+1:=by simp
 have hd2:=h.d2
 have hf2:=h.f2
 have old : ∀ j,j < 2 * E.length→∃ w : Nat,nx[j]?=some (w : Int)∧w < 2 * E.length:=by
  intro j hj
  obtain ⟨_,_,ff⟩:=rfollow_eq h.rot ()
  obtain ⟨w,w1,w2,_⟩:=fol_both h.rot hn ff hj
  exact ⟨w,w2,w1⟩
 have dead2 : ∀ c,c=lam d→¬ Lv' c:=fun c e=>by rw [e]; exact dead
 refine ⟨fun k z hz hlv=>?_,fun a b ha hb hab hlv=>?_⟩
 ·have hz':=(next_tail h.rot' hn' hz).1
  rw [L'] at hz'
  by_cases c0 : k < 2 * E.length
  ·obtain ⟨w,w1,w2⟩:=old k c0
   obtain ⟨o1,o2,o3⟩:=no k c0
   rw [lamX_old c0] at hlv ⊢
   by_cases cd : w=d
   ·subst cd
    rw [o1 w1] at hz
    have : z=2 * E.length:=by have:=Option.some.inj hz; omega
    subst this
    rw [lamX_0] at hlv ⊢
    rcases hlv with hlv | hlv
    ·exact hl.step k w w1 (.inl (sub _ hlv))
    ·exact absurd hlv dead
   ·by_cases cf : w=f
    ·subst cf
     rw [o2 w1] at hz
     have : z=2 * E.length+1:=by have:=Option.some.inj hz; omega
     subst this
     rw [lamX_1] at hlv ⊢
     rcases hlv with hlv | hlv
     ·rw [← hdf]; exact hl.step k w w1 (.inl (sub _ hlv))
     ·exact absurd hlv dead
    ·rw [o3 (by rw [w1]; intro e; have:=Option.some.inj e; omega) (by rw [w1]; intro e; have:=Option.some.inj e; omega),w1] at hz
     have : z=w:=by have:=Option.some.inj hz; omega
     subst this
     rw [lamX_old w2] at hlv ⊢
     exact hl.step k z w1 (hlv.imp (sub _) (sub _))
  ·by_cases c1 : k=2 * E.length
   ·subst c1
    rw [na] at hz
    have : z=f:=by have:=Option.some.inj hz; omega
    subst this
    rw [lamX_0,lamX_old hf2,hdf]
   ·have : k=2 * E.length+1:=by omega
    subst this
    rw [nb] at hz
    have : z=d:=by have:=Option.some.inj hz; omega
    subst this
    rw [lamX_1,lamX_old hd2]
 ·have ol : ∀ c,c < 2 * (E.length+1)→Lv' (lamX lam E.length (lam d) (lam d) c)→c < 2 * E.length:=by
   intro c hc hlv
   rcases Nat.lt_or_ge c (2 * E.length) with q | q
   ·exact q
   ·by_cases c1 : c=2 * E.length
    ·subst c1; rw [lamX_0] at hlv; exact absurd hlv dead
    ·have : c=2 * E.length+1:=by omega
     subst this
     rw [lamX_1] at hlv; exact absurd hlv dead
  have ha':=ol a ha hlv
  have hb':=ol b hb (by rw [← hab]; exact hlv)
  rw [lamX_old ha',lamX_old hb'] at hab
  rw [lamX_old ha'] at hlv
  obtain ⟨g,g1,g2,g3,g4⟩:=hl.same a b ha' hb' hab (sub _ hlv)
  have hall : ∀ w : Nat,(w : Int)∈g→lam w=lam a:=fun w hw=>(hl.of ⟨g,g1,g2,g3,hw⟩ (.inl (sub _ hlv))).symm
  refine ⟨g,⟨g1.1,fun i hi=>?_⟩,fun z hz=>?_,g3,g4⟩
  ·have hs:=g1.2 i hi
   have hm : (i+1) % g.length < g.length:=Nat.mod_lt _ (by omega)
   rw [List.getD_eq_getElem?_getD,List.getElem?_eq_getElem hm,Option.getD_some] at hs ⊢
   obtain ⟨k,k1,k2⟩:=g2 _ (List.getElem_mem hi)
   obtain ⟨w,w1,w2⟩:=g2 _ (List.getElem_mem hm)
   have hw:=hall w (by rw [← w1]; exact List.getElem_mem hm)
   rw [k1,w1,Int.toNat_natCast] at hs
   rw [k1,w1,Int.toNat_natCast]
   have ne : ∀ c : Nat,lam c=lam d→nx[k]?≠some (c : Int):=by
    intro c hc e
    rw [hs] at e
    have : w=c:=by have:=Option.some.inj e; omega
    subst this
    exact dead (by rw [← hc,hw]; exact hlv)
   rw [(no k k2).2.2 (ne d rfl) (ne f hdf),hs]
  ·obtain ⟨k,k1,k2⟩:=g2 z hz
   exact ⟨k,k1,by omega⟩
end
end Go.Vm

namespace Go.Vm
open Go.Proofs
set_option maxRecDepth 100000
attribute [local irreducible] loopFix
def bestP (p : Int→Bool) : Int→List Int→Int
 | b,[]=>b
 | b,y :: r=>bestP p (if p y=true∧(b < 0∨y < b) then y else b) r
theorem bestP_spec (p : Int→Bool) : ∀ (r : List Int) (b : Int),(∀ y∈r,0≤y) →
  (b < 0∧(∀ y∈r,p y=false)∧bestP p b r=b)∨(0≤bestP p b r∧(bestP p b r=b∨(bestP p b r∈r∧p (bestP p b r)=true))∧(0≤b→bestP p b r≤b)∧∀ y∈r,p y=true→bestP p b r≤y)
 | [],b,_=>by
  rcases Int.lt_or_le b 0 with c | c
  ·exact .inl ⟨c,by simp,rfl⟩
  ·exact .inr ⟨c,.inl rfl,fun _=>Int.le_refl _,by simp⟩
 | y :: r,b,h=>by
  have hy:=h y (by simp)
  have hr : ∀ z∈r,0≤z:=fun z hz=>h z (by simp [hz])
  show (_∧_∧bestP p (if p y=true∧(b < 0∨y < b) then y else b) r=b)∨(0≤bestP p (if p y=true∧(b < 0∨y < b) then y else b) r∧(bestP p (if p y=true∧(b < 0∨y < b) then y else b) r=b∨(bestP p (if p y=true∧(b < 0∨y < b) then y else b) r∈y :: r∧p (bestP p (if p y=true∧(b < 0∨y < b) then y else b) r)=true))∧(0≤b→bestP p (if p y=true∧(b < 0∨y < b) then y else b) r≤b)∧∀ z∈y :: r,p z=true→bestP p (if p y=true∧(b < 0∨y < b) then y else b) r≤z)
  by_cases c : p y=true∧(b < 0∨y < b)
  ·rw [if_pos c]
   rcases bestP_spec p r y hr with ⟨i1,_,_⟩ | ⟨i1,i2,i3,i4⟩
   ·omega
   ·refine .inr ⟨i1,?_,?_,?_⟩
    ·rcases i2 with e | ⟨e1,e2⟩
     ·exact .inr ⟨by rw [e]; simp,by rw [e]; exact c.1⟩
     ·exact .inr ⟨by simp [e1],e2⟩
    ·intro hb
     have:=i3 hy
     rcases c.2 with c | c <;> omega
    ·intro z hz hp
     rcases List.mem_cons.1 hz with rfl | hz
     ·exact i3 hy
     ·exact i4 z hz hp
  ·rw [if_neg c]
   rcases bestP_spec p r b hr with ⟨i1,i2,i3⟩ | ⟨i1,i2,i3,i4⟩
   ·refine .inl ⟨i1,?_,i3⟩
    intro z hz
    rcases List.mem_cons.1 hz with rfl | hz
    ·cases hp : p z with
     | false=>rfl
     | true=>exact absurd ⟨hp,.inl i1⟩ c
    ·exact i2 z hz
   ·refine .inr ⟨i1,?_,i3,?_⟩
    ·rcases i2 with e | ⟨e1,e2⟩
     ·exact .inl e
     ·exact .inr ⟨by simp [e1],e2⟩
    ·intro z hz hp
     rcases List.mem_cons.1 hz with rfl | hz
     ·rcases Int.lt_or_le b 0 with c1 | c1
      ·exact absurd ⟨hp,.inl c1⟩ c
      ·rcases Int.lt_or_le z b with c2 | c2
       ·exact absurd ⟨hp,.inr c2⟩ c
       ·have:=i3 c1; omega
     ·exact i4 z hz hp
theorem bestP_min {p : Int→Bool} {l : List Int} {d : Int} (hl : ∀ y∈l,0≤y) (hd : d∈l) (hp : p d=true) (hm : ∀ y∈l,p y=true→d≤y) : bestP p (-1) l=d:=by
 rcases bestP_spec p l (-1) hl with ⟨_,h,_⟩ | ⟨h1,h2,_,h4⟩
 ·rw [h d hd] at hp; cases hp
 ·have:=h4 d hd hp
  rcases h2 with e | ⟨e1,e2⟩
  ·omega
  ·have:=hm _ e1 e2; omega
theorem least1 (a : ((Int×List Arc×List (List Int)×Unit)×Int×List Int×Unit)) (p : Int→Bool) (l : List Int) (hl : l.length≤1000000) (hp : ∀ y∈l,Zbi (y,a.1,a.2.1,a.2.2.1,())=some (p y,())) : ∀ (c i : Nat) (b : Int),i+c=l.length →
  Zg_L3 (a,b,l,((l.length : Nat) : Int),(i : Int),())=some (.inl (bestP p b (l.drop i),()))
 | 0,i,b,hi=>by
  refine (loop_done (r:=.inl (b,())) ?_).trans ?_
  ·unfold Zg_B3
   simp only
   rw [ltI_f (by omega)]; rfl
  ·rw [List.drop_eq_nil_of_le (by omega)]; rfl
 | c+1,i,b,hi=>by
  have hil : i < l.length:=by omega
  have hg:=List.getElem?_eq_getElem hil
  rw [List.drop_eq_getElem_cons hil]
  refine (loop_step ?_).trans (least1 a p l hl hp c (i+1) (if p l[i]=true∧(b < 0∨l[i] < b) then l[i] else b) (by omega))
  unfold Zg_B3
  simp only
  rw [ltI_t (by omega),cond_true,getI_of,hg,Option.bind_some,hp _ (List.getElem_mem hil),Option.bind_some]
  simp only
  rw [add1 (by omega)]
  cases h : p l[i] with
  | false=>simp
  | true =>
   by_cases c1 : b < 0
   ·rw [ltI_t c1,if_pos ⟨rfl,.inl c1⟩]; rfl
   ·rw [ltI_f (by omega)]
    by_cases c2 : l[i] < b
    ·rw [ltI_t c2,if_pos ⟨rfl,.inr c2⟩]; rfl
    ·rw [ltI_f (by omega),if_neg (by omega)]; rfl
theorem least2 (a : List Int×Int×Unit) (p : Int→Bool) (l : List Int) (hl : l.length≤1000000) (hp : ∀ y∈l,Zbe (y,a.1,a.2.1,())=some (p y,())) : ∀ (c i : Nat) (b : Int),i+c=l.length →
  Zf_L3 (a,b,l,((l.length : Nat) : Int),(i : Int),())=some (.inl (bestP p b (l.drop i),()))
 | 0,i,b,hi=>by
  refine (loop_done (r:=.inl (b,())) ?_).trans ?_
  ·unfold Zf_B3
   simp only
   rw [ltI_f (by omega)]; rfl
  ·rw [List.drop_eq_nil_of_le (by omega)]; rfl
 | c+1,i,b,hi=>by
  have hil : i < l.length:=by omega
  have hg:=List.getElem?_eq_getElem hil
  rw [List.drop_eq_getElem_cons hil]
  refine (loop_step ?_).trans (least2 a p l hl hp c (i+1) (if p l[i]=true∧(b < 0∨l[i] < b) then l[i] else b) (by omega))
  unfold Zf_B3
  simp only
  rw [ltI_t (by omega),cond_true,getI_of,hg,Option.bind_some,hp _ (List.getElem_mem hil),Option.bind_some]
  simp only
  rw [add1 (by omega)]
  cases h : p l[i] with
  | false=>simp
  | true =>
   by_cases c1 : b < 0
   ·rw [ltI_t c1,if_pos ⟨rfl,.inl c1⟩]; rfl
   ·rw [ltI_f (by omega)]
    by_cases c2 : l[i] < b
    ·rw [ltI_t c2,if_pos ⟨rfl,.inr c2⟩]; rfl
    ·rw [ltI_f (by omega),if_neg (by omega)]; rfl
theorem contains1 (m : List Int) (d : Int) (p : Int→Bool) (l : List Int) (hl : l.length≤1000000) (hp : ∀ y∈l,Zav (y,m,d,())=some (p y,())) :
  Za (l,(m,d,()),())=some (l.any p,()):=by
 have key : ∀ (c i : Nat),i+c=l.length→Zb_L2 (l,(m,d,()),((l.length : Nat) : Int),(i : Int),())=some (.inr (.inl ()))∧(l.drop i).any p=false ∨
   ∃ k : Nat,Zb_L2 (l,(m,d,()),((l.length : Nat) : Int),(i : Int),())=some (.inl ((k : Int),()))∧(l.drop i).any p=true:=by
  intro c
  induction c with
  | zero =>
   intro i hi
   refine .inl ⟨loop_done ?_,?_⟩
   ·unfold Zb_B2
    simp only
    rw [ltI_f (by omega)]; rfl
   ·rw [List.drop_eq_nil_of_le (by omega)]; rfl
  | succ c ih =>
   intro i hi
   have hil : i < l.length:=by omega
   have hg:=List.getElem?_eq_getElem hil
   rw [List.drop_eq_getElem_cons hil,List.any_cons]
   have hq:=hp _ (List.getElem_mem hil)
   cases h : p l[i] with
   | true =>
    refine .inr ⟨i,loop_done ?_,rfl⟩
    unfold Zb_B2
    simp only
    rw [ltI_t (by omega),cond_true,getI_of,hg,Option.bind_some,hq,h]; rfl
   | false =>
    have st : Zb_B2 (l,(m,d,()),((l.length : Nat) : Int),(i : Int),())=some (.inl (l,(m,d,()),((l.length : Nat) : Int),((i+1 : Nat) : Int),())):=by
     unfold Zb_B2
     simp only
     rw [ltI_t (by omega),cond_true,getI_of,hg,Option.bind_some,hq,h,add1 (by omega)]; rfl
    have e : Zb_L2 (l,(m,d,()),((l.length : Nat) : Int),(i : Int),())=Zb_L2 (l,(m,d,()),((l.length : Nat) : Int),((i+1 : Nat) : Int),()):=loop_step st
    rw [e,Bool.false_or]
    exact ih (i+1) (by omega)
 unfold Za Zb
 simp only
 rw [show (0 : Int)=((0 : Nat) : Int) from rfl]
 rcases key l.length 0 (by omega) with ⟨k1,k2⟩ | ⟨k,k1,k2⟩
 ·rw [k1]
  rw [List.drop_zero] at k2
  rw [k2]; rfl
 ·rw [k1]
  rw [List.drop_zero] at k2
  rw [k2]
  simp only [Option.bind_some,Sum.elim_inl]
  rw [geI_t (by omega)]
section
variable {N : Nat} {E : List Arc} {A : List (List Int)} {nx : List Int}
theorem sameF_marks (h : RotOK (N : Nat) E A) (hn : Fol oth E A nx) {d f : Nat} (hd : d < 2 * E.length) (hf : f < 2 * E.length) : ∃ a b : Int,(marksOf (2 * E.length) (facesOf nx))[d]?=some a∧(marksOf (2 * E.length) (facesOf nx))[f]?=some b∧(a=b↔SameF nx (2 * E.length) d f):=by
 obtain ⟨hfs,hcy⟩:=facesOf_fs h hn
 obtain ⟨j,j1,j2,g,j3,j4⟩:=marksOf_some hfs hd
 obtain ⟨j',j1',j2',g',j3',j4'⟩:=marksOf_some hfs hf
 have hgm:=List.mem_of_getElem? j3
 refine ⟨j,j',j2,j2',fun e=>?_,?_⟩
 ·have : j=j':=by omega
  subst this
  rw [j3] at j3'
  have : g=g':=Option.some.inj j3'
  subst this
  exact ⟨g,hcy g hgm,(hfs.elem g hgm).2,j4,j4'⟩
 ·rintro ⟨q,q1,q2,q3,q4⟩
  have:=cyc_all q1 (hcy g hgm) (fun x hx=>by obtain ⟨k,e,_⟩:=q2 x hx; exact ⟨k,e⟩) q3 j4 _ q4
  have:=marksOf_at hfs j3 this
  rw [j2'] at this
  exact (Option.some.inj this).symm
end
end Go.Vm

namespace Go.Vm
open Go.Proofs
set_option maxRecDepth 100000
attribute [local irreducible] loopFix
def mkI (m : List Int) (k : Int) : Int:=(m[k.toNat]?).getD 0
section
variable {N : Nat} {E : List Arc} {A : List (List Int)} {nx : List Int}
theorem nxok_of (h : RotOK (N : Nat) E A) (hn : Fol oth E A nx) : NxOK nx nx.length:=by
 obtain ⟨fs,hfs,r1,r2,mx,hm,rfl,hnx⟩:=faces32 h (h.validB) h.lists
 rw [fol_uniq h hm hn]; exact hnx
theorem shared_same (h : RotOK (N : Nat) E A) (hn : Fol oth E A nx) {d f : Nat} (hd : d < 2 * E.length) (hf : f < 2 * E.length) :
  ∃ b,Zp (((N : Int),E,A,()),(d : Int),(f : Int),())=some (b,())∧(b=true↔SameF nx (2 * E.length) d f):=by
 obtain ⟨a,b,m1,m2,hs⟩:=shared_eq h h.validB h.lists hn (facesOf_fs h hn).1 (nxok_of h hn) hd hf
 obtain ⟨a',b',m1',m2',hs'⟩:=sameF_marks h hn hd hf
 rw [m1] at m1'; rw [m2] at m2'
 cases m1'; cases m2'
 exact ⟨_,hs,by rw [decide_eq_true_iff]; exact hs'⟩
theorem pair_inner (h : RotOK (N : Nat) E A) (hn : Fol oth E A nx) (hE : E.length≤1000) (x y : Nat) {f : Nat} (hf : f < 2 * E.length) : ∀ (c g : Nat),g+c=2 * E.length →
  (Zar_L6 ((N : Int),E,A,(x : Int),(y : Int),(f : Int),(g : Int),())=some (.inr (.inl ((N : Int),E,A,(x : Int),(y : Int),(f : Int),())))∧∀ j,g≤j→j < 2 * E.length→tl E j=y→¬ SameF nx (2 * E.length) f j) ∨
  ∃ j,g≤j∧j < 2 * E.length∧tl E j=y∧SameF nx (2 * E.length) f j∧(∀ i,g≤i→i < j→tl E i=y→¬ SameF nx (2 * E.length) f i)∧Zar_L6 ((N : Int),E,A,(x : Int),(y : Int),(f : Int),(g : Int),())=some (.inl ((f : Int),(j : Int),true,()))
 | 0,g,hg=>by
  refine .inl ⟨loop_done ?_,fun j h1 h2=>by omega⟩
  unfold Zar_B6
  simp only
  rw [mulI64 (by omega) (by omega),ltI_f (by omega)]; rfl
 | c+1,g,hg=>by
  have hgl : g < 2 * E.length:=by omega
  have ht:=rTail_eq h h.validB h.lists hgl
  obtain ⟨b,b1,b2⟩:=shared_same h hn hf hgl
  have more : (tl E g≠y∨¬ SameF nx (2 * E.length) f g)→Zar_B6 ((N : Int),E,A,(x : Int),(y : Int),(f : Int),(g : Int),())=some (.inl ((N : Int),E,A,(x : Int),(y : Int),(f : Int),((g+1 : Nat) : Int),())) →
    (Zar_L6 ((N : Int),E,A,(x : Int),(y : Int),(f : Int),(g : Int),())=some (.inr (.inl ((N : Int),E,A,(x : Int),(y : Int),(f : Int),())))∧∀ j,g≤j→j < 2 * E.length→tl E j=y→¬ SameF nx (2 * E.length) f j) ∨
    ∃ j,g≤j∧j < 2 * E.length∧tl E j=y∧SameF nx (2 * E.length) f j∧(∀ i,g≤i→i < j→tl E i=y→¬ SameF nx (2 * E.length) f i)∧Zar_L6 ((N : Int),E,A,(x : Int),(y : Int),(f : Int),(g : Int),())=some (.inl ((f : Int),(j : Int),true,())):=by
   intro hno hs
   have e : Zar_L6 ((N : Int),E,A,(x : Int),(y : Int),(f : Int),(g : Int),())=Zar_L6 ((N : Int),E,A,(x : Int),(y : Int),(f : Int),((g+1 : Nat) : Int),()):=loop_step hs
   rw [e]
   have ng : tl E g=y→¬ SameF nx (2 * E.length) f g:=fun h1=>hno.elim (fun h2=>absurd h1 h2) id
   rcases pair_inner h hn hE x y hf c (g+1) (by omega) with ⟨i1,i2⟩ | ⟨j,j1,j2,j3,j4,j5,j6⟩
   ·refine .inl ⟨i1,fun j h1 h2 h3=>?_⟩
    rcases Nat.eq_or_lt_of_le h1 with rfl | h1
    ·exact ng h3
    ·exact i2 j h1 h2 h3
   ·refine .inr ⟨j,by omega,j2,j3,j4,fun i h1 h2 h3=>?_,j6⟩
    rcases Nat.eq_or_lt_of_le h1 with rfl | h1
    ·exact ng h3
    ·exact j5 i h1 h2 h3
  by_cases c1 : tl E g=y
  ·cases b with
   | true =>
    refine .inr ⟨g,Nat.le_refl _,hgl,c1,b2.1 rfl,fun i h1 h2=>by omega,loop_done ?_⟩
    unfold Zar_B6
    simp only
    rw [mulI64 (by omega) (by omega),ltI_t (by omega),cond_true,ht,Option.bind_some]
    simp only
    rw [eqI_t c1,cond_true,b1]; rfl
   | false =>
    refine more (.inr fun h1=>by have:=b2.2 h1; cases this) ?_
    unfold Zar_B6
    simp only
    rw [mulI64 (by omega) (by omega),ltI_t (by omega),cond_true,ht,Option.bind_some]
    simp only
    rw [eqI_t c1,cond_true,b1,add1 (by omega)]; rfl
  ·refine more (.inl c1) ?_
   unfold Zar_B6
   simp only
   rw [mulI64 (by omega) (by omega),ltI_t (by omega),cond_true,ht,Option.bind_some]
   simp only
   rw [eqI_f c1,cond_false,add1 (by omega)]
theorem pair_outer (h : RotOK (N : Nat) E A) (hn : Fol oth E A nx) (hE : E.length≤1000) (x y : Nat) : ∀ (c f : Nat),f+c=2 * E.length→(∃ k j,f≤k∧k < 2 * E.length∧tl E k=x∧j < 2 * E.length∧tl E j=y∧SameF nx (2 * E.length) k j) →
  ∃ d e,f≤d∧d < 2 * E.length∧tl E d=x∧e < 2 * E.length∧tl E e=y∧SameF nx (2 * E.length) d e∧(∀ i j,f≤i→i < d→tl E i=x→j < 2 * E.length→tl E j=y→¬ SameF nx (2 * E.length) i j)∧(∀ j,j < e→tl E j=y→¬ SameF nx (2 * E.length) d j) ∧
   Zar_L2 ((N : Int),E,A,(x : Int),(y : Int),(f : Int),())=some (.inl ((d : Int),(e : Int),true,()))
 | 0,f,hf,⟨k,_,k1,k2,_⟩=>by omega
 | c+1,f,hf,⟨k,j,k1,k2,k3,k4,k5,k6⟩=>by
  have hfl : f < 2 * E.length:=by omega
  have ht:=rTail_eq h h.validB h.lists hfl
  have more : (∀ j,tl E f=x→j < 2 * E.length→tl E j=y→¬ SameF nx (2 * E.length) f j)→Zar_B2 ((N : Int),E,A,(x : Int),(y : Int),(f : Int),())=some (.inl ((N : Int),E,A,(x : Int),(y : Int),((f+1 : Nat) : Int),())) →
    ∃ d e,f≤d∧d < 2 * E.length∧tl E d=x∧e < 2 * E.length∧tl E e=y∧SameF nx (2 * E.length) d e∧(∀ i j,f≤i→i < d→tl E i=x→j < 2 * E.length→tl E j=y→¬ SameF nx (2 * E.length) i j)∧(∀ j,j < e→tl E j=y→¬ SameF nx (2 * E.length) d j) ∧
   Zar_L2 ((N : Int),E,A,(x : Int),(y : Int),(f : Int),())=some (.inl ((d : Int),(e : Int),true,())):=by
   intro hno hs
   have e : Zar_L2 ((N : Int),E,A,(x : Int),(y : Int),(f : Int),())=Zar_L2 ((N : Int),E,A,(x : Int),(y : Int),((f+1 : Nat) : Int),()):=loop_step hs
   rw [e]
   have hk : f≠k:=fun e=>by subst e; exact hno j k3 k4 k5 k6
   obtain ⟨d,e,d1,d2,d3,d4,d5,d6,d7,d8,d9⟩:=pair_outer h hn hE x y c (f+1) (by omega) ⟨k,j,by omega,k2,k3,k4,k5,k6⟩
   refine ⟨d,e,by omega,d2,d3,d4,d5,d6,fun i j h1 h2 h3 h4 h5=>?_,d8,d9⟩
   rcases Nat.eq_or_lt_of_le h1 with rfl | h1
   ·exact hno j h3 h4 h5
   ·exact d7 i j h1 h2 h3 h4 h5
  by_cases c1 : tl E f=x
  ·rcases pair_inner h hn hE x y hfl (2 * E.length) 0 (by omega) with ⟨i1,i2⟩ | ⟨j,j1,j2,j3,j4,j5,j6⟩
   ·refine more (fun j _ h2 h3=>i2 j (Nat.zero_le _) h2 h3) ?_
    unfold Zar_B2
    simp only
    rw [mulI64 (by omega) (by omega),ltI_t (by omega),cond_true,ht,Option.bind_some]
    simp only
    rw [neI_f c1,cond_false,show (0 : Int)=((0 : Nat) : Int) from rfl,i1]
    simp only [Option.bind_some,Sum.elim_inl,Sum.elim_inr]
    rw [add1 (by omega)]
   ·refine ⟨f,j,Nat.le_refl _,hfl,c1,j2,j3,j4,fun i j h1 h2=>by omega,fun i h1 h2=>j5 i (Nat.zero_le _) h1 h2,loop_done ?_⟩
    unfold Zar_B2
    simp only
    rw [mulI64 (by omega) (by omega),ltI_t (by omega),cond_true,ht,Option.bind_some]
    simp only
    rw [neI_f c1,cond_false,show (0 : Int)=((0 : Nat) : Int) from rfl,j6]; rfl
  ·refine more (fun j h1=>absurd h1 c1) ?_
   unfold Zar_B2
   simp only
   rw [mulI64 (by omega) (by omega),ltI_t (by omega),cond_true,ht,Option.bind_some]
   simp only
   rw [neI_t c1,cond_true,add1 (by omega)]
theorem join_both (h : RotOK (N : Nat) E A) (hn : Fol oth E A nx) (hE : E.length≤1000) {x y : Nat} (hx : x < N) (hy : y < N) (ex : ∃ k j,k < 2 * E.length∧tl E k=x∧j < 2 * E.length∧tl E j=y∧SameF nx (2 * E.length) k j) :
  ∃ d e : Nat,d < 2 * E.length∧tl E d=x∧e < 2 * E.length∧tl E e=y∧SameF nx (2 * E.length) d e∧Zar (((N : Int),E,A,()),(x : Int),(y : Int),())=some ((d : Int),(e : Int),true,()) ∧
   Zbs (((N : Int),E,A,()),(x : Int),(y : Int),())=(Zbq (((N : Int),E,A,()),(d : Int),(e : Int),())).bind fun r=>some ((r.1.1,r.1.2.1,r.1.2.2.1,()),r.2.1,()):=by
 obtain ⟨k,j,k1,k2,k3,k4,k5⟩:=ex
 obtain ⟨d,e,_,d2,d3,d4,d5,d6,d7,d8,d9⟩:=pair_outer h hn hE x y (2 * E.length) 0 (by omega) ⟨k,j,Nat.zero_le _,k1,k2,k3,k4,k5⟩
 refine ⟨d,e,d2,d3,d4,d5,d6,?_,?_⟩
 ·unfold Zar
  simp only
  rw [show (0 : Int)=((0 : Nat) : Int) from rfl,d9]; rfl
 ·have hal:=h.al
  obtain ⟨hfs,hcy⟩:=facesOf_fs h hn
  obtain ⟨m,hm⟩ : ∃ m,m=marksOf (2 * E.length) (facesOf nx):=⟨_,rfl⟩
  have hi:=ifaces_eq (N:=(N : Int)) (E:=E) (A:=A) (facesOf nx) hfs (by omega) (faces_val h hn).1
  have hmk : ∀ c : Nat,c < 2 * E.length→m[c]?=some (mkI m (c : Int)):=by
   intro c hc
   unfold mkI
   rw [Int.toNat_natCast,List.getElem?_eq_getElem (by rw [hm,marksOf_len]; exact hc)]; rfl
  have hsame : ∀ a b : Nat,a < 2 * E.length→b < 2 * E.length→(mkI m (a : Int)=mkI m (b : Int)↔SameF nx (2 * E.length) a b):=by
   intro a b ha hb
   obtain ⟨p,q,p1,p2,p3⟩:=sameF_marks h hn ha hb
   rw [← hm,hmk a ha] at p1
   rw [← hm,hmk b hb] at p2
   cases p1; cases p2
   exact p3
  have hsym : ∀ a b : Nat,SameF nx (2 * E.length) a b→SameF nx (2 * E.length) b a:=fun a b ⟨g,g1,g2,g3,g4⟩=>⟨g,g1,g2,g4,g3⟩
  have hxl : x < A.length:=by omega
  have hyl : y < A.length:=by omega
  have gx:=List.getElem?_eq_getElem hxl
  have gy:=List.getElem?_eq_getElem hyl
  have lx:=h.list_len (List.getElem_mem hxl)
  have ly:=h.list_len (List.getElem_mem hyl)
  have dx : ∀ c∈A[x],∃ k : Nat,c=(k : Int)∧k < 2 * E.length∧tl E k=x:=fun c hc=>by
   obtain ⟨k,e1,e2,e3⟩:=h.dart x _ gx c hc; exact ⟨k,e1,e2,e3⟩
  have dy : ∀ c∈A[y],∃ k : Nat,c=(k : Int)∧k < 2 * E.length∧tl E k=y:=fun c hc=>by
   obtain ⟨k,e1,e2,e3⟩:=h.dart y _ gy c hc; exact ⟨k,e1,e2,e3⟩
  have j11 : ∀ c : Nat,c < 2 * E.length→∀ z∈A[y],Zav (z,m,(c : Int),())=some (eqI (mkI m z) (mkI m (c : Int)),()):=by
   intro c hc z hz
   obtain ⟨k,rfl,k2,_⟩:=dy z hz
   unfold Zav
   simp only
   rw [getI_of,hmk k k2,getI_of,hmk c hc]; rfl
  have j1 : ∀ z∈A[x],Zbi (z,((N : Int),E,A,()),(y : Int),m,())=some (A[y].any (fun w=>eqI (mkI m w) (mkI m z)),()):=by
   intro z hz
   obtain ⟨k,rfl,k2,_⟩:=dx z hz
   unfold Zbi
   simp only
   rw [getI_of,gy,Option.bind_some,contains1 m (k : Int) (fun w=>eqI (mkI m w) (mkI m (k : Int))) A[y] (by omega) (j11 k k2)]; rfl
  have j2 : ∀ z∈A[y],Zbe (z,m,(d : Int),())=some (eqI (mkI m z) (mkI m (d : Int)),()):=by
   intro z hz
   obtain ⟨k,rfl,k2,_⟩:=dy z hz
   unfold Zbe
   simp only
   rw [getI_of,hmk k k2,getI_of,hmk d d2]; rfl
  have b1 : bestP (fun z=>A[y].any (fun w=>eqI (mkI m w) (mkI m z))) (-1) A[x]=(d : Int):=by
   refine bestP_min (fun z hz=>by obtain ⟨k,rfl,_⟩:=dx z hz; omega) (h.around d2 d3 gx) ?_ ?_
   ·rw [List.any_eq_true]
    exact ⟨(e : Int),h.around d4 d5 gy,eqI_t ((hsame e d d4 d2).2 (hsym _ _ d6))⟩
   ·intro z hz hp
    obtain ⟨k,rfl,k2,k3⟩:=dx z hz
    rw [List.any_eq_true] at hp
    obtain ⟨w,w1,w2⟩:=hp
    obtain ⟨i,rfl,i2,i3⟩:=dy w w1
    rcases Nat.lt_or_ge k d with c | c
    ·have w2 : mkI m (i : Int)=mkI m (k : Int):=by simpa [eqI] using w2
     exact absurd (hsym _ _ ((hsame i k i2 k2).1 w2)) (d7 k i (Nat.zero_le _) c k3 i2 i3)
    ·omega
  have b2 : bestP (fun z=>eqI (mkI m z) (mkI m (d : Int))) (-1) A[y]=(e : Int):=by
   refine bestP_min (fun z hz=>by obtain ⟨k,rfl,_⟩:=dy z hz; omega) (h.around d4 d5 gy) (eqI_t ((hsame e d d4 d2).2 (hsym _ _ d6))) ?_
   intro z hz hp
   obtain ⟨k,rfl,k2,k3⟩:=dy z hz
   have hp : mkI m (k : Int)=mkI m (d : Int):=by simpa [eqI] using hp
   rcases Nat.lt_or_ge k e with c | c
   ·exact absurd (hsym _ _ ((hsame k d k2 d2).1 hp)) (d8 k c k3)
   ·omega
  have l1:=least1 (((N : Int),E,A,()),(y : Int),m,()) _ A[x] (by omega) j1 A[x].length 0 (-1) (by omega)
  have l2:=least2 (m,(d : Int),()) _ A[y] (by omega) j2 A[y].length 0 (-1) (by omega)
  rw [List.drop_zero,b1] at l1
  rw [List.drop_zero,b2] at l2
  unfold Zbs
  simp only
  rw [hi,Option.bind_some,← hm,getI_of,gx,Option.bind_some]
  unfold Zg
  simp only
  rw [show (0 : Int)=((0 : Nat) : Int) from rfl,l1]
  simp only [Option.bind_some,Sum.elim_inl]
  rw [ltI_f (by omega),cond_false,getI_of,gy,Option.bind_some]
  unfold Zf
  simp only
  rw [show (0 : Int)=((0 : Nat) : Int) from rfl,l2]
  simp only [Option.bind_some,Sum.elim_inl]
end
end Go.Vm

namespace Go.Vm
open Go.Proofs
set_option maxRecDepth 100000
attribute [local irreducible] loopFix
def HasL (E : List Arc) (lam : Nat→Nat) (w c : Nat) : Prop:=∃ k,k < 2 * E.length∧tl E k=(w : Int)∧lam k=c
def AllL (E : List Arc) (lam : Nat→Nat) (w : Nat) (P : Nat→Prop) : Prop:=∀ k,k < 2 * E.length→tl E k=(w : Int)→P (lam k)
def TwoL (A : List (List Int)) (B : Nat) (lam : Nat→Nat) (w c c' : Nat) : Prop:=∃ a b : Nat,A[w]?=some [(a : Int),(b : Int)]∧a < B∧b < B∧((lam a=c∧lam b=c')∨(lam a=c'∧lam b=c))
section
variable {N : Nat} {E : List Arc} {A : List (List Int)} {e x y : Nat} {lam : Nat→Nat}
theorem SplitOK.has (h : SplitOK N E A e x y) {w c : Nat} (hl : HasL E lam w c) : HasL (splE E N e x y) (lamX lam E.length (lam (2 * e)) (lam (2 * e+1))) w c:=by
 obtain ⟨k,k1,k2,k3⟩:=hl
 obtain ⟨t0,t1,t2,t3,t4⟩:=h.tails
 have he:=h.he
 by_cases c1 : k=2 * e+1
 ·subst c1
  refine ⟨2 * E.length+1,by rw [splE_len]; omega,?_,by rw [lamX_1]; exact k3⟩
  rw [t3,← h.tl1,k2]
 ·exact ⟨k,by rw [splE_len]; omega,by rw [t4 k k1 c1,k2],by rw [lamX_old k1]; exact k3⟩
theorem SplitOK.all (h : SplitOK N E A e x y) {w : Nat} (hw : w < N) {P : Nat→Prop} (hl : AllL E lam w P) : AllL (splE E N e x y) (lamX lam E.length (lam (2 * e)) (lam (2 * e+1))) w P:=by
 intro k hk ht
 obtain ⟨t0,t1,t2,t3,t4⟩:=h.tails
 have he:=h.he
 rw [splE_len] at hk
 by_cases c0 : k=2 * E.length
 ·subst c0; rw [t2] at ht; omega
 ·by_cases c1 : k=2 * E.length+1
  ·subst c1
   rw [lamX_1]
   refine hl (2 * e+1) (by omega) ?_
   rw [h.tl1,← t3,ht]
  ·by_cases c2 : k=2 * e+1
   ·subst c2; rw [t1] at ht; omega
   ·rw [t4 k (by omega) c2] at ht
    rw [lamX_old (by omega)]
    exact hl k (by omega) ht
theorem SplitOK.twoNew (h : SplitOK N E A e x y) {c c' : Nat} (hc : (lam (2 * e)=c∧lam (2 * e+1)=c')∨(lam (2 * e)=c'∧lam (2 * e+1)=c)) {B : Nat} (hB : 2 * E.length < B) :
  TwoL (splA A e E.length y) B (lamX lam E.length (lam (2 * e)) (lam (2 * e+1))) N c c':=by
 have he:=h.he
 have hal:=h.al
 have hyn:=h.yn
 have g:=splA_get (e:=e) (m:=E.length) (A:=A) (y:=y) (by omega) N
 rw [if_neg (by omega),if_pos hal.symm] at g
 refine ⟨2 * e+1,2 * E.length,g,by omega,hB,?_⟩
 rw [lamX_0,lamX_old (by omega)]
 rcases hc with ⟨h1,h2⟩ | ⟨h1,h2⟩
 ·exact .inr ⟨h2,h1⟩
 ·exact .inl ⟨h2,h1⟩
theorem SplitOK.two (h : SplitOK N E A e x y) {w c c' B : Nat} (hw : w < N) (hl : TwoL A B lam w c c') (hB : 2 * E.length+1 < B) : TwoL (splA A e E.length y) B (lamX lam E.length (lam (2 * e)) (lam (2 * e+1))) w c c':=by
 obtain ⟨a,b,h1,h2,h3,h4⟩:=hl
 have he:=h.he
 have hal:=h.al
 have hyn:=h.yn
 have hd : ∀ d : Nat,(d : Int)∈[(a : Int),(b : Int)]→d < 2 * E.length:=by
  intro d hd
  obtain ⟨k,k1,k2,_⟩:=h.rot.dart w _ h1 d hd
  omega
 have ha:=hd a (by simp)
 have hb:=hd b (by simp)
 have g:=splA_get (e:=e) (m:=E.length) (A:=A) (y:=y) (by omega) w
 by_cases c1 : w=y
 ·subst c1
  rw [if_pos rfl] at g
  have hs : subL A w=[(a : Int),(b : Int)]:=by
   rw [subL_eq (by omega)]
   rw [List.getElem?_eq_getElem (by omega)] at h1
   exact Option.some.inj h1
  rw [hs] at g
  have rp : ∀ d : Nat,d < 2 * E.length→∃ d' : Nat,repD ((2 * e+1 : Nat) : Int) ((2 * E.length+1 : Nat) : Int) (d : Int)=(d' : Int)∧d' < B∧lamX lam E.length (lam (2 * e)) (lam (2 * e+1)) d'=lam d:=by
   intro d hd
   unfold repD
   by_cases c : d=2 * e+1
   ·subst c; rw [if_pos rfl]; exact ⟨_,rfl,hB,lamX_1⟩
   ·rw [if_neg (by omega)]; exact ⟨d,rfl,by omega,lamX_old hd⟩
  obtain ⟨a',a1,a2,a3⟩:=rp a ha
  obtain ⟨b',b1,b2,b3⟩:=rp b hb
  refine ⟨a',b',?_,a2,b2,by rw [a3,b3]; exact h4⟩
  rw [g]
  unfold repL
  rw [List.map_cons,List.map_cons,List.map_nil,a1,b1]
 ·rw [if_neg c1,if_neg (by omega),h1] at g
  exact ⟨a,b,g,h2,h3,by rw [lamX_old ha,lamX_old hb]; exact h4⟩
end
theorem Rt.faces {M : Nat} {fc D : Nat→Nat} : ∀ {s : Nat} {P : Nat→Prop} {l : List Int},Rt M fc D P s l→(∃ f,P f∧D f=s) →
  ∃ F : Nat→Nat,P (F 0)∧(∀ i,i≤s→D (F i)=s - i)∧∀ i,i < s→∃ k,k < 2 * M∧l[i]?=some ((k / 2 : Nat) : Int)∧fc k=F i∧fc (oth k)=F (i+1)
 | 0,_,l,_,⟨f,h1,h2⟩=>⟨fun _=>f,h1,fun i hi=>by rw [h2]; omega,fun i hi=>by omega⟩
 | s+1,P,l,⟨k,t,k1,⟨k2,k3,k4⟩,_,e,r⟩,_=>by
  obtain ⟨F,f1,f2,f3⟩:=r.faces ⟨fc (oth k),rfl,k4⟩
  subst e
  refine ⟨fun i=>match i with | 0=>fc k | i+1=>F i,k2,fun i hi=>?_,fun i hi=>?_⟩
  ·cases i with
   | zero=>exact k3
   | succ i=>have:=f2 i (by omega); show D (F i)=_; omega
  ·cases i with
   | zero=>exact ⟨k,k1,rfl,rfl,f1.symm⟩
   | succ i =>
    obtain ⟨j,j1,j2,j3,j4⟩:=f3 i (by omega)
    exact ⟨j,j1,by simpa using j2,j3,j4⟩
structure SpI (N0 M0 : Nat) (fc D F : Nat→Nat) (s u v : Nat) (g : Int) (i : Nat) (E : List Arc) (A : List (List Int)) (lam : Nat→Nat) : Prop where
 rot : RotOK ((N0+i : Nat) : Nat) E A
 len : E.length=M0+i
 lab : ∀ nx,Fol oth E A nx→LabS (2 * E.length) nx lam fun _=>True
 old : ∀ k,k < 2 * M0→lam k=fc k
 uD : AllL E lam u fun c=>s≤D c
 u0 : HasL E lam u (F 0)
 vD : AllL E lam v fun c=>D c=0
 vs : HasL E lam v (F s)
 gen : ∀ nx,Fol oth E A nx→genZ (N0+i) E A (facesOf nx).length=g
 two : ∀ j,j < i→TwoL A (2 * (M0+s)) lam (N0+j) (F j) (F (j+1))
theorem SpI.split {N0 M0 : Nat} {fc D F : Nat→Nat} {s u v i : Nat} {g : Int} {E : List Arc} {A : List (List Int)} {lam : Nat→Nat} (h : SpI N0 M0 fc D F s u v g i E A lam) {x y k : Nat} (his : i < s) (hk : k < 2 * M0) (hs : SplitOK (N0+i) E A (k / 2) x y) (fk : fc k=F i) (fo : fc (oth k)=F (i+1)) (hu : u < N0) (hv : v < N0) :
  SpI N0 M0 fc D F s u v g (i+1) (splE E (N0+i) (k / 2) x y) (splA A (k / 2) E.length y) (lamX lam E.length (lam (2 * (k / 2))) (lam (2 * (k / 2)+1))):=by
 have hl:=h.len
 have hc : (lam (2 * (k / 2))=F i∧lam (2 * (k / 2)+1)=F (i+1))∨(lam (2 * (k / 2))=F (i+1)∧lam (2 * (k / 2)+1)=F i):=by
  rw [h.old _ (by omega),h.old _ (by omega)]
  by_cases c : k % 2=0
  ·have e1 : 2 * (k / 2)=k:=by omega
   have e2 : oth k=k+1:=by unfold oth; rw [if_pos c]
   rw [e1,← e2]; exact .inl ⟨fk,fo⟩
  ·have e1 : 2 * (k / 2)+1=k:=by omega
   have e2 : oth k=2 * (k / 2):=by unfold oth; rw [if_neg c]; omega
   rw [e1,← e2]; exact .inr ⟨fo,fk⟩
 refine ⟨hs.rot',by rw [splE_len]; omega,fun nx' hn'=>?_,fun j hj=>?_,hs.all (by omega) h.uD,hs.has h.u0,hs.all (by omega) h.vD,hs.has h.vs,fun nx' hn'=>?_,fun j hj=>?_⟩
 ·obtain ⟨fs,hfs,r1,r2,nx,hn,rfl,hnx⟩:=faces32 h.rot (h.rot.validB) h.rot.lists
  rw [splE_len]
  exact hs.label hn hn' (h.lab nx hn)
 ·rw [lamX_old (by omega)]; exact h.old j hj
 ·obtain ⟨fs,hfs,r1,r2,nx,hn,rfl,hnx⟩:=faces32 h.rot (h.rot.validB) h.rot.lists
  rw [← h.gen nx hn]
  exact hs.genus hn hn'
 ·by_cases c : j=i
  ·subst c
   exact hs.twoNew hc (by omega)
  ·exact hs.two (by omega) (h.two j (by omega)) (by omega)
end Go.Vm


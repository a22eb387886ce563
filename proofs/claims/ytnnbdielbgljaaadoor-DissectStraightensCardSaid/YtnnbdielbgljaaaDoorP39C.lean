/-
 Valid shapes.
-/
import Derived.Test.YtnnbdielbgljaaaDoorP39B
set_option linter.unusedVariables false
set_option linter.unusedSimpArgs false
namespace Go.Vm
open Go.Proofs
set_option maxRecDepth 100000
attribute [local irreducible] loopFix
def empStep (_ : Nat) (n : Int) (l : List Int) : Option (Int⊕Empty):=some (.inl (cond (eqI (l.length : Nat) 0) (addI .i64 n 1) n))
theorem gen_loop (N : Int) (E : List Arc) (A : List (List Int)) (n : Int) (hA : A.length < 9223372036854775807) : ∃ n1,Zat_L5 (N,E,A,n,A,(A.length : Nat),0,())=some (.inl (N,E,A,n1,())) ∧
  Zr_L5 (((A.length : Nat) : Int),E,A,n,0,())=some (.inl (((A.length : Nat) : Int),E,A,n1,())):=by
 obtain ⟨n1,hn⟩:=foldE_inl (g:=empStep) (l:=A) (i:=0) (s:=n) (fun _ n l=>cond (eqI (l.length : Nat) 0) (addI .i64 n 1) n) (fun _ _ _ _=>rfl)
 have k1:=scan (B:=Zat_B5) (fun n i=>(N,E,A,n,A,((A.length : Nat) : Int),(i : Int),())) (fun n=>.inl (N,E,A,n,())) (fun e=>nomatch e) empStep A (by
  intro n i l hd'
  have hi : i < A.length:=(List.getElem?_eq_some_iff.1 hd').1
  simp only [Zat_B5,empStep]
  rw [ltI_t (by omega),cond_true,getI_of,hd',Option.bind_some,add1 (a:=i) (by omega)]
  cases eqI ((l.length : Nat) : Int) 0 <;> rfl) (by
  intro n
  simp only [Zat_B5]
  rw [ltI_f (by omega)]; rfl) n
 have k2:=scan (B:=Zr_B5) (fun n i=>(((A.length : Nat) : Int),E,A,n,(i : Int),())) (fun n=>.inl (((A.length : Nat) : Int),E,A,n,())) (fun e=>nomatch e) empStep A (by
  intro n i l hd'
  have hi : i < A.length:=(List.getElem?_eq_some_iff.1 hd').1
  simp only [Zr_B5,empStep]
  rw [ltI_t (by omega),cond_true,getI_of,hd',Option.bind_some,add1 (a:=i) (by omega)]
  cases eqI ((l.length : Nat) : Int) 0 <;> rfl) (by
  intro n
  simp only [Zr_B5]
  rw [ltI_f (by omega)]; rfl) n
 rw [hn] at k1 k2
 exact ⟨n1,k1,k2⟩
section
variable {N : Nat} {E : List Arc} {A : List (List Int)}
theorem genus_both (h : RotOK (N : Nat) E A) (hv : validB ((N : Int),E,A,())=true) (hl : ∀ l∈A,l.length≤9223372036854775807) : ∃ X : Int,(0 < N→Conn N E→Zat (((N : Int),E,A,()),())=some (subI .i64 1 X,())) ∧
  ∃ c : Nat,Zr (((N : Int),E,A,()),())=some (subI .i64 (c : Int) X,())∧Zc (((N : Int),E,A,()),())=some ((c : Int),())∧(0 < N→(c=1↔Conn N E)):=by
 obtain ⟨nx,m,_,f1,hi,r1,r2⟩:=faces_both h hv hl
 have hAl : A.length=N:=by have:=h.len; omega
 have h16 : N≤16384:=by have:=h.n1; omega
 obtain ⟨n1,g1,g2⟩:=gen_loop (N : Int) E A ((facesOf nx).length : Nat) (by omega)
 obtain ⟨c,c1,c2,c3⟩:=rcomps_eq h
 rw [hAl] at g1 g2
 refine ⟨quoI .i64 (addI .i64 (subI .i64 (N : Int) (E.length : Nat)) n1) 2,fun hN0 hc=>?_,c,?_,c1,c3⟩
 ·unfold Zat
  simp only
  rw [valid_eq ((N : Int),E,A,()) hl,hv,Option.bind_some]
  simp only [Bool.not_true,cond_false]
  rw [r1,Option.bind_some]
  simp only
  rw [hAl,g1]
  simp only [Option.bind_some,Sum.elim_inl]
  rw [comps_one h hN0 hc]
  rfl
 ·unfold Zr
  simp only
  rw [rvalid_eq ((N : Int),E,A,()) hl,hv,Option.bind_some]
  simp only [Bool.not_true,cond_false]
  rw [r2,Option.bind_some]
  simp only
  rw [g2]
  simp only [Option.bind_some,Sum.elim_inl]
  rw [c1]
  rfl
end
def faceChk (g : List Int) (B : List ByteArray) (o : Int) (f : List Int) : Bool:=eqI (tsZ g B f) (cond (inB f o) (-4) 4)
def facesChk (g : List Int) (B : List ByteArray) (o : Int) (fs : List (List Int)) : Bool:=fs.all (faceChk g B o)
theorem chk_fold (g : List Int) (B : List ByteArray) (o : Int) : ∀ (fs : List (List Int)) (i : Nat),foldE (fun (_ : Nat) (_ : Unit) f=>some (cond (faceChk g B o f) (Sum.inl ()) (Sum.inr ()))) i () fs=some (cond (facesChk g B o fs) (.inl ()) (.inr ()))
 | [],_=>rfl
 | f :: fs,i=>by
  simp only [foldE,Option.bind_some,facesChk,List.all_cons]
  cases faceChk g B o f with
  | false=>rfl
  | true=>exact chk_fold g B o fs (i+1)
def FacesIn (L : Nat) (fs : List (List Int)) : Prop:=fs.length≤65536∧∀ f∈fs,f.length≤65536∧∀ x∈f,∃ k : Nat,x=(k : Int)∧k < L
theorem faces_prog {g : List Int} {B : List ByteArray} {L : Nat} (h : TurnOK g B L) (r : Rot) (o : Int) (fs : List (List Int)) (hf : FacesIn L fs) :
  Zbq_L13 (r.1,r.2.1,r.2.2.1,g,B,o,fs,(fs.length : Nat),0,())=some (cond (facesChk g B o fs) (.inr (.inl ())) (.inl (false,()))):=by
 have key:=scan (B:=Zbq_B13) (fun (_ : Unit) i=>(r.1,r.2.1,r.2.2.1,g,B,o,fs,((fs.length : Nat) : Int),(i : Int),())) (fun _=>.inr (.inl ())) (fun (_ : Unit)=>.inl (false,()))
  (fun (_ : Nat) (_ : Unit) f=>some (cond (faceChk g B o f) (Sum.inl ()) (Sum.inr ()))) fs (by
   intro u i f hd'
   have hi : i < fs.length:=(List.getElem?_eq_some_iff.1 hd').1
   have hlen:=hf.1
   obtain ⟨f1,f2⟩:=hf.2 f (List.mem_of_getElem? hd')
   obtain ⟨t1,_,_⟩:=turns_eq h r o f f2 f1
   simp only [Zbq_B13]
   rw [ltI_t (by omega),cond_true,idxI_of (by omega),Option.bind_some,hd',Option.bind_some,contains_eq f o (by omega),Option.bind_some,t1,add1 (by omega)]
   unfold faceChk
   simp only [Option.bind_some]
   cases inB f o with
   | true =>
    simp only [cond_true]
    by_cases e : tsZ g B f=-4
    ·rw [neI_f e,eqI_t e]; rfl
    ·rw [neI_t e,eqI_f e]; rfl
   | false =>
    simp only [cond_false]
    by_cases e : tsZ g B f=4
    ·rw [neI_f e,eqI_t e]; rfl
    ·rw [neI_t e,eqI_f e]; rfl) (by
   intro u
   simp only [Zbq_B13]
   rw [ltI_f (by omega)]; rfl) ()
 rw [chk_fold] at key
 refine key.trans ?_
 cases facesChk g B o fs <;> rfl
theorem faces_ref {g : List Int} {B : List ByteArray} {L : Nat} (h : TurnOK g B L) (r : Rot) (o : Int) (fs : List (List Int)) (hf : FacesIn L fs) :
  Zx_L8 (r.1,r.2.1,r.2.2.1,g,B,o,fs,0,())=some (cond (facesChk g B o fs) (.inr (.inl ())) (.inl (13,()))):=by
 have key:=scan (B:=Zx_B8) (fun (_ : Unit) i=>(r.1,r.2.1,r.2.2.1,g,B,o,fs,(i : Int),())) (fun _=>.inr (.inl ())) (fun (_ : Unit)=>.inl (13,()))
  (fun (_ : Nat) (_ : Unit) f=>some (cond (faceChk g B o f) (Sum.inl ()) (Sum.inr ()))) fs (by
   intro u i f hd'
   have hi : i < fs.length:=(List.getElem?_eq_some_iff.1 hd').1
   have hlen:=hf.1
   obtain ⟨f1,f2⟩:=hf.2 f (List.mem_of_getElem? hd')
   have t1:=rturns_eq h r o f f2 f1
   simp only [Zx_B8]
   rw [ltI_t (by omega),cond_true,idxI_of (by omega),Option.bind_some,hd',Option.bind_some,has_eq f o (by omega),Option.bind_some,add1 (by omega)]
   unfold faceChk
   simp only [Option.bind_some,hd',t1]
   cases inB f o with
   | true =>
    simp only [cond_true]
    by_cases e : tsZ g B f=-4
    ·rw [neI_f e,eqI_t e]; rfl
    ·rw [neI_t e,eqI_f e]; rfl
   | false =>
    simp only [cond_false]
    by_cases e : tsZ g B f=4
    ·rw [neI_f e,eqI_t e]; rfl
    ·rw [neI_t e,eqI_f e]; rfl) (by
   intro u
   simp only [Zx_B8]
   rw [ltI_f (by omega)]; rfl) ()
 rw [chk_fold] at key
 refine key.trans ?_
 cases facesChk g B o fs <;> rfl
structure ShapeOK (N : Nat) (E : List Arc) (A : List (List Int)) (g : List Int) (B : List ByteArray) (o : Int) (nx : List Int) : Prop where
 rot : RotOK (N : Nat) E A
 valid : validB ((N : Int),E,A,())=true
 pos : 0 < N
 conn : Conn N E
 turn : TurnOK g B (2 * E.length)
 bend : allFrom (bendR B) 0 (2 * E.length)=true
 ang : angAll g A=some (.inl ())
 out0 : 0≤o
 out1 : o < 2 * E.length∨o=0
 fol : Zap (((N : Int),E,A,()),())=some (nx,())
 folOK : Fol oth E A nx
 inv : ∃ m,FacesInv nx.length nx.length (m,facesOf nx)
 faces : Zaw (((N : Int),E,A,()),())=some (facesOf nx,())
 rfaces : Zy (((N : Int),E,A,()),())=some (facesOf nx,())
 chk : facesChk g B o (facesOf nx)=true
theorem nodup_bound {L : Nat} {f : List Int} (hn : f.Nodup) (hf : ∀ x∈f,∃ k : Nat,x=(k : Int)∧k < L) : f.length≤L:=by
 have:=nodup_le L (f.map Int.toNat) (by
  rw [List.Nodup,List.pairwise_map]
  refine hn.imp_of_mem ?_
  intro a b ha hb hab e
  obtain ⟨j,rfl,_⟩:=hf a ha
  obtain ⟨j',rfl,_⟩:=hf b hb
  simp at e
  exact hab (by rw [e])) (by
  intro x hx
  obtain ⟨y,hy,rfl⟩:=List.mem_map.1 hx
  obtain ⟨j,rfl,hj⟩:=hf y hy
  simpa using hj)
 simpa using this
theorem facesIn_of {L : Nat} (hL : L≤65536) {m : List Bool} {fs : List (List Int)} (h : FacesInv L L (m,fs)) : FacesIn L fs:=by
 refine ⟨?_,fun f hf=>?_⟩
 ·have:=h.num; simp only at this; omega
 ·obtain ⟨_,h2⟩:=h.elem f hf
  refine ⟨?_,h2⟩
  have hn : f.Nodup:=(List.sublist_flatten_of_mem hf).nodup h.nodup
  have:=nodup_bound hn h2
  omega
theorem planar_of {N : Nat} {E : List Arc} {A : List (List Int)} {X : Int} {c : Nat} (h1 : Zr (((N : Int),E,A,()),())=some (subI .i64 (c : Int) X,())) (h2 : Zc (((N : Int),E,A,()),())=some ((c : Int),())) :
  Zq (((N : Int),E,A,()),())=some (eqI (subI .i64 (c : Int) X) 0 && eqI (c : Int) 1,()):=by
 unfold Zq
 simp only
 rw [h1,Option.bind_some,h2]
 simp only [Option.bind_some]
 cases eqI (subI .i64 (c : Int) X) 0 <;> rfl
theorem Zbq_both (N0 : Int) (E : List Arc) (A : List (List Int)) (g : List Int) (B : List ByteArray) (o : Int) (hA : ∀ l∈A,l.length≤9223372036854775807) :
  ∃ b,Zbq (((N0,E,A,()),g,B,o,()),())=some (b,())∧Zx (((N0,E,A,()),g,B,o,()),())=some (cond b 0 13,())∧(b=true→∃ N : Nat,N0=(N : Int)∧∃ nx,ShapeOK N E A g B o nx):=by
 cases hv : validB (N0,E,A,()) with
 | false =>
  refine ⟨false,?_,?_,fun h=>by cases h⟩
  ·unfold Zbq
   simp only
   rw [valid_eq (N0,E,A,()) hA,hv]; rfl
  ·unfold Zx
   simp only
   rw [rvalid_eq (N0,E,A,()) hA,hv]; rfl
 | true =>
  have h0:=valid_ok hv
  obtain ⟨N,rfl⟩ : ∃ N : Nat,N0=N:=⟨N0.toNat,by have:=h0.n0; omega⟩
  have h : RotOK (N : Nat) E A:=h0
  have hm1:=h.m1
  have h16 : N≤16384:=by have:=h.n1; omega
  have hAl : A.length=N:=by have:=h.len; omega
  obtain ⟨bc,c1,c2⟩:=connected_eq h hv hA
  obtain ⟨X,x1,c,x2,x3,x4⟩:=genus_both h hv hA
  have hpl:=planar_of x2 x3
  have pv : Zbq ((((N : Int),E,A,()),g,B,o,()),())=cond (!bc) (some (false,())) ((Zat (((N : Int),E,A,()),())).bind fun r3=>cond (neI r3.1 0) (some (false,())) (cond (neI (g.length : Nat) (mulI .i64 2 (E.length : Nat))) (some (false,())) (cond (neI (B.length : Nat) (mulI .i64 2 (E.length : Nat))) (some (false,())) (cond (ltI o 0) (some (false,())) (cond (geI o (maxI (mulI .i64 2 (E.length : Nat)) 1)) (some (false,())) ((Zbi ((((N : Int),E,A,()),g,B,o,()),())).bind fun r4=>cond (!r4.1) (some (false,())) ((Zbq_L8 ((N : Int),E,A,g,B,o,(N : Int),E,A,(mulI .i64 2 (E.length : Nat)),0,())).bind (Sum.elim (fun z6=>some (z6.1,())) (Sum.elim (fun z7=>(Zaw ((z7.2.2.2.2.2.2.1,(z7.2.2.2.2.2.2.2.1,(z7.2.2.2.2.2.2.2.2.1,()))),())).bind fun r8=>(Zbq_L13 (z7.1,(z7.2.1,(z7.2.2.1,(z7.2.2.2.1,(z7.2.2.2.2.1,(z7.2.2.2.2.2.1,(r8.1,((r8.1.length : Nat),(0,())))))))))).bind (Sum.elim (fun z10=>some (z10.1,())) (Sum.elim (fun z11=>some (true,())) (fun _=>none)))) (fun _=>none)))))))))):=by
   unfold Zbq
   simp only
   rw [valid_eq ((N : Int),E,A,()) hA,hv,Option.bind_some]
   simp only [Bool.not_true,cond_false]
   rw [c1,Option.bind_some]
  have e2 : mulI .i64 2 (E.length : Nat)=((2 * E.length : Nat) : Int):=by rw [mulI64 (by omega) (by omega)]; omega
  cases hbc : bc with
  | false =>
   rw [hbc] at pv c2
   have hnc : ¬ (0 < N∧Conn N E):=fun hh=>by have:=c2.2 hh; cases this
   refine ⟨false,pv,?_,fun h=>by cases h⟩
   unfold Zx
   simp only
   rw [rvalid_eq ((N : Int),E,A,()) hA,hv,Option.bind_some]
   simp only [Bool.not_true,cond_false]
   by_cases hN : 0 < N
   ·have hc1 : c≠1:=fun e=>hnc ⟨hN,(x4 hN).1 e⟩
    rw [ltI_f (by omega),cond_false,hpl,Option.bind_some,eqI_f (a:=(c : Int)) (by omega)]
    simp
   ·rw [ltI_t (by omega)]; rfl
  | true =>
   rw [hbc] at pv c2
   obtain ⟨hN,hconn⟩:=c2.1 rfl
   have hc1 : c=1:=(x4 hN).2 hconn
   subst hc1
   have rv : Zx ((((N : Int),E,A,()),g,B,o,()),())=cond (!(eqI (subI .i64 1 X) 0)) (some (13,())) (cond (neI (g.length : Nat) (mulI .i64 2 (E.length : Nat))) (some (13,())) (cond (neI (B.length : Nat) (mulI .i64 2 (E.length : Nat))) (some (13,())) ((Zak ((((N : Int),E,A,()),g,B,o,()),())).bind fun r3=>cond (!r3.1) (some (13,())) ((Zab ((((N : Int),E,A,()),g,B,o,()),())).bind fun r4=>cond (!r4.1) (some (13,())) (cond (ltI o 0) (some (13,())) (cond (gtI o 0) (cond (geI o (mulI .i64 2 (E.length : Nat))) (some (13,())) ((Zy (((N : Int),E,A,()),())).bind fun r5=>(Zx_L8 ((N : Int),E,A,g,B,o,r5.1,0,())).bind (Sum.elim (fun z7=>some (z7.1,())) (Sum.elim (fun z8=>some (0,())) (fun _=>none))))) ((Zy (((N : Int),E,A,()),())).bind fun r9=>(Zx_L8 ((N : Int),E,A,g,B,o,r9.1,0,())).bind (Sum.elim (fun z11=>some (z11.1,())) (Sum.elim (fun z12=>some (0,())) (fun _=>none)))))))))):=by
    unfold Zx
    simp only
    rw [rvalid_eq ((N : Int),E,A,()) hA,hv,Option.bind_some]
    simp only [Bool.not_true,cond_false]
    rw [ltI_f (by omega),cond_false,hpl,Option.bind_some]
    have : eqI ((1 : Nat) : Int) 1=true:=rfl
    rw [this,Bool.and_true]
    rfl
   rw [x1 hN hconn] at pv
   simp only [Bool.not_true,cond_false,Option.bind_some] at pv
   by_cases hg0 : subI .i64 1 X=0
   ·rw [neI_f hg0,cond_false,e2] at pv
    rw [eqI_t hg0,e2] at rv
    simp only [Bool.not_true,cond_false] at rv
    by_cases hgl : g.length=2 * E.length
    ·rw [neI_f (by omega),cond_false] at pv rv
     by_cases hBl : B.length=2 * E.length
     ·rw [neI_f (by omega),cond_false] at pv rv
      obtain ⟨ba,a1,a2⟩:=angAll_some h g hgl
      have hang:=angled_eq (N : Int) E A g B o (by omega) hA
      have hsum:=sums_eq E A g B o (by omega) hA
      rw [hAl] at hsum
      rw [a1] at hang hsum
      have hbp:=bends_prog (N : Int) E A g B o E.length hBl hm1 E.length 0 (by omega)
      have hbr:=rbends_eq (N : Int) E A g B o E.length hBl hm1
      rw [bends_same] at hbp
      have hbp' : Zbq_L8 ((N : Int),E,A,g,B,o,(N : Int),E,A,((2 * E.length : Nat) : Int),0,())=_:=hbp
      have hmax : maxI ((2 * E.length : Nat) : Int) 1=if 2 * E.length=0 then 1 else ((2 * E.length : Nat) : Int):=by
       unfold maxI; split <;> split <;> omega
      cases hba : ba with
      | false =>
       rw [hba] at hang hsum
       refine ⟨false,?_,?_,fun h=>by cases h⟩
       ·rw [pv,hang]
        cases ltI o 0 with
        | true=>rfl
        | false=>cases geI o (maxI ((2 * E.length : Nat) : Int) 1) <;> rfl
       ·rw [rv,hsum]; rfl
      | true =>
       rw [hba] at hang hsum a1
       cases hbb : allFrom (bendR B) 0 (2 * E.length) with
       | false =>
        rw [hbb] at hbp' hbr
        refine ⟨false,?_,?_,fun h=>by cases h⟩
        ·rw [pv,hang,hbp']
         cases ltI o 0 with
         | true=>rfl
         | false=>cases geI o (maxI ((2 * E.length : Nat) : Int) 1) <;> rfl
        ·rw [rv,hsum,hbr]; rfl
       | true =>
        rw [hbb] at hbp' hbr
        by_cases ho0 : o < 0
        ·refine ⟨false,?_,?_,fun h=>by cases h⟩
         ·rw [pv,ltI_t ho0]; rfl
         ·rw [rv,hsum,hbr,ltI_t ho0]; rfl
        ·by_cases ho1 : o < 2 * E.length∨o=0
         ·have hT : TurnOK g B (2 * E.length):=⟨by omega,hgl,hBl,fun k hk=>oth_lt hk,a2 hba,fun k hk=>by
           have:=allFrom_iff.1 hbb k (by omega) (by omega)
           unfold bendR at this
           simp only [Bool.and_eq_true] at this
           exact this.1⟩
          obtain ⟨nx,m,f0,f1,hi,r1,r2⟩:=faces_both h hv hA
          have hFI : FacesIn (2 * E.length) (facesOf nx):=by rw [← f1.len]; exact facesIn_of (by rw [f1.len]; omega) hi
          have hp:=faces_prog hT ((N : Int),E,A,()) o (facesOf nx) hFI
          have hr:=faces_ref hT ((N : Int),E,A,()) o (facesOf nx) hFI
          simp only at hp hr
          refine ⟨facesChk g B o (facesOf nx),?_,?_,fun hb=>⟨N,rfl,nx,h,hv,hN,hconn,hT,hbb,a1,by omega,ho1,f0,f1,⟨m,hi⟩,r1,r2,hb⟩⟩
          ·rw [pv,ltI_f (by omega),cond_false,hmax,geI_f (by split <;> omega),cond_false,hang,hbp']
           simp only [cond_true,Option.bind_some,Sum.elim_inl,Sum.elim_inr,Bool.not_true,cond_false]
           rw [r1,Option.bind_some]
           simp only
           rw [hp]
           cases facesChk g B o (facesOf nx) <;> rfl
          ·rw [rv,hsum,hbr]
           simp only [cond_true,Option.bind_some,Sum.elim_inl,Bool.not_true,cond_false]
           rw [ltI_f (by omega),cond_false,r2]
           simp only [Option.bind_some]
           rw [hr]
           by_cases hop : o > 0
           ·rw [gtI_t hop,cond_true,geI_f (by omega),cond_false]
            cases facesChk g B o (facesOf nx) <;> rfl
           ·rw [gtI_f (by omega),cond_false]
            cases facesChk g B o (facesOf nx) <;> rfl
         ·refine ⟨false,?_,?_,fun h=>by cases h⟩
          ·rw [pv,ltI_f (by omega),cond_false,hmax,geI_t (by split <;> omega)]; rfl
          ·rw [rv,hsum,hbr]
           simp only [cond_true,Option.bind_some,Sum.elim_inl,Bool.not_true,cond_false]
           rw [ltI_f (by omega),cond_false,gtI_t (by omega),cond_true,geI_t (by omega)]; rfl
     ·rw [neI_t (by omega)] at pv rv
      exact ⟨false,pv,rv,fun h=>by cases h⟩
    ·rw [neI_t (by omega)] at pv rv
     exact ⟨false,pv,rv,fun h=>by cases h⟩
   ·rw [neI_t hg0] at pv
    rw [eqI_f hg0] at rv
    exact ⟨false,pv,rv,fun h=>by cases h⟩
end Go.Vm

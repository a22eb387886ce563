/-
 What comes next around a vertex.
-/
import Derived.Test.YtnnbdielbgljaaaDoorP29C
set_option linter.unusedVariables false
set_option linter.unusedSimpArgs false
namespace Go.Vm
open Go.Proofs
set_option maxRecDepth 100000
attribute [local irreducible] loopFix
theorem remN (a b : Nat) : remI (a : Int) (b : Int)=((a % b : Nat) : Int):=by
 unfold remI
 rw [Int.tmod_eq_emod_of_nonneg (by omega)]; rfl
theorem nodup_idx {α : Type} {l : List α} (h : l.Nodup) {i j : Nat} (hi : i < l.length) (hj : j < l.length) (e : l[i]=l[j]) : i=j:=by
 rw [List.Nodup,List.pairwise_iff_getElem] at h
 apply Classical.byContradiction
 intro hne
 rcases Nat.lt_or_ge i j with hlt | hge
 ·exact h i j hi hj hlt e
 ·exact h j i hj hi (by omega) e.symm
def folIn (f : Nat→Nat) (l : List Int) : Nat→List Int→Int→Option (List Int⊕Empty):=fun i out d=>some (.inl (out.set (f d.toNat) (l.getD ((i+1) % l.length) 0)))
def folAll (f : Nat→Nat) (A : List (List Int)) (out : List Int) : Option (List Int⊕Empty):=foldE (fun _ out l=>foldE (folIn f l) 0 out l) 0 out A
theorem folIn_spec (f : Nat→Nat) (l out : List Int) (hinj : ∀ i j (hi : i < l.length) (hj : j < l.length),f l[i].toNat=f l[j].toNat→i=j) (hlt : ∀ d∈l,f d.toNat < out.length) :
  ∃ out',foldE (folIn f l) 0 out l=some (.inl out')∧out'.length=out.length∧(∀ i (h : i < l.length),out'[f l[i].toNat]?=some (l.getD ((i+1) % l.length) 0)) ∧
   ∀ k,(∀ d∈l,f d.toNat≠k)→out'[k]?=out[k]?:=by
 obtain ⟨t,ht⟩:=foldE_inl (g:=folIn f l) (l:=l) (i:=0) (s:=out) (fun i out d=>out.set (f d.toNat) (l.getD ((i+1) % l.length) 0)) (fun _ _ _ _=>rfl)
 have:=foldE_inv (g:=folIn f l) (I:=fun j (o : List Int)=>o.length=out.length∧(∀ i (h : i < l.length),i < j→o[f l[i].toNat]?=some (l.getD ((i+1) % l.length) 0))∧∀ k,(∀ d∈l,f d.toNat≠k)→o[k]?=out[k]?)
  (l:=l) (i:=0) (s:=out) (t:=t) (by
   intro o j d u hI hd hg
   simp only [Nat.zero_add] at hI hg ⊢
   obtain ⟨h1,h2,h3⟩:=hI
   simp only [folIn] at hg
   cases hg
   obtain ⟨hj,hjd⟩:=List.getElem?_eq_some_iff.1 hd
   refine ⟨by simpa using h1,fun i hi hij=>?_,fun k hk=>?_⟩
   ·rw [List.getElem?_set]
    by_cases e : i=j
    ·subst e
     rw [hjd,if_pos rfl,if_pos (by rw [h1]; exact hlt d (List.mem_of_getElem? hd))]
    ·rw [if_neg (fun e2=>e (hinj j i hj hi (by rw [hjd]; exact e2)).symm)]
     exact h2 i hi (by omega)
   ·rw [List.getElem?_set,if_neg (hk d (List.mem_of_getElem? hd))]
    exact h3 k hk) ⟨rfl,fun i _ h=>by omega,fun _ _=>rfl⟩ ht
 simp only [Nat.zero_add] at this
 exact ⟨t,ht,this.1,fun i h=>this.2.1 i h h,this.2.2⟩
theorem folAll_spec (f : Nat→Nat) (hf : ∀ a b,f a=f b→a=b) : ∀ (A : List (List Int)) (i : Nat) (out : List Int),A.flatten.Nodup→(∀ d∈A.flatten,∃ k : Nat,d=(k : Int))→(∀ d∈A.flatten,f d.toNat < out.length) →
  ∃ out',foldE (fun _ out l=>foldE (folIn f l) 0 out l) i out A=some (.inl out')∧out'.length=out.length∧(∀ l∈A,∀ i (h : i < l.length),out'[f l[i].toNat]?=some (l.getD ((i+1) % l.length) 0)) ∧
   ∀ k,(∀ d∈A.flatten,f d.toNat≠k)→out'[k]?=out[k]?
 | [],i,out,_,_,_=>⟨out,rfl,rfl,by simp,by simp⟩
 | l :: A,i,out,hn,hr,hlt=>by
  rw [List.flatten_cons,List.nodup_append] at hn
  obtain ⟨n1,n2,n3⟩:=hn
  have sub1 : ∀ d∈l,d∈(l :: A).flatten:=fun d hd=>by simp [hd]
  have sub2 : ∀ d∈A.flatten,d∈(l :: A).flatten:=fun d hd=>by simp only [List.flatten_cons,List.mem_append]; exact .inr hd
  have feq : ∀ a∈(l :: A).flatten,∀ b∈(l :: A).flatten,f a.toNat=f b.toNat→a=b:=by
   intro a ha b hb e
   obtain ⟨j,rfl⟩:=hr a ha
   obtain ⟨j',rfl⟩:=hr b hb
   have:=hf _ _ e
   simp at this
   rw [this]
  obtain ⟨o1,e1,e2,e3,e4⟩:=folIn_spec f l out (fun i j hi hj e=>by
   have:=feq _ (sub1 _ (List.getElem_mem hi)) _ (sub1 _ (List.getElem_mem hj)) e
   exact nodup_idx n1 hi hj this) (fun d hd=>hlt d (sub1 d hd))
  obtain ⟨o2,g1,g2,g3,g4⟩:=folAll_spec f hf A (i+1) o1 n2 (fun d hd=>hr d (sub2 d hd)) (fun d hd=>by rw [e2]; exact hlt d (sub2 d hd))
  refine ⟨o2,?_,by omega,?_,?_⟩
  ·simp only [foldE,e1,Option.bind_some,Sum.elim_inl]; exact g1
  ·intro l' hl' j hj
   rcases List.mem_cons.1 hl' with rfl | hl'
   ·rw [g4 _ (fun d hd e=>by
     have:=feq _ (sub2 d hd) _ (sub1 _ (List.getElem_mem hj)) e
     exact n3 _ (List.getElem_mem hj) d hd this.symm)]
    exact e3 j hj
   ·exact g3 l' hl' j hj
  ·intro k hk
   rw [g4 k (fun d hd=>hk d (sub2 d hd)),e4 k (fun d hd=>hk d (sub1 d hd))]
theorem fol_inner (l out : List Int) (A A' : List (List Int)) (c v : Int) (hl : l.length≤65536) (hr : ∀ d∈l,∃ k : Nat,d=(k : Int)∧oth k < out.length∧k < 65536) :
  Zap_L6 (out,l,A,c,v,l,(l.length : Nat),0,())=(foldE (folIn oth l) 0 out l).bind (Sum.elim (fun t=>some (.inl (t,A,c,v,()))) (fun e=>nomatch e)):=by
 refine (scanI (B:=Zap_B6) (fun _ o=>o.length=out.length) (fun s i=>(s,l,A,c,v,l,((l.length : Nat) : Int),(i : Int),())) (fun s=>.inl (s,A,c,v,())) (fun e=>nomatch e) (folIn oth l) l ?_ ?_ ?_ out rfl).trans ?_
 ·intro s i d hs hd
  have hi : i < l.length:=(List.getElem?_eq_some_iff.1 hd).1
  obtain ⟨k,rfl,hk,hk2⟩:=hr d (List.mem_of_getElem? hd)
  simp only [Zap_B6]
  rw [ltI_t (by omega),cond_true,getI_of,hd,Option.bind_some,eqI_f (by omega),cond_false,add1 (by omega),remN,getI_of]
  have hm : (i+1) % l.length < l.length:=Nat.mod_lt _ (by omega)
  rw [List.getElem?_eq_getElem hm,Option.bind_some,xor1 (by omega),idxI_of (by omega),Option.bind_some]
  obtain ⟨z,hz⟩ : ∃ z,s[oth k]?=some z:=⟨_,List.getElem?_eq_getElem (by omega)⟩
  rw [hz,Option.bind_some]
  simp only [folIn,Option.bind_some,Sum.elim_inl,Int.toNat_natCast]
  rw [List.getD_eq_getElem?_getD,List.getElem?_eq_getElem hm]
  rfl
 ·intro s i d t hs hd hg
  simp only [folIn] at hg
  cases hg; simpa using hs
 ·intro s hs
  simp only [Zap_B6]
  rw [ltI_f (by omega)]; rfl
 ·cases foldE (folIn oth l) 0 out l with
  | none=>rfl
  | some x=>cases x with
   | inl t=>rfl
   | inr e=>exact nomatch e
theorem rfol_inner (N : Int) (E : List Arc) (A : List (List Int)) (l out : List Int) (v : Int) (hl : l.length≤65536) (hr : ∀ d∈l,∃ k : Nat,d=(k : Int)∧k < out.length) :
  Zn_L7 (N,E,A,out,v,l,0,())=(foldE (folIn id l) 0 out l).bind (Sum.elim (fun t=>some (.inl (N,E,A,t,v,()))) (fun e=>nomatch e)):=by
 refine (scanI (B:=Zn_B7) (fun _ o=>o.length=out.length) (fun s i=>(N,E,A,s,v,l,(i : Int),())) (fun s=>.inl (N,E,A,s,v,())) (fun e=>nomatch e) (folIn id l) l ?_ ?_ ?_ out rfl).trans ?_
 ·intro s i d hs hd
  have hi : i < l.length:=(List.getElem?_eq_some_iff.1 hd).1
  obtain ⟨k,rfl,hk⟩:=hr d (List.mem_of_getElem? hd)
  simp only [Zn_B7]
  rw [ltI_t (by omega),cond_true,getI_of,hd,Option.bind_some,eqI_f (by omega),cond_false,add1 (by omega),remN,getI_of]
  have hm : (i+1) % l.length < l.length:=Nat.mod_lt _ (by omega)
  rw [List.getElem?_eq_getElem hm,Option.bind_some,idxI_of (by omega),Option.bind_some]
  obtain ⟨z,hz⟩ : ∃ z,s[k]?=some z:=⟨_,List.getElem?_eq_getElem (by omega)⟩
  rw [hz,Option.bind_some]
  simp only [folIn,Option.bind_some,Sum.elim_inl,Int.toNat_natCast,id]
  rw [List.getD_eq_getElem?_getD,List.getElem?_eq_getElem hm]
  rfl
 ·intro s i d t hs hd hg
  simp only [folIn] at hg
  cases hg; simpa using hs
 ·intro s hs
  simp only [Zn_B7]
  rw [ltI_f (by omega)]; rfl
 ·cases foldE (folIn id l) 0 out l with
  | none=>rfl
  | some x=>cases x with
   | inl t=>rfl
   | inr e=>exact nomatch e
section
variable {N : Int} {E : List Arc} {A : List (List Int)}
theorem RotOK.mem_of {N : Int} {E : List Arc} {A : List (List Int)} (h : RotOK N E A) {l : List Int} (hl : l∈A) {d : Int} (hd : d∈l) : ∃ k : Nat,d=(k : Int)∧k < 2 * E.length:=by
 obtain ⟨v,hv⟩:=List.mem_iff_getElem?.1 hl
 obtain ⟨k,k1,k2,_⟩:=h.dart v l hv d hd
 exact ⟨k,k1,k2⟩
theorem RotOK.mem_flat (h : RotOK N E A) {d : Int} (hd : d∈A.flatten) : ∃ k : Nat,d=(k : Int)∧k < 2 * E.length:=by
 obtain ⟨l,hl,hdl⟩:=List.mem_flatten.1 hd
 exact h.mem_of hl hdl
theorem RotOK.list_len (h : RotOK N E A) {l : List Int} (hl : l∈A) : l.length≤2 * E.length:=by
 have h1:=h.all
 have : l.length≤A.flatten.length:=(List.sublist_flatten_of_mem hl).length_le
 omega
structure Fol (f : Nat→Nat) (E : List Arc) (A : List (List Int)) (o : List Int) : Prop where
 len : o.length=2 * E.length
 get : ∀ l∈A,∀ i (h : i < l.length),o[f l[i].toNat]?=some (l.getD ((i+1) % l.length) 0)
theorem fol_outer (h : RotOK N E A) (out : List Int) (ho : out.length=2 * E.length) : ∃ o,Zap_L3 (out,A,(A.length : Nat),0,())=some (.inl (o,()))∧Fol oth E A o:=by
 have h16 : A.length≤16384:=by have:=h.len; have:=h.n1; omega
 have hm1:=h.m1
 obtain ⟨o,e1,e2,e3,_⟩:=folAll_spec oth (fun a b e=>by rw [← oth_oth a,e,oth_oth]) A 0 out h.nodup (fun d hd=>by obtain ⟨k,hk,_⟩:=h.mem_flat hd; exact ⟨k,hk⟩) (fun d hd=>by
  obtain ⟨k,rfl,hk⟩:=h.mem_flat hd
  rw [ho]; exact oth_lt (by simpa using hk))
 have key:=scanI (B:=Zap_B3) (ε:=Empty) (fun _ (o : List Int)=>o.length=2 * E.length) (fun s i=>(s,A,((A.length : Nat) : Int),(i : Int),())) (fun s=>.inl (s,())) (fun e=>nomatch e) (fun _ out l=>foldE (folIn oth l) 0 out l) A (by
   intro s i l hs hd
   have hi : i < A.length:=(List.getElem?_eq_some_iff.1 hd).1
   have hl:=List.mem_of_getElem? hd
   have hll:=h.list_len hl
   simp only [Zap_B3]
   rw [ltI_t (by omega),cond_true,getI_of,hd,Option.bind_some,fol_inner l s A A _ _ (by omega) (fun d hd=>by
    obtain ⟨k,rfl,hk⟩:=h.mem_of hl hd
    exact ⟨k,rfl,by rw [hs]; exact oth_lt hk,by omega⟩)]
   cases foldE (folIn oth l) 0 s l with
   | none=>rfl
   | some x=>cases x with
    | inl t=>simp only [Option.bind_some,Sum.elim_inl]; rw [add1 (by omega)]
    | inr e=>exact nomatch e) (by
   intro s i l t hs hd hg
   have hl:=List.mem_of_getElem? hd
   obtain ⟨o,e1,e2,_⟩:=folIn_spec oth l s (fun i j hi hj e=>by
    have e:=(by rw [← oth_oth l[i].toNat,e,oth_oth] : l[i].toNat=l[j].toNat)
    obtain ⟨a,ha,_⟩:=h.mem_of hl (List.getElem_mem hi)
    obtain ⟨b,hb,_⟩:=h.mem_of hl (List.getElem_mem hj)
    rw [ha,hb] at e
    simp at e
    have hnd : l.Nodup:=(List.sublist_flatten_of_mem hl).nodup h.nodup
    exact nodup_idx hnd hi hj (by rw [ha,hb,e])) (fun d hd=>by
    obtain ⟨k,rfl,hk⟩:=h.mem_of hl hd
    rw [hs]; exact oth_lt (by simpa using hk))
   rw [e1] at hg; cases hg
   omega) (by
   intro s hs
   simp only [Zap_B3]
   rw [ltI_f (by omega)]; rfl) out ho
 rw [show foldE (fun _ out l=>foldE (folIn oth l) 0 out l) 0 out A=some (.inl o) from e1] at key
 exact ⟨o,key,by omega,e3⟩
theorem rfol_outer (h : RotOK N E A) (out : List Int) (ho : out.length=2 * E.length) : ∃ o,Zn_L3 ((A.length : Nat),E,A,out,0,())=some (.inl (o,()))∧Fol id E A o:=by
 have h16 : A.length≤16384:=by have:=h.len; have:=h.n1; omega
 have hm1:=h.m1
 obtain ⟨o,e1,e2,e3,_⟩:=folAll_spec id (fun a b e=>e) A 0 out h.nodup (fun d hd=>by obtain ⟨k,hk,_⟩:=h.mem_flat hd; exact ⟨k,hk⟩) (fun d hd=>by
  obtain ⟨k,rfl,hk⟩:=h.mem_flat hd
  rw [ho]; simpa using hk)
 have key:=scanI (B:=Zn_B3) (ε:=Empty) (fun _ (o : List Int)=>o.length=2 * E.length) (fun s i=>(((A.length : Nat) : Int),E,A,s,(i : Int),())) (fun s=>.inl (s,())) (fun e=>nomatch e) (fun _ out l=>foldE (folIn id l) 0 out l) A (by
   intro s i l hs hd
   have hi : i < A.length:=(List.getElem?_eq_some_iff.1 hd).1
   have hl:=List.mem_of_getElem? hd
   have hll:=h.list_len hl
   simp only [Zn_B3]
   rw [ltI_t (by omega),cond_true,getI_of,hd,Option.bind_some,rfol_inner _ E A l s _ (by omega) (fun d hd=>by
    obtain ⟨k,rfl,hk⟩:=h.mem_of hl hd
    exact ⟨k,rfl,by omega⟩)]
   cases foldE (folIn id l) 0 s l with
   | none=>rfl
   | some x=>cases x with
    | inl t=>simp only [Option.bind_some,Sum.elim_inl]; rw [add1 (by omega)]
    | inr e=>exact nomatch e) (by
   intro s i l t hs hd hg
   have hl:=List.mem_of_getElem? hd
   obtain ⟨o,e1,e2,_⟩:=folIn_spec id l s (fun i j hi hj e=>by
    obtain ⟨a,ha,_⟩:=h.mem_of hl (List.getElem_mem hi)
    obtain ⟨b,hb,_⟩:=h.mem_of hl (List.getElem_mem hj)
    rw [ha,hb] at e
    simp at e
    have hnd : l.Nodup:=(List.sublist_flatten_of_mem hl).nodup h.nodup
    exact nodup_idx hnd hi hj (by rw [ha,hb,e])) (fun d hd=>by
    obtain ⟨k,rfl,hk⟩:=h.mem_of hl hd
    rw [hs]; simpa using hk)
   rw [e1] at hg; cases hg
   omega) (by
   intro s hs
   simp only [Zn_B3]
   rw [ltI_f (by omega)]; rfl) out ho
 rw [show foldE (fun _ out l=>foldE (folIn id l) 0 out l) 0 out A=some (.inl o) from e1] at key
 exact ⟨o,key,by omega,e3⟩
theorem follow_eq (h : RotOK N E A) (u : Unit) : ∃ o,Zap ((N,E,A,u),())=some (o,())∧Fol oth E A o:=by
 have hm1:=h.m1
 unfold Zap
 simp only
 have e2 : mulI .i64 2 (E.length : Nat)=((2 * E.length : Nat) : Int):=by rw [mulI64 (by omega) (by omega)]; omega
 obtain ⟨o,h1,h2⟩:=fol_outer h (List.replicate (2 * E.length) (zeroVal (.int .i64))) (by simp)
 rw [e2,makeL_of (Nat.le_refl _) (by omega),Option.bind_some]
 refine ⟨o,?_,h2⟩
 rw [show Zap_L3 (List.replicate (2 * E.length) (zeroVal (.int .i64)),A,(A.length : Nat),0,())=_ from h1]
 rfl
theorem rfollow_eq (h : RotOK N E A) (u : Unit) : ∃ o,Zn ((N,E,A,u),())=some (o,())∧Fol id E A o:=by
 have hm1:=h.m1
 unfold Zn
 simp only
 have e2 : mulI .i64 2 (E.length : Nat)=((2 * E.length : Nat) : Int):=by rw [mulI64 (by omega) (by omega)]; omega
 obtain ⟨o,h1,h2⟩:=rfol_outer h (List.replicate (2 * E.length) (zeroVal (.int .i64))) (by simp)
 rw [e2,makeL_of (Nat.le_refl _) (by omega),Option.bind_some,← h.len]
 refine ⟨o,?_,h2⟩
 rw [show Zn_L3 ((A.length : Nat),E,A,List.replicate (2 * E.length) (zeroVal (.int .i64)),0,())=_ from h1]
 rfl
theorem fol_both (h : RotOK N E A) {o o' : List Int} (h1 : Fol oth E A o) (h2 : Fol id E A o') {k : Nat} (hk : k < 2 * E.length) : ∃ y : Nat,y < 2 * E.length∧o[k]?=some (y : Int)∧o'[oth k]?=some (y : Int):=by
 have:=h.mem (oth_lt hk)
 obtain ⟨l,hl,hd⟩:=List.mem_flatten.1 this
 obtain ⟨i,hi,hid⟩:=List.getElem_of_mem hd
 have g1:=h1.get l hl i hi
 have g2:=h2.get l hl i hi
 rw [hid] at g1 g2
 simp only [Int.toNat_natCast,oth_oth,id] at g1 g2
 have hm : (i+1) % l.length < l.length:=Nat.mod_lt _ (by omega)
 rw [List.getD_eq_getElem?_getD,List.getElem?_eq_getElem hm,Option.getD_some] at g1 g2
 obtain ⟨y,hy,hy2⟩:=h.mem_of hl (List.getElem_mem hm)
 rw [hy] at g1 g2
 exact ⟨y,hy2,g1,g2⟩
end
end Go.Vm

/-
 Bends; turns.
-/
import Derived.Test.YtnnbdielbgljaaaDoorP39A
set_option linter.unusedVariables false
set_option linter.unusedSimpArgs false
namespace Go.Vm
open Go.Proofs
set_option maxRecDepth 100000
attribute [local irreducible] loopFix
def allFrom (f : Nat→Bool) : Nat→Nat→Bool
 | _,0=>true
 | j,r+1=>f j && allFrom f (j+1) r
theorem allFrom_iff {f : Nat→Bool} : ∀ {r j : Nat},allFrom f j r=true↔∀ i,j≤i→i < j+r→f i=true
 | 0,j=>by simp [allFrom]; intro i h1 h2; omega
 | r+1,j=>by
  simp only [allFrom,Bool.and_eq_true,allFrom_iff]
  constructor
  ·rintro ⟨h1,h2⟩ i hi hi2
   rcases Nat.eq_or_lt_of_le hi with rfl | hlt
   ·exact h1
   ·exact h2 i hlt (by omega)
  ·intro h
   exact ⟨h j (Nat.le_refl _) (by omega),fun i h1 h2=>h i (by omega) (by omega)⟩
def lr (c : Int) : Bool:=c == 76 || c == 82
def rev (s : ByteArray) : ByteArray:=ofBytes ((bytesOf s).reverse.map sw)
theorem swapped_lr (c : Int) : Zbg (c,())=some (sw c,(lr c,())):=by
 unfold Zbg sw lr
 simp only
 by_cases h1 : c=76
 ·subst h1; rfl
 ·rw [eqI_f h1,cond_false,if_neg h1]
  by_cases h2 : c=82
  ·subst h2; rfl
  ·rw [eqI_f h2,cond_false,if_neg h2]
   have e1 : (c == 76)=false:=by simpa using h1
   have e2 : (c == 82)=false:=by simpa using h2
   rw [e1,e2]; rfl
def bentB (s : ByteArray) : Bool:=decide (s.size≤64) && (bytesOf s).all lr
theorem bent_loop (l : List Int) (hl : l.length < 9223372036854775807) : ∀ (q p : List Int),p++q=l→Zbr_L4 (l,((l.length : Nat) : Int),((p.length : Nat) : Int),())=some (cond (q.all lr) (.inr (.inl ())) (.inl (false,()))):=by
 intro q
 induction q with
 | nil =>
  intro p hp
  refine loop_done ?_
  simp only [Zbr_B4]
  rw [ltI_f (by rw [← hp]; simp)]; rfl
 | cons c q ih =>
  intro p hp
  have hpl : p.length < l.length:=by rw [← hp]; simp
  have hc : l[p.length]?=some c:=by rw [← hp]; simp
  cases e : lr c with
  | false =>
   refine loop_done ?_
   simp only [Zbr_B4]
   rw [ltI_t (by omega),cond_true,idxI_of hpl,Option.bind_some,hc,Option.bind_some,swapped_lr,Option.bind_some,e]
   simp [e]
  | true =>
   have hs : Zbr_B4 (l,((l.length : Nat) : Int),((p.length : Nat) : Int),())=some (.inl (l,((l.length : Nat) : Int),(((p++[c]).length : Nat) : Int),())):=by
    simp only [Zbr_B4]
    rw [ltI_t (by omega),cond_true,idxI_of hpl,Option.bind_some,hc,Option.bind_some,swapped_lr,Option.bind_some,e,add1 (by omega)]
    simp
   refine (loop_step hs).trans ((ih (p++[c]) (by simp [hp])).trans ?_)
   simp [e]
theorem bent_eq (s : ByteArray) : Zbr (s,())=some (bentB s,()):=by
 unfold Zbr bentB
 simp only
 have hl:=bytesOf_length s
 by_cases h : s.size≤64
 ·rw [gtI_f (by omega),cond_false,show Zbr_L4 (bytesOf s,((bytesOf s).length : Nat),0,())=_ from bent_loop (bytesOf s) (by omega) (bytesOf s) [] rfl]
  simp only [h,decide_true,Bool.true_and]
  cases (bytesOf s).all lr <;> rfl
 ·rw [gtI_t (by omega)]
  simp [h]
theorem sw_lr (c : Int) : lr (sw c)=lr c:=by
 unfold sw lr
 split
 ·rename_i h; subst h; rfl
 ·split
  ·rename_i h; subst h; rfl
  ·rfl
theorem rev_size (s : ByteArray) : (rev s).size=s.size:=by
 have:=bytesOf_length s
 unfold rev
 rw [size_ofBytes]; simp [this]
theorem bytes_rev (s : ByteArray) : bytesOf (rev s)=(bytesOf s).reverse.map sw:=by
 unfold rev
 refine bytesOf_ofBytes fun n hn=>?_
 obtain ⟨c,hc,rfl⟩:=List.mem_map.1 hn
 exact sw_range (bytesOf_range c (List.mem_reverse.1 hc))
theorem rev_rev (s : ByteArray) : rev (rev s)=s:=by
 have e : ((bytesOf s).reverse.map sw).reverse.map sw=bytesOf s:=by
  rw [← List.map_reverse,List.reverse_reverse,List.map_map]
  have : (sw ∘ sw)=id:=by funext c; exact sw_sw c
  rw [this,List.map_id]
 rw [rev,bytes_rev,e,ofBytes_bytesOf]
theorem bent_rev (s : ByteArray) : bentB (rev s)=bentB s:=by
 unfold bentB
 rw [rev_size,bytes_rev]
 congr 1
 rw [List.all_map,List.all_reverse]
 have : lr ∘ sw=lr:=by funext c; exact sw_lr c
 rw [this]
abbrev at0 (B : List ByteArray) (d : Nat) : ByteArray:=B.getD d ByteArray.empty
theorem at0_of {B : List ByteArray} {d : Nat} (h : d < B.length) : B[d]?=some (at0 B d):=by
 unfold at0
 rw [List.getD_eq_getElem?_getD,List.getElem?_eq_getElem h]; rfl
def bendP (B : List ByteArray) (j : Nat) : Bool:=bentB (at0 B (2 * j)) && eqS (at0 B (2 * j+1)) (rev (at0 B (2 * j)))
def bendR (B : List ByteArray) (d : Nat) : Bool:=bentB (at0 B d) && eqS (at0 B (oth d)) (rev (at0 B d))
theorem bends_same (B : List ByteArray) (m : Nat) : allFrom (bendP B) 0 m=allFrom (bendR B) 0 (2 * m):=by
 rw [Bool.eq_iff_iff,allFrom_iff,allFrom_iff]
 constructor
 ·intro h d _ hd'
  have hj:=h (d / 2) (by omega) (by omega)
  unfold bendP at hj
  unfold bendR
  simp only [Bool.and_eq_true,eqS_iff] at hj ⊢
  rcases Nat.mod_two_eq_zero_or_one d with e | e
  ·have e1 : 2 * (d / 2)=d:=by omega
   have e2 : oth d=d+1:=by unfold oth; rw [if_pos e]
   rw [e1] at hj
   rw [e2]; exact hj
  ·have e1 : 2 * (d / 2)+1=d:=by omega
   have e2 : oth d=2 * (d / 2):=by unfold oth; rw [if_neg (by omega)]; omega
   rw [e1] at hj
   rw [e2,hj.2,bent_rev,rev_rev]
   exact ⟨hj.1,rfl⟩
 ·intro h j _ hj
  have hd':=h (2 * j) (by omega) (by omega)
  unfold bendR at hd'
  unfold bendP
  have e2 : oth (2 * j)=2 * j+1:=by unfold oth; rw [if_pos (by omega)]
  rw [e2] at hd'
  exact hd'
theorem neS_not (a b : ByteArray) : neS a b=!(eqS a b):=rfl
theorem bends_prog (N : Int) (E : List Arc) (A : List (List Int)) (g : List Int) (B : List ByteArray) (o : Int) (m : Nat) (hB : B.length=2 * m) (hm : m≤32768) : ∀ (r j : Nat),j+r=m →
  Zbq_L8 (N,E,A,g,B,o,N,E,A,((2 * m : Nat) : Int),((2 * j : Nat) : Int),())=some (cond (allFrom (bendP B) j r) (.inr (.inl (N,E,A,g,B,o,N,E,A,()))) (.inl (false,()))):=by
 intro r
 induction r with
 | zero =>
  intro j hj
  refine loop_done ?_
  simp only [Zbq_B8]
  rw [ltI_f (by omega)]; rfl
 | succ r ih =>
  intro j hj
  have h0 : B[2 * j]?=some (at0 B (2 * j)):=at0_of (by omega)
  have h1 : B[2 * j+1]?=some (at0 B (2 * j+1)):=at0_of (by omega)
  have hstep : Zbq_B8 (N,E,A,g,B,o,N,E,A,((2 * m : Nat) : Int),((2 * j : Nat) : Int),())=some (cond (bendP B j) (.inl (N,E,A,g,B,o,N,E,A,((2 * m : Nat) : Int),((2 * (j+1) : Nat) : Int),())) (.inr (.inl (false,())))):=by
   simp only [Zbq_B8]
   rw [ltI_t (by omega),cond_true,getI_of,h0,Option.bind_some,bent_eq,Option.bind_some]
   unfold bendP
   simp only
   cases hb : bentB (at0 B (2 * j)) with
   | false=>rfl
   | true =>
    have hsz : (at0 B (2 * j)).size≤64:=by
     unfold bentB at hb
     simp only [Bool.and_eq_true,decide_eq_true_eq] at hb
     exact hb.1
    rw [add1 (by omega),getI_of,h1]
    simp only [Bool.not_true,cond_false,Option.bind_some]
    rw [reverse_eq _ (by omega),Option.bind_some,neS_not]
    rw [show addI .i64 ((2 * j : Nat) : Int) 2=((2 * (j+1) : Nat) : Int) by rw [addI64 (by omega) (by omega)]; omega]
    show cond (!(eqS (at0 B (2 * j+1)) (rev (at0 B (2 * j))))) _ _=_
    cases eqS (at0 B (2 * j+1)) (rev (at0 B (2 * j))) <;> rfl
  cases hb : bendP B j with
  | false =>
   rw [hb] at hstep
   simp only [allFrom,hb,Bool.false_and,cond_false]
   exact loop_done hstep
  | true =>
   rw [hb] at hstep
   simp only [allFrom,hb,Bool.true_and]
   exact (loop_step hstep).trans (ih (j+1) (by omega))
theorem letters_loop (N : Int) (E : List Arc) (A : List (List Int)) (g : List Int) (B : List ByteArray) (o : Int) (d : Nat) (s : ByteArray) (hs : B[d]?=some s) (hsz : s.size≤64) : ∀ (r i : Nat),i+r=s.size →
  Zab_L7 (N,E,A,g,B,o,(d : Int),(i : Int),())=some (cond (((bytesOf s).drop i).all lr) (.inr (.inl (N,E,A,g,B,o,(d : Int),()))) (.inl (false,()))):=by
 have hl:=bytesOf_length s
 intro r
 induction r with
 | zero =>
  intro i hi
  refine loop_done ?_
  simp only [Zab_B7]
  rw [getI_of,hs,Option.bind_some,ltI_f (by omega)]
  rw [List.drop_eq_nil_of_le (by omega)]; rfl
 | succ r ih =>
  intro i hi
  obtain ⟨c,hc⟩ : ∃ c,s.data.toList[i]?=some c:=⟨_,List.getElem?_eq_getElem (by rw [Array.length_toList]; show i < s.size; omega)⟩
  have hb:=byte_at s i
  rw [hc] at hb
  have hd' : (bytesOf s).drop i=(c.toNat : Int) :: (bytesOf s).drop (i+1):=by
   have hi2 : i < (bytesOf s).length:=by omega
   rw [List.drop_eq_getElem_cons hi2]
   have:=List.getElem?_eq_getElem hi2
   rw [← hb] at this
   simp only [Option.map_some,Option.some.injEq] at this
   rw [this]
  have hstep : Zab_B7 (N,E,A,g,B,o,(d : Int),(i : Int),())=some (cond (lr (c.toNat : Int)) (.inl (N,E,A,g,B,o,(d : Int),((i+1 : Nat) : Int),())) (.inr (.inl (false,())))):=by
   simp only [Zab_B7]
   rw [getI_of,hs,Option.bind_some,ltI_t (by omega),cond_true,Option.bind_some,getI_of,hc,Option.bind_some,add1 (by omega)]
   unfold lr
   by_cases e1 : (c.toNat : Int)=76
   ·rw [neI_f e1]
    have : ((c.toNat : Int) == 76)=true:=by simpa using e1
    rw [this]; rfl
   ·rw [neI_t e1]
    have e1' : ((c.toNat : Int) == 76)=false:=by simpa using e1
    rw [e1']
    simp only [cond_true,Option.bind_some]
    rw [getI_of,hc,Option.bind_some]
    by_cases e2 : (c.toNat : Int)=82
    ·rw [neI_f e2]
     have : ((c.toNat : Int) == 82)=true:=by simpa using e2
     rw [this]; rfl
    ·rw [neI_t e2]
     have : ((c.toNat : Int) == 82)=false:=by simpa using e2
     rw [this]; rfl
  rw [hd',List.all_cons]
  cases hb2 : lr (c.toNat : Int) with
  | false =>
   rw [hb2] at hstep
   exact loop_done hstep
  | true =>
   rw [hb2] at hstep
   exact (loop_step hstep).trans (ih (i+1) (by omega))
theorem bends_ref (N : Int) (E : List Arc) (A : List (List Int)) (g : List Int) (B : List ByteArray) (o : Int) (m : Nat) (hB : B.length=2 * m) (hm : m≤32768) : ∀ (r d : Nat),d+r=2 * m →
  Zab_L2 (N,E,A,g,B,o,(d : Int),())=some (cond (allFrom (bendR B) d r) (.inr (.inl ())) (.inl (false,()))):=by
 intro r
 induction r with
 | zero =>
  intro d hd'
  refine loop_done ?_
  simp only [Zab_B2]
  rw [ltI_f (by omega)]; rfl
 | succ r ih =>
  intro d hd'
  have h0 : B[d]?=some (at0 B d):=at0_of (by omega)
  have h1 : B[oth d]?=some (at0 B (oth d)):=at0_of (by rw [hB]; exact oth_lt (by omega))
  have hstep : Zab_B2 (N,E,A,g,B,o,(d : Int),())=some (cond (bendR B d) (.inl (N,E,A,g,B,o,((d+1 : Nat) : Int),())) (.inr (.inl (false,())))):=by
   simp only [Zab_B2]
   rw [ltI_t (by omega),cond_true,getI_of,h0,Option.bind_some]
   unfold bendR bentB
   by_cases hsz : (at0 B d).size≤64
   ·rw [gtI_f (by omega),cond_false,xor1 (by omega),getI_of,h1,Option.bind_some,Option.bind_some,refreverse_eq _ (by omega),Option.bind_some,neS_not]
    show cond (!(eqS (at0 B (oth d)) (rev (at0 B d)))) _ _=_
    have hlet:=letters_loop N E A g B o d (at0 B d) h0 hsz (at0 B d).size 0 (by omega)
    rw [show Zab_L7 (N,E,A,g,B,o,(d : Int),0,())=_ from hlet,List.drop_zero]
    simp only [hsz,decide_true,Bool.true_and]
    have ea : addI .i64 (d : Int) 1=((d+1 : Nat) : Int):=add1 (by omega)
    cases eqS (at0 B (oth d)) (rev (at0 B d)) <;> cases (bytesOf (at0 B d)).all lr <;> simp [ea]
   ·have e : decide ((at0 B d).size≤64)=false:=by simpa using hsz
    rw [gtI_t (by omega),e]; rfl
  cases hb : bendR B d with
  | false =>
   rw [hb] at hstep
   simp only [allFrom,hb,Bool.false_and,cond_false]
   exact loop_done hstep
  | true =>
   rw [hb] at hstep
   simp only [allFrom,hb,Bool.true_and]
   exact (loop_step hstep).trans (ih (d+1) (by omega))
theorem rbends_eq (N : Int) (E : List Arc) (A : List (List Int)) (g : List Int) (B : List ByteArray) (o : Int) (m : Nat) (hB : B.length=2 * m) (hm : m≤32768) :
  Zab (((N,E,A,()),g,B,o,()),())=some (allFrom (bendR B) 0 (2 * m),()):=by
 unfold Zab
 simp only
 rw [show Zab_L2 (N,E,A,g,B,o,0,())=_ from bends_ref N E A g B o m hB hm (2 * m) 0 (by omega)]
 cases allFrom (bendR B) 0 (2 * m) <;> rfl
def bz : List Int→Int
 | []=>0
 | c :: l=>(if c=76 then 1 else -1)+bz l
theorem bz_bound : ∀ l : List Int,-(l.length : Int)≤bz l∧bz l≤l.length
 | []=>by simp [bz]
 | c :: l=>by
  have:=bz_bound l
  simp only [bz,List.length_cons]
  split <;> omega
def tnZ (g : List Int) (B : List ByteArray) (d : Nat) : Int:=bz (bytesOf (at0 B d))+2 - g.getD (oth d) 0
def tsZ (g : List Int) (B : List ByteArray) : List Int→Int
 | []=>0
 | d :: f=>tnZ g B d.toNat+tsZ g B f
structure TurnOK (g : List Int) (B : List ByteArray) (L : Nat) : Prop where
 small : L≤65536
 glen : g.length=L
 blen : B.length=L
 even : ∀ k,k < L→oth k < L
 ang : ∀ k,k < L→∃ a,g[k]?=some a∧1≤a∧a≤4
 bend : ∀ k,k < L→bentB (at0 B k)=true
theorem TurnOK.bound {g : List Int} {B : List ByteArray} {L : Nat} (h : TurnOK g B L) {d : Nat} (hd' : d < L) : -66≤tnZ g B d∧tnZ g B d≤66∧(at0 B d).size≤64:=by
 obtain ⟨a,ha,h1,h2⟩:=h.ang (oth d) (h.even d hd')
 have hb:=h.bend d hd'
 unfold bentB at hb
 simp only [Bool.and_eq_true,decide_eq_true_eq] at hb
 have:=bz_bound (bytesOf (at0 B d))
 have hl:=bytesOf_length (at0 B d)
 have hg : g.getD (oth d) 0=a:=by rw [List.getD_eq_getElem?_getD,ha]; rfl
 unfold tnZ
 rw [hg]
 omega
theorem turn_loop (l : List Int) (hl : l.length≤1000) : ∀ (q p : List Int) (n : Int),p++q=l→-1000 - (p.length : Int)≤n→n≤1000+p.length→Zbs_L3 (l,n,((l.length : Nat) : Int),((p.length : Nat) : Int),())=some (.inl (n+bz q,())):=by
 intro q
 induction q with
 | nil =>
  intro p n hp h1 h2
  refine loop_done ?_
  simp only [Zbs_B3]
  rw [ltI_f (by rw [← hp]; simp)]
  simp [bz]
 | cons c q ih =>
  intro p n hp h1 h2
  have hpl : p.length < l.length:=by rw [← hp]; simp
  have hc : l[p.length]?=some c:=by rw [← hp]; simp
  have hs : Zbs_B3 (l,n,((l.length : Nat) : Int),((p.length : Nat) : Int),())=some (.inl (l,n+(if c=76 then 1 else -1),((l.length : Nat) : Int),(((p++[c]).length : Nat) : Int),())):=by
   simp only [Zbs_B3]
   rw [ltI_t (by omega),cond_true,idxI_of hpl,Option.bind_some,hc,Option.bind_some,add1 (by omega)]
   by_cases e : c=76
   ·rw [eqI_t e,cond_true,addI64 (by omega) (by omega),if_pos e]; simp
   ·rw [eqI_f e,cond_false,subI64 (by omega) (by omega),if_neg e]; simp; omega
  refine (loop_step hs).trans ((ih (p++[c]) _ (by simp [hp]) ?_ ?_).trans ?_)
  ·simp only [List.length_append,List.length_singleton]; split <;> omega
  ·simp only [List.length_append,List.length_singleton]; split <;> omega
  ·simp only [bz]
   congr 3
   omega
theorem turn_eq {g : List Int} {B : List ByteArray} {L : Nat} (h : TurnOK g B L) (r : Rot) (o : Int) {d : Nat} (hd' : d < L) : Zbs (((r.1,r.2.1,r.2.2.1,()),g,B,o,()),(d : Int),())=some (tnZ g B d,()):=by
 have hsm:=h.small
 obtain ⟨a,ha,h1,h2⟩:=h.ang (oth d) (h.even d hd')
 obtain ⟨_,_,hsz⟩:=h.bound hd'
 have hl:=bytesOf_length (at0 B d)
 unfold Zbs
 simp only
 rw [xor1 (by omega),getI_of,ha,Option.bind_some,getI_of,at0_of (by rw [h.blen]; exact hd'),Option.bind_some,subI64 (by omega) (by omega)]
 rw [show Zbs_L3 (bytesOf (at0 B d),2 - a,((bytesOf (at0 B d)).length : Nat),0,())=_ from turn_loop (bytesOf (at0 B d)) (by omega) (bytesOf (at0 B d)) [] (2 - a) rfl (by simp; omega) (by simp; omega)]
 have hg : g.getD (oth d) 0=a:=by rw [List.getD_eq_getElem?_getD,ha]; rfl
 simp only [Option.bind_some,Sum.elim_inl,tnZ,hg]
 congr 2
 omega
theorem turns_eq {g : List Int} {B : List ByteArray} {L : Nat} (h : TurnOK g B L) (r : Rot) (o : Int) (f : List Int) (hf : ∀ x∈f,∃ k : Nat,x=(k : Int)∧k < L) (hfl : f.length≤65536) :
  Zbl (((r.1,r.2.1,r.2.2.1,()),g,B,o,()),f,())=some (tsZ g B f,())∧-66 * (f.length : Int)≤tsZ g B f∧tsZ g B f≤66 * (f.length : Int):=by
 have key : ∀ (q p : List Int) (n : Int),p++q=f→-66 * (p.length : Int)≤n→n≤66 * (p.length : Int) →
   Zbl_L3 (r.1,r.2.1,r.2.2.1,g,B,o,n,f,((f.length : Nat) : Int),((p.length : Nat) : Int),())=some (.inl (n+tsZ g B q,()))∧-66 * (q.length : Int)≤tsZ g B q∧tsZ g B q≤66 * (q.length : Int):=by
  intro q
  induction q with
  | nil =>
   intro p n hp h1 h2
   refine ⟨?_,by simp [tsZ],by simp [tsZ]⟩
   refine loop_done ?_
   simp only [Zbl_B3]
   rw [ltI_f (by rw [← hp]; simp)]
   simp [tsZ]
  | cons x q ih =>
   intro p n hp h1 h2
   have hpl : p.length < f.length:=by rw [← hp]; simp
   have hx : f[p.length]?=some x:=by rw [← hp]; simp
   obtain ⟨d,rfl,hdL⟩:=hf x (List.mem_of_getElem? hx)
   obtain ⟨b1,b2,_⟩:=h.bound hdL
   have hs : Zbl_B3 (r.1,r.2.1,r.2.2.1,g,B,o,n,f,((f.length : Nat) : Int),((p.length : Nat) : Int),())=some (.inl (r.1,r.2.1,r.2.2.1,g,B,o,n+tnZ g B d,f,((f.length : Nat) : Int),(((p++[(d : Int)]).length : Nat) : Int),())):=by
    simp only [Zbl_B3]
    rw [ltI_t (by omega),cond_true,getI_of,hx,Option.bind_some,turn_eq h r o hdL,Option.bind_some,add1 (by omega),addI64 (by omega) (by omega)]
    simp
   obtain ⟨q1,q2,q3⟩:=ih (p++[(d : Int)]) (n+tnZ g B d) (by simp [hp]) (by simp; omega) (by simp; omega)
   refine ⟨(loop_step hs).trans (q1.trans ?_),?_,?_⟩
   ·simp only [tsZ,Int.toNat_natCast]
    congr 3
    omega
   ·simp only [tsZ,Int.toNat_natCast,List.length_cons]; omega
   ·simp only [tsZ,Int.toNat_natCast,List.length_cons]; omega
 obtain ⟨q1,q2,q3⟩:=key f [] 0 rfl (by simp) (by simp)
 refine ⟨?_,q2,q3⟩
 unfold Zbl
 simp only
 rw [show Zbl_L3 (r.1,r.2.1,r.2.2.1,g,B,o,0,f,((f.length : Nat) : Int),0,())=_ from q1]
 simp
theorem rbent_eq (s : ByteArray) (hs : bentB s=true) : Zaj (s,())=some (bz (bytesOf s),()):=by
 unfold bentB at hs
 simp only [Bool.and_eq_true,decide_eq_true_eq] at hs
 obtain ⟨hsz,hall⟩:=hs
 have hl:=bytesOf_length s
 have key : ∀ (r i : Nat) (n : Int),i+r=s.size→-(i : Int)≤n→n≤i→Zaj_L3 (s,n,(i : Int),())=some (.inl (n+bz ((bytesOf s).drop i),())):=by
  intro r
  induction r with
  | zero =>
   intro i n hi h1 h2
   refine loop_done ?_
   simp only [Zaj_B3]
   rw [ltI_f (by omega),List.drop_eq_nil_of_le (by omega)]
   simp [bz]
  | succ r ih =>
   intro i n hi h1 h2
   obtain ⟨c,hc⟩ : ∃ c,s.data.toList[i]?=some c:=⟨_,List.getElem?_eq_getElem (by rw [Array.length_toList]; show i < s.size; omega)⟩
   have hb:=byte_at s i
   rw [hc] at hb
   have hi2 : i < (bytesOf s).length:=by omega
   have hce : (bytesOf s)[i]=(c.toNat : Int):=by
    have:=List.getElem?_eq_getElem hi2
    rw [← hb] at this
    simpa using this.symm
   have hd' : (bytesOf s).drop i=(c.toNat : Int) :: (bytesOf s).drop (i+1):=by
    rw [List.drop_eq_getElem_cons hi2,hce]
   have hlr : lr (c.toNat : Int)=true:=by
    rw [List.all_eq_true] at hall
    rw [← hce]; exact hall _ (List.getElem_mem hi2)
   have hs : Zaj_B3 (s,n,(i : Int),())=some (.inl (s,n+(if (c.toNat : Int)=76 then 1 else -1),((i+1 : Nat) : Int),())):=by
    simp only [Zaj_B3]
    rw [ltI_t (by omega),cond_true,getI_of,hc,Option.bind_some,add1 (by omega)]
    by_cases e : (c.toNat : Int)=76
    ·rw [eqI_t e,cond_true,Option.bind_some,eqI_f (by omega),cond_false,addI64 (by omega) (by omega),if_pos e]
    ·have e2 : (c.toNat : Int)=82:=by
      unfold lr at hlr
      simp only [Bool.or_eq_true,beq_iff_eq] at hlr
      exact hlr.resolve_left e
     rw [eqI_f e,cond_false,Option.bind_some,eqI_t e2,cond_true,subI64 (by omega) (by omega),if_neg e]
     rfl
   refine (loop_step hs).trans ((ih (i+1) _ (by omega) ?_ ?_).trans ?_)
   ·split <;> omega
   ·split <;> omega
   ·rw [hd']
    simp only [bz]
    congr 3
    omega
 unfold Zaj
 simp only
 rw [show Zaj_L3 (s,0,0,())=_ from key s.size 0 0 (by omega) (by omega) (by omega)]
 simp
theorem rturns_eq {g : List Int} {B : List ByteArray} {L : Nat} (h : TurnOK g B L) (r : Rot) (o : Int) (f : List Int) (hf : ∀ x∈f,∃ k : Nat,x=(k : Int)∧k < L) (hfl : f.length≤65536) :
  Zt (((r.1,r.2.1,r.2.2.1,()),g,B,o,()),f,())=some (tsZ g B f,()):=by
 have hsm:=h.small
 have key : ∀ (q p : List Int) (n : Int),p++q=f→-66 * (p.length : Int)≤n→n≤66 * (p.length : Int) →
   Zt_L3 (r.1,r.2.1,r.2.2.1,g,B,o,f,n,((p.length : Nat) : Int),())=some (.inl (n+tsZ g B q,())):=by
  intro q
  induction q with
  | nil =>
   intro p n hp h1 h2
   refine loop_done ?_
   simp only [Zt_B3]
   rw [ltI_f (by rw [← hp]; simp)]
   simp [tsZ]
  | cons x q ih =>
   intro p n hp h1 h2
   have hpl : p.length < f.length:=by rw [← hp]; simp
   have hx : f[p.length]?=some x:=by rw [← hp]; simp
   obtain ⟨d,rfl,hdL⟩:=hf x (List.mem_of_getElem? hx)
   obtain ⟨b1,b2,hsz⟩:=h.bound hdL
   obtain ⟨a,ha,a1,a2⟩:=h.ang (oth d) (h.even d hdL)
   have hg : g.getD (oth d) 0=a:=by rw [List.getD_eq_getElem?_getD,ha]; rfl
   have hbz:=bz_bound (bytesOf (at0 B d))
   have hbl:=bytesOf_length (at0 B d)
   have hs : Zt_B3 (r.1,r.2.1,r.2.2.1,g,B,o,f,n,((p.length : Nat) : Int),())=some (.inl (r.1,r.2.1,r.2.2.1,g,B,o,f,n+tnZ g B d,(((p++[(d : Int)]).length : Nat) : Int),())):=by
    simp only [Zt_B3]
    rw [ltI_t (by omega),cond_true,getI_of,hx,Option.bind_some,getI_of,at0_of (by rw [h.blen]; exact hdL),Option.bind_some,rbent_eq _ (h.bend d hdL),Option.bind_some,Option.bind_some,xor1 (by omega),getI_of,ha,Option.bind_some,add1 (by omega)]
    simp only
    rw [addI64 (a:=n) (by omega) (by omega),addI64 (by omega) (by omega),subI64 (by omega) (by omega)]
    simp only [tnZ,hg,List.length_append,List.length_singleton]
    congr 10
    omega
   refine (loop_step hs).trans ((ih (p++[(d : Int)]) (n+tnZ g B d) (by simp [hp]) (by simp; omega) (by simp; omega)).trans ?_)
   simp only [tsZ,Int.toNat_natCast]
   congr 3
   omega
 unfold Zt
 simp only
 rw [show Zt_L3 (r.1,r.2.1,r.2.2.1,g,B,o,f,0,0,())=_ from key f [] 0 rfl (by simp) (by simp)]
 simp
end Go.Vm

/-
 Routes, in the program and in the reference.
-/
import Derived.Test.YtgihliccohoggaaDoorKB
set_option linter.unusedVariables false
set_option linter.unusedSimpArgs false
namespace Go.Vm
open Go.Proofs
set_option maxRecDepth 100000
attribute [local irreducible] loopFix
section
variable {N : Nat} {E : List Arc} {A : List (List Int)} {nx : List Int}
structure Pla (N : Nat) (E : List Arc) (A : List (List Int)) (nx m : List Int) (n : Nat) : Prop where
 rot : RotOK (N : Nat) E A
 conn : Conn N E
 fol : Fol oth E A nx
 nxok : NxOK nx nx.length
 fs : FsOK (2 * E.length) (facesOf nx)
 few : E.length≤100
 m : m=marksOf (2 * E.length) (facesOf nx)
 n : n=max 1 (facesOf nx).length
def fcM (m : List Int) (k : Nat) : Nat:=(mk2 m k).toNat
variable {m : List Int} {n : Nat}
theorem Pla.mark (p : Pla N E A nx m n) {k : Nat} (hk : k < 2 * E.length) : m[k]?=some (fcM m k : Int)∧fcM m k < n∧(E≠[]→fcM m k < (facesOf nx).length):=by
 obtain ⟨j,j1,j2,_⟩:=marksOf_some p.fs hk
 rw [← p.m] at j2
 have : fcM m k=j:=by unfold fcM mk2; rw [j2]; rfl
 rw [this]
 exact ⟨j2,by rw [p.n]; omega,fun _=>j1⟩
theorem Pla.fc (p : Pla N E A nx m n) : Fc (2 * E.length) n m (fcM m) where
 len:=by rw [p.m]; exact marksOf_len
 get:=fun k hk=>(p.mark hk).1
 lt:=fun k hk=>(p.mark hk).2.1
theorem Pla.next (p : Pla N E A nx m n) {k y : Nat} (hk : k < 2 * E.length) (hy : nx[k]?=some (y : Int)) : fcM m y=fcM m k:=by
 obtain ⟨j,f,h1,h2,h3⟩:=p.fs.face hk
 have cyc:=facesOf_cyc (fol_inj32 p.rot p.fol) p.nxok f (List.mem_of_getElem? h1)
 have hyf:=cyc_closed cyc h2 hy
 have a:=marksOf_at p.fs h1 h2
 have b:=marksOf_at p.fs h1 hyf
 rw [← p.m] at a b
 unfold fcM mk2
 rw [a,b]
def atL (m l : List Int) (i : Nat) : Nat:=fcM m (l.getD (i % l.length) 0).toNat
theorem Pla.atNext (p : Pla N E A nx m n) {l : List Int} (hl : l∈A) {i : Nat} (hi : i < l.length) : ∃ k : Nat,l.getD i 0=(k : Int)∧k < 2 * E.length∧fcM m k=atL m l i∧fcM m (oth k)=atL m l (i+1)∧nx[oth k]?=some (l.getD ((i+1) % l.length) 0):=by
 obtain ⟨k,e,hk⟩:=p.rot.mem_of hl (List.getElem_mem hi)
 have hm : (i+1) % l.length < l.length:=Nat.mod_lt _ (by omega)
 have g1:=p.fol.get l hl i hi
 rw [e,Int.toNat_natCast] at g1
 have hg : l.getD i 0=(k : Int):=by rw [List.getD_eq_getElem?_getD,List.getElem?_eq_getElem hi,e]; rfl
 obtain ⟨y,ey,hy⟩:=p.rot.mem_of hl (List.getElem_mem hm)
 have hgy : l.getD ((i+1) % l.length) 0=(y : Int):=by rw [List.getD_eq_getElem?_getD,List.getElem?_eq_getElem hm,ey]; rfl
 refine ⟨k,hg,hk,?_,?_,g1⟩
 ·unfold atL; rw [Nat.mod_eq_of_lt hi,hg]; rfl
 ·rw [hgy] at g1
  rw [← p.next (oth_lt hk) g1]
  unfold atL; rw [hgy]; rfl
theorem Pla.atAdj (p : Pla N E A nx m n) {l : List Int} (hl : l∈A) (h0 : l≠[]) (i : Nat) : AdjF (2 * E.length) (fcM m) (atL m l i) (atL m l (i+1)):=by
 have hp : 0 < l.length:=List.length_pos_iff.2 h0
 obtain ⟨k,_,hk,e1,e2,_⟩:=p.atNext hl (i:=i % l.length) (Nat.mod_lt _ hp)
 refine ⟨k,hk,?_,?_⟩
 ·rw [e1]; unfold atL; rw [Nat.mod_mod]
 ·rw [e2]; unfold atL; rw [Nat.mod_add_mod]
variable {S : Nat→Prop}
theorem Pla.atWk (p : Pla N E A nx m n) {l : List Int} (hl : l∈A) (h0 : l≠[]) {t i : Nat} (hw : Wk (AdjF (2 * E.length) (fcM m)) S t (atL m l i)) : ∀ s,Wk (AdjF (2 * E.length) (fcM m)) S (t+s) (atL m l (i+s))
 | 0=>hw
 | s+1=>⟨atL m l (i+s),(p.atAdj hl h0 (i+s)).symm,p.atWk hl h0 hw s⟩
theorem Pla.atAll (p : Pla N E A nx m n) {l : List Int} (hl : l∈A) {t i j : Nat} (hi : i < l.length) (hj : j < l.length) (hw : Wk (AdjF (2 * E.length) (fcM m)) S t (atL m l i)) : ∃ s,s < l.length∧Wk (AdjF (2 * E.length) (fcM m)) S (t+s) (atL m l j):=by
 have h0 : l≠[]:=by rintro rfl; simp at hi
 rcases Nat.lt_or_ge j i with e | e
 ·refine ⟨l.length - i+j,by omega,?_⟩
  have:=p.atWk hl h0 hw (l.length - i+j)
  have e2 : i+(l.length - i+j)=j+l.length:=by omega
  rw [e2] at this
  unfold atL at this ⊢
  rw [Nat.add_mod_right] at this
  exact this
 ·refine ⟨j - i,by omega,?_⟩
  have:=p.atWk hl h0 hw (j - i)
  rw [show i+(j - i)=j by omega] at this
  exact this
theorem Pla.atIdx (p : Pla N E A nx m n) {l : List Int} {k : Nat} (hk : (k : Int)∈l) : ∃ i,i < l.length∧atL m l i=fcM m k:=by
 obtain ⟨i,hi,e⟩:=List.getElem_of_mem hk
 refine ⟨i,hi,?_⟩
 unfold atL
 rw [Nat.mod_eq_of_lt hi,List.getD_eq_getElem?_getD,List.getElem?_eq_getElem hi,e]; rfl
theorem Pla.around (p : Pla N E A nx m n) {u v : Nat} (hr : Reach E u v) (hT : ∀ k,k < 2 * E.length→tl E k=u→∃ t,Wk (AdjF (2 * E.length) (fcM m)) S t (fcM m k)) :
  ∀ k,k < 2 * E.length→tl E k=v→∃ t,Wk (AdjF (2 * E.length) (fcM m)) S t (fcM m k):=by
 induction hr with
 | refl=>exact hT
 | @step v w k _ hk e1 e2 ih =>
  obtain ⟨t,ht⟩:=ih k hk e1
  intro k' hk' e'
  obtain ⟨l,hl,hdm⟩:=List.mem_flatten.1 (p.rot.mem (oth_lt hk))
  obtain ⟨x,hx⟩:=List.mem_iff_getElem?.1 hl
  obtain ⟨c,ec,_,hc⟩:=p.rot.dart x l hx _ hdm
  have : oth k=c:=by omega
  subst this
  unfold hd at e2
  have : x=w:=by omega
  subst this
  have hd':=p.rot.around hk' e' hx
  obtain ⟨i,hi,hid⟩:=List.getElem_of_mem hdm
  obtain ⟨c,g1,g2,g3,g4,g5⟩:=p.atNext hl hi
  rw [List.getD_eq_getElem?_getD,List.getElem?_eq_getElem hi,hid] at g1
  have : oth k=c:=by
   have : ((oth k : Nat) : Int)=(c : Int):=by simpa using g1
   omega
  subst this
  rw [oth_oth] at g4
  rw [g4] at ht
  obtain ⟨j,hj,ej⟩:=p.atIdx hd'
  rw [← ej]
  have hm : (i+1) % l.length < l.length:=Nat.mod_lt _ (by omega)
  have ht' : Wk (AdjF (2 * E.length) (fcM m)) S t (atL m l ((i+1) % l.length)):=by
   unfold atL at ht ⊢
   rw [Nat.mod_mod]; exact ht
  obtain ⟨s,_,hs⟩:=p.atAll hl hm hj ht'
  exact ⟨_,hs⟩
theorem Pla.goals (p : Pla N E A nx m n) {l : List Int} (hl : l∈A) (x : Int) : x∈aroundL m l↔(E=[]∧x=0)∨∃ k : Nat,(k : Int)∈l∧x=(fcM m k : Int)∧k < 2 * E.length:=by
 obtain ⟨v,hv⟩:=List.mem_iff_getElem?.1 hl
 have hvN : v < N:=by
  have:=(List.getElem?_eq_some_iff.1 hv).1
  have:=p.rot.len
  omega
 rw [(around_sorted m l).2]
 cases hle : l.isEmpty with
 | true =>
  have hl0 : l=[]:=by simpa using hle
  subst hl0
  have hE : E=[]:=Classical.byContradiction fun h=>around_ne p.rot p.conn h hvN hv rfl
  simp [hE]
 | false =>
  have hl0 : l≠[]:=by intro e; rw [e] at hle; simp at hle
  have hE : E≠[]:=by
   rintro rfl
   cases l with
   | nil=>exact hl0 rfl
   | cons d l =>
    obtain ⟨k,_,hk⟩:=p.rot.mem_of hl (d:=d) (by simp)
    simp at hk
  rw [cond_false]
  unfold facesAt
  rw [List.mem_map]
  constructor
  ·rintro ⟨d,hd,rfl⟩
   obtain ⟨k,rfl,hk⟩:=p.rot.mem_of hl hd
   refine .inr ⟨k,hd,?_,hk⟩
   have:=(p.mark hk).1
   unfold mk2
   simp only [Int.toNat_natCast]
   rw [this]; rfl
  ·rintro (⟨h,_⟩ | ⟨k,hk,rfl,hkL⟩)
   ·exact absurd h hE
   ·refine ⟨k,hk,?_⟩
    have:=(p.mark hkL).1
    unfold mk2
    simp only [Int.toNat_natCast]
    rw [this]; rfl
theorem Pla.goals_nat (p : Pla N E A nx m n) {l : List Int} (hl : l∈A) : ∀ x∈aroundL m l,∃ f : Nat,x=(f : Int)∧f < n:=by
 intro x hx
 rcases (p.goals hl x).1 hx with ⟨_,rfl⟩ | ⟨k,_,rfl,hk⟩
 ·exact ⟨0,rfl,by have:=p.n; omega⟩
 ·exact ⟨_,rfl,(p.mark hk).2.1⟩
theorem Pla.goals_ne (p : Pla N E A nx m n) {l : List Int} (hl : l∈A) : aroundL m l≠[]:=by
 obtain ⟨v,hv⟩:=List.mem_iff_getElem?.1 hl
 by_cases h0 : l=[]
 ·subst h0
  have : (0 : Int)∈aroundL m []:=by rw [(around_sorted m []).2]; simp
  intro e; rw [e] at this; cases this
 ·intro e
  obtain ⟨d,hd⟩:=List.exists_mem_of_ne_nil l h0
  obtain ⟨k,rfl,hk⟩:=p.rot.mem_of hl hd
  have:=(p.goals hl (fcM m k)).2 (.inr ⟨k,hd,rfl,hk⟩)
  rw [e] at this; cases this
theorem around_len (m l : List Int) : (aroundL m l).length≤l.length+1:=by
 unfold aroundL
 refine Nat.le_trans (compact_le _) ?_
 rw [(isortI_perm _).length_eq]
 cases l.isEmpty with
 | true=>simp
 | false=>simp [facesAt]
theorem Pla.hconn (p : Pla N E A nx m n) {l : List Int} (hl : l∈A) : ∀ f,f < n→∃ t,Wk (AdjF (2 * E.length) (fcM m)) (fun f=>(f : Int)∈aroundL m l) t f:=by
 intro f hf
 obtain ⟨v,hv⟩:=List.mem_iff_getElem?.1 hl
 have hvN : v < N:=by
  have:=(List.getElem?_eq_some_iff.1 hv).1
  have:=p.rot.len
  omega
 by_cases hE : E=[]
 ·have h0 : f=0:=by
   have h1:=p.fs.num
   rw [hE] at h1
   simp at h1
   have:=p.n
   rw [h1] at this
   simp at this
   omega
  subst h0
  exact ⟨0,(p.goals hl 0).2 (.inl ⟨hE,rfl⟩)⟩
 ·have hp : 0 < 2 * E.length:=by have:=List.length_pos_iff.2 hE; omega
  have hfl : f < (facesOf nx).length:=by
   have h1:=(p.mark hp).2.2 hE
   have:=p.n
   omega
  obtain ⟨q1,q2⟩:=p.fs.elem _ (List.getElem_mem hfl)
  obtain ⟨d,hd⟩:=List.exists_mem_of_ne_nil _ q1
  obtain ⟨k,rfl,hk⟩:=q2 d hd
  have hm:=marksOf_at p.fs (List.getElem?_eq_getElem hfl) hd
  rw [← p.m,(p.mark hk).1] at hm
  have hfk : fcM m k=f:=by have:=Option.some.inj hm; omega
  obtain ⟨l',hl',hd'⟩:=List.mem_flatten.1 (p.rot.mem hk)
  obtain ⟨u,hu⟩:=List.mem_iff_getElem?.1 hl'
  obtain ⟨k',e1,_,e3⟩:=p.rot.dart u l' hu _ hd'
  have : k=k':=by omega
  subst this
  have huN : u < N:=by
   have:=(List.getElem?_eq_some_iff.1 hu).1
   have:=p.rot.len
   omega
  have hr : Reach E v u:=(p.conn v hvN).symm.trans (p.conn u huN)
  have:=p.around (S:=fun f=>(f : Int)∈aroundL m l) hr (fun k hk hv'=>⟨0,(p.goals hl _).2 (.inr ⟨k,p.rot.around hk hv' hv,rfl,hk⟩)⟩) k hk e3
  rw [hfk] at this
  exact this
end
end Go.Vm

namespace Go.Vm
open Go.Proofs
set_option maxRecDepth 100000
attribute [local irreducible] loopFix
section
variable {M : Nat} {fc D : Nat→Nat}
def Cnd (fc D : Nat→Nat) (P : Nat→Prop) (s k : Nat) : Prop:=P (fc k)∧D (fc k)=s+1∧D (fc (oth k))=s
def Rt (M : Nat) (fc D : Nat→Nat) : (Nat→Prop)→Nat→List Int→Prop
 | _,0,l=>l=[]
 | P,s+1,l=>∃ k l',k < 2 * M∧Cnd fc D P s k∧(∀ j,j < k→¬ Cnd fc D P s j)∧l=((k / 2 : Nat) : Int) :: l'∧Rt M fc D (fun f=>f=fc (oth k)) s l'
theorem Rt.len : ∀ {s : Nat} {P : Nat→Prop} {l : List Int},Rt M fc D P s l→l.length=s
 | 0,_,_,h=>by subst h; rfl
 | s+1,_,_,⟨_,_,_,_,_,e,h⟩=>by subst e; simp [h.len]
theorem Rt.uniq : ∀ {s : Nat} {P P' : Nat→Prop} {l l' : List Int},Rt M fc D P s l→Rt M fc D P' s l'→(∀ f,D f=s→(P f↔P' f))→l=l'
 | 0,_,_,_,_,h,h',_=>by rw [h,h']
 | s+1,P,P',l,l',⟨k,t,a1,a2,a3,a4,a5⟩,⟨k',t',b1,b2,b3,b4,b5⟩,hP=>by
  have hc : ∀ j,Cnd fc D P s j↔Cnd fc D P' s j:=by
   intro j
   unfold Cnd
   constructor
   ·rintro ⟨x,y,z⟩; exact ⟨(hP _ y).1 x,y,z⟩
   ·rintro ⟨x,y,z⟩; exact ⟨(hP _ y).2 x,y,z⟩
  have hk : k=k':=by
   rcases Nat.lt_trichotomy k k' with c | c | c
   ·exact absurd ((hc k).1 a2) (b3 k c)
   ·exact c
   ·exact absurd ((hc k').2 b2) (a3 k' c)
  subst hk
  rw [a4,b4,Rt.uniq a5 b5 (fun _ _=>Iff.rfl)]
end
section
variable {dist : List Int}
theorem least_loop (l : List Int) (hl : ∀ x∈l,∃ f : Nat,x=(f : Int)∧f < dist.length) (hd : ∀ f,f < dist.length→0≤lab dist f∧lab dist f≤1000) (hlen : l.length≤1000) : ∀ (c i : Nat) (x : Int),i+c=l.length→x∈l→(∀ y∈l.take i,lab dist x.toNat≤lab dist y.toNat) →
  ∃ z,Ze_L5 (l,(dist,()),x,(i : Int),())=some (.inl (z,()))∧z∈l∧∀ y∈l,lab dist z.toNat≤lab dist y.toNat
 | 0,i,x,hc,hx,hm=>by
  refine ⟨x,?_,hx,fun y hy=>hm y (by rw [List.take_of_length_le (by omega)]; exact hy)⟩
  unfold Ze_L5
  refine loop_done ?_
  unfold Ze_B5
  simp only
  rw [ltI_f (by omega)]; rfl
 | c+1,i,x,hc,hx,hm=>by
  have hi : i < l.length:=by omega
  have hy:=List.getElem_mem hi
  obtain ⟨f,ef,hf⟩:=hl _ hy
  obtain ⟨g,eg,hg⟩:=hl _ hx
  have hdf:=hd f hf
  have hdg:=hd g hg
  have hr : Ze_B5 (l,(dist,()),x,(i : Int),())=some (.inl (l,(dist,()),(if lab dist f < lab dist g then (f : Int) else x),((i+1 : Nat) : Int),())):=by
   unfold Ze_B5 Zbo
   simp only
   rw [ltI_t (by omega),cond_true,getI_of,List.getElem?_eq_getElem hi,ef,eg]
   simp only [Option.bind_some]
   rw [getI_of,lab_get hf,Option.bind_some,getI_of,lab_get hg,Option.bind_some,subI64 (by omega) (by omega)]
   simp only [Option.bind_some]
   rw [add1 (by omega)]
   by_cases e : lab dist f < lab dist g
   ·rw [ltI_t (by omega),if_pos e]; rfl
   ·rw [ltI_f (by omega),if_neg e]; rfl
  have ht : l.take (i+1)=l.take i++[(f : Int)]:=by rw [List.take_add_one,List.getElem?_eq_getElem hi,ef]; rfl
  obtain ⟨z,z1,z2,z3⟩:=least_loop l hl hd hlen c (i+1) (if lab dist f < lab dist g then (f : Int) else x) (by omega) (by split; exact ef ▸ hy; exact hx) (by
   intro y hy'
   rw [ht] at hy'
   rcases List.mem_append.1 hy' with h | h
   ·have:=hm y h
    rw [eg] at this ⊢
    split
    ·simp only [Int.toNat_natCast] at this ⊢; omega
    ·exact this
   ·simp at h
    subst h
    rw [eg]
    split
    ·simp
    ·simp only [Int.toNat_natCast]; omega)
  refine ⟨z,?_,z2,z3⟩
  rw [← z1]
  unfold Ze_L5
  exact loop_step hr
theorem least_eq (l : List Int) (h0 : l≠[]) (hl : ∀ x∈l,∃ f : Nat,x=(f : Int)∧f < dist.length) (hd : ∀ f,f < dist.length→0≤lab dist f∧lab dist f≤1000) (hlen : l.length≤1000) :
  ∃ z,Ze (l,(dist,()),())=some (z,())∧z∈l∧∀ y∈l,lab dist z.toNat≤lab dist y.toNat:=by
 have hp : 0 < l.length:=List.length_pos_iff.2 h0
 obtain ⟨z,z1,z2⟩:=least_loop l hl hd hlen (l.length - 1) 1 l[0] (by omega) (List.getElem_mem hp) (by
  intro y hy
  have : l.take 1=[l[0]]:=by
   cases l with
   | nil=>exact absurd rfl h0
   | cons a l=>rfl
  rw [this] at hy
  simp at hy
  subst hy
  exact Int.le_refl _)
 refine ⟨z,?_,z2⟩
 unfold Ze
 simp only
 rw [ltI_f (by omega),cond_false,show ((0 : Int))=((0 : Nat) : Int) from rfl,getI_of,List.getElem?_eq_getElem hp,Option.bind_some]
 rw [show ((1 : Int))=((1 : Nat) : Int) from rfl,z1]
 rfl
variable {left : Int}
theorem route2_eq {f : Nat} (hf : f < dist.length) : Zbm ((f : Int),dist,left,())=some (neI (lab dist f) left,()):=by
 unfold Zbm
 simp only
 rw [getI_of,lab_get hf]; rfl
def keep (dist : List Int) (left : Int) (l : List Int) : List Int:=l.filter fun x=>decide (lab dist x.toNat=left)
theorem index2 (l : List Int) (hl : ∀ x∈l,∃ f : Nat,x=(f : Int)∧f < dist.length) (hlen : l.length≤1000) :
  (Zd (l,(dist,left,()),())=some (-1,())∧keep dist left l=l) ∨
  ∃ i : Nat,i < l.length∧Zd (l,(dist,left,()),())=some ((i : Int),())∧keep dist left (l.take (i+1))=l.take i:=by
 have h:=scan (B:=Zd_B2) (fun (_ : Unit) i=>(l,(dist,left,()),((l.length : Nat) : Int),(i : Int),()))
  (fun _=>.inr (.inl ())) (fun (k : Nat)=>.inl ((k : Int),())) (fun i (_ : Unit) a=>some (cond (neI (lab dist a.toNat) left) (.inr i) (.inl ()))) l (by
   intro _ i a ha
   have hi : i < l.length:=(List.getElem?_eq_some_iff.1 ha).1
   obtain ⟨f,rfl,hf⟩:=hl a (List.mem_of_getElem? ha)
   unfold Zd_B2
   simp only
   rw [ltI_t (by omega),cond_true,getI_of,ha,Option.bind_some,Option.bind_some,route2_eq hf,Option.bind_some]
   simp only [Int.toNat_natCast]
   cases neI (lab dist f) left with
   | true=>rfl
   | false=>rw [cond_false,add1 (by omega)]; rfl) (by
   intro _
   unfold Zd_B2
   simp only
   rw [ltI_f (by omega)]; rfl) ()
 have hu : Zd (l,(dist,left,()),())=(loopFix Zd_B2 (l,(dist,left,()),((l.length : Nat) : Int),((0 : Nat) : Int),())).bind (Sum.elim (fun z2=>some (z2.1,())) (Sum.elim (fun z3=>some ((-1),())) (fun _=>none))):=rfl
 rw [hu,h]
 have hk : ∀ (l : List Int) (i : Nat),(foldE (fun i (_ : Unit) (a : Int)=>some (cond (neI (lab dist a.toNat) left) (.inr i) (.inl ()) : Unit⊕Nat)) i () l=some (.inl ())∧keep dist left l=l) ∨
   ∃ k,k < l.length∧foldE (fun i (_ : Unit) (a : Int)=>some (cond (neI (lab dist a.toNat) left) (.inr i) (.inl ()) : Unit⊕Nat)) i () l=some (.inr (i+k))∧keep dist left (l.take (k+1))=l.take k:=by
  intro l
  induction l with
  | nil=>intro i; exact .inl ⟨rfl,rfl⟩
  | cons a l ih =>
   intro i
   cases e : neI (lab dist a.toNat) left with
   | true =>
    refine .inr ⟨0,by simp,by simp [foldE,e],?_⟩
    have : ¬ lab dist a.toNat=left:=by simpa [neI] using e
    simp [keep,this]
   | false =>
    have e' : lab dist a.toNat=left:=by simpa [neI] using e
    rcases ih (i+1) with ⟨h1,h2⟩ | ⟨k,h1,h2,h3⟩
    ·refine .inl ⟨by simp [foldE,e,h1],?_⟩
     unfold keep at h2 ⊢
     rw [List.filter_cons_of_pos (by simpa using e'),h2]
    ·refine .inr ⟨k+1,by simpa using h1,?_,?_⟩
     ·simp only [foldE,e,cond_false,Option.bind_some,Sum.elim_inl]
      rw [h2]; congr 2; omega
     ·unfold keep at h3 ⊢
      rw [List.take_succ_cons,List.filter_cons_of_pos (by simpa using e'),h3,List.take_succ_cons]
 rcases hk l 0 with ⟨h1,h2⟩ | ⟨k,h1,h2,h3⟩
 ·exact .inl ⟨by rw [h1]; rfl,h2⟩
 ·refine .inr ⟨k,h1,?_,h3⟩
  rw [h2]
  simp
theorem delete_loop (l : List Int) (hl : ∀ x∈l,∃ f : Nat,x=(f : Int)∧f < dist.length) (hlen : l.length≤1000) : ∀ (c j i : Nat) (a : List Int),j+c=l.length→i < j→a.length=l.length→a.take i=keep dist left (l.take j)→a.drop j=l.drop j →
  ∃ a' i' : _,Zc_L5 (a,(dist,left,()),(i : Int),(j : Int),())=some (.inl (a',((i' : Nat) : Int),()))∧i' < l.length∧a'.length=l.length∧a'.take i'=keep dist left l
 | 0,j,i,a,hc,hij,ha,ht,hdr=>by
  refine ⟨a,i,?_,by omega,ha,by rw [ht,List.take_of_length_le (by omega)]⟩
  unfold Zc_L5
  refine loop_done ?_
  unfold Zc_B5
  simp only
  rw [ltI_f (by omega)]; rfl
 | c+1,j,i,a,hc,hij,ha,ht,hdr=>by
  have hj : j < l.length:=by omega
  have haj : a[j]?=some l[j]:=by
   have:=congrArg (fun t : List Int=>t[0]?) hdr
   simpa [List.getElem?_drop,List.getElem?_eq_getElem hj] using this
  obtain ⟨f,ef,hf⟩:=hl _ (List.getElem_mem hj)
  have htl : l.take (j+1)=l.take j++[(f : Int)]:=by rw [List.take_add_one,List.getElem?_eq_getElem hj,ef]; rfl
  have hdr2 : a.drop (j+1)=l.drop (j+1):=by
   have:=congrArg (List.drop 1) hdr
   simpa [List.drop_drop] using this
  have hr : Zc_B5 (a,(dist,left,()),(i : Int),(j : Int),())=some (.inl ((if lab dist f=left then a.set i (f : Int) else a),(dist,left,()),((if lab dist f=left then i+1 else i : Nat) : Int),((j+1 : Nat) : Int),())):=by
   unfold Zc_B5
   simp only
   rw [ltI_t (by omega),cond_true,idxI_of (by omega),Option.bind_some,haj,ef,Option.bind_some,route2_eq hf,Option.bind_some]
   simp only
   by_cases e : lab dist f=left
   ·rw [neI_f e,Bool.not_false,cond_true,idxI_of (by omega),Option.bind_some,List.getElem?_eq_getElem (by omega),Option.bind_some,if_pos e,if_pos e,add1 (by omega),add1 (by omega)]
   ·rw [neI_t e,Bool.not_true,cond_false,if_neg e,if_neg e,add1 (by omega)]
  have hL : Zc_L5 (a,(dist,left,()),(i : Int),(j : Int),())=Zc_L5 ((if lab dist f=left then a.set i (f : Int) else a),(dist,left,()),((if lab dist f=left then i+1 else i : Nat) : Int),((j+1 : Nat) : Int),()):=by
   unfold Zc_L5
   exact loop_step hr
  rw [hL]
  by_cases e : lab dist f=left
  ·rw [if_pos e,if_pos e]
   refine delete_loop l hl hlen c (j+1) (i+1) (a.set i (f : Int)) (by omega) (by omega) (by simpa using ha) ?_ ?_
   ·rw [List.take_add_one,List.getElem?_set_self (by omega),List.take_set_of_le (by omega),ht,htl]
    unfold keep
    rw [List.filter_append]
    simp [e]
   ·rw [List.drop_set_of_lt (by omega)]; exact hdr2
  ·rw [if_neg e,if_neg e]
   refine delete_loop l hl hlen c (j+1) i a (by omega) (by omega) ha ?_ hdr2
   rw [ht,htl]
   unfold keep
   rw [List.filter_append]
   simp [e]
theorem delete_eq (l : List Int) (hl : ∀ x∈l,∃ f : Nat,x=(f : Int)∧f < dist.length) (hlen : l.length≤1000) : Zc (l,(dist,left,()),())=some (keep dist left l,()):=by
 unfold Zc
 simp only
 rcases index2 (left:=left) l hl hlen with ⟨h1,h2⟩ | ⟨i,hi,h1,h2⟩
 ·rw [h1,Option.bind_some,h2]; rfl
 ·rw [h1,Option.bind_some]
  simp only
  rw [eqI_f (by omega),cond_false,add1 (by omega)]
  obtain ⟨a',i',d1,d2,d3,d4⟩:=delete_loop (left:=left) l hl hlen (l.length - (i+1)) (i+1) i l (by omega) (by omega) rfl h2.symm rfl
  rw [d1]
  simp only [Option.bind_some,Sum.elim_inl]
  have v1 : viewB a'.length (i' : Int) (a'.length : Nat)=some (i',a'.length - i'):=by
   unfold viewB
   rw [if_pos ⟨by omega,by omega,by omega⟩]; rfl
  rw [v1]
  simp only [Option.bind_some]
  rw [show (Nat.ble (i'+(a'.length - i')) a'.length && Nat.ble 1 (a'.length - i'))=true by simp; omega,cond_true]
  have hc : clearL I a' i' (a'.length - i')=a'.take i'++List.replicate (a'.length - i') 0:=by
   unfold clearL
   rw [show i'+(a'.length - i')=a'.length by omega,List.drop_length,List.append_nil]
   rfl
  have hcl : (clearL I a' i' (a'.length - i')).length=a'.length:=by rw [hc]; simp; omega
  have v2 : viewB (clearL I a' i' (a'.length - i')).length 0 (i' : Int)=some (0,i'):=by
   rw [hcl]
   unfold viewB
   rw [if_pos ⟨by omega,by omega,by omega⟩]; rfl
  rw [v2]
  simp only [Option.bind_some]
  rw [hc,List.drop_zero,List.take_append_of_le_length (by simp; omega),List.take_take,Nat.min_self,d4]
end
section
variable {N : Int} {E : List Arc} {A : List (List Int)} {n : Nat} {fc D : Nat→Nat} {m dist : List Int}
theorem step_round (hF : Fc (2 * E.length) n m fc) (hE : E.length≤100) (hD : ∀ f,f < n→dist[f]?=some (D f : Int)) (hn : ∀ f,f < n→D f≤1000) (at_ : List Int) (hat : at_.length≤1000) (s k e : Nat) (hs : s≤1000) (hk : k < 2 * E.length) (hke : k≤2 * e+1) (he : e < E.length) (c e' : Int) :
  (Cnd fc D (fun f=>(f : Int)∈at_) s k→Zbv_B5 (m,dist,at_,((s+1 : Nat) : Int),(e : Int),(k : Int),c,e',())=some (.inr (.inl ((e : Int),(fc (oth k) : Int),())))) ∧
  (¬ Cnd fc D (fun f=>(f : Int)∈at_) s k→Zbv_B5 (m,dist,at_,((s+1 : Nat) : Int),(e : Int),(k : Int),c,e',())=some (.inl (m,dist,at_,((s+1 : Nat) : Int),(e : Int),((k+1 : Nat) : Int),c,e',()))):=by
 have hok:=oth_lt hk
 have e2 : mulI .i64 2 (e : Int)=((2 * e : Nat) : Int):=by rw [mulI64 (by omega) (by omega)]; omega
 obtain ⟨b,hb,hb2⟩:=contains_int at_ (fc k : Int) (by omega)
 have d1:=hD _ (hF.lt k hk)
 have d2:=hD _ (hF.lt _ hok)
 unfold Zbv_B5
 simp only
 rw [e2,add1 (by omega),leI_t (by omega),cond_true,getI_of,hF.get _ hk,Option.bind_some,xor1 (by omega),getI_of,hF.get _ hok,Option.bind_some,hb,Option.bind_some,add1 (by omega)]
 simp only
 cases b with
 | false =>
  rw [cond_false]
  exact ⟨fun h=>absurd (hb2.2 h.1) (by simp),fun _=>rfl⟩
 | true =>
  have hm:=hb2.1 rfl
  rw [cond_true,getI_of,d1,Option.bind_some,getI_of,d2,Option.bind_some,sub1 (by omega)]
  by_cases h1 : D (fc k)=s+1
  ·by_cases h2 : D (fc (oth k))=s
   ·rw [eqI_t (by omega),eqI_t (by omega)]
    exact ⟨fun _=>rfl,fun h=>absurd ⟨hm,h1,h2⟩ h⟩
   ·rw [eqI_t (by omega),eqI_f (by omega)]
    exact ⟨fun h=>absurd h.2.2 h2,fun _=>rfl⟩
  ·rw [eqI_f (by omega)]
   exact ⟨fun h=>absurd h.2.1 h1,fun _=>rfl⟩
theorem step_edges (hF : Fc (2 * E.length) n m fc) (hE : E.length≤100) (hD : ∀ f,f < n→dist[f]?=some (D f : Int)) (hn : ∀ f,f < n→D f≤1000) (at_ : List Int) (hat : at_.length≤1000) (s k : Nat) (hs : s≤1000) (hk : k < 2 * E.length) (hc : Cnd fc D (fun f=>(f : Int)∈at_) s k) (hmin : ∀ j,j < k→¬ Cnd fc D (fun f=>(f : Int)∈at_) s j) : ∀ (c e : Nat),e+c=k / 2 →
  Zbv_L2 (m,dist,at_,((s+1 : Nat) : Int),(E.length : Nat),(e : Int),())=some (.inl (((k / 2 : Nat) : Int),(fc (oth k) : Int),()))
 | 0,e,h=>by
  have he : e < E.length:=by omega
  have e2 : mulI .i64 2 (e : Int)=((2 * e : Nat) : Int):=by rw [mulI64 (by omega) (by omega)]; omega
  unfold Zbv_L2
  refine loop_done ?_
  unfold Zbv_B2
  simp only
  rw [ltI_t (by omega),cond_true,e2]
  have hL : Zbv_L5 (m,dist,at_,((s+1 : Nat) : Int),(e : Int),((2 * e : Nat) : Int),((E.length : Nat) : Int),(e : Int),())=some (.inl ((e : Int),(fc (oth k) : Int),())):=by
   unfold Zbv_L5
   rcases Nat.lt_or_ge (2 * e) k with h1 | h1
   ·have hke : k=2 * e+1:=by omega
    rw [loop_step ((step_round hF hE hD hn at_ hat s (2 * e) e hs (by omega) (by omega) he _ _).2 (hmin _ h1)),← hke]
    exact loop_done ((step_round hF hE hD hn at_ hat s k e hs hk (by omega) he _ _).1 hc)
   ·have hke : 2 * e=k:=by omega
    rw [hke]
    exact loop_done ((step_round hF hE hD hn at_ hat s k e hs hk (by omega) he _ _).1 hc)
  rw [hL]
  have : e=k / 2:=by omega
  rw [this]; rfl
 | c+1,e,h=>by
  have he : e < E.length:=by omega
  have e2 : mulI .i64 2 (e : Int)=((2 * e : Nat) : Int):=by rw [mulI64 (by omega) (by omega)]; omega
  rw [← step_edges hF hE hD hn at_ hat s k hs hk hc hmin c (e+1) (by omega)]
  unfold Zbv_L2
  refine loop_step ?_
  unfold Zbv_B2
  simp only
  rw [ltI_t (by omega),cond_true,e2]
  have hL : Zbv_L5 (m,dist,at_,((s+1 : Nat) : Int),(e : Int),((2 * e : Nat) : Int),((E.length : Nat) : Int),(e : Int),())=some (.inr (.inl (m,dist,at_,((s+1 : Nat) : Int),((E.length : Nat) : Int),(e : Int),()))):=by
   unfold Zbv_L5
   rw [loop_step ((step_round hF hE hD hn at_ hat s (2 * e) e hs (by omega) (by omega) he _ _).2 (hmin _ (by omega))),
    loop_step ((step_round hF hE hD hn at_ hat s (2 * e+1) e hs (by omega) (by omega) he _ _).2 (hmin _ (by omega)))]
   refine loop_done ?_
   unfold Zbv_B5
   simp only
   rw [e2,add1 (by omega)]
   have : leI ((2 * e+1+1 : Nat) : Int) ((2 * e+1 : Nat) : Int)=false:=leI_f (by omega)
   rw [this]
   rfl
  rw [hL]
  simp only [Option.bind_some,Sum.elim_inr,Sum.elim_inl]
  rw [add1 (by omega)]
theorem step_eq (hF : Fc (2 * E.length) n m fc) (hE : E.length≤100) (hD : ∀ f,f < n→dist[f]?=some (D f : Int)) (hn : ∀ f,f < n→D f≤1000) (at_ : List Int) (hat : at_.length≤1000) (s k : Nat) (hs : s≤1000) (hk : k < 2 * E.length) (hc : Cnd fc D (fun f=>(f : Int)∈at_) s k) (hmin : ∀ j,j < k→¬ Cnd fc D (fun f=>(f : Int)∈at_) s j) :
  Zbv ((N,E,A,()),m,dist,at_,((s+1 : Nat) : Int),())=some (((k / 2 : Nat) : Int),(fc (oth k) : Int),()):=by
 unfold Zbv
 simp only
 rw [show ((0 : Int))=((0 : Nat) : Int) from rfl,step_edges hF hE hD hn at_ hat s k hs hk hc hmin (k / 2) 0 (by omega)]
 rfl
theorem least_dart {P : Nat→Prop} : ∀ (k : Nat),P k→∃ k0,k0≤k∧P k0∧∀ j,j < k0→¬ P j:=by
 intro k
 induction k using Nat.strongRecOn with
 | _ k ih =>
  intro hk
  by_cases hx : ∃ j,j < k∧P j
  ·obtain ⟨j,hj,hp⟩:=hx
   obtain ⟨k0,h1,h2,h3⟩:=ih j hj hp
   exact ⟨k0,by omega,h2,h3⟩
  ·exact ⟨k,Nat.le_refl _,hk,fun j hj hp=>hx ⟨j,hj,hp⟩⟩
variable {S : Nat→Prop}
theorem next_dart (hDs : ∀ f,f < n→IsDist (AdjF (2 * E.length) fc) S f (D f)) (hF : Fc (2 * E.length) n m fc) {P : Nat→Prop} {f s : Nat} (hf : f < n) (hP : P f) (hd : D f=s+1) :
  ∃ k,k < 2 * E.length∧Cnd fc D P s k∧∀ j,j < k→¬ Cnd fc D P s j:=by
 have h:=hDs f hf
 rw [hd] at h
 obtain ⟨g,⟨k,hk,k1,k2⟩,hg⟩:=h.step
 have hgn : g < n:=by rw [← k2]; exact hF.lt _ (oth_lt hk)
 have hgd : D g=s:=(hDs g hgn).uniq hg
 obtain ⟨k0,a,b,c⟩:=least_dart (P:=Cnd fc D P s) k ⟨by rw [k1]; exact hP,by rw [k1]; exact hd,by rw [k2]; exact hgd⟩
 exact ⟨k0,by omega,b,c⟩
theorem route_loop (hDs : ∀ f,f < n→IsDist (AdjF (2 * E.length) fc) S f (D f)) (hF : Fc (2 * E.length) n m fc) (hE : E.length≤100) (hD : ∀ f,f < n→dist[f]?=some (D f : Int)) (hn : ∀ f,f < n→D f≤1000) : ∀ (s : Nat) (at_ : List Int) (out : List Int),at_.length≤1000→s≤1000→out.length+s≤2000→(∃ f : Nat,(f : Int)∈at_∧f < n∧D f=s) →
  ∃ l,Zbu_L14 (N,E,A,m,at_,(s : Int),out,dist,())=some (.inl (out++l,()))∧Rt E.length fc D (fun f=>(f : Int)∈at_) s l
 | 0,at_,out,_,_,_,_=>by
  refine ⟨[],?_,rfl⟩
  unfold Zbu_L14
  refine loop_done ?_
  unfold Zbu_B14
  simp only
  rw [gtI_f (by omega),cond_false,List.append_nil]
 | s+1,at_,out,h1,h2,h3,⟨f,f1,f2,f3⟩=>by
  obtain ⟨k,k1,k2,k3⟩:=next_dart (P:=fun f=>(f : Int)∈at_) hDs hF f2 f1 f3
  obtain ⟨l,l1,l2⟩:=route_loop hDs hF hE hD hn s [(fc (oth k) : Int)] (out++[((k / 2 : Nat) : Int)]) (by simp) (by omega) (by simp; omega) ⟨fc (oth k),by simp,hF.lt _ (oth_lt k1),k2.2.2⟩
  refine ⟨((k / 2 : Nat) : Int) :: l,?_,k,l,k1,k2,k3,rfl,?_⟩
  ·rw [show out++((k / 2 : Nat) : Int) :: l=(out++[((k / 2 : Nat) : Int)])++l by simp,← l1]
   unfold Zbu_L14
   refine loop_step ?_
   unfold Zbu_B14
   simp only
   rw [gtI_t (by omega),cond_true,step_eq hF hE hD hn at_ h1 s k (by omega) k1 k2 k3,Option.bind_some]
   simp only
   rw [app_of (by simp; omega),Option.bind_some,sub1 (by omega)]
   congr 9
   omega
  ·have : (fun g : Nat=>(g : Int)∈[(fc (oth k) : Int)])=fun g=>g=fc (oth k):=by
    funext g
    simp
    omega
   rw [this] at l2
   exact l2
end
end Go.Vm

namespace Go.Vm
open Go.Proofs
set_option maxRecDepth 100000
attribute [local irreducible] loopFix
theorem Rt.congr {M : Nat} {fc D : Nat→Nat} {P P' : Nat→Prop} : ∀ {s : Nat} {l : List Int},Rt M fc D P s l→(∀ f,D f=s→(P f↔P' f))→Rt M fc D P' s l
 | 0,_,h,_=>h
 | s+1,_,⟨k,t,a1,a2,a3,a4,a5⟩,hP=>⟨k,t,a1,⟨(hP _ a2.2.1).1 a2.1,a2.2⟩,fun j hj hc=>a3 j hj ⟨(hP _ hc.2.1).2 hc.1,hc.2⟩,a4,a5⟩
section
variable {N : Nat} {E : List Arc} {A : List (List Int)} {nx m : List Int} {n : Nat}
def RouteOf (E : List Arc) (m : List Int) (n : Nat) (lu lv : List Int) (D : Nat→Nat) (s : Nat) (l : List Int) : Prop :=
 (∀ f,f < n→IsDist (AdjF (2 * E.length) (fcM m)) (fun f=>(f : Int)∈aroundL m lv) f (D f))∧(∃ f : Nat,(f : Int)∈aroundL m lu∧f < n∧D f=s)∧(∀ f : Nat,(f : Int)∈aroundL m lu→s≤D f) ∧
  Rt E.length (fcM m) D (fun f=>(f : Int)∈aroundL m lu) s l
theorem Pla.small (p : Pla N E A nx m n) : n≤200+1:=by
 have:=p.fs.num
 have:=p.few
 have:=p.n
 omega
theorem Pla.route (p : Pla N E A nx m n) (c1 : Zbt (((N : Int),E,A,()),())=some (0,())) (k1 : Zbk (((N : Int),E,A,()),())=some (m,(n : Int),())) {u v : Nat} {lu lv : List Int} (hu : A[u]?=some lu) (hv : A[v]?=some lv) (huv : u≠v)
  (hlu : lu.length≤100) (hlv : lv.length≤100) :
  ∃ D s l,RouteOf E m n lu lv D s l∧Zbu (((N : Int),E,A,()),(u : Int),(v : Int),())=some (l,0,()):=by
 have hn:=p.small
 have hE:=p.few
 have hAl : A.length=N:=by have:=p.rot.len; omega
 have huN : u < N:=by rw [← hAl]; exact (List.getElem?_eq_some_iff.1 hu).1
 have hvN : v < N:=by rw [← hAl]; exact (List.getElem?_eq_some_iff.1 hv).1
 have hml : m.length=2 * E.length:=p.fc.len
 have hlm : ∀ l∈A,∀ d∈l,∃ k : Nat,d=(k : Int)∧k < m.length:=by
  intro l hl d hd
  obtain ⟨k,e,hk⟩:=p.rot.mem_of hl hd
  exact ⟨k,e,by omega⟩
 have p1:=around_eq (N : Int) E A m lu u hu (hlm _ (List.mem_of_getElem? hu)) (by omega)
 have p2:=around_eq (N : Int) E A m lv v hv (hlm _ (List.mem_of_getElem? hv)) (by omega)
 have gu:=p.goals_nat (List.mem_of_getElem? hu)
 have gv:=p.goals_nat (List.mem_of_getElem? hv)
 have nu:=p.goals_ne (List.mem_of_getElem? hu)
 have lnu:=around_len m lu
 have lnv:=around_len m lv
 obtain ⟨dist,d1,d2,d3⟩:=distances_eq (N:=(N : Int)) (A:=A) p.fc hE (by omega) (aroundL m lv) gv (by omega) (p.hconn (List.mem_of_getElem? hv))
 obtain ⟨D,hDdef⟩ : ∃ D : Nat→Nat,∀ f,D f=((dist[f]?).getD 0).toNat:=⟨_,fun _=>rfl⟩
 have hD : ∀ f,f < n→dist[f]?=some (D f : Int)∧IsDist (AdjF (2 * E.length) (fcM m)) (fun f=>(f : Int)∈aroundL m lv) f (D f):=by
  intro f hf
  obtain ⟨d,e1,e2⟩:=d3 f hf
  have : D f=d:=by rw [hDdef,e1]; rfl
  rw [this]; exact ⟨e1,e2⟩
 have hS : ∀ f : Nat,(f : Int)∈aroundL m lv→f < n:=by
  intro f hf
  obtain ⟨g,e,hg⟩:=gv _ hf
  omega
 have hA : ∀ f g,AdjF (2 * E.length) (fcM m) f g→f < n:=by
  rintro f g ⟨k,hk,rfl,_⟩
  exact p.fc.lt k hk
 have hDn : ∀ f,f < n→D f≤1000:=by
  intro f hf
  have:=(hD f hf).2.lt hS hA
  omega
 have hlab : ∀ f,f < n→lab dist f=(D f : Int):=fun f hf=>by unfold lab; rw [(hD f hf).1]; rfl
 obtain ⟨z,z1,z2,z3⟩:=least_eq (dist:=dist) (aroundL m lu) nu (fun x hx=>by obtain ⟨f,e,hf⟩:=gu x hx; exact ⟨f,e,by omega⟩) (fun f hf=>by rw [hlab f (by omega)]; have:=hDn f (by omega); omega) (by omega)
 obtain ⟨g,rfl,hg⟩:=gu z z2
 have q:=delete_eq (dist:=dist) (left:=(D g : Int)) (aroundL m lu) (fun x hx=>by obtain ⟨f,e,hf⟩:=gu x hx; exact ⟨f,e,by omega⟩) (by omega)
 have hkeep : ∀ f : Nat,D f=D g→((f : Int)∈keep dist (D g : Int) (aroundL m lu)↔(f : Int)∈aroundL m lu):=by
  intro f hf
  unfold keep
  rw [List.mem_filter]
  constructor
  ·exact fun h=>h.1
  ·intro h
   refine ⟨h,?_⟩
   obtain ⟨f',e,hfn⟩:=gu _ h
   have : f=f':=by omega
   subst this
   simp [hlab f hfn,hf]
 have hlen : (keep dist (D g : Int) (aroundL m lu)).length≤1000:=Nat.le_trans (List.length_filter_le _ _) (by omega)
 obtain ⟨l,l1,l2⟩:=route_loop (N:=(N : Int)) (A:=A) (dist:=dist) (fun f hf=>(hD f hf).2) p.fc hE (fun f hf=>(hD f hf).1) hDn (D g) (keep dist (D g : Int) (aroundL m lu)) [] hlen (hDn g hg) (by have:=hDn g hg; simp; omega) ⟨g,(hkeep g rfl).2 z2,hg,rfl⟩
 refine ⟨D,D g,l,⟨fun f hf=>(hD f hf).2,⟨g,z2,hg,rfl⟩,?_,l2.congr hkeep⟩,?_⟩
 ·intro f hf
  obtain ⟨f',e,hfn⟩:=gu _ hf
  have : f=f':=by omega
  subst this
  have:=z3 _ hf
  simp only [Int.toNat_natCast] at this
  rw [hlab f hfn,hlab g hg] at this
  omega
 ·unfold Zbu
  simp only
  rw [c1,Option.bind_some]
  simp only
  rw [neI_f rfl,cond_false,ltI_f (by omega),cond_false,geI_f (by omega),cond_false,ltI_f (by omega),cond_false,geI_f (by omega),cond_false,eqI_f (by omega),cond_false,k1,Option.bind_some]
  simp only
  rw [p2,Option.bind_some]
  simp only
  rw [d1,Option.bind_some]
  simp only
  rw [p1,Option.bind_some]
  simp only
  rw [z1,Option.bind_some]
  simp only
  rw [idxI_of (by omega),Option.bind_some,(hD g hg).1,Option.bind_some,q,Option.bind_some]
  simp only
  rw [l1]
  rfl
end
theorem cases32 (N : Int) (E : List Arc) (A : List (List Int)) (hE : E.length≤100) (hl : ∀ l∈A,l.length≤100) :
  (∃ e,e≠0∧Zbt ((N,E,A,()),())=some (e,())∧Zai ((N,E,A,()),())=some ((0,[],()),e,())) ∨
  ∃ (k : Nat) (nx m : List Int) (n : Nat),N=(k : Int)∧validB ((k : Int),E,A,())=true∧0 < k∧Pla k E A nx m n∧Zbt ((N,E,A,()),())=some (0,())∧Zbk ((N,E,A,()),())=some (m,(n : Int),())∧Zaa ((N,E,A,()),())=some (m,()) ∧
   Zbd ((N,E,A,()),())=some (facesOf nx,())∧Zai ((N,E,A,()),())=some (((n : Int),arcsFrom m 0 E.length,()),0,()):=by
 rcases build32 N E A hE (fun l h=>by have:=hl l h; omega) with ⟨e,he,c1,c3⟩ | ⟨k,fs,rfl,h,hvv,hk,hc,hf,⟨nx,f1,rfl,f3⟩,c1,r1,r2,k1,k2,b2⟩
 ·exact .inl ⟨e,he,c1,c3⟩
 ·have hmx : maxI 1 ((facesOf nx).length : Nat)=((max 1 (facesOf nx).length : Nat) : Int):=by unfold maxI; split <;> omega
  rw [hmx] at k1 b2
  exact .inr ⟨k,nx,_,_,rfl,hvv,hk,⟨h,hc,f1,f3,hf,hE,rfl,rfl⟩,c1,k1,k2,r1,b2⟩
end Go.Vm

namespace Go.Vm
open Go.Proofs
set_option maxRecDepth 100000
attribute [local irreducible] loopFix
theorem IsDist.le {Adj : Nat→Nat→Prop} {S : Nat→Prop} {f d t : Nat} (h : IsDist Adj S f d) (hw : Wk Adj S t f) : d≤t:=by
 rcases Nat.lt_or_ge t d with e | e
 ·exact absurd hw (h.2 t e)
 ·exact e
section
variable {N : Nat} {E : List Arc} {A : List (List Int)} {nx m : List Int} {n : Nat}
def Mn (E : List Arc) (m lu lv : List Int) (s : Nat) : Prop :=
 (∃ f : Nat,(f : Int)∈aroundL m lu∧Wk (AdjF (2 * E.length) (fcM m)) (fun f=>(f : Int)∈aroundL m lv) s f) ∧
  ∀ f : Nat,(f : Int)∈aroundL m lu→∀ t,Wk (AdjF (2 * E.length) (fcM m)) (fun f=>(f : Int)∈aroundL m lv) t f→s≤t
theorem RouteOf.mn {lu lv l : List Int} {D : Nat→Nat} {s : Nat} (h : RouteOf E m n lu lv D s l) (hu : ∀ f : Nat,(f : Int)∈aroundL m lu→f < n) : Mn E m lu lv s:=by
 obtain ⟨h1,⟨f,f1,f2,f3⟩,h3,_⟩:=h
 refine ⟨⟨f,f1,f3 ▸ (h1 f f2).1⟩,fun g hg t ht=>?_⟩
 have:=(h1 g (hu g hg)).le ht
 have:=h3 g hg
 omega
theorem Pla.goal_lt (p : Pla N E A nx m n) {l : List Int} (hl : l∈A) : ∀ f : Nat,(f : Int)∈aroundL m l→f < n:=by
 intro f hf
 obtain ⟨g,e,hg⟩:=p.goals_nat hl _ hf
 omega
theorem Pla.dist (p : Pla N E A nx m n) (c1 : Zbt (((N : Int),E,A,()),())=some (0,())) (k1 : Zbk (((N : Int),E,A,()),())=some (m,(n : Int),())) {u v : Nat} {lu lv : List Int} (hu : A[u]?=some lu) (hv : A[v]?=some lv)
  (hlu : lu.length≤100) (hlv : lv.length≤100) :
  ∃ l,Zbu (((N : Int),E,A,()),(u : Int),(v : Int),())=some (l,0,())∧Mn E m lu lv l.length:=by
 by_cases huv : u=v
 ·subst huv
  rw [hu] at hv
  have : lu=lv:=Option.some.inj hv
  subst this
  have hAl : A.length=N:=by have:=p.rot.len; omega
  have huN : u < N:=by rw [← hAl]; exact (List.getElem?_eq_some_iff.1 hu).1
  refine ⟨[],?_,?_,fun _ _ _ _=>Nat.zero_le _⟩
  ·unfold Zbu
   simp only
   rw [c1,Option.bind_some]
   simp only
   rw [neI_f rfl,cond_false,ltI_f (by omega),cond_false,geI_f (by omega),cond_false,cond_false,cond_false,eqI_t rfl,cond_true]
  ·obtain ⟨x,hx⟩:=List.exists_mem_of_ne_nil _ (p.goals_ne (List.mem_of_getElem? hu))
   obtain ⟨f,rfl,_⟩:=p.goals_nat (List.mem_of_getElem? hu) x hx
   exact ⟨f,hx,hx⟩
 ·obtain ⟨D,s,l,h1,h2⟩:=p.route c1 k1 hu hv huv hlu hlv
  refine ⟨l,h2,?_⟩
  rw [h1.2.2.2.len]
  exact h1.mn (p.goal_lt (List.mem_of_getElem? hu))
theorem Pla.get (p : Pla N E A nx m n) {v : Nat} (hv : v < N) : ∃ l,A[v]?=some l∧l∈A:=by
 have hAl : A.length=N:=by have:=p.rot.len; omega
 exact ⟨_,List.getElem?_eq_getElem (by omega),List.getElem_mem (by omega)⟩
end
end Go.Vm

namespace Go.Vm
open Go.Proofs
set_option maxRecDepth 100000
attribute [local irreducible] loopFix
theorem oth_even (i : Nat) : oth (2 * i)=2 * i+1:=by unfold oth; rw [if_pos (by omega)]
theorem oth_odd (i : Nat) : oth (2 * i+1)=2 * i:=by unfold oth; rw [if_neg (by omega)]; rfl
section
variable {M n : Nat} {fc D : Nat→Nat} {m : List Int} {S : Nat→Prop}
theorem arcs_get (hF : Fc (2 * M) n m fc) {i : Nat} (hi : i < M) : (arcsFrom m 0 M)[i]?=some ((fc (2 * i) : Int),(fc (oth (2 * i)) : Int),()):=by
 have h1:=hF.get (2 * i) (by omega)
 have h2:=hF.get (2 * i+1) (by omega)
 unfold arcsFrom
 rw [List.getElem?_map,List.getElem?_range' (by omega)]
 simp [mk2,h1,h2,oth_even]
theorem arcs_len : (arcsFrom m 0 M).length=M:=by simp [arcsFrom]
def rel1 (fc : Nat→Nat) (k : Nat) (out : List Int) : List Int:=out.set (fc k) (minI (lab out (fc k)) (lab out (fc (oth k))+1))
structure FI (M n : Nat) (fc : Nat→Nat) (S : Nat→Prop) (out : List Int) (r K : Nat) : Prop where
 len : out.length=n
 val : ∀ f,f < n→∃ d : Nat,lab out f=(d : Int)∧d≤n∧(d=n∨Wk (AdjF (2 * M) fc) S d f)
 up : ∀ t,t≤r→∀ f,f < n→Wk (AdjF (2 * M) fc) S t f→lab out f≤t
 inn : ∀ k,k < K→k < 2 * M→Wk (AdjF (2 * M) fc) S r (fc (oth k))→lab out (fc k)≤(r : Int)+1
theorem FI.half (hF : Fc (2 * M) n m fc) {out : List Int} {r K : Nat} (h : FI M n fc S out r K) (hK : K < 2 * M) : FI M n fc S (rel1 fc K out) r (K+1):=by
 have ha:=hF.lt K hK
 have hb:=hF.lt _ (oth_lt hK)
 have hal : fc K < out.length:=by rw [h.len]; exact ha
 obtain ⟨da,a1,a2,a3⟩:=h.val _ ha
 obtain ⟨db,b1,b2,b3⟩:=h.val _ hb
 have hle : ∀ f,lab (rel1 fc K out) f≤lab out f:=by
  intro f
  unfold rel1
  rw [lab_set hal]
  split
  ·rename_i e
   subst e
   unfold minI
   split <;> omega
  ·exact Int.le_refl _
 refine ⟨by unfold rel1; simpa using h.len,?_,?_,?_⟩
 ·intro f hf
  unfold rel1
  rw [lab_set hal]
  split
  ·rename_i e
   subst e
   unfold minI
   rw [a1,b1]
   split
   ·rename_i hlt
    refine ⟨db+1,by omega,by omega,.inr ?_⟩
    rcases b3 with e | e
    ·omega
    ·exact ⟨fc (oth K),⟨K,hK,rfl,rfl⟩,e⟩
   ·exact ⟨da,rfl,a2,a3⟩
  ·exact h.val f hf
 ·intro t ht f hf hw
  have:=h.up t ht f hf hw
  have:=hle f
  omega
 ·intro k hk hkM hw
  rcases Nat.lt_or_ge k K with e | e
  ·have:=h.inn k e hkM hw
   have:=hle (fc k)
   omega
  ·have : k=K:=by omega
   subst this
   have hu:=h.up r (Nat.le_refl _) _ hb hw
   unfold rel1
   rw [lab_set hal,if_pos rfl]
   unfold minI
   split <;> omega
theorem FI.round {out : List Int} {r : Nat} (h : FI M n fc S out r (2 * M)) (hF : Fc (2 * M) n m fc) : FI M n fc S out (r+1) 0 where
 len:=h.len
 val:=h.val
 up:=by
  intro t ht f hf hw
  rcases Nat.lt_or_ge r t with e | e
  ·have : t=r+1:=by omega
   subst this
   obtain ⟨g,⟨k,hk,rfl,rfl⟩,hg⟩:=hw
   have:=h.inn k hk hk hg
   omega
  ·exact h.up t e f hf hw
 inn:=fun k hk=>absurd hk (by omega)
theorem far_round (hF : Fc (2 * M) n m fc) (hM : M≤1000) (hn : n≤1000) {out : List Int} {r i : Nat} (h : FI M n fc S out r (2 * i)) (hi : i < M) (rr : Int) :
  ∃ out',Zau_B12 ((n : Int),arcsFrom m 0 M,out,rr,(i : Int),())=some (.inl ((n : Int),arcsFrom m 0 M,out',rr,((i+1 : Nat) : Int),()))∧FI M n fc S out' r (2 * (i+1)):=by
 have h1:=h.half hF (by omega)
 have h2:=h1.half hF (K:=2 * i+1) (by omega)
 refine ⟨_,?_,h2⟩
 have ha:=hF.lt (2 * i) (by omega)
 have hb:=hF.lt (oth (2 * i)) (oth_lt (by omega))
 have hla : fc (2 * i) < out.length:=by rw [h.len]; exact ha
 have hlb : fc (oth (2 * i)) < out.length:=by rw [h.len]; exact hb
 have hla' : fc (2 * i) < (rel1 fc (2 * i) out).length:=by rw [h1.len]; exact ha
 have hlb' : fc (oth (2 * i)) < (rel1 fc (2 * i) out).length:=by rw [h1.len]; exact hb
 obtain ⟨db,b1,b2,_⟩:=h.val _ hb
 obtain ⟨da,a1,a2,_⟩:=h1.val _ ha
 have hset : out.set (fc (2 * i)) (minI (lab out (fc (2 * i))) (addI .i64 (lab out (fc (oth (2 * i)))) 1))=rel1 fc (2 * i) out:=by
  unfold rel1
  rw [addI64 (by omega) (by omega)]
 unfold Zau_B12
 simp only
 rw [arcs_len,ltI_t (by omega),cond_true,getI_of,arcs_get hF hi,Option.bind_some,Option.bind_some]
 rw [idxI_of hla,Option.bind_some,lab_get hla,Option.bind_some,idxI_of hlb,Option.bind_some,lab_get hlb,Option.bind_some,Option.bind_some,lab_get hla,Option.bind_some]
 simp only [hset]
 rw [idxI_of hlb',Option.bind_some,lab_get hlb',Option.bind_some,idxI_of hla',Option.bind_some,lab_get hla',Option.bind_some,Option.bind_some,lab_get hlb',Option.bind_some,add1 (by omega)]
 have e2 : rel1 fc (2 * i+1) (rel1 fc (2 * i) out)=(rel1 fc (2 * i) out).set (fc (oth (2 * i))) (minI (lab (rel1 fc (2 * i) out) (fc (oth (2 * i)))) (addI .i64 (lab (rel1 fc (2 * i) out) (fc (2 * i))) 1)):=by
  rw [addI64 (by omega) (by omega),oth_even]
  show (rel1 fc (2 * i) out).set (fc (2 * i+1)) _=_
  rw [oth_odd]
 rw [e2]
theorem far_inner (hF : Fc (2 * M) n m fc) (hM : M≤1000) (hn : n≤1000) {r : Nat} (rr : Int) : ∀ (c i : Nat) (out : List Int),i+c=M→FI M n fc S out r (2 * i) →
  ∃ out',Zau_L12 ((n : Int),arcsFrom m 0 M,out,rr,(i : Int),())=some (.inl ((n : Int),arcsFrom m 0 M,out',rr,()))∧FI M n fc S out' r (2 * M)
 | 0,i,out,hc,h=>by
  have : i=M:=by omega
  subst this
  refine ⟨out,?_,h⟩
  unfold Zau_L12
  refine loop_done ?_
  unfold Zau_B12
  simp only
  rw [arcs_len,ltI_f (by omega)]; rfl
 | c+1,i,out,hc,h=>by
  obtain ⟨o1,h1,h2⟩:=far_round hF hM hn h (by omega) rr
  obtain ⟨o2,h3,h4⟩:=far_inner hF hM hn rr c (i+1) o1 (by omega) h2
  refine ⟨o2,?_,h4⟩
  rw [← h3]
  unfold Zau_L12
  exact loop_step h1
theorem far_outer (hF : Fc (2 * M) n m fc) (hM : M≤1000) (hn : n≤1000) : ∀ (c r : Nat) (out : List Int),r+c=n→FI M n fc S out r 0 →
  ∃ out',Zau_L9 ((n : Int),arcsFrom m 0 M,out,(r : Int),())=some (.inl (out',()))∧FI M n fc S out' n 0
 | 0,r,out,hc,h=>by
  have : r=n:=by omega
  subst this
  refine ⟨out,?_,h⟩
  unfold Zau_L9
  refine loop_done ?_
  unfold Zau_B9
  simp only
  rw [ltI_f (by omega)]; rfl
 | c+1,r,out,hc,h=>by
  obtain ⟨o1,h1,h2⟩:=far_inner hF hM hn (r : Int) M 0 out (by omega) h
  obtain ⟨o2,h3,h4⟩:=far_outer hF hM hn c (r+1) o1 (by omega) (h2.round hF)
  refine ⟨o2,?_,h4⟩
  rw [← h3]
  unfold Zau_L9
  refine loop_step ?_
  unfold Zau_B9
  simp only
  rw [ltI_t (by omega),cond_true,show ((0 : Int))=((0 : Nat) : Int) from rfl,h1]
  simp only [Option.bind_some,Sum.elim_inl]
  rw [add1 (by omega)]
theorem far_init (arcs : List Arc) (to : List Bool) (hto : to.length=n) (hn : n≤1000) : ∀ (c f : Nat) (out : List Int),f+c=n→out=(to.take f).map (fun b=>cond b 0 (n : Int)) →
  Zau_L3 ((n : Int),arcs,out,to,(f : Int),())=some (.inl ((n : Int),arcs,to.map (fun b=>cond b 0 (n : Int)),()))
 | 0,f,out,hc,h=>by
  unfold Zau_L3
  refine loop_done ?_
  unfold Zau_B3
  simp only
  rw [ltI_f (by omega),cond_false,h,List.take_of_length_le (by omega)]
 | c+1,f,out,hc,h=>by
  have hf : f < to.length:=by omega
  have hl : out.length=f:=by rw [h]; simp; omega
  rw [← far_init arcs to hto hn c (f+1) (out++[cond to[f] 0 (n : Int)]) (by omega) (by
   rw [List.take_add_one,List.getElem?_eq_getElem hf,h,List.map_append]; rfl)]
  unfold Zau_L3
  refine loop_step ?_
  unfold Zau_B3
  simp only
  rw [ltI_t (by omega),cond_true,getI_of,List.getElem?_eq_getElem hf,Option.bind_some]
  cases to[f] with
  | true=>rw [cond_true,app_of (by simp; omega),Option.bind_some,add1 (by omega)]; rfl
  | false=>rw [cond_false,app_of (by simp; omega),Option.bind_some,add1 (by omega)]; rfl
theorem far_eq (hF : Fc (2 * M) n m fc) (hM : M≤1000) (hn : n≤1000) (to : List Bool) (hto : to.length=n) (hS : ∀ f,f < n→(to[f]?=some true↔S f)) (hD : ∀ f,f < n→IsDist (AdjF (2 * M) fc) S f (D f)) (hDn : ∀ f,f < n→D f < n) :
  ∃ out,Zau (((n : Int),arcsFrom m 0 M,()),to,())=some (out,())∧out.length=n∧∀ f,f < n→out[f]?=some (D f : Int):=by
 have h0 : FI M n fc S (to.map (fun b=>cond b 0 (n : Int))) 0 0:=by
  have hlab : ∀ f,f < n→lab (to.map (fun b=>cond b 0 (n : Int))) f=cond ((to[f]?).getD false) 0 (n : Int):=by
   intro f hf
   unfold lab
   rw [List.getElem?_map,List.getElem?_eq_getElem (by omega)]
   rfl
  refine ⟨by simpa using hto,?_,?_,fun k hk=>absurd hk (by omega)⟩
  ·intro f hf
   rw [hlab f hf]
   cases e : (to[f]?).getD false with
   | true =>
    refine ⟨0,rfl,by omega,.inr ((hS f hf).1 ?_)⟩
    rw [List.getElem?_eq_getElem (by omega)] at e ⊢
    simpa using e
   | false=>exact ⟨n,rfl,Nat.le_refl _,.inl rfl⟩
  ·intro t ht f hf hw
   have : t=0:=by omega
   subst this
   rw [hlab f hf,(hS f hf).2 hw]
   simp
 obtain ⟨out,o1,o2⟩:=far_outer hF hM hn n 0 _ (by omega) h0
 refine ⟨out,?_,o2.len,?_⟩
 ·unfold Zau
  simp only
  rw [show ((0 : Int))=((0 : Nat) : Int) from rfl,far_init (arcsFrom m 0 M) to hto hn n 0 [] (by omega) rfl]
  simp only [Option.bind_some,Sum.elim_inl]
  rw [o1]; rfl
 ·intro f hf
  rw [lab_get (by rw [o2.len]; exact hf)]
  obtain ⟨d,d1,d2,d3⟩:=o2.val f hf
  have hd:=hD f hf
  have hlt:=hDn f hf
  have hu:=o2.up (D f) (by omega) f hf hd.1
  rcases d3 with e | e
  ·omega
  ·have:=hd.le e
   congr 1
   omega
variable {dist : List Int}
theorem rleast (arcs : List Arc) (now : List Bool) (hnow : now.length=n) (hdl : dist.length=n) (hn : n≤1000) (hD : ∀ f,f < n→dist[f]?=some (D f : Int)) (hDn : ∀ f,f < n→D f < n) : ∀ (c f x : Nat),f+c=n→x≤n→(x=n∨∃ g,g < f∧now[g]?=some true∧D g=x)→(∀ g,g < f→now[g]?=some true→x≤D g) →
  ∃ z : Nat,Zac_L13 ((n : Int),arcs,[],now,dist,(x : Int),(f : Int),())=some (.inl ((n : Int),arcs,[],now,dist,(z : Int),()))∧(z=n∨∃ g,g < n∧now[g]?=some true∧D g=z)∧∀ g,g < n→now[g]?=some true→z≤D g
 | 0,f,x,hc,h1,h2,h3=>by
  have : f=n:=by omega
  subst this
  refine ⟨x,?_,h2,h3⟩
  unfold Zac_L13
  refine loop_done ?_
  unfold Zac_B13
  simp only
  rw [ltI_f (by omega)]; rfl
 | c+1,f,x,hc,h1,h2,h3=>by
  have hf : f < n:=by omega
  have hfl : f < now.length:=by omega
  obtain ⟨b,hb⟩ : ∃ b,now[f]?=some b:=⟨_,List.getElem?_eq_getElem hfl⟩
  cases b with
  | false =>
   obtain ⟨z,z1,z2⟩:=rleast arcs now hnow hdl hn hD hDn c (f+1) x (by omega) h1 (by
    rcases h2 with e | ⟨g,e1,e2⟩
    ·exact .inl e
    ·exact .inr ⟨g,by omega,e2⟩) (by
    intro g hg e
    rcases Nat.lt_or_ge g f with c | c
    ·exact h3 g c e
    ·have : g=f:=by omega
     subst this
     rw [hb] at e; cases e)
   refine ⟨z,?_,z2⟩
   rw [← z1]
   unfold Zac_L13
   refine loop_step ?_
   unfold Zac_B13
   simp only
   rw [ltI_t (by omega),cond_true,idxI_of hfl,Option.bind_some,hb,Option.bind_some,cond_false,add1 (by omega)]
  | true =>
   have hmin : minI (x : Int) (D f : Int)=((min x (D f) : Nat) : Int):=by unfold minI; split <;> omega
   obtain ⟨z,z1,z2⟩:=rleast arcs now hnow hdl hn hD hDn c (f+1) (min x (D f)) (by omega) (by omega) (by
    rcases Nat.lt_or_ge (D f) x with e | e
    ·exact .inr ⟨f,by omega,hb,by omega⟩
    ·rcases h2 with e' | ⟨g,e1,e2,e3⟩
     ·have:=hDn f hf; omega
     ·exact .inr ⟨g,by omega,e2,by omega⟩) (by
    intro g hg e
    rcases Nat.lt_or_ge g f with c | c
    ·have:=h3 g c e; omega
    ·have : g=f:=by omega
     subst this
     omega)
   refine ⟨z,?_,z2⟩
   rw [← z1]
   unfold Zac_L13
   refine loop_step ?_
   unfold Zac_B13
   simp only
   rw [ltI_t (by omega),cond_true,idxI_of hfl,Option.bind_some,hb,Option.bind_some,cond_true,idxI_of (by omega),Option.bind_some,hD f hf,Option.bind_some,hmin,add1 (by omega)]
theorem rstep_round (hF : Fc (2 * M) n m fc) (hM : M≤1000) (hD : ∀ f,f < n→dist[f]?=some (D f : Int)) (hn : ∀ f,f < n→D f≤1000) (now next : List Bool) (hnow : now.length=n) (hnext : next.length=n) (hdl : dist.length=n) (out : List Int) (s i : Nat) (hs : s≤1000) (hi : i < M) :
  (Cnd fc D (fun f=>now[f]?=some true) s (2 * i)→Zac_B21 ((n : Int),arcsFrom m 0 M,out,now,dist,next,((s+1 : Nat) : Int),-1,(i : Int),())=some (.inl ((n : Int),arcsFrom m 0 M,out,now,dist,next.set (fc (oth (2 * i))) true,((s+1 : Nat) : Int),(i : Int),((i+1 : Nat) : Int),()))) ∧
  (Cnd fc D (fun f=>now[f]?=some true) s (2 * i+1)→Zac_B21 ((n : Int),arcsFrom m 0 M,out,now,dist,next,((s+1 : Nat) : Int),-1,(i : Int),())=some (.inl ((n : Int),arcsFrom m 0 M,out,now,dist,next.set (fc (2 * i)) true,((s+1 : Nat) : Int),(i : Int),((i+1 : Nat) : Int),()))) ∧
  (¬ Cnd fc D (fun f=>now[f]?=some true) s (2 * i)→¬ Cnd fc D (fun f=>now[f]?=some true) s (2 * i+1)→Zac_B21 ((n : Int),arcsFrom m 0 M,out,now,dist,next,((s+1 : Nat) : Int),-1,(i : Int),())=some (.inl ((n : Int),arcsFrom m 0 M,out,now,dist,next,((s+1 : Nat) : Int),-1,((i+1 : Nat) : Int),()))):=by
 have ha:=hF.lt (2 * i) (by omega)
 have hb:=hF.lt (oth (2 * i)) (oth_lt (by omega))
 obtain ⟨a,ea⟩ : ∃ a,a=fc (2 * i):=⟨_,rfl⟩
 obtain ⟨b,eb⟩ : ∃ b,b=fc (oth (2 * i)):=⟨_,rfl⟩
 have harc:=arcs_get hF hi
 unfold Cnd
 rw [oth_odd,← oth_even,← ea,← eb]
 rw [← ea,← eb] at harc
 rw [← ea] at ha
 rw [← eb] at hb
 obtain ⟨na,hna⟩ : ∃ x,now[a]?=some x:=⟨_,List.getElem?_eq_getElem (by omega)⟩
 obtain ⟨nb,hnb⟩ : ∃ x,now[b]?=some x:=⟨_,List.getElem?_eq_getElem (by omega)⟩
 have hda:=hD a ha
 have hdb:=hD b hb
 obtain ⟨xa,hxa⟩ : ∃ x,next[a]?=some x:=⟨_,List.getElem?_eq_getElem (by omega)⟩
 obtain ⟨xb,hxb⟩ : ∃ x,next[b]?=some x:=⟨_,List.getElem?_eq_getElem (by omega)⟩
 have i1 : idxI now.length (a : Int)=some a:=idxI_of (by omega)
 have i2 : idxI now.length (b : Int)=some b:=idxI_of (by omega)
 have i3 : idxI dist.length (a : Int)=some a:=idxI_of (by omega)
 have i4 : idxI dist.length (b : Int)=some b:=idxI_of (by omega)
 have i5 : idxI next.length (a : Int)=some a:=idxI_of (by omega)
 have i6 : idxI next.length (b : Int)=some b:=idxI_of (by omega)
 have i7 : idxI (arcsFrom m 0 M).length (i : Int)=some i:=idxI_of (by rw [arcs_len]; exact hi)
 have hsub : subI .i64 ((s+1 : Nat) : Int) 1=(s : Int):=by rw [sub1 (by omega)]; omega
 have hlt : ltI (i : Int) (((arcsFrom m 0 M).length : Nat) : Int)=true:=by rw [arcs_len]; exact ltI_t (by omega)
 have q1 : eqI (D a : Int) ((s+1 : Nat) : Int)=decide (D a=s+1):=by
  by_cases e : D a=s+1
  ·rw [eqI_t (by omega)]; simp [e]
  ·rw [eqI_f (by omega)]; simp [e]
 have q2 : eqI (D b : Int) ((s+1 : Nat) : Int)=decide (D b=s+1):=by
  by_cases e : D b=s+1
  ·rw [eqI_t (by omega)]; simp [e]
  ·rw [eqI_f (by omega)]; simp [e]
 have q3 : eqI (D a : Int) (s : Int)=decide (D a=s):=by
  by_cases e : D a=s
  ·rw [eqI_t (by omega)]; simp [e]
  ·rw [eqI_f (by omega)]; simp [e]
 have q4 : eqI (D b : Int) (s : Int)=decide (D b=s):=by
  by_cases e : D b=s
  ·rw [eqI_t (by omega)]; simp [e]
  ·rw [eqI_f (by omega)]; simp [e]
 have hs1 : decide (s=s+1)=false:=decide_eq_false (by omega)
 have hs2 : decide (s+1=s)=false:=decide_eq_false (by omega)
 unfold Zac_B21
 simp only [hlt,cond_true,show ltI (-1) 0=true from rfl,i7,Option.bind_some,harc,i1,i2,i3,i4,i5,i6,hna,hnb,hda,hdb,hxa,hxb,hsub,q1,q2,q3,q4,add1 (show i < 9223372036854775807 by omega)]
 refine ⟨?_,?_,?_⟩
 ·rintro ⟨c1,c2,c3⟩
  cases c1
  have c4 : ¬ D b=s+1:=by omega
  simp only [c2,c3,decide_true,cond_true,hs1]
  cases nb <;> rfl
 ·rintro ⟨c1,c2,c3⟩
  cases c1
  simp only [c2,c3,decide_true,cond_true,hs1,hs2,cond_false]
  cases na <;> rfl
 ·intro c1 c2
  have w1 : na=true→D a=s+1→¬ D b=s:=fun x y z=>c1 ⟨by rw [x],y,z⟩
  have w2 : nb=true→D b=s+1→¬ D a=s:=fun x y z=>c2 ⟨by rw [x],y,z⟩
  cases na <;> cases nb
  ·rfl
  ·simp only [cond_true,cond_false]
   by_cases e : D b=s+1
   ·simp [e,w2 rfl e]
   ·simp [e]
  ·simp only [cond_true,cond_false]
   by_cases e : D a=s+1
   ·simp [e,w1 rfl e]
   ·simp [e]
  ·simp only [cond_true]
   by_cases e : D a=s+1
   ·have:=w1 rfl e
    by_cases e' : D b=s+1
    ·simp [e,e']
    ·simp [e,e',this]
   ·by_cases e' : D b=s+1
    ·simp [e,e',w2 rfl e']
    ·simp [e,e']
theorem rstep_end (arcs : List Arc) (out : List Int) (now next : List Bool) (left : Int) (e i : Nat) : Zac_L21 ((n : Int),arcs,out,now,dist,next,left,(e : Int),(i : Int),())=some (.inl ((n : Int),arcs,out,dist,next,left,(e : Int),())):=by
 unfold Zac_L21
 refine loop_done ?_
 unfold Zac_B21
 simp only
 rw [ltI_f (show (0 : Int)≤(e : Int) by omega)]
 cases ltI (i : Int) ((arcs.length : Nat) : Int) <;> rfl
theorem rstep_loop (hF : Fc (2 * M) n m fc) (hM : M≤1000) (hD : ∀ f,f < n→dist[f]?=some (D f : Int)) (hn : ∀ f,f < n→D f≤1000) (now next : List Bool) (hnow : now.length=n) (hnext : next.length=n) (hdl : dist.length=n) (out : List Int) (s k : Nat) (hs : s≤1000) (hk : k < 2 * M)
  (hc : Cnd fc D (fun f=>now[f]?=some true) s k) (hmin : ∀ j,j < k→¬ Cnd fc D (fun f=>now[f]?=some true) s j) : ∀ (c i : Nat),i+c=k / 2 →
  Zac_L21 ((n : Int),arcsFrom m 0 M,out,now,dist,next,((s+1 : Nat) : Int),-1,(i : Int),())=some (.inl ((n : Int),arcsFrom m 0 M,out,dist,next.set (fc (oth k)) true,((s+1 : Nat) : Int),((k / 2 : Nat) : Int),()))
 | 0,i,h=>by
  have hi : i < M:=by omega
  obtain ⟨r1,r2,_⟩:=rstep_round hF hM hD hn now next hnow hnext hdl out s i hs hi
  have hk2 : k / 2=i:=by omega
  rw [hk2]
  rcases Nat.lt_or_ge (2 * i) k with h1 | h1
  ·have hke : k=2 * i+1:=by omega
   subst hke
   rw [oth_odd]
   rw [← rstep_end (arcsFrom m 0 M) out now (next.set (fc (2 * i)) true) ((s+1 : Nat) : Int) i (i+1)]
   unfold Zac_L21
   exact loop_step (r2 hc)
  ·have hke : k=2 * i:=by omega
   subst hke
   rw [← rstep_end (arcsFrom m 0 M) out now (next.set (fc (oth (2 * i))) true) ((s+1 : Nat) : Int) i (i+1)]
   unfold Zac_L21
   exact loop_step (r1 hc)
 | c+1,i,h=>by
  have hi : i < M:=by omega
  obtain ⟨_,_,r3⟩:=rstep_round hF hM hD hn now next hnow hnext hdl out s i hs hi
  rw [← rstep_loop hF hM hD hn now next hnow hnext hdl out s k hs hk hc hmin c (i+1) (by omega)]
  unfold Zac_L21
  exact loop_step (r3 (hmin _ (by omega)) (hmin _ (by omega)))
theorem rroute_loop (hDs : ∀ f,f < n→IsDist (AdjF (2 * M) fc) S f (D f)) (hF : Fc (2 * M) n m fc) (hM : M≤1000) (hnn : n≤1000) (hdl : dist.length=n) (hD : ∀ f,f < n→dist[f]?=some (D f : Int)) (hn : ∀ f,f < n→D f≤1000) : ∀ (s : Nat) (now : List Bool) (out : List Int),now.length=n→s≤1000→out.length+s≤2000→(∃ f : Nat,now[f]?=some true∧f < n∧D f=s) →
  ∃ l,Zac_L17 ((n : Int),arcsFrom m 0 M,out,now,dist,(s : Int),())=some (.inl (out++l,()))∧Rt M fc D (fun f=>now[f]?=some true) s l
 | 0,now,out,_,_,_,_=>by
  refine ⟨[],?_,rfl⟩
  unfold Zac_L17
  refine loop_done ?_
  unfold Zac_B17
  simp only
  rw [gtI_f (by omega),cond_false,List.append_nil]
 | s+1,now,out,h1,h2,h3,⟨f,f1,f2,f3⟩=>by
  have key : ∃ k,k < 2 * M∧Cnd fc D (fun f=>now[f]?=some true) s k∧∀ j,j < k→¬ Cnd fc D (fun f=>now[f]?=some true) s j:=by
   have h:=hDs f f2
   rw [f3] at h
   obtain ⟨g,⟨k,hk,k1,k2⟩,hg⟩:=h.step
   have hgn : g < n:=by rw [← k2]; exact hF.lt _ (oth_lt hk)
   have hgd : D g=s:=(hDs g hgn).uniq hg
   obtain ⟨k0,a,b,c⟩:=least_dart (P:=Cnd fc D (fun f=>now[f]?=some true) s) k ⟨by rw [k1]; exact f1,by rw [k1]; exact f3,by rw [k2]; exact hgd⟩
   exact ⟨k0,by omega,b,c⟩
  obtain ⟨k,k1,k2,k3⟩:=key
  have hgn : fc (oth k) < n:=hF.lt _ (oth_lt k1)
  have hset : ∀ g,((List.replicate n false).set (fc (oth k)) true)[g]?=some true↔g=fc (oth k):=by
   intro g
   rw [List.getElem?_set]
   by_cases e : fc (oth k)=g
   ·rw [if_pos e,if_pos (by simp; omega)]; simp [e]
   ·rw [if_neg e,List.getElem?_replicate]
    split
    ·simp; omega
    ·simp; omega
  obtain ⟨l,l1,l2⟩:=rroute_loop hDs hF hM hnn hdl hD hn s ((List.replicate n false).set (fc (oth k)) true) (out++[((k / 2 : Nat) : Int)]) (by simp) (by omega) (by simp; omega) ⟨fc (oth k),(hset _).2 rfl,hgn,k2.2.2⟩
  refine ⟨((k / 2 : Nat) : Int) :: l,?_,k,l,k1,k2,k3,rfl,l2.congr (fun g _=>hset g)⟩
  rw [show out++((k / 2 : Nat) : Int) :: l=(out++[((k / 2 : Nat) : Int)])++l by simp,← l1]
  have hmk : makeL .bool (n : Int) (n : Int)=some (List.replicate n false):=by
   unfold makeL
   rw [if_pos ⟨by omega,by omega,by rw [lim_val]; omega⟩]
   simp [zeroVal]
  unfold Zac_L17
  refine loop_step ?_
  unfold Zac_B17
  simp only
  rw [gtI_t (by omega),cond_true,hmk,Option.bind_some,show ((0 : Int))=((0 : Nat) : Int) from rfl,rstep_loop hF hM hD hn now (List.replicate n false) h1 (by simp) hdl out s k (by omega) k1 k2 k3 (k / 2) 0 (by omega)]
  simp only [Option.bind_some,Sum.elim_inl]
  rw [app_of (by simp; omega),Option.bind_some,sub1 (by omega)]
  congr 9
  omega
end
end Go.Vm

namespace Go.Vm
open Go.Proofs
set_option maxRecDepth 100000
attribute [local irreducible] loopFix
section
variable {N : Nat} {E : List Arc} {A : List (List Int)} {nx m : List Int} {n : Nat}
theorem Pla.raround (p : Pla N E A nx m n) (hm : Zaa (((N : Int),E,A,()),())=some (m,())) (arcs : List Arc) {v : Nat} {l : List Int} (hv : A[v]?=some l) (hl : l.length≤100) :
  ∃ bs,Zv (((N : Int),E,A,()),((n : Int),arcs,()),(v : Int),())=some (bs,())∧bs.length=n∧∀ f,f < n→(bs[f]?=some true↔(f : Int)∈aroundL m l):=by
 have hla:=List.mem_of_getElem? hv
 have hnp : 0 < n:=by have:=p.n; omega
 have hs:=p.small
 have hml : m.length=2 * E.length:=p.fc.len
 have hd : ∀ d∈l,∃ k : Nat,d=(k : Int)∧k < m.length∧∃ j : Nat,m[k]?=some (j : Int)∧j < n:=by
  intro d hd
  obtain ⟨k,e,hk⟩:=p.rot.mem_of hla hd
  exact ⟨k,e,by omega,_,(p.mark hk).1,(p.mark hk).2.1⟩
 refine ⟨_,raround_eq (N : Int) E A m l arcs v n hv hnp (by omega) hd (by omega) hm,by rw [setT_len]; simp,?_⟩
 intro f hf
 rw [setT_at _ _ _ (by simpa using hf),List.getElem?_set,p.goals hla]
 constructor
 ·rintro (h | ⟨d,hd',e⟩)
  ·split at h
   ·rename_i e
    subst e
    rw [if_pos (by simpa using hf)] at h
    exact .inl ⟨by simpa using h,rfl⟩
   ·rw [List.getElem?_replicate] at h
    split at h <;> simp at h
  ·obtain ⟨k,rfl,hk⟩:=p.rot.mem_of hla hd'
   refine .inr ⟨k,hd',?_,hk⟩
   rw [← e]
   rfl
 ·rintro (⟨h,e⟩ | ⟨k,k1,k2,k3⟩)
  ·left
   have : f=0:=by omega
   subst this
   rw [if_pos rfl,if_pos (by simpa using hf)]
   simp [h]
  ·right
   refine ⟨_,k1,?_⟩
   have : f=fcM m k:=by omega
   rw [this]
   rfl
theorem Pla.rroute (p : Pla N E A nx m n) (hm : Zaa (((N : Int),E,A,()),())=some (m,())) (hb : Zai (((N : Int),E,A,()),())=some (((n : Int),arcsFrom m 0 E.length,()),0,())) {u v : Nat} {lu lv : List Int} (hu : A[u]?=some lu) (hv : A[v]?=some lv) (huv : u≠v)
  (hlu : lu.length≤100) (hlv : lv.length≤100) {D : Nat→Nat} {s : Nat} {l : List Int} (hr : RouteOf E m n lu lv D s l) : Zac (((N : Int),E,A,()),(u : Int),(v : Int),())=some (l,0,()):=by
 have hn:=p.small
 have hE:=p.few
 have hAl : A.length=N:=by have:=p.rot.len; omega
 have huN : u < N:=by rw [← hAl]; exact (List.getElem?_eq_some_iff.1 hu).1
 have hvN : v < N:=by rw [← hAl]; exact (List.getElem?_eq_some_iff.1 hv).1
 obtain ⟨now,n1,n2,n3⟩:=p.raround hm (arcsFrom m 0 E.length) hu hlu
 obtain ⟨to,t1,t2,t3⟩:=p.raround hm (arcsFrom m 0 E.length) hv hlv
 obtain ⟨h1,⟨f0,f1,f2,f3⟩,h3,h4⟩:=hr
 have hA : ∀ f g,AdjF (2 * E.length) (fcM m) f g→f < n:=by
  rintro f g ⟨k,hk,rfl,_⟩
  exact p.fc.lt k hk
 have hDn : ∀ f,f < n→D f < n:=fun f hf=>(h1 f hf).lt (p.goal_lt (List.mem_of_getElem? hv)) hA
 obtain ⟨dist,d1,d2,d3⟩:=far_eq (M:=E.length) p.fc (by omega) (by omega) to t2 t3 h1 hDn
 obtain ⟨z,z1,z2,z3⟩:=rleast (D:=D) (dist:=dist) (arcsFrom m 0 E.length) now n2 d2 (by omega) d3 hDn n 0 n (by omega) (Nat.le_refl _) (.inl rfl) (fun g hg=>absurd hg (by omega))
 have hz : z=s:=by
  have e1:=z3 f0 f2 ((n3 f0 f2).2 f1)
  rcases z2 with e | ⟨g,g1,g2,g3⟩
  ·have:=hDn f0 f2; omega
  ·have:=h3 g ((n3 g g1).1 g2)
   omega
 subst hz
 obtain ⟨l',l1,l2⟩:=rroute_loop (M:=E.length) (dist:=dist) h1 p.fc (by omega) (by omega) d2 d3 (fun f hf=>by have:=hDn f hf; omega) z now [] n2 (by have:=hDn f0 f2; omega) (by have:=hDn f0 f2; simp; omega) ⟨f0,(n3 f0 f2).2 f1,f2,f3⟩
 have hll : l'=l:=by
  cases z with
  | zero=>exact l2.trans h4.symm
  | succ z =>
   refine l2.uniq (h4.congr (P':=fun f=>(f : Int)∈aroundL m lu∧f < n) (fun f _=>⟨fun h=>⟨h,p.goal_lt (List.mem_of_getElem? hu) f h⟩,fun h=>h.1⟩)) (fun f _=>?_)
   constructor
   ·intro h
    have hfn : f < n:=by rw [← n2]; exact (List.getElem?_eq_some_iff.1 h).1
    exact ⟨(n3 f hfn).1 h,hfn⟩
   ·exact fun h=>(n3 f h.2).2 h.1
 subst hll
 unfold Zac
 simp only
 rw [hb,Option.bind_some]
 simp only
 rw [neI_f rfl,cond_false,ltI_f (by omega),cond_false,geI_f (by omega),cond_false,ltI_f (by omega),cond_false,geI_f (by omega),cond_false,eqI_f (by omega),cond_false,n1,Option.bind_some,t1,Option.bind_some]
 simp only
 rw [d1,Option.bind_some]
 simp only
 rw [show Zac_L13 ((n : Int),arcsFrom m 0 E.length,[],now,dist,(n : Int),0,())=some (.inl ((n : Int),arcsFrom m 0 E.length,[],now,dist,(z : Int),())) from z1]
 simp only [Option.bind_some,Sum.elim_inl]
 rw [l1]
 rfl
end
theorem routes32 (N : Int) (E : List Arc) (A : List (List Int)) (u v : Int) (hE : E.length≤100) (hl : ∀ l∈A,l.length≤100) :
  ∃ l e,Zbu ((N,E,A,()),u,v,())=some (l,e,())∧Zac ((N,E,A,()),u,v,())=some (l,e,())∧l.length≤68719476736:=by
 rcases cases32 N E A hE hl with ⟨e,he,c1,b1⟩ | ⟨k,nx,m,n,rfl,hvv,hk0,p,c1,k1,hm,_,b1⟩
 ·refine ⟨[],e,?_,?_,by simp⟩
  ·unfold Zbu
   simp only
   rw [c1,Option.bind_some]
   simp only
   rw [neI_t he]; rfl
  ·unfold Zac
   simp only
   rw [b1,Option.bind_some]
   simp only
   rw [neI_t he]; rfl
 ·by_cases hr : 0≤u∧u < k∧0≤v∧v < k∧u≠v
  ·obtain ⟨h1,h2,h3,h4,h5⟩:=hr
   obtain ⟨a,rfl⟩ : ∃ i : Nat,u=(i : Int):=⟨u.toNat,by omega⟩
   obtain ⟨b,rfl⟩ : ∃ i : Nat,v=(i : Int):=⟨v.toNat,by omega⟩
   obtain ⟨lu,u1,u2⟩:=p.get (v:=a) (by omega)
   obtain ⟨lv,v1,v2⟩:=p.get (v:=b) (by omega)
   obtain ⟨D,s,l,r1,r2⟩:=p.route c1 k1 u1 v1 (by omega) (hl _ u2) (hl _ v2)
   refine ⟨l,0,r2,p.rroute hm b1 u1 v1 (by omega) (hl _ u2) (hl _ v2) r1,?_⟩
   rw [r1.2.2.2.len]
   obtain ⟨f,_,f2,f3⟩:=r1.2.1
   have:=(r1.1 f f2).lt (p.goal_lt v2) (fun f g=>by rintro ⟨k,hk,rfl,_⟩; exact p.fc.lt k hk)
   have:=p.small
   omega
  ·have key : ∃ e,Zbu (((k : Int),E,A,()),u,v,())=some ([],e,())∧Zac (((k : Int),E,A,()),u,v,())=some ([],e,()):=by
    unfold Zbu Zac
    simp only
    rw [c1,b1,Option.bind_some,Option.bind_some]
    simp only
    rw [neI_f rfl,cond_false,cond_false]
    by_cases h1 : u < 0
    ·rw [ltI_t h1]; exact ⟨3,rfl,rfl⟩
    ·rw [ltI_f (by omega),cond_false,cond_false]
     by_cases h2 : (k : Int)≤u
     ·rw [geI_t h2]; exact ⟨3,rfl,rfl⟩
     ·rw [geI_f (by omega),cond_false,cond_false]
      by_cases h3 : v < 0
      ·rw [ltI_t h3]; exact ⟨3,rfl,rfl⟩
      ·rw [ltI_f (by omega),cond_false,cond_false]
       by_cases h4 : (k : Int)≤v
       ·rw [geI_t h4]; exact ⟨3,rfl,rfl⟩
       ·rw [geI_f (by omega),cond_false,cond_false]
        have h5 : u=v:=by
         apply Classical.byContradiction
         intro h
         exact hr ⟨by omega,by omega,by omega,by omega,h⟩
        rw [eqI_t h5]
        exact ⟨0,rfl,rfl⟩
   obtain ⟨e,e1,e2⟩:=key
   exact ⟨[],e,e1,e2,by simp⟩
end Go.Vm


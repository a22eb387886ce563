/-
 The longest ways of a plane system in a direction; loops that go on until nothing changes.
-/
import Derived.Test.YtpgfkljmcacegaaDoorN42F
set_option linter.unusedVariables false
set_option linter.unusedSimpArgs false
namespace Go.Vm
open Go.Proofs
set_option maxRecDepth 100000
attribute [local irreducible] loopFix
theorem rounds {S σ ρ : Type} {B : σ→Option (σ⊕ρ)} (st : S→Bool→σ) (out : S→ρ) (I : S→Prop) (μ : S→Nat) (C : S→Prop) (hf : ∀ s,B (st s false)=some (.inr (out s)))
  (ht : ∀ s,I s→∃ t b,B (st s true)=some (.inl (st t b))∧I t∧((b=false∧t=s∧C s)∨(b=true∧μ t < μ s))) : ∀ (n : Nat) (s : S),μ s≤n→I s→∃ t,loopFix B (st s true)=some (out t)∧I t∧C t:=by
 intro n
 induction n with
 | zero =>
  intro s hn hs
  obtain ⟨t,b,h1,h2,h3⟩:=ht s hs
  rcases h3 with ⟨rfl,rfl,h4⟩ | ⟨_,h4⟩
  ·exact ⟨t,(loop_step h1).trans (loop_done (hf t)),h2,h4⟩
  ·omega
 | succ n ih =>
  intro s hn hs
  obtain ⟨t,b,h1,h2,h3⟩:=ht s hs
  rcases h3 with ⟨rfl,rfl,h4⟩ | ⟨rfl,h4⟩
  ·exact ⟨t,(loop_step h1).trans (loop_done (hf t)),h2,h4⟩
  ·obtain ⟨u,u1,u2,u3⟩:=ih t (by omega) h2
   exact ⟨u,(loop_step h1).trans u1,u2,u3⟩
theorem sweep {S σ ρ : Type} {B : σ→Option (σ⊕ρ)} (st : S→Bool→Nat→σ) (out : S→Bool→ρ) (I : S→Prop) (μ : S→Nat) (C : S→Nat→Prop) (n : Nat) (he : ∀ s b,B (st s b n)=some (.inr (out s b)))
  (hs : ∀ s b d,d < n→I s→∃ t c,B (st s b d)=some (.inl (st t c (d+1)))∧I t∧((c=b∧t=s∧C s d)∨(c=true∧μ t < μ s))) : ∀ (r d : Nat) (s : S) (b : Bool),d+r=n→I s →
  ∃ t c,loopFix B (st s b d)=some (out t c)∧I t∧((c=b∧t=s∧∀ i,d≤i→i < n→C s i)∨(c=true∧μ t < μ s))
 | 0,d,s,b,hd,hi=>by
  have : d=n:=by omega
  subst this
  exact ⟨s,b,loop_done (he s b),hi,.inl ⟨rfl,rfl,fun i h1 h2=>by omega⟩⟩
 | r+1,d,s,b,hd,hi=>by
  obtain ⟨t,c,h1,h2,h3⟩:=hs s b d (by omega) hi
  obtain ⟨u,e,u1,u2,u3⟩:=sweep st out I μ C n he hs r (d+1) t c (by omega) h2
  refine ⟨u,e,(loop_step h1).trans u1,u2,?_⟩
  rcases h3 with ⟨rfl,rfl,q⟩ | ⟨q1,q2⟩
  ·rcases u3 with ⟨rfl,rfl,v⟩ | ⟨v1,v2⟩
   ·refine .inl ⟨rfl,rfl,fun i i1 i2=>?_⟩
    by_cases e : i=d
    ·subst e; exact q
    ·exact v i (by omega) i2
   ·exact .inr ⟨v1,v2⟩
  ·rcases u3 with ⟨rfl,rfl,v⟩ | ⟨v1,v2⟩
   ·exact .inr ⟨q1,q2⟩
   ·exact .inr ⟨v1,by omega⟩
def tot (w : Int→Nat) (l : List Int) : Nat:=(l.map w).sum
theorem tot_set (w : Int→Nat) : ∀ {l : List Int} {i : Nat} {x y : Int},l[i]?=some x→tot w (l.set i y)+w x=tot w l+w y
 | [],i,x,y,h=>by simp at h
 | a :: l,0,x,y,h=>by
  simp at h
  subst h
  simp [tot]
  omega
 | a :: l,i+1,x,y,h=>by
  have:=tot_set w (l:=l) (i:=i) (y:=y) (by simpa using h)
  simp [tot] at this ⊢
  omega
theorem walk_app {tl : Nat→Nat} {M : Nat} : ∀ {ds es : List Nat} {a b c : Nat},Walk tl M a ds b→Walk tl M b es c→Walk tl M a (ds++es) c
 | [],_,a,b,c,h1,h2=>by
  have h1 : a=b:=h1
  subst h1; exact h2
 | d :: ds,es,a,b,c,⟨h1,h2,h3⟩,h4=>⟨h1,h2,walk_app h3 h4⟩
section
variable {V F M : Nat} {tl fc fw : Nat→Nat} {g k : Nat→Int} {o : Nat} {a : Int}
inductive Up (tl : Nat→Nat) (M : Nat) (k : Nat→Int) (a : Int) : Nat→Nat→Prop
 | base (v : Nat) : Up tl M k a 0 v
 | along {n d : Nat} : Up tl M k a n (tl d)→d < 2 * M→k d=a→Up tl M k a (n+1) (tl (oth d))
 | side {n d : Nat} : Up tl M k a n (tl d)→d < 2 * M→k d % 2≠a % 2→Up tl M k a n (tl (oth d))
def Le (tl : Nat→Nat) (M : Nat) (k : Nat→Int) (a : Int) (u v : Nat) : Prop:=∃ ds,Walk tl M u ds v∧∀ d∈ds,k d=a∨k d % 2≠a % 2
def Lt (tl : Nat→Nat) (M : Nat) (k : Nat→Int) (a : Int) (u v : Nat) : Prop:=∃ ds,Walk tl M u ds v∧(∀ d∈ds,k d=a∨k d % 2≠a % 2)∧∃ d∈ds,k d=a
theorem Lt.le {u v : Nat} (h : Lt tl M k a u v) : Le tl M k a u v:=by obtain ⟨ds,h1,h2,_⟩:=h; exact ⟨ds,h1,h2⟩
theorem Le.lt {u v w : Nat} (h : Le tl M k a u v) (h2 : Lt tl M k a v w) : Lt tl M k a u w:=by
 obtain ⟨ds,d1,d2⟩:=h
 obtain ⟨es,e1,e2,x,x1,x2⟩:=h2
 refine ⟨ds++es,walk_app d1 e1,fun d hd=>?_,x,by simp [x1],x2⟩
 rcases List.mem_append.1 hd with h | h
 ·exact d2 d h
 ·exact e2 d h
theorem Le.le {u v w : Nat} (h : Le tl M k a u v) (h2 : Le tl M k a v w) : Le tl M k a u w:=by
 obtain ⟨ds,d1,d2⟩:=h
 obtain ⟨es,e1,e2⟩:=h2
 refine ⟨ds++es,walk_app d1 e1,fun d hd=>?_⟩
 rcases List.mem_append.1 hd with h | h
 ·exact d2 d h
 ·exact e2 d h
theorem Le.refl (u : Nat) : Le tl M k a u u:=⟨[],rfl,by simp⟩
theorem Plane.lt_irr (p : Plane V F M tl fc fw) (ha : Angl V F M tl fc fw g o) (hk : Dirs M fw g k) (h12 : a=1∨a=2) {u : Nat} : ¬ Lt tl M k a u u:=by
 rintro ⟨ds,d1,d2,x,x1,x2⟩
 have lt : ∀ {ds : List Nat} {a b : Nat},Walk tl M a ds b→∀ d∈ds,d < 2 * M:=by
  intro ds
  induction ds with
  | nil=>intro a b _ d hd; simp at hd
  | cons x ds ih =>
   intro a b h d hd
   rcases List.mem_cons.1 hd with rfl | hd
   ·exact h.1
   ·exact ih h.2.2 d hd
 have:=p.no_cycle ha (k:=fun d=>(k d+5 - a) % 4) ⟨fun d hd=>by omega,fun d hd=>by have:=hk.fw d hd; omega,fun d hd=>by have:=hk.oth d hd; omega⟩ d1 (fun d hd=>by
  have:=hk.nn d (lt d1 d hd)
  have:=d2 d hd
  rcases h12 with rfl | rfl <;> omega) x x1
 have:=hk.nn x (lt d1 x x1)
 rcases h12 with rfl | rfl <;> omega
theorem Plane.up_bound (p : Plane V F M tl fc fw) (ha : Angl V F M tl fc fw g o) (hk : Dirs M fw g k) (h12 : a=1∨a=2) {n v : Nat} (hv : v < V) (h : Up tl M k a n v) : n < V:=by
 have key : ∀ {n v : Nat},Up tl M k a n v→v < V→∃ f : Nat→Nat,(∀ i,i≤n→f i < V)∧(∀ i j,i < j→j≤n→Lt tl M k a (f i) (f j))∧Le tl M k a (f n) v:=by
  intro n v h
  induction h with
  | base v=>exact fun hv=>⟨fun _=>v,fun _ _=>hv,fun i j h1 h2=>by omega,Le.refl v⟩
  | @along n d _ hd hka ih =>
   intro hv
   obtain ⟨f,f1,f2,f3⟩:=ih (p.tlt d hd)
   have hlt : Lt tl M k a (f n) (tl (oth d)):=f3.lt ⟨[d],⟨hd,rfl,rfl⟩,by simp [hka],d,by simp,hka⟩
   refine ⟨fun i=>if i≤n then f i else tl (oth d),fun i _=>?_,fun i j h1 h2=>?_,?_⟩
   ·simp only; split
    ·rename_i h; exact f1 i h
    ·exact hv
   ·by_cases c : j≤n
    ·simp only [if_pos c,if_pos (show i≤n by omega)]
     exact f2 i j h1 c
    ·simp only [if_neg c,if_pos (show i≤n by omega)]
     by_cases e : i=n
     ·subst e; exact hlt
     ·exact (f2 i n (by omega) (Nat.le_refl _)).le.lt hlt
   ·simp only [if_neg (show ¬ n+1≤n by omega)]
    exact Le.refl _
  | @side n d _ hd hks ih =>
   intro hv
   obtain ⟨f,f1,f2,f3⟩:=ih (p.tlt d hd)
   exact ⟨f,f1,f2,f3.le ⟨[d],⟨hd,rfl,rfl⟩,by simp [hks]⟩⟩
 obtain ⟨f,f1,f2,_⟩:=key h hv
 have:=pigeon (n:=n+1) (m:=V) f (fun i hi=>f1 i (by omega)) (fun i j hi hj e=>by
  rcases Nat.lt_trichotomy i j with c | c | c
  ·have:=f2 i j c (by omega)
   rw [e] at this
   exact absurd this (p.lt_irr ha hk h12)
  ·exact c
  ·have:=f2 j i c (by omega)
   rw [e] at this
   exact absurd this (p.lt_irr ha hk h12))
 omega
theorem Plane.rank (p : Plane V F M tl fc fw) (ha : Angl V F M tl fc fw g o) (hk : Dirs M fw g k) (h12 : a=1∨a=2) : ∃ R : Nat→Nat,∀ v,v < V→Up tl M k a (R v) v∧(∀ n,Up tl M k a n v→n≤R v)∧R v < V:=by
 have one : ∀ v,v < V→∃ r,Up tl M k a r v∧(∀ n,Up tl M k a n v→n≤r)∧r < V:=by
  intro v hv
  have key : ∀ m,∀ r,Up tl M k a r v→V - r≤m→∃ r,Up tl M k a r v∧(∀ n,Up tl M k a n v→n≤r)∧r < V:=by
   intro m
   induction m with
   | zero =>
    intro r hr hm
    have:=p.up_bound ha hk h12 hv hr
    omega
   | succ m ih =>
    intro r hr hm
    by_cases c : ∃ n,Up tl M k a n v∧r < n
    ·obtain ⟨n,n1,n2⟩:=c
     exact ih n n1 (by omega)
    ·refine ⟨r,hr,fun n hn=>?_,p.up_bound ha hk h12 hv hr⟩
     apply Nat.le_of_not_lt
     exact fun hlt=>c ⟨n,hn,hlt⟩
  exact key V 0 (.base v) (by omega)
 refine ⟨fun v=>@dite _ (v < V) (Nat.decLt v V) (fun h=>Classical.choose (one v h)) (fun _=>0),fun v hv=>?_⟩
 simp only [dif_pos hv]
 exact Classical.choose_spec (one v hv)
def Vert (tl : Nat→Nat) (M : Nat) (k : Nat→Int) (a : Int) (u v : Nat) : Prop:=∃ ds,Walk tl M u ds v∧∀ d∈ds,k d % 2≠a % 2
theorem Vert.refl (u : Nat) : Vert tl M k a u u:=⟨[],rfl,by simp⟩
theorem Vert.trans {u v w : Nat} (h : Vert tl M k a u v) (h2 : Vert tl M k a v w) : Vert tl M k a u w:=by
 obtain ⟨ds,d1,d2⟩:=h
 obtain ⟨es,e1,e2⟩:=h2
 refine ⟨ds++es,walk_app d1 e1,fun d hd=>?_⟩
 rcases List.mem_append.1 hd with h | h
 ·exact d2 d h
 ·exact e2 d h
theorem Vert.dart {d : Nat} (hd : d < 2 * M) (hk : k d % 2≠a % 2) : Vert tl M k a (tl d) (tl (oth d)):=⟨[d],⟨hd,rfl,rfl⟩,by simp [hk]⟩
theorem side_oth (hk : Dirs M fw g k) {d : Nat} (hd : d < 2 * M) : k (oth d) % 2=k d % 2:=by
 have:=hk.oth d hd
 omega
theorem Vert.symm (hk : Dirs M fw g k) : ∀ {u v : Nat},Vert tl M k a u v→Vert tl M k a v u:=by
 have : ∀ {ds : List Nat} {u v : Nat},Walk tl M u ds v→(∀ d∈ds,k d % 2≠a % 2)→Vert tl M k a v u:=by
  intro ds
  induction ds with
  | nil=>intro u v h _; have h : u=v:=h; subst h; exact Vert.refl _
  | cons d ds ih =>
   rintro u v ⟨h1,h2,h3⟩ h4
   refine (ih h3 (fun x hx=>h4 x (by simp [hx]))).trans ?_
   have:=Vert.dart (tl:=tl) (a:=a) (k:=k) (oth_lt2 h1) (by rw [side_oth hk h1]; exact h4 d (by simp))
   rw [oth_two,h2] at this
   exact this
 rintro u v ⟨ds,d1,d2⟩
 exact this d1 d2
theorem Vert.up : ∀ {u v n : Nat},Vert tl M k a u v→Up tl M k a n u→Up tl M k a n v:=by
 have : ∀ {ds : List Nat} {u v n : Nat},Walk tl M u ds v→(∀ d∈ds,k d % 2≠a % 2)→Up tl M k a n u→Up tl M k a n v:=by
  intro ds
  induction ds with
  | nil=>intro u v n h _ hu; have h : u=v:=h; subst h; exact hu
  | cons d ds ih =>
   rintro u v n ⟨h1,h2,h3⟩ h4 hu
   subst h2
   exact ih h3 (fun x hx=>h4 x (by simp [hx])) (.side hu h1 (h4 d (by simp)))
 rintro u v n ⟨ds,d1,d2⟩ hu
 exact this d1 d2 hu
theorem Vert.same {L : Nat→Int} (hL : ∀ d,d < 2 * M→k d % 2≠a % 2→L (tl d)=L (tl (oth d))) : ∀ {u v : Nat},Vert tl M k a u v→L u=L v:=by
 have : ∀ {ds : List Nat} {u v : Nat},Walk tl M u ds v→(∀ d∈ds,k d % 2≠a % 2)→L u=L v:=by
  intro ds
  induction ds with
  | nil=>intro u v h _; have h : u=v:=h; subst h; rfl
  | cons d ds ih =>
   rintro u v ⟨h1,h2,h3⟩ h4
   subst h2
   rw [hL d h1 (h4 d (by simp))]
   exact ih h3 fun x hx=>h4 x (by simp [hx])
 rintro u v ⟨ds,d1,d2⟩
 exact this d1 d2
theorem Up.last : ∀ {m w : Nat},Up tl M k a m w→m=0∨∃ n d,m=n+1∧d < 2 * M∧k d=a∧Up tl M k a n (tl d)∧Vert tl M k a (tl (oth d)) w:=by
 intro m w h
 induction h with
 | base v=>exact .inl rfl
 | @along n d hu hd hka ih=>exact .inr ⟨n,d,rfl,hd,hka,hu,Vert.refl _⟩
 | @side n d hu hd hks ih =>
  rcases ih with h0 | ⟨n',d',e,h1,h2,h3,h4⟩
  ·exact .inl h0
  ·exact .inr ⟨n',d',e,h1,h2,h3,h4.trans (Vert.dart hd hks)⟩
end
end Go.Vm

/-
 Potentials: where the faces of a connected plane system close, differences along its edges come from numbers of its vertices.
-/
import Derived.Test.YtpgfkljmcacegaaDoorVmD
set_option linter.unusedVariables false
set_option linter.unusedSimpArgs false
namespace Go.Vm
set_option maxRecDepth 100000
def sumTo : Nat→(Nat→Int)→Int
 | 0,_=>0
 | n+1,f=>sumTo n f+f n
theorem sumTo_succ (n : Nat) (f : Nat→Int) : sumTo (n+1) f=sumTo n f+f n:=rfl
theorem sumTo_congr {f g : Nat→Int} : ∀ {n : Nat},(∀ i,i < n→f i=g i)→sumTo n f=sumTo n g
 | 0,_=>rfl
 | n+1,h=>by
  unfold sumTo
  rw [sumTo_congr (fun i hi=>h i (by omega)),h n (by omega)]
theorem sumTo_add (f g : Nat→Int) : ∀ n,sumTo n (fun i=>f i+g i)=sumTo n f+sumTo n g
 | 0=>rfl
 | n+1=>by simp only [sumTo_succ]; rw [sumTo_add f g n]; omega
theorem sumTo_sub (f g : Nat→Int) : ∀ n,sumTo n (fun i=>f i - g i)=sumTo n f - sumTo n g
 | 0=>rfl
 | n+1=>by simp only [sumTo_succ]; rw [sumTo_sub f g n]; omega
theorem sumTo_zero {f : Nat→Int} : ∀ {n : Nat},(∀ i,i < n→f i=0)→sumTo n f=0
 | 0,_=>rfl
 | n+1,h=>by unfold sumTo; rw [sumTo_zero (fun i hi=>h i (by omega)),h n (by omega)]; rfl
theorem sumTo_le {f g : Nat→Int} : ∀ {n : Nat},(∀ i,i < n→f i≤g i)→sumTo n f≤sumTo n g
 | 0,_=>Int.le_refl _
 | n+1,h=>by
  unfold sumTo
  have:=sumTo_le (f:=f) (g:=g) (n:=n) (fun i hi=>h i (by omega))
  have:=h n (by omega)
  omega
theorem sumTo_one {f : Nat→Int} {k : Nat} : ∀ {n : Nat},k < n→(∀ i,i < n→i≠k→f i=0)→sumTo n f=f k
 | n+1,hk,h=>by
  unfold sumTo
  by_cases e : k=n
  ·subst e
   rw [sumTo_zero (fun i hi=>h i (by omega) (by omega))]; omega
  ·rw [sumTo_one (k:=k) (n:=n) (by omega) (fun i hi=>h i (by omega)),h n (by omega) (by omega)]; omega
theorem sumTo_dvd {f : Nat→Int} {k : Nat} (q : Int) : ∀ {n : Nat},k < n→(∀ i,i < n→i≠k→q∣f i)→q∣sumTo n f→q∣f k:=by
 intro n hk h hs
 have e : sumTo n f=sumTo n (fun i=>if i=k then f i else 0)+sumTo n (fun i=>if i=k then 0 else f i):=by
  rw [← sumTo_add]
  refine sumTo_congr fun i _=>?_
  by_cases e : i=k
  ·simp [e]
  ·simp [e]
 have e1 : sumTo n (fun i=>if i=k then f i else 0)=f k:=by
  rw [sumTo_one hk (fun i _ hi=>by simp [hi])]; simp
 have e2 : ∀ m,m≤n→q∣sumTo m (fun i=>if i=k then 0 else f i):=by
  intro m
  induction m with
  | zero=>intro _; exact Int.dvd_zero q
  | succ m ih =>
   intro hm
   unfold sumTo
   refine Int.dvd_add (ih (by omega)) ?_
   by_cases e : m=k
   ·simp [e]
   ·simp only [e,if_false]; exact h m (by omega) e
 rw [e,e1] at hs
 have:=Int.dvd_sub hs (e2 n (Nat.le_refl _))
 rw [show f k+sumTo n (fun i=>if i=k then 0 else f i) - sumTo n (fun i=>if i=k then 0 else f i)=f k by omega] at this
 exact this
def mrg (L : Nat→Nat) (a b : Nat) : Nat→Nat:=fun x=>if L x=L b then L a else L x
structure Cls (n : Nat) (L : Nat→Nat) : Prop where
 lt : ∀ x,x < n→L x < n
 idem : ∀ x,x < n→L (L x)=L x
def fixN (n : Nat) (L : Nat→Nat) : Int:=sumTo n fun x=>if L x=x then 1 else 0
theorem Cls.id (n : Nat) : Cls n (fun x=>x):=⟨fun _ h=>h,fun _ _=>rfl⟩
theorem Cls.mrg {n : Nat} {L : Nat→Nat} (h : Cls n L) {a b : Nat} (ha : a < n) (hb : b < n) : Cls n (mrg L a b) where
 lt:=by
  intro x hx
  unfold Vm.mrg
  split
  ·exact h.lt a ha
  ·exact h.lt x hx
 idem:=by
  intro x hx
  unfold Vm.mrg
  by_cases e : L x=L b
  ·simp only [e,if_true,h.idem a ha]
   split <;> rfl
  ·simp only [e,if_false,h.idem x hx]
theorem mrg_same {L : Nat→Nat} {a b x y : Nat} (h : L x=L y) : mrg L a b x=mrg L a b y:=by unfold mrg; rw [h]
theorem mrg_join (L : Nat→Nat) (a b : Nat) : mrg L a b a=mrg L a b b:=by
 unfold mrg
 simp only [if_true]
 split <;> rfl
theorem fix_id (n : Nat) : fixN n (fun x=>x)=n:=by
 unfold fixN
 have : ∀ m : Nat,sumTo m (fun x : Nat=>if x=x then 1 else 0)=m:=by
  intro m
  induction m with
  | zero=>rfl
  | succ m ih=>unfold sumTo; rw [ih]; simp
 exact this n
theorem fix_mrg {n : Nat} {L : Nat→Nat} (h : Cls n L) {a b : Nat} (ha : a < n) (hb : b < n) : fixN n (mrg L a b)=fixN n L - (if L a=L b then 0 else 1):=by
 by_cases e : L a=L b
 ·rw [if_pos e]
  unfold fixN
  rw [Int.sub_zero]
  refine sumTo_congr fun x _=>?_
  have : mrg L a b x=L x:=by
   unfold mrg
   split
   ·rename_i e'; rw [e,e']
   ·rfl
  rw [this]
 ·rw [if_neg e]
  have hone : sumTo n (fun x=>(if L x=x then (1 : Int) else 0) - (if mrg L a b x=x then 1 else 0))=1:=by
   rw [sumTo_one (k:=L b) (h.lt b hb)]
   ·have h1 : L (L b)=L b:=h.idem b hb
    have h2 : mrg L a b (L b)=L a:=by unfold mrg; rw [if_pos h1]
    rw [if_pos h1,h2,if_neg e]
    rfl
   ·intro x hx hne
    by_cases e' : L x=L b
    ·have h1 : ¬ L x=x:=fun h'=>hne (by rw [← e',h'])
     have h2 : ¬ mrg L a b x=x:=by
      unfold mrg
      rw [if_pos e']
      intro h'
      apply e
      have:=h.idem a ha
      rw [h',e'] at this
      rw [h',this]
     rw [if_neg h1,if_neg h2]; rfl
    ·have : mrg L a b x=L x:=by unfold mrg; rw [if_neg e']
     rw [this]; omega
  rw [sumTo_sub] at hone
  unfold fixN
  omega
theorem fix_one {n : Nat} {L : Nat→Nat} (h : Cls n L) (hn : 0 < n) (hc : ∀ x,x < n→L x=L 0) : fixN n L=1:=by
 unfold fixN
 rw [sumTo_one (k:=L 0) (h.lt 0 hn)]
 ·rw [if_pos (h.idem 0 hn)]
 ·intro x hx hne
  rw [if_neg]
  intro e
  exact hne (by rw [← hc x hx,e])
section
variable (p q : Nat→Nat)
def upto : Nat→Nat→Nat
 | 0=>fun x=>x
 | k+1=>mrg (upto k) (p k) (q k)
def downto (M : Nat) : Nat→Nat→Nat
 | 0=>fun x=>x
 | j+1=>mrg (downto M j) (p (M - 1 - j)) (q (M - 1 - j))
variable {p q} {n M : Nat}
theorem upto_cls (hp : ∀ i,i < M→p i < n) (hq : ∀ i,i < M→q i < n) : ∀ k,k≤M→Cls n (upto p q k)
 | 0,_=>Cls.id n
 | k+1,h=>(upto_cls hp hq k (by omega)).mrg (hp k (by omega)) (hq k (by omega))
theorem upto_edge : ∀ (k i : Nat),i < k→upto p q k (p i)=upto p q k (q i)
 | k+1,i,h=>by
  by_cases e : i=k
  ·subst e; exact mrg_join _ _ _
  ·exact mrg_same (upto_edge k i (by omega))
theorem upto_fix (hp : ∀ i,i < M→p i < n) (hq : ∀ i,i < M→q i < n) : ∀ k,k≤M→fixN n (upto p q k)=n - sumTo k (fun i=>if upto p q i (p i)=upto p q i (q i) then 0 else 1)
 | 0,_=>by show fixN n (fun x=>x)=_; rw [fix_id]; simp [sumTo]
 | k+1,h=>by
  show fixN n (mrg (upto p q k) (p k) (q k))=_
  rw [fix_mrg (upto_cls hp hq k (by omega)) (hp k (by omega)) (hq k (by omega)),upto_fix hp hq k (by omega)]
  simp only [sumTo_succ]
  omega
theorem downto_cls (hp : ∀ i,i < M→p i < n) (hq : ∀ i,i < M→q i < n) : ∀ j,j≤M→Cls n (downto p q M j)
 | 0,_=>Cls.id n
 | j+1,h=>(downto_cls hp hq j (by omega)).mrg (hp _ (by omega)) (hq _ (by omega))
theorem downto_edge : ∀ (j i : Nat),j≤M→M - j≤i→i < M→downto p q M j (p i)=downto p q M j (q i)
 | 0,i,_,h1,h2=>by omega
 | j+1,i,h,h1,h2=>by
  by_cases e : i=M - 1 - j
  ·subst e; exact mrg_join _ _ _
  ·exact mrg_same (downto_edge j i (by omega) (by omega) h2)
theorem downto_fix (hp : ∀ i,i < M→p i < n) (hq : ∀ i,i < M→q i < n) : ∀ j,j≤M→fixN n (downto p q M j)=n - sumTo j (fun i=>if downto p q M i (p (M - 1 - i))=downto p q M i (q (M - 1 - i)) then 0 else 1)
 | 0,_=>by show fixN n (fun x=>x)=_; rw [fix_id]; simp [sumTo]
 | j+1,h=>by
  show fixN n (mrg (downto p q M j) (p (M - 1 - j)) (q (M - 1 - j)))=_
  rw [fix_mrg (downto_cls hp hq j (by omega)) (hp _ (by omega)) (hq _ (by omega)),downto_fix hp hq j (by omega)]
  simp only [sumTo_succ]
  omega
end
theorem sumTo_rev (f : Nat→Int) : ∀ M,sumTo M (fun i=>f (M - 1 - i))=sumTo M f:=by
 have shift : ∀ (n : Nat) (f : Nat→Int),sumTo (n+1) f=f 0+sumTo n (fun i=>f (i+1)):=by
  intro n
  induction n with
  | zero=>intro f; simp [sumTo]
  | succ n ih =>
   intro f
   have : sumTo (n+1+1) f=sumTo (n+1) f+f (n+1):=rfl
   rw [this,ih f]
   have : sumTo (n+1) (fun i=>f (i+1))=sumTo n (fun i=>f (i+1))+f (n+1):=rfl
   rw [this]; omega
 intro M
 induction M with
 | zero=>rfl
 | succ M ih =>
  rw [shift M]
  have : sumTo M (fun i=>f (M+1 - 1 - (i+1)))=sumTo M (fun i=>f (M - 1 - i)):=sumTo_congr fun i _=>by congr 1; omega
  rw [this,ih]
  have : sumTo (M+1) f=sumTo M f+f M:=rfl
  rw [this]
  simp
  omega
section
variable {V F M : Nat} {t h l r : Nat→Nat} {δ : Nat→Int}
theorem tree_cotree (ht : ∀ i,i < M→t i < V) (hh : ∀ i,i < M→h i < V) (hl : ∀ i,i < M→l i < F) (hr : ∀ i,i < M→r i < F)
  (H1 : ∀ y g : Nat→Int,sumTo M (fun i=>(y (l i) - y (r i)) * (g (h i) - g (t i)))=0)
  (cV : ∀ L : Nat→Nat,(∀ i,i < M→L (t i)=L (h i))→∀ x,x < V→L x=L 0) (cF : ∀ L : Nat→Nat,(∀ i,i < M→L (l i)=L (r i))→∀ x,x < F→L x=L 0)
  (hV : 0 < V) (hF : 0 < F) (hE : V+F=M+2) : ∀ k,k < M→upto t h k (t k)=upto t h k (h k)→downto l r M (M - 1 - k) (l k)≠downto l r M (M - 1 - k) (r k):=by
 have both : ∀ k,k < M→upto t h k (t k)≠upto t h k (h k)→downto l r M (M - 1 - k) (l k)=downto l r M (M - 1 - k) (r k):=by
  intro k hk h1
  apply Classical.byContradiction
  intro h2
  have e:=H1 (fun f=>if downto l r M (M - 1 - k) f=downto l r M (M - 1 - k) (l k) then 1 else 0) (fun v=>if upto t h k v=upto t h k (t k) then 1 else 0)
  rw [sumTo_one (k:=k) hk] at e
  ·simp only [if_true] at e
   rw [if_neg (Ne.symm h2),if_neg (Ne.symm h1)] at e
   omega
  ·intro i hi hne
   rcases Nat.lt_or_ge i k with c | c
   ·rw [upto_edge k i c]; simp
   ·rw [downto_edge (M - 1 - k) i (by omega) (by omega) hi]; simp
 have e1:=upto_fix ht hh M (Nat.le_refl _)
 have e2:=downto_fix hl hr M (Nat.le_refl _)
 rw [fix_one (upto_cls ht hh M (Nat.le_refl _)) hV (cV _ (fun i hi=>upto_edge M i hi))] at e1
 rw [fix_one (downto_cls hl hr M (Nat.le_refl _)) hF (cF _ (fun i hi=>downto_edge M i (Nat.le_refl _) (by omega) hi))] at e2
 have e3 : sumTo M (fun i=>if downto l r M i (l (M - 1 - i))=downto l r M i (r (M - 1 - i)) then (0 : Int) else 1)=sumTo M (fun i=>if downto l r M (M - 1 - i) (l i)=downto l r M (M - 1 - i) (r i) then 0 else 1):=by
  rw [← sumTo_rev]
  refine sumTo_congr fun i hi=>?_
  rw [show M - 1 - (M - 1 - i)=i by omega]
 rw [e3] at e2
 intro k hk h1 h2
 -- the edge k joins nothing: too few edges are left
 have e4 : sumTo M (fun i=>(if upto t h i (t i)=upto t h i (h i) then (0 : Int) else 1)+(if downto l r M (M - 1 - i) (l i)=downto l r M (M - 1 - i) (r i) then 0 else 1))=M:=by
  rw [sumTo_add]; omega
 have e5 : sumTo M (fun i=>(if upto t h i (t i)=upto t h i (h i) then (0 : Int) else 1)+(if downto l r M (M - 1 - i) (l i)=downto l r M (M - 1 - i) (r i) then 0 else 1))≤sumTo M (fun i=>if i=k then 0 else 1):=by
  refine sumTo_le fun i hi=>?_
  by_cases e : i=k
  ·subst e
   rw [if_pos h1,if_pos h2]; simp
  ·rw [if_neg e]
   by_cases c : upto t h i (t i)=upto t h i (h i)
   ·rw [if_pos c]; split <;> omega
   ·rw [if_neg c,if_pos (both i hi c)]; omega
 have e6 : sumTo M (fun i=>(1 : Int) - (if i=k then 0 else 1))=1:=by
  rw [sumTo_one (k:=k) hk]
  ·simp
  ·intro i _ hne; rw [if_neg hne]; rfl
 rw [sumTo_sub] at e6
 have e7 : sumTo M (fun _=>(1 : Int))=M:=by
  have : ∀ m : Nat,sumTo m (fun _=>(1 : Int))=m:=by
   intro m
   induction m with
   | zero=>rfl
   | succ m ih=>unfold sumTo; rw [ih]; simp
  exact this M
 omega
def pot (t h : Nat→Nat) (δ : Nat→Int) : Nat→Nat→Int
 | 0=>fun _=>0
 | k+1=>fun x=>if upto t h k (t k)=upto t h k (h k) then pot t h δ k x else if upto t h k x=upto t h k (h k) then pot t h δ k x+(pot t h δ k (t k)+δ k - pot t h δ k (h k)) else pot t h δ k x
theorem pot_edge : ∀ (k i : Nat),i < k→upto t h i (t i)≠upto t h i (h i)→pot t h δ k (h i) - pot t h δ k (t i)=δ i
 | k+1,i,hi,hne=>by
  by_cases e : i=k
  ·subst e
   unfold pot
   simp only [if_neg hne,if_true]
   omega
  ·have ih:=pot_edge k i (by omega) hne
   have hs:=upto_edge (p:=t) (q:=h) k i (by omega)
   unfold pot
   split
   ·exact ih
   ·rw [hs]
    split <;> omega
theorem potential (ht : ∀ i,i < M→t i < V) (hh : ∀ i,i < M→h i < V) (hl : ∀ i,i < M→l i < F) (hr : ∀ i,i < M→r i < F)
  (H1 : ∀ y g : Nat→Int,sumTo M (fun i=>(y (l i) - y (r i)) * (g (h i) - g (t i)))=0) (q : Int) (H2 : ∀ y : Nat→Int,q∣sumTo M (fun i=>(y (l i) - y (r i)) * δ i))
  (cV : ∀ L : Nat→Nat,(∀ i,i < M→L (t i)=L (h i))→∀ x,x < V→L x=L 0) (cF : ∀ L : Nat→Nat,(∀ i,i < M→L (l i)=L (r i))→∀ x,x < F→L x=L 0)
  (hV : 0 < V) (hF : 0 < F) (hE : V+F=M+2) : ∃ φ : Nat→Int,∀ i,i < M→q∣φ (h i) - φ (t i) - δ i:=by
 refine ⟨pot t h δ M,fun k=>?_⟩
 induction k using Nat.strongRecOn with
 | _ k ih =>
  intro hk
  by_cases c : upto t h k (t k)=upto t h k (h k)
  ·have hd:=tree_cotree ht hh hl hr H1 cV cF hV hF hE k hk c
   have s : q∣sumTo M (fun i=>((if downto l r M (M - 1 - k) (l i)=downto l r M (M - 1 - k) (l k) then (1 : Int) else 0) - (if downto l r M (M - 1 - k) (r i)=downto l r M (M - 1 - k) (l k) then 1 else 0)) * (pot t h δ M (h i) - pot t h δ M (t i) - δ i)):=by
    have e:=H1 (fun f=>if downto l r M (M - 1 - k) f=downto l r M (M - 1 - k) (l k) then 1 else 0) (pot t h δ M)
    have e2:=H2 (fun f=>if downto l r M (M - 1 - k) f=downto l r M (M - 1 - k) (l k) then 1 else 0)
    have e3:=Int.dvd_sub (Int.dvd_zero q) e2
    have e4 : sumTo M (fun i=>((if downto l r M (M - 1 - k) (l i)=downto l r M (M - 1 - k) (l k) then (1 : Int) else 0) - (if downto l r M (M - 1 - k) (r i)=downto l r M (M - 1 - k) (l k) then 1 else 0)) * (pot t h δ M (h i) - pot t h δ M (t i) - δ i)) =
      0 - sumTo M (fun i=>((if downto l r M (M - 1 - k) (l i)=downto l r M (M - 1 - k) (l k) then (1 : Int) else 0) - (if downto l r M (M - 1 - k) (r i)=downto l r M (M - 1 - k) (l k) then 1 else 0)) * δ i):=by
     refine Eq.trans ?_ (congrArg (fun z=>z - sumTo M (fun i=>((if downto l r M (M - 1 - k) (l i)=downto l r M (M - 1 - k) (l k) then (1 : Int) else 0) - (if downto l r M (M - 1 - k) (r i)=downto l r M (M - 1 - k) (l k) then 1 else 0)) * δ i)) e)
     rw [← sumTo_sub]
     exact sumTo_congr fun i _=>Int.mul_sub _ _ _
    rw [e4]
    exact e3
   have:=sumTo_dvd q hk (fun i hi hne=>?_) s
   ·simp only [if_true] at this
    rw [if_neg (Ne.symm hd)] at this
    simpa using this
   ·rcases Nat.lt_or_ge i k with c' | c'
    ·exact Int.dvd_mul_of_dvd_right (ih i c' hi)
    ·rw [downto_edge (M - 1 - k) i (by omega) (by omega) hi]
     simp
  ·rw [pot_edge M k hk c]
   simp
end
end Go.Vm

/-
 Directions; a shape that is as it must be is valid.
-/
import Derived.Test.YtnnbdielbgljaaaDoorVmD
import Derived.Test.YtnnbdielbgljaaaDoorKB
import Derived.Test.YtnnbdielbgljaaaDoorKC
import Derived.Test.YtnnbdielbgljaaaDoorKA
set_option linter.unusedVariables false
set_option linter.unusedSimpArgs false
/-
 Potentials: where the faces of a connected plane system close, differences along its edges come from numbers of its vertices.
-/
namespace Go.Vm
set_option maxRecDepth 100000
def ag : Nat→(Nat→Int)→Int
 | 0,_=>0
 | n+1,f=>ag n f+f n
theorem cd (n : Nat) (f : Nat→Int) : ag (n+1) f=ag n f+f n:=rfl
theorem aK {f g : Nat→Int} : ∀ {n : Nat},(∀ i,i < n→f i=g i)→ag n f=ag n g
 | 0,_=>rfl
 | n+1,h=>by
  unfold ag
  rw [aK (fun i hi=>h i (by omega)),h n (by omega)]
theorem cX (f g : Nat→Int) : ∀ n,ag n (fun i=>f i+g i)=ag n f+ag n g
 | 0=>rfl
 | n+1=>by simp only [cd]; rw [cX f g n]; omega
theorem cY (f g : Nat→Int) : ∀ n,ag n (fun i=>f i - g i)=ag n f - ag n g
 | 0=>rfl
 | n+1=>by simp only [cd]; rw [cY f g n]; omega
theorem eA {f : Nat→Int} : ∀ {n : Nat},(∀ i,i < n→f i=0)→ag n f=0
 | 0,_=>rfl
 | n+1,h=>by unfold ag; rw [eA (fun i hi=>h i (by omega)),h n (by omega)]; rfl
theorem iQ {f g : Nat→Int} : ∀ {n : Nat},(∀ i,i < n→f i≤g i)→ag n f≤ag n g
 | 0,_=>Int.le_refl _
 | n+1,h=>by
  unfold ag
  have:=iQ (f:=f) (g:=g) (n:=n) (fun i hi=>h i (by omega))
  have:=h n (by omega)
  omega
theorem bF {f : Nat→Int} {k : Nat} : ∀ {n : Nat},k < n→(∀ i,i < n→i≠k→f i=0)→ag n f=f k
 | n+1,hk,h=>by
  unfold ag
  by_cases e : k=n
  ·subst e
   rw [eA (fun i hi=>h i (by omega) (by omega))]; omega
  ·rw [bF (k:=k) (n:=n) (by omega) (fun i hi=>h i (by omega)),h n (by omega) (by omega)]; omega
theorem Au {f : Nat→Int} {k : Nat} (q : Int) : ∀ {n : Nat},k < n→(∀ i,i < n→i≠k→q∣f i)→q∣ag n f→q∣f k:=by
 intro n hk h hs
 have e : ag n f=ag n (fun i=>if i=k then f i else 0)+ag n (fun i=>if i=k then 0 else f i):=by
  rw [← cX]
  refine aK fun i _=>?_
  by_cases e : i=k
  ·simp [e]
  ·simp [e]
 have e1 : ag n (fun i=>if i=k then f i else 0)=f k:=by
  rw [bF hk (fun i _ hi=>by simp [hi])]; simp
 have e2 : ∀ m,m≤n→q∣ag m (fun i=>if i=k then 0 else f i):=by
  intro m
  induction m with
  | zero=>intro _; exact Int.dvd_zero q
  | succ m ih =>
   intro hm
   unfold ag
   refine Int.dvd_add (ih (by omega)) ?_
   by_cases e : m=k
   ·simp [e]
   ·simp only [e,if_false]; exact h m (by omega) e
 rw [e,e1] at hs
 have:=Int.dvd_sub hs (e2 n (Nat.le_refl _))
 rw [show f k+ag n (fun i=>if i=k then 0 else f i) - ag n (fun i=>if i=k then 0 else f i)=f k by omega] at this
 exact this
def mrg (L : Nat→Nat) (a b : Nat) : Nat→Nat:=fun x=>if L x=L b then L a else L x
structure Cls (n : Nat) (L : Nat→Nat) : Prop where
 lt : ∀ x,x < n→L x < n
 idem : ∀ x,x < n→L (L x)=L x
def jP (n : Nat) (L : Nat→Nat) : Int:=ag n fun x=>if L x=x then 1 else 0
theorem Cls.id (n : Nat) : Cls n (fun x=>x):=⟨fun _ h=>h,fun _ _=>rfl⟩
theorem Cls.mrg {n : Nat} {L : Nat→Nat} (h : Cls n L) {a b : Nat} (ha : a < n) (hb : b < n) : Cls n (mrg L a b) where
 lt:=by
  intro x hx
  unfold Vm.mrg
  split
  ·exact h.lt a ha
  ·exact h.lt x hx
 idem:=by
  intro x hx
  unfold Vm.mrg
  by_cases e : L x=L b
  ·simp only [e,if_true,h.idem a ha]
   split <;> rfl
  ·simp only [e,if_false,h.idem x hx]
theorem vW {L : Nat→Nat} {a b x y : Nat} (h : L x=L y) : mrg L a b x=mrg L a b y:=by unfold mrg; rw [h]
theorem wx (L : Nat→Nat) (a b : Nat) : mrg L a b a=mrg L a b b:=by
 unfold mrg
 simp only [if_true]
 split <;> rfl
theorem BY (n : Nat) : jP n (fun x=>x)=n:=by
 unfold jP
 have : ∀ m : Nat,ag m (fun x : Nat=>if x=x then 1 else 0)=m:=by
  intro m
  induction m with
  | zero=>rfl
  | succ m ih=>unfold ag; rw [ih]; simp
 exact this n
theorem zN {n : Nat} {L : Nat→Nat} (h : Cls n L) {a b : Nat} (ha : a < n) (hb : b < n) : jP n (mrg L a b)=jP n L - (if L a=L b then 0 else 1):=by
 by_cases e : L a=L b
 ·rw [if_pos e]
  unfold jP
  rw [Int.sub_zero]
  refine aK fun x _=>?_
  have : mrg L a b x=L x:=by
   unfold mrg
   split
   ·rename_i e'; rw [e,e']
   ·rfl
  rw [this]
 ·rw [if_neg e]
  have hone : ag n (fun x=>(if L x=x then (1 : Int) else 0) - (if mrg L a b x=x then 1 else 0))=1:=by
   rw [bF (k:=L b) (h.lt b hb)]
   ·have h1 : L (L b)=L b:=h.idem b hb
    have h2 : mrg L a b (L b)=L a:=by unfold mrg; rw [if_pos h1]
    rw [if_pos h1,h2,if_neg e]
    rfl
   ·intro x hx hne
    by_cases e' : L x=L b
    ·have h1 : ¬ L x=x:=fun h'=>hne (by rw [← e',h'])
     have h2 : ¬ mrg L a b x=x:=by
      unfold mrg
      rw [if_pos e']
      intro h'
      apply e
      have:=h.idem a ha
      rw [h',e'] at this
      rw [h',this]
     rw [if_neg h1,if_neg h2]; rfl
    ·have : mrg L a b x=L x:=by unfold mrg; rw [if_neg e']
     rw [this]; omega
  rw [cY] at hone
  unfold jP
  omega
theorem um {n : Nat} {L : Nat→Nat} (h : Cls n L) (hn : 0 < n) (hc : ∀ x,x < n→L x=L 0) : jP n L=1:=by
 unfold jP
 rw [bF (k:=L 0) (h.lt 0 hn)]
 ·rw [if_pos (h.idem 0 hn)]
 ·intro x hx hne
  rw [if_neg]
  intro e
  exact hne (by rw [← hc x hx,e])
section
variable (p q : Nat→Nat)
def cZ : Nat→Nat→Nat
 | 0=>fun x=>x
 | k+1=>mrg (cZ k) (p k) (q k)
def aJ (M : Nat) : Nat→Nat→Nat
 | 0=>fun x=>x
 | j+1=>mrg (aJ M j) (p (M - 1 - j)) (q (M - 1 - j))
variable {p q} {n M : Nat}
theorem nc (hp : ∀ i,i < M→p i < n) (hq : ∀ i,i < M→q i < n) : ∀ k,k≤M→Cls n (cZ p q k)
 | 0,_=>Cls.id n
 | k+1,h=>(nc hp hq k (by omega)).mrg (hp k (by omega)) (hq k (by omega))
theorem kS : ∀ (k i : Nat),i < k→cZ p q k (p i)=cZ p q k (q i)
 | k+1,i,h=>by
  by_cases e : i=k
  ·subst e; exact wx _ _ _
  ·exact vW (kS k i (by omega))
theorem qz (hp : ∀ i,i < M→p i < n) (hq : ∀ i,i < M→q i < n) : ∀ k,k≤M→jP n (cZ p q k)=n - ag k (fun i=>if cZ p q i (p i)=cZ p q i (q i) then 0 else 1)
 | 0,_=>by show jP n (fun x=>x)=_; rw [BY]; simp [ag]
 | k+1,h=>by
  show jP n (mrg (cZ p q k) (p k) (q k))=_
  rw [zN (nc hp hq k (by omega)) (hp k (by omega)) (hq k (by omega)),qz hp hq k (by omega)]
  simp only [cd]
  omega
theorem ji (hp : ∀ i,i < M→p i < n) (hq : ∀ i,i < M→q i < n) : ∀ j,j≤M→Cls n (aJ p q M j)
 | 0,_=>Cls.id n
 | j+1,h=>(ji hp hq j (by omega)).mrg (hp _ (by omega)) (hq _ (by omega))
theorem eF : ∀ (j i : Nat),j≤M→M - j≤i→i < M→aJ p q M j (p i)=aJ p q M j (q i)
 | 0,i,_,h1,h2=>by omega
 | j+1,i,h,h1,h2=>by
  by_cases e : i=M - 1 - j
  ·subst e; exact wx _ _ _
  ·exact vW (eF j i (by omega) (by omega) h2)
theorem je (hp : ∀ i,i < M→p i < n) (hq : ∀ i,i < M→q i < n) : ∀ j,j≤M→jP n (aJ p q M j)=n - ag j (fun i=>if aJ p q M i (p (M - 1 - i))=aJ p q M i (q (M - 1 - i)) then 0 else 1)
 | 0,_=>by show jP n (fun x=>x)=_; rw [BY]; simp [ag]
 | j+1,h=>by
  show jP n (mrg (aJ p q M j) (p (M - 1 - j)) (q (M - 1 - j)))=_
  rw [zN (ji hp hq j (by omega)) (hp _ (by omega)) (hq _ (by omega)),je hp hq j (by omega)]
  simp only [cd]
  omega
end
theorem tk (f : Nat→Int) : ∀ M,ag M (fun i=>f (M - 1 - i))=ag M f:=by
 have shift : ∀ (n : Nat) (f : Nat→Int),ag (n+1) f=f 0+ag n (fun i=>f (i+1)):=by
  intro n
  induction n with
  | zero=>intro f; simp [ag]
  | succ n ih =>
   intro f
   have : ag (n+1+1) f=ag (n+1) f+f (n+1):=rfl
   rw [this,ih f]
   have : ag (n+1) (fun i=>f (i+1))=ag n (fun i=>f (i+1))+f (n+1):=rfl
   rw [this]; omega
 intro M
 induction M with
 | zero=>rfl
 | succ M ih =>
  rw [shift M]
  have : ag M (fun i=>f (M+1 - 1 - (i+1)))=ag M (fun i=>f (M - 1 - i)):=aK fun i _=>by congr 1; omega
  rw [this,ih]
  have : ag (M+1) f=ag M f+f M:=rfl
  rw [this]
  simp
  omega
section
variable {V F M : Nat} {t h l r : Nat→Nat} {δ : Nat→Int}
theorem oK (ht : ∀ i,i < M→t i < V) (hh : ∀ i,i < M→h i < V) (hl : ∀ i,i < M→l i < F) (hr : ∀ i,i < M→r i < F)
  (H1 : ∀ y g : Nat→Int,ag M (fun i=>(y (l i) - y (r i)) * (g (h i) - g (t i)))=0)
  (cV : ∀ L : Nat→Nat,(∀ i,i < M→L (t i)=L (h i))→∀ x,x < V→L x=L 0) (cF : ∀ L : Nat→Nat,(∀ i,i < M→L (l i)=L (r i))→∀ x,x < F→L x=L 0)
  (hV : 0 < V) (hF : 0 < F) (hE : V+F=M+2) : ∀ k,k < M→cZ t h k (t k)=cZ t h k (h k)→aJ l r M (M - 1 - k) (l k)≠aJ l r M (M - 1 - k) (r k):=by
 have kb : ∀ k,k < M→cZ t h k (t k)≠cZ t h k (h k)→aJ l r M (M - 1 - k) (l k)=aJ l r M (M - 1 - k) (r k):=by
  intro k hk h1
  apply Classical.byContradiction
  intro h2
  have e:=H1 (fun f=>if aJ l r M (M - 1 - k) f=aJ l r M (M - 1 - k) (l k) then 1 else 0) (fun v=>if cZ t h k v=cZ t h k (t k) then 1 else 0)
  rw [bF (k:=k) hk] at e
  ·simp only [if_true] at e
   rw [if_neg (Ne.symm h2),if_neg (Ne.symm h1)] at e
   omega
  ·intro i hi hne
   rcases Nat.lt_or_ge i k with c | c
   ·rw [kS k i c]; simp
   ·rw [eF (M - 1 - k) i (by omega) (by omega) hi]; simp
 have e1:=qz ht hh M (Nat.le_refl _)
 have e2:=je hl hr M (Nat.le_refl _)
 rw [um (nc ht hh M (Nat.le_refl _)) hV (cV _ (fun i hi=>kS M i hi))] at e1
 rw [um (ji hl hr M (Nat.le_refl _)) hF (cF _ (fun i hi=>eF M i (Nat.le_refl _) (by omega) hi))] at e2
 have e3 : ag M (fun i=>if aJ l r M i (l (M - 1 - i))=aJ l r M i (r (M - 1 - i)) then (0 : Int) else 1)=ag M (fun i=>if aJ l r M (M - 1 - i) (l i)=aJ l r M (M - 1 - i) (r i) then 0 else 1):=by
  rw [← tk]
  refine aK fun i hi=>?_
  rw [show M - 1 - (M - 1 - i)=i by omega]
 rw [e3] at e2
 intro k hk h1 h2
 -- the edge k joins nothing: too few edges are left
 have e4 : ag M (fun i=>(if cZ t h i (t i)=cZ t h i (h i) then (0 : Int) else 1)+(if aJ l r M (M - 1 - i) (l i)=aJ l r M (M - 1 - i) (r i) then 0 else 1))=M:=by
  rw [cX]; omega
 have e5 : ag M (fun i=>(if cZ t h i (t i)=cZ t h i (h i) then (0 : Int) else 1)+(if aJ l r M (M - 1 - i) (l i)=aJ l r M (M - 1 - i) (r i) then 0 else 1))≤ag M (fun i=>if i=k then 0 else 1):=by
  refine iQ fun i hi=>?_
  by_cases e : i=k
  ·subst e
   rw [if_pos h1,if_pos h2]; simp
  ·rw [if_neg e]
   by_cases c : cZ t h i (t i)=cZ t h i (h i)
   ·rw [if_pos c]; split <;> omega
   ·rw [if_neg c,if_pos (kb i hi c)]; omega
 have e6 : ag M (fun i=>(1 : Int) - (if i=k then 0 else 1))=1:=by
  rw [bF (k:=k) hk]
  ·simp
  ·intro i _ hne; rw [if_neg hne]; rfl
 rw [cY] at e6
 have e7 : ag M (fun _=>(1 : Int))=M:=by
  have : ∀ m : Nat,ag m (fun _=>(1 : Int))=m:=by
   intro m
   induction m with
   | zero=>rfl
   | succ m ih=>unfold ag; rw [ih]; simp
  exact this M
 omega
def pot (t h : Nat→Nat) (δ : Nat→Int) : Nat→Nat→Int
 | 0=>fun _=>0
 | k+1=>fun x=>if cZ t h k (t k)=cZ t h k (h k) then pot t h δ k x else if cZ t h k x=cZ t h k (h k) then pot t h δ k x+(pot t h δ k (t k)+δ k - pot t h δ k (h k)) else pot t h δ k x
theorem xh : ∀ (k i : Nat),i < k→cZ t h i (t i)≠cZ t h i (h i)→pot t h δ k (h i) - pot t h δ k (t i)=δ i
 | k+1,i,hi,hne=>by
  by_cases e : i=k
  ·subst e
   unfold pot
   simp only [if_neg hne,if_true]
   omega
  ·have ih:=xh k i (by omega) hne
   have hs:=kS (p:=t) (q:=h) k i (by omega)
   unfold pot
   split
   ·exact ih
   ·rw [hs]
    split <;> omega
theorem Ba (ht : ∀ i,i < M→t i < V) (hh : ∀ i,i < M→h i < V) (hl : ∀ i,i < M→l i < F) (hr : ∀ i,i < M→r i < F)
  (H1 : ∀ y g : Nat→Int,ag M (fun i=>(y (l i) - y (r i)) * (g (h i) - g (t i)))=0) (q : Int) (H2 : ∀ y : Nat→Int,q∣ag M (fun i=>(y (l i) - y (r i)) * δ i))
  (cV : ∀ L : Nat→Nat,(∀ i,i < M→L (t i)=L (h i))→∀ x,x < V→L x=L 0) (cF : ∀ L : Nat→Nat,(∀ i,i < M→L (l i)=L (r i))→∀ x,x < F→L x=L 0)
  (hV : 0 < V) (hF : 0 < F) (hE : V+F=M+2) : ∃ φ : Nat→Int,∀ i,i < M→q∣φ (h i) - φ (t i) - δ i:=by
 refine ⟨pot t h δ M,fun k=>?_⟩
 induction k using Nat.strongRecOn with
 | _ k ih =>
  intro hk
  by_cases c : cZ t h k (t k)=cZ t h k (h k)
  ·have hd:=oK ht hh hl hr H1 cV cF hV hF hE k hk c
   have s : q∣ag M (fun i=>((if aJ l r M (M - 1 - k) (l i)=aJ l r M (M - 1 - k) (l k) then (1 : Int) else 0) - (if aJ l r M (M - 1 - k) (r i)=aJ l r M (M - 1 - k) (l k) then 1 else 0)) * (pot t h δ M (h i) - pot t h δ M (t i) - δ i)):=by
    have e:=H1 (fun f=>if aJ l r M (M - 1 - k) f=aJ l r M (M - 1 - k) (l k) then 1 else 0) (pot t h δ M)
    have e2:=H2 (fun f=>if aJ l r M (M - 1 - k) f=aJ l r M (M - 1 - k) (l k) then 1 else 0)
    have e3:=Int.dvd_sub (Int.dvd_zero q) e2
    have e4 : ag M (fun i=>((if aJ l r M (M - 1 - k) (l i)=aJ l r M (M - 1 - k) (l k) then (1 : Int) else 0) - (if aJ l r M (M - 1 - k) (r i)=aJ l r M (M - 1 - k) (l k) then 1 else 0)) * (pot t h δ M (h i) - pot t h δ M (t i) - δ i)) =
      0 - ag M (fun i=>((if aJ l r M (M - 1 - k) (l i)=aJ l r M (M - 1 - k) (l k) then (1 : Int) else 0) - (if aJ l r M (M - 1 - k) (r i)=aJ l r M (M - 1 - k) (l k) then 1 else 0)) * δ i):=by
     refine Eq.trans ?_ (congrArg (fun z=>z - ag M (fun i=>((if aJ l r M (M - 1 - k) (l i)=aJ l r M (M - 1 - k) (l k) then (1 : Int) else 0) - (if aJ l r M (M - 1 - k) (r i)=aJ l r M (M - 1 - k) (l k) then 1 else 0)) * δ i)) e)
     rw [← cY]
     exact aK fun i _=>Int.mul_sub _ _ _
    rw [e4]
    exact e3
   have:=Au q hk (fun i hi hne=>?_) s
   ·simp only [if_true] at this
    rw [if_neg (Ne.symm hd)] at this
    simpa using this
   ·rcases Nat.lt_or_ge i k with c' | c'
    ·exact Int.dvd_mul_of_dvd_right (ih i c' hi)
    ·rw [eF (M - 1 - k) i (by omega) (by omega) hi]
     simp
  ·rw [xh M k hk c]
   simp
end
end Go.Vm

/-
 Sums over darts: what the faces and the vertices of a plane system give.
-/
namespace Go.Vm
set_option maxRecDepth 100000
theorem g7 (f : Nat→Nat→Int) (m : Nat) : ∀ n,ag n (fun i=>ag m (fun j=>f i j))=ag m (fun j=>ag n (fun i=>f i j))
 | 0=>(eA (n:=m) (fun _ _=>rfl)).symm
 | n+1=>by
  simp only [cd]
  rw [g7 f m n,← cX]
theorem eG (c : Int) (f : Nat→Int) : ∀ n,ag n (fun i=>c * f i)=c * ag n f
 | 0=>by simp [ag]
 | n+1=>by simp only [cd]; rw [eG c f n,Int.mul_add]
theorem dG : ∀ m : Nat,ag m (fun _=>(1 : Int))=m
 | 0=>rfl
 | m+1=>by simp only [cd]; rw [dG m]; simp
theorem kR (q : Int) {f : Nat→Int} : ∀ {n : Nat},(∀ i,i < n→q∣f i)→q∣ag n f
 | 0,_=>Int.dvd_zero q
 | n+1,h=>by
  simp only [cd]
  exact Int.dvd_add (kR q (fun i hi=>h i (by omega))) (h n (by omega))
theorem yb {c : Nat→Int} {n : Nat} (h1 : ∀ x,x < n→c x≤1) (h2 : ag n c=n) {x : Nat} (hx : x < n) : c x=1:=by
 have e : ag n c≤ag n (fun i=>if i=x then c x else 1):=iQ fun i hi=>by
  by_cases e : i=x
  ·simp [e]
  ·simp only [e,if_false]; exact h1 i hi
 have e2 : ag n (fun i=>(1 : Int) - (if i=x then c x else 1))=1 - c x:=by
  rw [bF hx (fun i _ hne=>by simp [hne])]; simp
 rw [cY,dG] at e2
 have:=h1 x hx
 omega
theorem gG {π : Nat→Nat} {n : Nat} (hlt : ∀ d,d < n→π d < n) (hinj : ∀ a b,a < n→b < n→π a=π b→a=b) (f : Nat→Int) : ag n (fun d=>f (π d))=ag n f:=by
 have hc1 : ∀ x,x < n→ag n (fun d=>if π d=x then (1 : Int) else 0)≤1:=by
  intro x _
  by_cases h : ∃ d,d < n∧π d=x
  ·obtain ⟨d,hd,e⟩:=h
   rw [bF hd (fun i hi hne=>by
    rw [if_neg]
    intro e'
    exact hne (hinj i d hi hd (by rw [e',e])))]
   split <;> omega
  ·rw [eA (fun i hi=>by
    rw [if_neg]
    intro e'
    exact h ⟨i,hi,e'⟩)]
   omega
 have hc2 : ag n (fun x=>ag n (fun d=>if π d=x then (1 : Int) else 0))=n:=by
  rw [← g7 (fun d x=>if π d=x then (1 : Int) else 0) n n]
  rw [aK (g:=fun _=>(1 : Int)) (fun d hd=>by
   rw [bF (hlt d hd) (fun i _ hne=>by rw [if_neg (Ne.symm hne)])]; simp)]
  exact dG n
 have e1 : ag n (fun d=>f (π d))=ag n (fun d=>ag n (fun x=>if π d=x then f x else 0)):=aK fun d hd=>by
  rw [bF (hlt d hd) (fun i _ hne=>by rw [if_neg (Ne.symm hne)])]; simp
 rw [e1,g7 (fun d x=>if π d=x then f x else 0) n n]
 refine aK fun x hx=>?_
 have h:=yb hc1 hc2 hx
 rw [aK (g:=fun d=>f x * (if π d=x then (1 : Int) else 0)) (fun d _=>by split <;> simp),eG,h,Int.mul_one]
theorem kw (h : Nat→Int) : ∀ M,ag (2 * M) h=ag M (fun i=>h (2 * i)+h (2 * i+1))
 | 0=>rfl
 | M+1=>by
  have : 2 * (M+1)=2 * M+1+1:=by omega
  rw [this]
  simp only [cd]
  rw [kw h M]
  omega
theorem oi (i : Nat) : oth (2 * i)=2 * i+1:=by unfold oth; rw [if_pos (by omega)]
theorem nY (i : Nat) : oth (2 * i+1)=2 * i:=by unfold oth; rw [if_neg (by omega)]; rfl
section
variable {V F M : Nat} {nx tl fc : Nat→Nat} {δ : Nat→Int}
theorem vN (hlt : ∀ d,d < 2 * M→nx d < 2 * M) (hinj : ∀ a b,a < 2 * M→b < 2 * M→nx a=nx b→a=b) (hfc : ∀ d,d < 2 * M→fc (nx d)=fc d) (htl : ∀ d,d < 2 * M→tl (nx d)=tl (oth d)) (y g : Nat→Int) :
  ag M (fun i=>(y (fc (2 * i)) - y (fc (2 * i+1))) * (g (tl (2 * i+1)) - g (tl (2 * i))))=0:=by
 have e1 : ag (2 * M) (fun d=>y (fc d) * g (tl (oth d)) - y (fc d) * g (tl d))=0:=by
  rw [cY,aK (g:=fun d=>(fun x=>y (fc x) * g (tl x)) (nx d)) (fun d hd=>by simp only [hfc d hd,htl d hd]),gG hlt hinj (fun x=>y (fc x) * g (tl x))]
  omega
 rw [kw] at e1
 rw [← e1]
 refine aK fun i _=>?_
 simp only [oi,nY]
 rw [Int.sub_mul,Int.mul_sub,Int.mul_sub]
 omega
theorem Cs (q : Int) (hF : ∀ d,d < 2 * M→fc d < F) (hanti : ∀ i,i < M→q∣δ (2 * i)+δ (2 * i+1)) (hface : ∀ f,f < F→q∣ag (2 * M) (fun d=>if fc d=f then δ d else 0)) (y : Nat→Int) :
  q∣ag M (fun i=>(y (fc (2 * i)) - y (fc (2 * i+1))) * δ (2 * i)):=by
 have e1 : ag (2 * M) (fun d=>y (fc d) * δ d)=ag F (fun f=>y f * ag (2 * M) (fun d=>if fc d=f then δ d else 0)):=by
  rw [aK (n:=F) (g:=fun f=>ag (2 * M) (fun d=>if fc d=f then y f * δ d else 0)) (fun f _=>by
   rw [← eG]
   exact aK fun d _=>by split <;> simp)]
  rw [← g7 (fun d f=>if fc d=f then y f * δ d else 0) F (2 * M)]
  refine aK fun d hd=>?_
  rw [bF (hF d hd) (fun i _ hne=>by rw [if_neg (Ne.symm hne)])]
  simp
 have e2 : q∣ag (2 * M) (fun d=>y (fc d) * δ d):=by
  rw [e1]
  exact kR q fun f hf=>Int.dvd_mul_of_dvd_right (hface f hf)
 have e3 : ag (2 * M) (fun d=>y (fc d) * δ d)=ag M (fun i=>(y (fc (2 * i)) - y (fc (2 * i+1))) * δ (2 * i))+ag M (fun i=>y (fc (2 * i+1)) * (δ (2 * i)+δ (2 * i+1))):=by
  rw [kw,← cX]
  refine aK fun i _=>?_
  rw [Int.sub_mul,Int.mul_add]
  omega
 have e4 : q∣ag M (fun i=>y (fc (2 * i+1)) * (δ (2 * i)+δ (2 * i+1))):=kR q fun i hi=>Int.dvd_mul_of_dvd_right (hanti i hi)
 rw [e3] at e2
 have:=Int.dvd_sub e2 e4
 rw [show ag M (fun i=>(y (fc (2 * i)) - y (fc (2 * i+1))) * δ (2 * i))+ag M (fun i=>y (fc (2 * i+1)) * (δ (2 * i)+δ (2 * i+1))) - ag M (fun i=>y (fc (2 * i+1)) * (δ (2 * i)+δ (2 * i+1)))=ag M (fun i=>(y (fc (2 * i)) - y (fc (2 * i+1))) * δ (2 * i)) by omega] at this
 exact this
theorem pp (q : Int) (ht : ∀ d,d < 2 * M→tl d < V) (hF : ∀ d,d < 2 * M→fc d < F) (hlt : ∀ d,d < 2 * M→nx d < 2 * M) (hinj : ∀ a b,a < 2 * M→b < 2 * M→nx a=nx b→a=b) (hfc : ∀ d,d < 2 * M→fc (nx d)=fc d) (htl : ∀ d,d < 2 * M→tl (nx d)=tl (oth d))
  (hanti : ∀ i,i < M→q∣δ (2 * i)+δ (2 * i+1)) (hface : ∀ f,f < F→q∣ag (2 * M) (fun d=>if fc d=f then δ d else 0))
  (cV : ∀ L : Nat→Nat,(∀ d,d < 2 * M→L (tl d)=L (tl (oth d)))→∀ x,x < V→L x=L 0) (cF : ∀ L : Nat→Nat,(∀ d,d < 2 * M→L (fc d)=L (fc (oth d)))→∀ x,x < F→L x=L 0)
  (hV : 0 < V) (hF0 : 0 < F) (hE : V+F=M+2) : ∃ φ : Nat→Int,∀ d,d < 2 * M→q∣φ (tl (oth d)) - φ (tl d) - δ d:=by
 have kb : ∀ (L : Nat→Nat) (p : Nat→Nat),(∀ i,i < M→L (p (2 * i))=L (p (2 * i+1)))→∀ d,d < 2 * M→L (p d)=L (p (oth d)):=by
  intro L p h d hd
  rcases Nat.mod_two_eq_zero_or_one d with e | e
  ·have : d=2 * (d / 2):=by omega
   rw [this,oi]
   exact h _ (by omega)
  ·have : d=2 * (d / 2)+1:=by omega
   rw [this,nY]
   exact (h _ (by omega)).symm
 obtain ⟨φ,hφ⟩:=Ba (V:=V) (F:=F) (M:=M) (t:=fun i=>tl (2 * i)) (h:=fun i=>tl (2 * i+1)) (l:=fun i=>fc (2 * i)) (r:=fun i=>fc (2 * i+1)) (δ:=fun i=>δ (2 * i))
  (fun i hi=>ht _ (by omega)) (fun i hi=>ht _ (by omega)) (fun i hi=>hF _ (by omega)) (fun i hi=>hF _ (by omega)) (fun y g=>vN hlt hinj hfc htl y g) q (fun y=>Cs q hF hanti hface y)
  (fun L h=>cV L (kb L tl h)) (fun L h=>cF L (kb L fc h)) hV hF0 hE
 refine ⟨φ,fun d hd=>?_⟩
 rcases Nat.mod_two_eq_zero_or_one d with e | e
 ·have : d=2 * (d / 2):=by omega
  rw [this,oi]
  exact hφ _ (by omega)
 ·have : d=2 * (d / 2)+1:=by omega
  have h1:=hφ (d / 2) (by omega)
  have h2:=hanti (d / 2) (by omega)
  rw [this,nY]
  have h3:=Int.dvd_sub (Int.dvd_zero q) (Int.dvd_add h1 h2)
  have e4 : φ (tl (2 * (d / 2))) - φ (tl (2 * (d / 2)+1)) - δ (2 * (d / 2)+1)=0 - (φ (tl (2 * (d / 2)+1)) - φ (tl (2 * (d / 2))) - δ (2 * (d / 2))+(δ (2 * (d / 2))+δ (2 * (d / 2)+1))):=by omega
  rw [e4]
  exact h3
end
end Go.Vm

/-
 A set of faces of a connected plane system: its vertices, edges and faces in number; where angles and directions are given, no set without the outer face is closed upwards.
-/
namespace Go.Vm
set_option maxRecDepth 100000
def bi (b : Bool) : Int:=cond b 1 0
theorem Hg {b : Bool} (h : b=true) : bi b=1:=by rw [h]; rfl
theorem tf {n F : Nat} {fc : Nat→Nat} (hF : ∀ d,d < n→fc d < F) (s : Nat→Int) (h : Nat→Int) : ag n (fun d=>s (fc d) * h d)=ag F (fun f=>s f * ag n (fun d=>if fc d=f then h d else 0)):=by
 rw [aK (n:=F) (g:=fun f=>ag n (fun d=>if fc d=f then s f * h d else 0)) (fun f _=>by
  rw [← eG]
  exact aK fun d _=>by split <;> simp)]
 rw [← g7 (fun d f=>if fc d=f then s f * h d else 0) F n]
 refine aK fun d hd=>?_
 rw [bF (hF d hd) (fun i _ hne=>by rw [if_neg (Ne.symm hne)])]
 simp
theorem oZ (f : Nat→Int) (m : Nat) : ∀ k,ag (m+k) f=ag m f+ag k (fun i=>f (m+i))
 | 0=>by simp [ag]
 | k+1=>by
  rw [show m+(k+1)=(m+k)+1 by omega,cd,oZ f m k,cd]
  omega
structure Plane (V F M : Nat) (tl fc fw : Nat→Nat) : Prop where
 tlt : ∀ d,d < 2 * M→tl d < V
 fct : ∀ d,d < 2 * M→fc d < F
 fwt : ∀ d,d < 2 * M→fw d < 2 * M
 inj : ∀ a b,a < 2 * M→b < 2 * M→fw a=fw b→a=b
 tlf : ∀ d,d < 2 * M→tl (fw d)=tl d
 fcf : ∀ d,d < 2 * M→fc (fw d)=fc (oth d)
 cV : ∀ L : Nat→Nat,(∀ d,d < 2 * M→L (tl d)=L (tl (oth d)))→∀ x,x < V→L x=L 0
 cF : ∀ L : Nat→Nat,(∀ d,d < 2 * M→L (fc d)=L (fc (oth d)))→∀ x,x < F→L x=L 0
 around : ∀ P : Nat→Prop,(∀ d,d < 2 * M→P d→P (fw d))→∀ a b,a < 2 * M→b < 2 * M→tl a=tl b→P a→P b
 pos : 0 < V
 posF : 0 < F
 euler : V+F=M+2
theorem cb {d M : Nat} (h : d < 2 * M) : oth d < 2 * M:=by
 unfold oth
 split <;> omega
theorem dO (d : Nat) : oth (oth d)=d:=by
 unfold oth
 split <;> split <;> omega
theorem tO {M : Nat} (L p : Nat→Nat) (h : ∀ i,i < M→L (p (2 * i))=L (p (2 * i+1))) : ∀ d,d < 2 * M→L (p d)=L (p (oth d)):=by
 intro d hd
 rcases Nat.mod_two_eq_zero_or_one d with e | e
 ·have : d=2 * (d / 2):=by omega
  rw [this,oi]; exact h _ (by omega)
 ·have : d=2 * (d / 2)+1:=by omega
  rw [this,nY]; exact (h _ (by omega)).symm
section
variable {V F M : Nat} {tl fc fw : Nat→Nat}
theorem Plane.H1 (p : Plane V F M tl fc fw) (y g : Nat→Int) : ag M (fun i=>(y (fc (2 * i)) - y (fc (2 * i+1))) * (g (tl (2 * i+1)) - g (tl (2 * i))))=0 :=
 vN (nx:=fun d=>fw (oth d)) (fun d hd=>p.fwt _ (cb hd)) (fun a b ha hb e=>by
  have:=p.inj _ _ (cb ha) (cb hb) e
  rw [← dO a,this,dO]) (fun d hd=>by rw [p.fcf _ (cb hd),dO]) (fun d hd=>p.tlf _ (cb hd)) y g
theorem pS {α : Type} (q : α→Bool) : ∀ l : List α,(l.filter q).length+(l.filter fun x=>!q x).length=l.length
 | []=>rfl
 | a :: l=>by
  have:=pS q l
  rw [List.filter_cons,List.filter_cons]
  cases q a <;> simp <;> omega
theorem Ee {M d : Nat} (hd : d < 2 * M) : ∃ i,i < M∧((d=2 * i∧oth d=2 * i+1)∨(d=2 * i+1∧oth d=2 * i)):=by
 refine ⟨d / 2,by omega,?_⟩
 unfold oth
 split <;> omega
theorem order (eS : Nat→Bool) (M : Nat) : ∃ (π : Nat→Nat) (m : Nat),m≤M∧(∀ i,i < M→π i < M)∧(∀ a b,a < M→b < M→π a=π b→a=b)∧(∀ i,i < m→eS (π i)=true)∧(∀ i,m≤i→i < M→eS (π i)=false) ∧
  ag M (fun i=>bi (eS i))=m:=by
 let LS:=(List.range M).filter eS
 let LO:=(List.range M).filter fun i=>!eS i
 have hlen : LS.length+LO.length=M:=by
  have:=pS eS (List.range M)
  rwa [List.length_range] at this
 have hnd : (LS++LO).Nodup:=by
  rw [List.nodup_append]
  refine ⟨List.nodup_range.filter _,List.nodup_range.filter _,?_⟩
  intro a ha b hb hab
  subst hab
  have h1:=(List.mem_filter.1 ha).2
  have h2:=(List.mem_filter.1 hb).2
  rw [h1] at h2; cases h2
 have hl : (LS++LO).length=M:=by rw [List.length_append]; exact hlen
 have get : ∀ i (hi : i < M),(LS++LO).getD i 0=(LS++LO)[i]'(by omega):=fun i hi=>by
  rw [List.getD_eq_getElem?_getD,List.getElem?_eq_getElem (by omega)]; rfl
 have hsum : ∀ n,ag n (fun i=>bi (eS i))=(((List.range n).filter eS).length : Nat):=by
  intro n
  induction n with
  | zero=>rfl
  | succ n ih =>
   rw [cd,ih,List.range_succ,List.filter_append,List.length_append]
   cases h : eS n <;> simp [h,bi]
 refine ⟨fun i=>(LS++LO).getD i 0,LS.length,by omega,?_,?_,?_,?_,hsum M⟩
 ·intro i hi
  simp only
  rw [get i hi]
  have:=List.getElem_mem (l:=LS++LO) (n:=i) (by omega)
  rcases List.mem_append.1 this with h | h
  ·exact List.mem_range.1 (List.mem_filter.1 h).1
  ·exact List.mem_range.1 (List.mem_filter.1 h).1
 ·intro a b ha hb e
  simp only at e
  rw [get a ha,get b hb] at e
  rcases Nat.lt_trichotomy a b with c | c | c
  ·exact absurd e (List.pairwise_iff_getElem.1 hnd _ _ (by omega) (by omega) c)
  ·exact c
  ·exact absurd e.symm (List.pairwise_iff_getElem.1 hnd _ _ (by omega) (by omega) c)
 ·intro i hi
  simp only
  rw [get i (by omega),List.getElem_append_left hi]
  exact (List.mem_filter.1 (List.getElem_mem hi)).2
 ·intro i h1 h2
  simp only
  rw [get i h2,List.getElem_append_right h1]
  have:=(List.mem_filter.1 (List.getElem_mem (l:=LO) (n:=i - LS.length) (by omega))).2
  simpa using this
theorem oC {M : Nat} {π : Nat→Nat} (h1 : ∀ i,i < M→π i < M) (h2 : ∀ a b,a < M→b < M→π a=π b→a=b) {i : Nat} (hi : i < M) : ∃ j,j < M∧π j=i:=by
 apply Classical.byContradiction
 intro hn
 have e:=gG h1 h2 (fun x=>if x=i then (1 : Int) else 0)
 rw [eA (fun j hj=>by
  rw [if_neg]
  intro h; exact hn ⟨j,hj,h⟩),bF hi (fun j _ hne=>by rw [if_neg hne]),if_pos rfl] at e
 omega
theorem Plane.region (p : Plane V F M tl fc fw) (S : Nat→Bool) (vS : Nat→Bool) (o : Nat) (ho : S o=false) (hv : ∀ d,d < 2 * M→S (fc d)=true→vS (tl d)=true) (hv0 : ∃ v,v < V∧vS v=true)
  (hC : ∀ L : Nat→Nat,(∀ d,d < 2 * M→S (fc d)=false→S (fc (oth d))=false→L (fc d)=L (fc (oth d)))→∀ x,x < F→S x=false→L x=L o) :
  ag M (fun i=>bi (S (fc (2 * i)) || S (fc (2 * i+1))))+1≤ag V (fun v=>bi (vS v))+ag F (fun f=>bi (S f)):=by
 obtain ⟨π,m,hm,π1,π2,π3,π4,π5⟩:=order (fun i=>S (fc (2 * i)) || S (fc (2 * i+1))) M
 rw [π5]
 let t:=fun i=>tl (2 * π i)
 let h:=fun i=>tl (2 * π i+1)
 let l:=fun i=>fc (2 * π i)
 let r:=fun i=>fc (2 * π i+1)
 have ht : ∀ i,i < M→t i < V:=fun i hi=>p.tlt _ (by have:=π1 i hi; omega)
 have hh : ∀ i,i < M→h i < V:=fun i hi=>p.tlt _ (by have:=π1 i hi; omega)
 have hl : ∀ i,i < M→l i < F:=fun i hi=>p.fct _ (by have:=π1 i hi; omega)
 have hr : ∀ i,i < M→r i < F:=fun i hi=>p.fct _ (by have:=π1 i hi; omega)
 have cV : ∀ L : Nat→Nat,(∀ i,i < M→L (t i)=L (h i))→∀ x,x < V→L x=L 0:=fun L hL=>p.cV L (tO L tl fun i hi=>by
  obtain ⟨j,hj,rfl⟩:=oC π1 π2 hi; exact hL j hj)
 have cF : ∀ L : Nat→Nat,(∀ i,i < M→L (l i)=L (r i))→∀ x,x < F→L x=L 0:=fun L hL=>p.cF L (tO L fc fun i hi=>by
  obtain ⟨j,hj,rfl⟩:=oC π1 π2 hi; exact hL j hj)
 have key:=oK ht hh hl hr (fun y g=>by
  have:=p.H1 y g
  rw [← gG π1 π2] at this
  exact this) cV cF p.pos p.posF p.euler
 -- every edge of the set joins vertices or faces
 have e1 : (m : Int)≤ag m (fun i=>if cZ t h i (t i)=cZ t h i (h i) then (0 : Int) else 1)+ag m (fun i=>if aJ l r M (M - 1 - i) (l i)=aJ l r M (M - 1 - i) (r i) then 0 else 1):=by
  rw [← cX,← dG m]
  refine iQ fun i hi=>?_
  by_cases c : cZ t h i (t i)=cZ t h i (h i)
  ·rw [if_pos c,if_neg (key i (by omega) c)]; omega
  ·rw [if_neg c]; split <;> omega
 -- vertices
 have e2:=qz ht hh m hm
 have e3 : (V : Int) - ag V (fun v=>bi (vS v))+1≤jP V (cZ t h m):=by
  have ends : ∀ i,i < m→vS (t i)=true∧vS (h i)=true:=by
   intro i hi
   have hM:=π1 i (by omega)
   have:=π3 i hi
   simp only [Bool.or_eq_true] at this
   have c1 : ∀ d,d < 2 * M→S (fc d)=true→vS (tl d)=true∧vS (tl (oth d))=true:=fun d hd hs=>by
    refine ⟨hv d hd hs,?_⟩
    have q:=hv (fw (oth d)) (p.fwt _ (cb hd)) (by rw [p.fcf _ (cb hd),dO]; exact hs)
    rwa [p.tlf _ (cb hd)] at q
   rcases this with q | q
   ·have:=c1 (2 * π i) (by omega) q
    rwa [oi] at this
   ·have:=c1 (2 * π i+1) (by omega) q
    rw [nY] at this
    exact ⟨this.2,this.1⟩
  have inv : ∀ k,k≤m→(∀ x,vS x=false→cZ t h k x=x)∧∀ x,vS x=true→vS (cZ t h k x)=true:=by
   intro k
   induction k with
   | zero=>intro _; exact ⟨fun _ _=>rfl,fun _ h=>h⟩
   | succ k ih =>
    intro hk
    obtain ⟨i1,i2⟩:=ih (by omega)
    obtain ⟨n1,n2⟩:=ends k (by omega)
    constructor
    ·intro x hx
     show mrg (cZ t h k) (t k) (h k) x=x
     unfold mrg
     rw [if_neg,i1 x hx]
     rw [i1 x hx]
     intro e
     have:=i2 _ n2
     rw [← e,hx] at this; cases this
    ·intro x hx
     show vS (mrg (cZ t h k) (t k) (h k) x)=true
     unfold mrg
     split
     ·exact i2 _ n1
     ·exact i2 _ hx
  obtain ⟨i1,i2⟩:=inv m (Nat.le_refl _)
  obtain ⟨v,hvV,hvS⟩:=hv0
  have hc:=nc (n:=V) ht hh m hm
  have hz1:=hc.lt v hvV
  have hz2:=hc.idem v hvV
  have hz3:=i2 v hvS
  unfold jP
  have : (V : Int) - ag V (fun v=>bi (vS v))+1=ag V (fun x=>1 - bi (vS x)+(if x=cZ t h m v then 1 else 0)):=by
   have hz : ag V (fun x=>if x=cZ t h m v then (1 : Int) else 0)=1:=by
    rw [bF hz1 (fun i _ hne=>by rw [if_neg hne]),if_pos rfl]
   rw [cX,cY,dG,hz]
  rw [this]
  refine iQ fun x hx=>?_
  cases hxS : vS x with
  | false =>
   rw [i1 x hxS,if_pos rfl,if_neg (fun e=>by rw [← e,hxS] at hz3; cases hz3)]
   decide
  | true =>
   by_cases e : x=cZ t h m v
   ·rw [if_pos e,if_pos (by rw [e]; exact hz2)]; decide
   ·rw [if_neg e]; split <;> decide
 -- faces
 have e4:=je hl hr M (Nat.le_refl _)
 rw [um (ji hl hr M (Nat.le_refl _)) p.posF (cF _ (fun i hi=>eF M i (Nat.le_refl _) (by omega) hi))] at e4
 have e5:=je (n:=F) hl hr (M - m) (by omega)
 have e6 : jP F (aJ l r M (M - m))≤ag F (fun f=>bi (S f))+1:=by
  have hsame : ∀ x,x < F→S x=false→aJ l r M (M - m) x=aJ l r M (M - m) o:=hC _ (fun d hd s1 s2=>by
   obtain ⟨i,hi,hdi⟩:=Ee hd
   obtain ⟨j,hj,ej⟩:=oC π1 π2 hi
   have hjm : m≤j:=by
    apply Nat.le_of_not_lt
    intro hlt
    have:=π3 j hlt
    rw [ej] at this
    rcases hdi with ⟨e1,e2⟩ | ⟨e1,e2⟩
    ·rw [e1] at s1; rw [e2] at s2; rw [s1,s2] at this; cases this
    ·rw [e1] at s1; rw [e2] at s2; rw [s1,s2] at this; cases this
   have:=eF (p:=l) (q:=r) (M - m) j (by omega) (by omega) hj
   simp only [l,r,ej] at this
   rcases hdi with ⟨e1,e2⟩ | ⟨e1,e2⟩
   ·rw [e2,e1]; exact this
   ·rw [e2,e1]; exact this.symm)
  unfold jP
  have hone : ag F (fun x=>if x=aJ l r M (M - m) o then (1 : Int) else 0)≤1:=by
   by_cases c : aJ l r M (M - m) o < F
   ·rw [bF c (fun i _ hne=>by rw [if_neg hne]),if_pos rfl]; omega
   ·rw [eA (fun i hi=>by rw [if_neg (by omega)])]; omega
  have : ag F (fun x=>if aJ l r M (M - m) x=x then (1 : Int) else 0)≤ag F (fun x=>bi (S x)+(if x=aJ l r M (M - m) o then 1 else 0)):=iQ fun x hx=>by
   cases hs : S x with
   | true=>rw [Hg rfl]; split <;> split <;> decide
   | false =>
    rw [hsame x hx hs]
    by_cases e : x=aJ l r M (M - m) o
    ·rw [if_pos e,if_pos e.symm]; decide
    ·rw [if_neg e,if_neg (Ne.symm e)]; decide
  rw [cX] at this
  omega
 have e7 : ag M (fun i=>if aJ l r M i (l (M - 1 - i))=aJ l r M i (r (M - 1 - i)) then (0 : Int) else 1)=ag (M - m) (fun i=>if aJ l r M i (l (M - 1 - i))=aJ l r M i (r (M - 1 - i)) then (0 : Int) else 1) +
   ag m (fun i=>if aJ l r M (M - 1 - i) (l i)=aJ l r M (M - 1 - i) (r i) then 0 else 1):=by
  have hs:=oZ (fun i=>if aJ l r M i (l (M - 1 - i))=aJ l r M i (r (M - 1 - i)) then (0 : Int) else 1) (M - m) m
  rw [show M - m+m=M by omega] at hs
  rw [hs,← tk _ m]
  congr 1
  refine aK fun i hi=>?_
  rw [show M - m+(m - 1 - i)=M - 1 - i by omega,show M - 1 - (M - 1 - i)=i by omega]
 omega
structure Angl (V F M : Nat) (tl fc fw : Nat→Nat) (g : Nat→Int) (o : Nat) : Prop where
 ge : ∀ d,d < 2 * M→1≤g d
 vert : ∀ v,v < V→ag (2 * M) (fun d=>if tl d=v then g d else 0)=4
 out : o < F
 face : ∀ f,f < F→f≠o→ag (2 * M) (fun d=>if fc d=f then 2 - g (oth d) else 0)=4
structure Dirs (M : Nat) (fw : Nat→Nat) (g : Nat→Int) (k : Nat→Int) : Prop where
 nn : ∀ d,d < 2 * M→0≤k d∧k d < 4
 fw : ∀ d,d < 2 * M→(4 : Int)∣k (fw d) - k d - g d
 oth : ∀ d,d < 2 * M→(4 : Int)∣k (oth d) - k d - 2
variable {g k : Nat→Int} {o : Nat}
def Hp (tl : Nat→Nat) (M : Nat) : Nat→List Nat→Nat→Prop
 | a,[],b=>a=b
 | a,d :: ds,b=>d < 2 * M∧tl d=a∧Hp tl M (tl (oth d)) ds b
def cnt (ds : List Nat) (d : Nat) : Int:=((ds.count d : Nat) : Int)
end
end Go.Vm

namespace Go.Vm
open Go.Proofs
set_option maxRecDepth 100000
attribute [local irreducible] ab
section
variable {V F M : Nat} {t h l r : Nat→Nat}
end
section
variable {N : Nat} {E : List Arc} {A : List (List Int)} {nx fw : List Int}
noncomputable def fcn (E : List Arc) (nx : List Int) (k : Nat) : Nat:=((gk (2 * E.length) (aa nx)).getD k 0).toNat
def tln (E : List Arc) (k : Nat) : Nat:=(tl E k).toNat
def nxN (nx : List Int) (k : Nat) : Nat:=(nx.getD k 0).toNat
theorem jB (h : RotOK (N : Nat) E A) {k : Nat} (hk : k < 2 * E.length) : tl E k=(tln E k : Int)∧tln E k < N:=by
 obtain ⟨v,e,hv⟩:=h.tl_lt hk
 unfold tln
 rw [e]
 exact ⟨rfl,hv⟩
theorem fh {L : Nat} (h : iv nx L) {k : Nat} (hk : k < L) : nx[k]?=some ((nxN nx k : Nat) : Int)∧nxN nx k < L:=by
 obtain ⟨y,hy,e⟩:=h.2 k hk
 unfold nxN
 rw [List.getD_eq_getElem?_getD,e]
 exact ⟨rfl,hy⟩
theorem kG (h : RotOK (N : Nat) E A) (hn : Fol oth E A nx) {k : Nat} (hk : k < 2 * E.length) : ∃ f,(aa nx)[fcn E nx k]?=some f∧(k : Int)∈f∧fcn E nx k < (aa nx).length:=by
 obtain ⟨j,j1,j2,f,j3,j4⟩:=eL (bJ h hn).1 hk
 have : fcn E nx k=j:=by unfold fcn; rw [List.getD_eq_getElem?_getD,j2]; rfl
 rw [this]
 exact ⟨f,j3,j4,j1⟩
theorem yI (h : RotOK (N : Nat) E A) (hn : Fol oth E A nx) {j k : Nat} {f : List Int} (hj : (aa nx)[j]?=some f) (hk : (k : Int)∈f) : fcn E nx k=j:=by
 have:=jy (bJ h hn).1 hj hk
 unfold fcn
 rw [List.getD_eq_getElem?_getD,this]; rfl
theorem Cl (h : RotOK (N : Nat) E A) (hn : Fol oth E A nx) {k y : Nat} (hy : nx[k]?=some (y : Int)) : fcn E nx y=fcn E nx k:=by
 obtain ⟨hk,_,_⟩:=fg h hn hy
 obtain ⟨f,f1,f2,_⟩:=kG h hn hk
 exact yI h hn f1 (c9 ((bJ h hn).2 f (List.mem_of_getElem? f1)) f2 hy)
theorem jr (h : RotOK (N : Nat) E A) (hn : Fol oth E A nx) (ff : Fol id E A fw) {k : Nat} (hk : k < 2 * E.length) : ∃ y : Nat,y < 2 * E.length∧fw[k]?=some (y : Int)∧nx[oth k]?=some (y : Int)∧tl E y=tl E k∧fcn E nx y=fcn E nx (oth k):=by
 obtain ⟨y,y1,y2,y3⟩:=bM h hn ff (ay hk)
 rw [bt] at y3
 refine ⟨y,y1,y3,y2,?_,Cl h hn y2⟩
 obtain ⟨_,_,q⟩:=fg h hn y2
 rw [q]; unfold hd; rw [bt]
theorem jK (h : RotOK (N : Nat) E A) (hn : Fol oth E A nx) (ff : Fol id E A fw) : iv fw (2 * E.length):=⟨ff.len,fun k hk=>by
 obtain ⟨y,y1,y2,_⟩:=jr h hn ff hk; exact ⟨y,y1,y2⟩⟩
theorem FL (h : RotOK (N : Nat) E A) (hn : Fol oth E A nx) (ff : Fol id E A fw) {a b : Nat} (ha : a < 2 * E.length) (hb : b < 2 * E.length) (e : nxN fw a=nxN fw b) : a=b:=by
 obtain ⟨y,y1,y2,y3,_⟩:=jr h hn ff ha
 obtain ⟨z,z1,z2,z3,_⟩:=jr h hn ff hb
 have h1:=(fh (jK h hn ff) ha).1
 have h2:=(fh (jK h hn ff) hb).1
 rw [y2] at h1
 rw [z2] at h2
 have e1:=Option.some.inj h1
 have e2:=Option.some.inj h2
 have : y=z:=by omega
 subst this
 have:=iK h hn _ _ _ y3 z3
 rw [← bt a,this,bt]
theorem wD {P : Int→Prop} {z : Int} : ∀ {s : List Int} {x : Int},dd fw x s z→P x→(∀ y∈s,P y→∀ w,fw[y.toNat]?=some w→w≠z→P w)→z∉s→∀ y∈s,P y
 | [],_,_,_,_,_,y,hy=>by simp at hy
 | a :: s,x,⟨e1,w,w1,w2⟩,hP,hs,hz,y,hy=>by
  rcases List.mem_cons.1 hy with rfl | hy2
  ·rw [e1]; exact hP
  ·cases s with
   | nil=>simp at hy2
   | cons b s =>
    have e2 : b=w:=w2.1
    subst e2
    refine wD w2 (hs a (by simp) (by rw [e1]; exact hP) b (by rw [e1]; exact w1) (fun e=>hz (by simp [← e]))) (fun y hy=>hs y (by simp at hy ⊢; exact .inr hy)) (fun hm=>hz (by simp at hm ⊢; exact .inr hm)) y hy2
theorem Cn {l : List Int} {x : Int} (hc : Cyc fw l) (hx : x∈l) : ∃ s,dd fw x (x :: s) x∧(∀ y,y∈l↔y∈x :: s)∧(l.Nodup→x∉s):=by
 obtain ⟨p,q,rfl⟩:=List.append_of_mem hx
 refine ⟨q++p,bK (dP hc),fun y=>?_,fun hn=>?_⟩
 ·simp only [List.mem_append,List.mem_cons]
  constructor
  ·rintro (h | h | h)
   ·exact .inr (.inr h)
   ·exact .inl h
   ·exact .inr (.inl h)
  ·rintro (h | h | h)
   ·exact .inr (.inl h)
   ·exact .inr (.inr h)
   ·exact .inl h
 ·rw [List.nodup_append,List.nodup_cons] at hn
  rw [List.mem_append]
  rintro (h | h)
  ·exact hn.2.1.1 h
  ·exact hn.2.2 x h x (by simp) rfl
theorem yJ (h : RotOK (N : Nat) E A) (hn : Fol oth E A nx) (ff : Fol id E A fw) (hc : jN N E) (L : Nat→Nat) (hL : ∀ d,d < 2 * E.length→L (fcn E nx d)=L (fcn E nx (oth d))) :
  ∀ k,k < 2 * E.length→∀ k',k' < 2 * E.length→L (fcn E nx k)=L (fcn E nx k'):=by
 have same : ∀ (k k' : Nat),k < 2 * E.length→k' < 2 * E.length→tl E k=tl E k'→L (fcn E nx k)=L (fcn E nx k'):=by
  intro k k' hk hk' e
  obtain ⟨v,hv,vn⟩:=h.tl_lt hk
  have hvl : v < A.length:=by have:=h.al; omega
  have g:=List.getElem?_eq_getElem hvl
  have m1:=h.around hk hv g
  have m2:=h.around hk' (by rw [← e]; exact hv) g
  have hcy:=ff.cyc (List.getElem_mem hvl) (fun e=>by rw [e] at m1; simp at m1)
  obtain ⟨s,s1,s2,s3⟩:=Cn hcy m1
  have hns:=s3 (h.list_nodup (List.getElem_mem hvl))
  obtain ⟨_,w,w1,w2⟩:=s1
  rw [Int.toNat_natCast] at w1
  have step : ∀ j : Nat,j < 2 * E.length→∀ w : Nat,fw[j]?=some (w : Int)→L (fcn E nx w)=L (fcn E nx j):=by
   intro j hj w hw
   obtain ⟨y,_,y2,_,_,y5⟩:=jr h hn ff hj
   rw [y2] at hw
   have:=Option.some.inj hw
   have : y=w:=by omega
   subst this
   rw [y5]; exact (hL j hj).symm
  have hel : ∀ y∈(k : Int) :: s,∃ j : Nat,y=(j : Int)∧j < 2 * E.length:=fun y hy=>h.mem_of (List.getElem_mem hvl) ((s2 y).2 hy)
  rcases List.mem_cons.1 ((s2 _).1 m2) with e1 | e1
  ·have : k=k':=by omega
   rw [this]
  ·have hwn : ∃ w' : Nat,w=(w' : Int)∧w' < 2 * E.length:=by
    obtain ⟨y,y1,y2,_⟩:=jr h hn ff hk
    rw [y2] at w1
    exact ⟨y,(Option.some.inj w1).symm,y1⟩
   obtain ⟨w',rfl,hw'⟩:=hwn
   have:=wD (P:=fun y=>L (fcn E nx y.toNat)=L (fcn E nx k)) w2 (by rw [Int.toNat_natCast]; exact step k hk w' w1) (fun y hy hP w hw _=>by
    obtain ⟨j,rfl,hj⟩:=hel y (by simp [hy])
    rw [Int.toNat_natCast] at hP hw
    obtain ⟨z,z1,z2,_⟩:=jr h hn ff hj
    rw [z2] at hw
    have hwz:=Option.some.inj hw
    subst hwz
    rw [Int.toNat_natCast,step j hj z z2]; exact hP) hns _ e1
   rw [Int.toNat_natCast] at this
   exact this.symm
 have reach : ∀ u v,Reach E u v→∀ k k',k < 2 * E.length→k' < 2 * E.length→tl E k=u→tl E k'=v→L (fcn E nx k)=L (fcn E nx k'):=by
  intro u v hr
  induction hr with
  | refl=>intro k k' hk hk' e e'; exact same k k' hk hk' (by rw [e,e'])
  | @step v w j _ hj e1 e2 ih =>
   intro k k' hk hk' e e'
   rw [ih k j hk hj e e1,hL j hj]
   exact same _ _ (ay hj) hk' (by unfold hd at e2; rw [e2,e'])
 intro k hk k' hk'
 obtain ⟨u,hu,un⟩:=h.tl_lt hk
 obtain ⟨v,hv,vn⟩:=h.tl_lt hk'
 exact reach u v ((hc u un).symm.trans (hc v vn)) k k' hk hk' hu hv
theorem rx (h : RotOK (N : Nat) E A) (hc : jN N E) (L : Nat→Nat) (hL : ∀ d,d < 2 * E.length→L (tln E d)=L (tln E (oth d))) : ∀ x,x < N→L x=L 0:=by
 intro x hx
 have key : ∀ {u v : Nat},Reach E u v→L v=L u:=by
  intro u v hr
  induction hr with
  | refl=>rfl
  | @step v w j _ hj e1 e2 ih =>
   rw [← ih]
   have:=hL j hj
   unfold tln at this
   unfold hd at e2
   rw [e1,e2] at this
   simpa using this.symm
 exact key (hc x hx)
end
end Go.Vm

/-
 A valid shape without bends: its darts have directions, and its numbers are those of a plane system with angles.
-/
namespace Go.Vm
open Go.Proofs
set_option maxRecDepth 100000
attribute [local irreducible] ab
theorem pY {n : Nat} {h : Nat→Int} : ∀ {l : List Int},l.Nodup→(∀ d∈l,∃ k : Nat,d=(k : Int)∧k < n)→ag n (fun k=>if (k : Int)∈l then h k else 0)=(l.map fun d=>h d.toNat).sum
 | [],_,_=>by
  rw [eA (fun i _=>by simp)]; rfl
 | d :: l,hn,hd=>by
  obtain ⟨k,rfl,hk⟩:=hd d (by simp)
  obtain ⟨n1,n2⟩:=List.nodup_cons.1 hn
  rw [List.map_cons,List.sum_cons,← pY n2 (fun x hx=>hd x (by simp [hx]))]
  have : ag n (fun i=>if i=k then h k else 0)=h k:=by
   rw [bF hk (fun i _ hne=>by rw [if_neg hne]),if_pos rfl]
  rw [Int.toNat_natCast,← this,← cX]
  refine aK fun i _=>?_
  by_cases e : i=k
  ·subst e
   rw [if_pos (by simp),if_pos rfl,if_neg n1]; simp
  ·rw [if_neg e]
   have : ((i : Int)∈(k : Int) :: l)↔(i : Int)∈l:=by
    rw [List.mem_cons]
    constructor
    ·rintro (h | h)
     ·omega
     ·exact h
    ·exact .inr
   by_cases c : (i : Int)∈l
   ·rw [if_pos (this.2 c),if_pos c]; simp
   ·rw [if_neg (fun h=>c (this.1 h)),if_neg c]; simp
theorem vL {n : Nat} {h : Nat→Int} {P : Nat→Prop} [DecidablePred P] {l : List Int} (hn : l.Nodup) (hd : ∀ d∈l,∃ k : Nat,d=(k : Int)∧k < n) (hP : ∀ k,k < n→(P k↔(k : Int)∈l)) : ag n (fun k=>if P k then h k else 0)=(l.map fun d=>h d.toNat).sum:=by
 rw [← pY hn hd]
 refine aK fun k hk=>?_
 by_cases c : (k : Int)∈l
 ·rw [if_pos c,if_pos ((hP k hk).2 c)]
 ·rw [if_neg c,if_neg (fun h=>c ((hP k hk).1 h))]
def gN (g : List Int) (k : Nat) : Int:=g.getD k 0
theorem tU {σ α ε : Type} {f : Nat→σ→α→Option (σ⊕ε)} {s0 : σ} (hs : ∀ s : σ,s=s0) : ∀ {l : List α} {i : Nat} {s t : σ},aw f i s l=some (.inl t)→∀ a∈l,∃ j,f j s0 a=some (.inl s0)
 | [],_,_,_,_,a,ha=>by simp at ha
 | x :: l,i,s,t,h,a,ha=>by
  simp only [aw] at h
  cases hx : f i s x with
  | none=>rw [hx] at h; cases h
  | some y =>
   rw [hx] at h
   cases y with
   | inr e=>cases h
   | inl u =>
    rw [hs u,hs s] at hx
    rcases List.mem_cons.1 ha with rfl | ha
    ·exact ⟨i,hx⟩
    ·exact tU hs (by simpa using h) a ha
theorem zX {g : List Int} (hg : ∀ k : Nat,k < g.length→1≤gN g k∧gN g k≤4) : ∀ {l : List Int} {i : Nat} {n m : Int},(∀ d∈l,∃ k : Nat,d=(k : Int)∧k < g.length)→0≤n→n+4 * l.length≤1000000000→aw (cW g) i n l=some (.inl m)→m=n+(l.map fun d=>gN g d.toNat).sum
 | [],_,n,m,_,_,_,h=>by
  simp only [aw] at h
  cases h
  simp
 | d :: l,i,n,m,hl,h0,hb,h=>by
  obtain ⟨k,rfl,hk⟩:=hl d (by simp)
  simp only [aw,cW] at h
  have ge : g[k]?=some (gN g k):=by
   unfold gN
   rw [List.getD_eq_getElem?_getD,List.getElem?_eq_getElem hk]; rfl
  obtain ⟨a1,a2⟩:=hg k hk
  simp only [List.length_cons] at hb
  rw [af,ge,Option.bind_some,aA a1,c7 a2] at h
  simp only [Bool.or_false,cond_false,Option.bind_some,Sum.elim_inl] at h
  rw [cu (by omega) (by omega)] at h
  have:=zX hg (fun d hd=>hl d (by simp [hd])) (by omega) (by omega) h
  rw [List.map_cons,List.sum_cons,this,Int.toNat_natCast]
  omega
theorem mW {g : List Int} {B : List ByteArray} {L : Nat} (hb : ∀ k,k < L→(at0 B k).size=0) : ∀ {f : List Int},(∀ d∈f,∃ k : Nat,d=(k : Int)∧k < L)→tsZ g B f=(f.map fun d=>2 - gN g (oth d.toNat)).sum
 | [],_=>rfl
 | d :: f,hf=>by
  obtain ⟨k,rfl,hk⟩:=hf d (by simp)
  have ih:=mW (g:=g) hb (f:=f) (fun d hd=>hf d (by simp [hd]))
  unfold tsZ
  rw [ih,List.map_cons,List.sum_cons,Int.toNat_natCast]
  have h0 : ar (at0 B k)=[]:=by
   have:=bg (at0 B k)
   rw [hb k hk] at this
   exact List.length_eq_zero_iff.1 this
  unfold tnZ
  rw [h0]
  unfold gN bz
  omega
section
variable {N : Nat} {E : List Arc} {A : List (List Int)} {nx fw g : List Int} {B : List ByteArray} {o : Int}
theorem nv (h : RotOK (N : Nat) E A) {v : Nat} (hv : v < N) : ∃ l,A[v]?=some l∧l∈A∧l.Nodup∧(∀ d∈l,∃ k : Nat,d=(k : Int)∧k < 2 * E.length)∧∀ k,k < 2 * E.length→(tln E k=v↔(k : Int)∈l):=by
 have hvl : v < A.length:=by have:=h.al; omega
 have ge:=List.getElem?_eq_getElem hvl
 have hm:=List.getElem_mem hvl
 refine ⟨_,ge,hm,h.list_nodup hm,fun d hd=>h.mem_of hm hd,fun k hk=>⟨fun e=>?_,fun hd=>?_⟩⟩
 ·exact h.around hk (by rw [(jB h hk).1,e]) ge
 ·obtain ⟨j,e1,_,e3⟩:=h.dart v _ ge _ hd
  have : k=j:=by omega
  subst this
  unfold tln
  rw [e3]; rfl
theorem yM (h : RotOK (N : Nat) E A) (hn : Fol oth E A nx) (ff : Fol id E A fw) (P : Nat→Prop) (hP : ∀ d,d < 2 * E.length→P d→P (nxN fw d)) (a b : Nat) (ha : a < 2 * E.length) (hb : b < 2 * E.length) (e : tln E a=tln E b) (h0 : P a) : P b:=by
 obtain ⟨l,_,lA,ln,ld,lt⟩:=nv h (jB h ha).2
 obtain ⟨i,hi,ei⟩:=List.getElem_of_mem ((lt a ha).1 rfl)
 obtain ⟨j,hj,ej⟩:=List.getElem_of_mem ((lt b hb).1 e.symm)
 have key : ∀ t,∃ x : Nat,l[(i+t) % l.length]?=some (x : Int)∧x < 2 * E.length∧P x:=by
  intro t
  induction t with
  | zero =>
   refine ⟨a,?_,ha,h0⟩
   rw [Nat.add_zero,Nat.mod_eq_of_lt hi,List.getElem?_eq_getElem hi,ei]
  | succ t ih =>
   obtain ⟨x,x1,x2,x3⟩:=ih
   have hm : (i+t) % l.length < l.length:=Nat.mod_lt _ (by omega)
   have hm2 : (i+(t+1)) % l.length < l.length:=Nat.mod_lt _ (by omega)
   have hx : l[(i+t) % l.length]=(x : Int):=(List.getElem?_eq_some_iff.1 x1).2
   have g1:=ff.get l lA _ hm
   rw [hx,id,Int.toNat_natCast,List.getD_eq_getElem?_getD] at g1
   have hmod : ((i+t) % l.length+1) % l.length=(i+(t+1)) % l.length:=by rw [Nat.mod_add_mod,Nat.add_assoc]
   rw [hmod,List.getElem?_eq_getElem hm2,Option.getD_some] at g1
   have g2:=fh (jK h hn ff) x2
   rw [g1] at g2
   have g3:=Option.some.inj g2.1
   exact ⟨nxN fw x,by rw [List.getElem?_eq_getElem hm2,g3],g2.2,hP x x2 x3⟩
 obtain ⟨x,x1,_,x3⟩:=key (j+l.length - i)
 rw [show i+(j+l.length - i)=j+l.length by omega,Nat.add_mod_right,Nat.mod_eq_of_lt hj,List.getElem?_eq_getElem hj,ej] at x1
 have:=Option.some.inj x1
 have : b=x:=by omega
 rw [this]; exact x3
theorem nX (h : ShapeOK N E A g B o nx) : ∀ k,k < 2 * E.length→1≤gN g k∧gN g k≤4:=by
 intro k hk
 obtain ⟨a,a1,a2,a3⟩:=h.turn.ang k hk
 unfold gN
 rw [List.getD_eq_getElem?_getD,a1]
 exact ⟨a2,a3⟩
theorem ot (h : ShapeOK N E A g B o nx) {l : List Int} (hl : l∈A) (hne : l≠[]) : (l.map fun d=>gN g d.toNat).sum=4:=by
 have hg:=h.turn.glen
 obtain ⟨j,hj⟩:=tU (s0:=()) (fun _=>rfl) h.ang l hl
 unfold dC at hj
 cases hf : aw (cW g) 0 0 l with
 | none=>rw [hf] at hj; cases hj
 | some x =>
  rw [hf] at hj
  cases x with
  | inr e=>cases hj
  | inl m =>
   have hlen:=h.rot.list_len hl
   have hm1:=h.rot.m1
   have:=zX (g:=g) (fun k hk=>nX h k (by omega)) (fun d hd=>by rw [hg]; exact h.rot.mem_of hl hd) (Int.le_refl 0) (by omega) hf
   have hpos : 0 < l.length:=List.length_pos_iff.2 hne
   simp only [Option.bind_some,Sum.elim_inl] at hj
   rw [d7 (by omega),Bool.true_and] at hj
   by_cases e : m=4
   ·omega
   ·rw [dZ e] at hj; cases hj
theorem vK (h : RotOK (N : Nat) E A) (hc : jN N E) (hE : 0 < E.length) {v : Nat} (hv : v < N) : ∃ d,d < 2 * E.length∧tln E d=v:=by
 apply Classical.byContradiction
 intro hno
 have key:=rx h hc (fun x=>if x=v then 1 else 0) (fun d hd=>by
  rw [if_neg (fun e=>hno ⟨d,hd,e⟩),if_neg (fun e=>hno ⟨_,ay hd,e⟩)])
 have a:=key v hv
 have b:=key (tln E 0) (jB h (by omega)).2
 rw [if_pos rfl] at a
 rw [← a,if_neg (fun e=>hno ⟨0,by omega,e⟩)] at b
 omega
theorem yN (h : ShapeOK N E A g B o nx) (hE : 0 < E.length) : ∀ v,v < N→ag (2 * E.length) (fun d=>if tln E d=v then gN g d else 0)=4:=by
 intro v hv
 obtain ⟨l,_,lA,ln,ld,lt⟩:=nv h.rot hv
 obtain ⟨d,hd,e⟩:=vK h.rot h.conn hE hv
 have hne : l≠[]:=fun e'=>by
  have:=(lt d hd).1 e
  rw [e'] at this; simp at this
 rw [vL ln ld lt,ot h lA hne]
theorem mA (h : ShapeOK N E A g B o nx) (hE : 0 < E.length) (hb : ∀ k,k < 2 * E.length→(at0 B k).size=0) : fcn E nx o.toNat < (aa nx).length ∧
  ∀ f,f < (aa nx).length→ag (2 * E.length) (fun d=>if fcn E nx d=f then 2 - gN g (oth d) else 0)=if f=fcn E nx o.toNat then -4 else 4:=by
 have hn:=h.folOK
 obtain ⟨hfs,_⟩:=bJ h.rot hn
 have h0:=h.out0
 obtain ⟨q,rfl⟩ : ∃ q : Nat,o=(q : Int):=⟨o.toNat,by omega⟩
 rw [Int.toNat_natCast]
 have hq : q < 2 * E.length:=by rcases h.out1 with h | h <;> omega
 obtain ⟨fo,o1,o2,o3⟩:=kG h.rot hn hq
 refine ⟨o3,fun f hf=>?_⟩
 have hm:=List.getElem_mem hf
 obtain ⟨_,hel⟩:=hfs.elem _ hm
 have hmem : ∀ k,k < 2 * E.length→(fcn E nx k=f↔(k : Int)∈(aa nx)[f]):=by
  intro k hk
  constructor
  ·intro e
   obtain ⟨f',f1,f2,_⟩:=kG h.rot hn hk
   rw [e,List.getElem?_eq_getElem hf] at f1
   rw [Option.some.inj f1]; exact f2
  ·intro hk2
   exact yI h.rot hn (List.getElem?_eq_getElem hf) hk2
 rw [vL (hfs.nodup.sublist (List.sublist_flatten_of_mem hm)) hel hmem,← mW hb hel]
 have hc:=h.chk
 unfold cA at hc
 rw [List.all_eq_true] at hc
 have hf4:=hc _ hm
 unfold fA at hf4
 have hin : inB (aa nx)[f] (q : Int)=decide (f=fcn E nx q):=by
  unfold inB
  refine decide_eq_decide.2 ?_
  rw [← hmem q hq]
  exact eq_comm
 rw [hin] at hf4
 have hv : tsZ g B (aa nx)[f]=cond (decide (f=fcn E nx q)) (-4) 4:=by simpa [eqI] using hf4
 rw [hv]
 by_cases e : f=fcn E nx q
 ·rw [if_pos e]; simp [e]
 ·rw [if_neg e]; simp [e]
theorem pk (h : ShapeOK N E A g B o nx) (hE : 0 < E.length) (hb : ∀ k,k < 2 * E.length→(at0 B k).size=0) : N+(aa nx).length=E.length+2:=by
 have hn:=h.folOK
 obtain ⟨ho,hf⟩:=mA h hE hb
 have e1 : ag (2 * E.length) (fun d=>gN g d)=4 * (N : Int):=by
  have:=tf (n:=2 * E.length) (F:=N) (fc:=tln E) (fun d hd=>(jB h.rot hd).2) (fun _=>1) (gN g)
  simp only [Int.one_mul] at this
  rw [this,aK (g:=fun _=>4 * 1) (fun v hv=>by rw [yN h hE v hv]; rfl),eG,dG]
 have e2 : ag (2 * E.length) (fun d=>2 - gN g (oth d))=4 * ((aa nx).length : Int) - 8:=by
  have:=tf (n:=2 * E.length) (F:=(aa nx).length) (fc:=fcn E nx) (fun d hd=>by obtain ⟨_,_,_,q⟩:=kG h.rot hn hd; exact q) (fun _=>1) (fun d=>2 - gN g (oth d))
  simp only [Int.one_mul] at this
  have h8 : ag (aa nx).length (fun f=>if f=fcn E nx o.toNat then (8 : Int) else 0)=8:=by
   rw [bF ho (fun i _ hne=>by rw [if_neg hne]),if_pos rfl]
  rw [this,aK (g:=fun f=>4 * 1 - (if f=fcn E nx o.toNat then 8 else 0)) (fun f hff=>by
   rw [hf f hff]
   split <;> rfl),cY,eG,dG,h8]
 have e3 : ag (2 * E.length) (fun d=>2 - gN g (oth d))=2 * (2 * E.length : Nat) - ag (2 * E.length) (fun d=>gN g d):=by
  rw [cY,gG (π:=oth) (fun d hd=>ay hd) (fun a b _ _ e=>by rw [← dO a,e,dO]) (gN g)]
  congr 1
  have:=eG 2 (fun _=>1) (2 * E.length)
  simp only [Int.mul_one] at this
  rw [this,dG]
 omega
theorem o8 (h : ShapeOK N E A g B o nx) (ff : Fol id E A fw) (hE : 0 < E.length) (hb : ∀ k,k < 2 * E.length→(at0 B k).size=0) : Plane N (aa nx).length E.length (tln E) (fcn E nx) (nxN fw):=by
 have hn:=h.folOK
 have hfw:=jK h.rot hn ff
 have hfs:=(bJ h.rot hn).1
 have num : ∀ d,d < 2 * E.length→∃ y,nxN fw d=y∧tl E y=tl E d∧fcn E nx y=fcn E nx (oth d)∧y < 2 * E.length:=by
  intro d hd
  obtain ⟨y,y1,y2,_,y4,y5⟩:=jr h.rot hn ff hd
  have q:=(fh hfw hd).1
  rw [y2] at q
  have:=Option.some.inj q
  exact ⟨y,by omega,y4,y5,y1⟩
 refine ⟨fun d hd=>(jB h.rot hd).2,fun d hd=>by obtain ⟨_,_,_,q⟩:=kG h.rot hn hd; exact q,fun d hd=>(fh hfw hd).2,fun a b ha hb e=>FL h.rot hn ff ha hb e,
  fun d hd=>by obtain ⟨y,e,e1,_⟩:=num d hd; rw [e]; unfold tln; rw [e1],fun d hd=>by obtain ⟨y,e,_,e2,_⟩:=num d hd; rw [e]; exact e2,rx h.rot h.conn,?_,yM h.rot hn ff,h.pos,?_,pk h hE hb⟩
 ·intro L hL x hx
  have hang:=yJ h.rot hn ff h.conn L hL
  have pick : ∀ x,x < (aa nx).length→∃ k,k < 2 * E.length∧fcn E nx k=x:=by
   intro x hx
   obtain ⟨q1,q2⟩:=hfs.elem _ (List.getElem_mem hx)
   obtain ⟨y,hy⟩:=List.exists_mem_of_ne_nil _ q1
   obtain ⟨k,rfl,hk⟩:=q2 y hy
   exact ⟨k,hk,yI h.rot hn (List.getElem?_eq_getElem hx) hy⟩
  obtain ⟨k,hk,rfl⟩:=pick x hx
  obtain ⟨k',hk',e⟩:=pick 0 (by omega)
  rw [← e]
  exact hang k hk k' hk'
 ·obtain ⟨q,_⟩:=mA h hE hb
  omega
theorem AK (h : ShapeOK N E A g B o nx) (ff : Fol id E A fw) : ∃ r : Nat→Int,∀ d,d < 2 * E.length→(4 : Int)∣r (nxN fw d) - r d - gN g d:=by
 have hn:=h.folOK
 let L : Nat→List Int:=fun v=>A.getD v []
 let P : Nat→Nat→Prop:=fun d i=>(L (tln E d))[i]?=some (d : Int)
 let pos : Nat→Nat:=fun d=>@dite _ (∃ i,P d i) (Classical.propDecidable _) (fun h=>Classical.choose h) (fun _=>0)
 have hpos : ∀ d i l,d < 2 * E.length→A[tln E d]?=some l→l[i]?=some (d : Int)→pos d=i∧L (tln E d)=l:=by
  intro d i l hd hl hi
  have hL : L (tln E d)=l:=by
   show A.getD (tln E d) []=l
   rw [List.getD_eq_getElem?_getD,hl]; rfl
  refine ⟨?_,hL⟩
  have hex : ∃ i,P d i:=⟨i,by show (L (tln E d))[i]?=_; rw [hL]; exact hi⟩
  have e : pos d=Classical.choose hex:=dif_pos hex
  have hs:=Classical.choose_spec hex
  have hs : (L (tln E d))[Classical.choose hex]?=some (d : Int):=hs
  rw [hL] at hs
  rw [e]
  have hnd:=h.rot.list_nodup (List.mem_of_getElem? hl)
  obtain ⟨i1,e1⟩:=List.getElem?_eq_some_iff.1 hs
  obtain ⟨i2,e2⟩:=List.getElem?_eq_some_iff.1 hi
  exact iR hnd i1 i2 (by rw [e1,e2])
 refine ⟨fun d=>(((L (tln E d)).take (pos d)).map fun x=>gN g x.toNat).sum,fun d hd=>?_⟩
 obtain ⟨l,l1,lA,ln,ld,lt⟩:=nv h.rot (jB h.rot hd).2
 obtain ⟨i,hi,ei⟩:=List.getElem_of_mem ((lt d hd).1 rfl)
 have gi : l[i]?=some (d : Int):=by rw [List.getElem?_eq_getElem hi,ei]
 obtain ⟨p1,p2⟩:=hpos d i l hd l1 gi
 have hm : (i+1) % l.length < l.length:=Nat.mod_lt _ (by omega)
 have g1:=ff.get l lA i hi
 rw [ei,id,Int.toNat_natCast,List.getD_eq_getElem?_getD,List.getElem?_eq_getElem hm,Option.getD_some] at g1
 have g2:=fh (jK h.rot hn ff) hd
 rw [g1] at g2
 have g3:=Option.some.inj g2.1
 have t1 : tln E (nxN fw d)=tln E d:=(lt _ g2.2).2 (by rw [← g3]; exact List.getElem_mem hm)
 obtain ⟨q1,q2⟩:=hpos (nxN fw d) ((i+1) % l.length) l g2.2 (by rw [t1]; exact l1) (by rw [List.getElem?_eq_getElem hm,g3])
 simp only
 rw [q1,q2,p1,p2]
 rcases Nat.lt_or_ge (i+1) l.length with c | c
 ·rw [Nat.mod_eq_of_lt c,List.take_add_one,gi]
  simp only [Option.toList_some,List.map_append,List.map_cons,List.map_nil,List.sum_append,List.sum_cons,List.sum_nil,Int.toNat_natCast]
  exact ⟨0,by omega⟩
 ·have : i+1=l.length:=by omega
  rw [this,Nat.mod_self]
  have ht:=ot h lA (fun e=>by rw [e] at hi; simp at hi)
  rw [← List.take_append_drop i l,List.map_append,List.sum_append,List.drop_eq_getElem_cons hi,ei,this,List.drop_length] at ht
  simp only [List.map_cons,List.map_nil,List.sum_cons,List.sum_nil,Int.toNat_natCast] at ht
  simp only [List.take_zero,List.map_nil,List.sum_nil]
  exact ⟨-1,by omega⟩
theorem yj (h : ShapeOK N E A g B o nx) (ff : Fol id E A fw) (hE : 0 < E.length) (hb : ∀ k,k < 2 * E.length→(at0 B k).size=0) : ∃ k : Nat→Int,Dirs E.length (nxN fw) (gN g) k∧k 0=1:=by
 have p:=o8 h ff hE hb
 obtain ⟨q1,q2⟩:=mA h hE hb
 obtain ⟨r,hr⟩:=AK h ff
 have permN : ∀ f : Nat→Int,ag (2 * E.length) (fun d=>f (nxN fw (oth d)))=ag (2 * E.length) f:=gG (fun d hd=>p.fwt _ (cb hd)) (fun a b ha hb e=>by
  have:=p.inj _ _ (cb ha) (cb hb) e
  rw [← dO a,this,dO])
 obtain ⟨φ,hφ⟩:=pp (M:=E.length) (V:=N) (F:=(aa nx).length) (tl:=tln E) (fc:=fcn E nx) (nx:=fun d=>nxN fw (oth d)) (δ:=fun d=>r d+2 - r (oth d)) 4 p.tlt p.fct (fun d hd=>p.fwt _ (cb hd)) (fun a b ha hb e=>by
  have:=p.inj _ _ (cb ha) (cb hb) e
  rw [← dO a,this,dO]) (fun d hd=>by rw [p.fcf _ (cb hd),dO]) (fun d hd=>p.tlf _ (cb hd)) (fun i _=>by
   rw [oi,nY]; exact ⟨1,by omega⟩) (fun f hf=>by
   -- around a face
   have s1 : ag (2 * E.length) (fun d=>if fcn E nx d=f then r d else 0)=ag (2 * E.length) (fun d=>if fcn E nx d=f then r (nxN fw (oth d)) else 0):=by
    rw [← permN (fun d=>if fcn E nx d=f then r d else 0)]
    exact aK fun d hd=>by rw [p.fcf _ (cb hd),dO]
   have s2 : (4 : Int)∣ag (2 * E.length) (fun d=>if fcn E nx d=f then r (nxN fw (oth d)) - r (oth d) - gN g (oth d) else 0):=kR 4 fun d hd=>by
    split
    ·exact hr _ (cb hd)
    ·exact Int.dvd_zero 4
   have s3:=q2 f hf
   have s4 : ag (2 * E.length) (fun d=>if fcn E nx d=f then r d+2 - r (oth d) else 0)=ag (2 * E.length) (fun d=>if fcn E nx d=f then r d else 0) - ag (2 * E.length) (fun d=>if fcn E nx d=f then r (nxN fw (oth d)) else 0) +
     (ag (2 * E.length) (fun d=>if fcn E nx d=f then r (nxN fw (oth d)) - r (oth d) - gN g (oth d) else 0)+4 * ag (2 * E.length) (fun d=>if fcn E nx d=f then 1 else 0) - ag (2 * E.length) (fun d=>if fcn E nx d=f then 2 - gN g (oth d) else 0)):=by
    rw [← eG,← cY,← cX,← cY,← cX]
    exact aK fun d _=>by split <;> omega
   rw [s4,s1,s3]
   split <;> omega) p.cV p.cF p.pos p.posF p.euler
 refine ⟨fun d=>(φ (tln E d)+r d+(1 - φ (tln E 0) - r 0)) % 4,⟨fun d hd=>by omega,fun d hd=>?_,fun d hd=>?_⟩,?_⟩
 ·have h1:=hr d hd
  rw [p.tlf d hd]
  omega
 ·have h1:=hφ d hd
  omega
 ·show (φ (tln E 0)+r 0+(1 - φ (tln E 0) - r 0)) % 4=1
  omega
end
end Go.Vm

/-
 The directions of the darts, in the program.
-/
namespace Go.Vm
open Go.Proofs
set_option maxRecDepth 100000
attribute [local irreducible] ab
theorem AM (N : Int) (E : List Arc) (A : List (List Int)) (g : List Int) (B : List ByteArray) (o : Int) (m : Nat) (hB : B.length=2 * m) (hm : m≤32768) (hs : ∀ k,k < 2 * m→(at0 B k).size≤64) : ∀ (k j : Nat) (n : Nat),j+k=m→n≤64 * j →
  ∃ v : Nat,n≤v∧v≤64 * m∧qd (N,E,A,g,B,o,(n : Int),((2 * j : Nat) : Int),())=some (.inl ((v : Int),()))∧sa (N,E,A,g,B,o,(n : Int),((2 * j : Nat) : Int),())=some (.inl ((v : Int),())) ∧
   (v=n→∀ i,j≤i→i < m→(at0 B (2 * i)).size=0):=by
 intro k
 induction k with
 | zero =>
  intro j n hj hn
  refine ⟨n,Nat.le_refl _,by omega,ac ?_,ac ?_,fun _ i h1 h2=>by omega⟩
  ·simp only [n7]
   rw [aA (by omega)]; rfl
  ·simp only [nH]
   rw [aA (by omega)]; rfl
 | succ k ih =>
  intro j n hj hn
  have h0 : B[2 * j]?=some (at0 B (2 * j)):=ir (by omega)
  have h64:=hs (2 * j) (by omega)
  have ea : ae .i64 ((2 * j : Nat) : Int) 2=((2 * (j+1) : Nat) : Int):=by rw [cu (by omega) (by omega)]; omega
  have eb : ae .i64 (n : Int) ((at0 B (2 * j)).size : Nat)=((n+(at0 B (2 * j)).size : Nat) : Int):=by rw [cu (by omega) (by omega)]; omega
  obtain ⟨v,v1,v2,h1,h2,h3⟩:=ih (j+1) (n+(at0 B (2 * j)).size) (by omega) (by omega)
  refine ⟨v,by omega,v2,?_,?_,fun e i i1 i2=>?_⟩
  ·refine (ao ?_).trans h1
   simp only [n7]
   rw [aB (by omega),cond_true,af,h0,Option.bind_some,ea,eb]
  ·refine (ao ?_).trans h2
   simp only [nH]
   rw [aB (by omega),cond_true,af,h0,Option.bind_some,ea,eb]
  ·by_cases e2 : i=j
   ·subst e2; omega
   ·exact h3 (by omega) i (by omega) i2
section
variable {N : Nat} {E : List Arc} {A : List (List Int)} {nx fw g : List Int} {B : List ByteArray} {o : Int}
theorem Dm (h : RotOK (N : Nat) E A) (hn : Fol oth E A nx) (ff : Fol id E A fw) {d : Nat} (hd : d < 2 * E.length) : Zbf (((N : Int),E,A,()),((oth d : Nat) : Int),())=some (((nxN fw d : Nat) : Int),()):=by
 have hm1:=h.m1
 have ho:=ay hd
 obtain ⟨a,a1,a2⟩:=Ad h ho
 obtain ⟨v,hv,vn⟩:=h.tl_lt hd
 have e1 : Go.Vm.hd E (oth d)=(v : Int):=by unfold Go.Vm.hd; rw [bt]; exact hv
 obtain ⟨l,l1,lA,ln,ld,lt⟩:=nv h vn
 have hdl : (d : Int)∈l:=(lt d hd).1 (by unfold tln; rw [hv]; rfl)
 have hll:=h.list_len lA
 rcases oF l (d : Int) (by omega) with ⟨_,q⟩ | ⟨k,k1,k2⟩
 ·exact absurd hdl q
 ·have hk : k < l.length:=(List.getElem?_eq_some_iff.1 k1).1
  have hkd : l[k]=(d : Int):=(List.getElem?_eq_some_iff.1 k1).2
  have hm : (k+1) % l.length < l.length:=Nat.mod_lt _ (by omega)
  have g1:=ff.get l lA k hk
  rw [hkd,id,Int.toNat_natCast,List.getD_eq_getElem?_getD,List.getElem?_eq_getElem hm,Option.getD_some] at g1
  have g2:=(fh (jK h hn ff) hd).1
  rw [g1] at g2
  have g3:=Option.some.inj g2
  have e2 : aQ .i64 2 (E.length : Nat)=((2 * E.length : Nat) : Int):=by rw [fV (by omega) (by omega)]; omega
  unfold Zbf
  simp only
  rw [ed ((N : Int),E,A,()) h.lists,h.validB,Option.bind_some]
  simp only [Bool.not_true,cond_false]
  rw [aA (by omega),cond_false,e2,fZ (by omega),cond_false,Ap (by omega),af,a1,Option.bind_some,a2,Option.bind_some]
  simp only
  rw [e1,af,l1,Option.bind_some,mC (by omega),bt,k2,Option.bind_some,bw (by omega),cond_false,a9 (by omega),xH,af,List.getElem?_eq_getElem hm,g3]
  rfl
def lJ (out : List Int) : Nat:=out.countP fun x=>decide (x < 0)
theorem nP : ∀ {out : List Int} {x : Nat} {v : Int},(∃ y,out[x]?=some y∧y < 0)→0≤v→lJ (out.set x v)+1=lJ out
 | [],x,v,⟨y,h,_⟩,_=>by simp at h
 | b :: out,0,v,⟨y,h,hy⟩,hv=>by
  simp at h
  subst h
  unfold lJ
  have hv' : ¬ v < 0:=by omega
  rw [List.set_cons_zero,List.countP_cons,List.countP_cons]
  simp [hy,hv']
 | b :: out,x+1,v,⟨y,h,hy⟩,hv=>by
  have:=nP (out:=out) (x:=x) ⟨y,by simpa using h,hy⟩ hv
  unfold lJ at this ⊢
  rw [List.set_cons_succ,List.countP_cons,List.countP_cons]
  omega
def i8 (s : List Int×List Int) (x : Nat) (v : Int) : List Int×List Int:=if s.1.getD x 0 < 0 then (s.1.set x v,s.2++[(x : Int)]) else s
structure DirI (k : Nat→Int) (M : Nat) (out : List Int) : Prop where
 len : out.length=2 * M
 val : ∀ d,d < 2 * M→out[d]?=some (-1)∨out[d]?=some (k d)
def Has (k : Nat→Int) (out : List Int) (d : Nat) : Prop:=out[d]?=some (k d)
variable {k : Nat→Int} {M : Nat}
theorem Aa (hk : ∀ d,d < 2 * M→0≤k d) {s : List Int×List Int} (hs : DirI k M s.1) {x : Nat} (hx : x < 2 * M) : DirI k M (i8 s x (k x)).1∧Has k (i8 s x (k x)).1 x∧(∀ d,d < 2 * M→Has k s.1 d→Has k (i8 s x (k x)).1 d) ∧
  (∃ new,(i8 s x (k x)).2=s.2++new∧2 * lJ (i8 s x (k x)).1+2 * new.length=2 * lJ s.1∧(∀ y∈new,y=(x : Int)))∧(∀ d,d < 2 * M→Has k (i8 s x (k x)).1 d→Has k s.1 d∨(d : Int)∈(i8 s x (k x)).2):=by
 have hlen:=hs.len
 have hkx:=hk x hx
 unfold i8
 rcases hs.val x hx with e | e
 ·have hg : s.1.getD x 0=-1:=by rw [List.getD_eq_getElem?_getD,e]; rfl
  rw [hg,if_pos (by decide)]
  simp only
  have hset : ∀ d,(s.1.set x (k x))[d]?=if x=d then (if x < s.1.length then some (k x) else none) else s.1[d]?:=fun d=>List.getElem?_set
  refine ⟨⟨by simp [hlen],fun d hd=>?_⟩,?_,fun d hd h=>?_,⟨[(x : Int)],rfl,?_,by simp⟩,fun d hd h=>?_⟩
  ·rw [hset]
   by_cases c : x=d
   ·subst c; rw [if_pos rfl,if_pos (by omega)]; exact .inr rfl
   ·rw [if_neg c]; exact hs.val d hd
  ·unfold Has; rw [hset,if_pos rfl,if_pos (by omega)]
  ·unfold Has at h ⊢
   rw [hset]
   by_cases c : x=d
   ·subst c; rw [if_pos rfl,if_pos (by omega)]
   ·rw [if_neg c]; exact h
  ·have:=nP (out:=s.1) (x:=x) (v:=k x) ⟨-1,e,by decide⟩ hkx
   simp only [List.length_cons,List.length_nil]
   omega
  ·by_cases c : x=d
   ·subst c; right; simp
   ·left
    unfold Has at h ⊢
    rw [hset,if_neg c] at h
    exact h
 ·have hg : s.1.getD x 0=k x:=by rw [List.getD_eq_getElem?_getD,e]; rfl
  rw [hg,if_neg (by omega)]
  exact ⟨hs,e,fun _ _ h=>h,⟨[],by simp,by simp,by simp⟩,fun _ _ h=>.inl h⟩
theorem Plane.all_darts {V F : Nat} {tl fc fw : Nat→Nat} (p : Plane V F M tl fc fw) (P : Nat→Prop) (h0 : P 0) (hM : 0 < M) (h1 : ∀ d,d < 2 * M→P d→P (fw d)) (h2 : ∀ d,d < 2 * M→P d→P (oth d)) : ∀ d,d < 2 * M→P d:=by
 intro d hd
 have key:=p.cV (fun v=>@ite Nat (∃ x,x < 2 * M∧tl x=v∧P x) (Classical.propDecidable _) 1 0) (fun x hx=>by
  have one : ∀ x,x < 2 * M→(∃ y,y < 2 * M∧tl y=tl x∧P y)→∃ y,y < 2 * M∧tl y=tl (oth x)∧P y:=by
   rintro x hx ⟨y,y1,y2,y3⟩
   exact ⟨oth x,cb hx,rfl,h2 x hx (p.around P h1 y x y1 hx y2 y3)⟩
  by_cases c : ∃ y,y < 2 * M∧tl y=tl x∧P y
  ·rw [if_pos c,if_pos (one x hx c)]
  ·rw [if_neg c,if_neg (fun c2=>c (by have:=one (oth x) (cb hx) c2; rwa [dO] at this))])
 have a:=key (tl d) (p.tlt d hd)
 have b:=key (tl 0) (p.tlt 0 (by omega))
 rw [if_pos ⟨0,by omega,rfl,h0⟩] at b
 rw [← b] at a
 by_cases c : ∃ y,y < 2 * M∧tl y=tl d∧P y
 ·obtain ⟨y,y1,y2,y3⟩:=c
  exact p.around P h1 y d y1 hd y2 y3
 ·rw [if_neg c] at a; omega
def hJ (k : Nat→Int) (M : Nat) : List Int:=(List.range (2 * M)).map k
theorem Es {out : List Int} (hs : DirI k M out) (h : ∀ d,d < 2 * M→Has k out d) : out=hJ k M:=by
 refine List.ext_getElem? fun d=>?_
 unfold hJ
 by_cases hd : d < 2 * M
 ·rw [h d hd,List.getElem?_map,List.getElem?_range hd]; rfl
 ·rw [List.getElem?_eq_none (by rw [hs.len]; omega),List.getElem?_eq_none (by simp; omega)]
structure DirS (k : Nat→Int) (M : Nat) (fw : Nat→Nat) (out st : List Int) : Prop where
 inv : DirI k M out
 stk : ∀ x∈st,∃ d : Nat,x=(d : Int)∧d < 2 * M∧Has k out d
 done : ∀ d,d < 2 * M→Has k out d→(d : Int)∈st∨(Has k out (fw d)∧Has k out (oth d))
 zero : Has k out 0
theorem Ds (out : List Int) : lJ out≤out.length:=List.countP_le_length
theorem vi {a b : Int} (h0 : 0≤a) (hb : 0≤b∧b < 4) (h : (4 : Int)∣b - a) : cl a 4=b:=by
 obtain ⟨n,rfl⟩ : ∃ n : Nat,a=(n : Int):=⟨a.toNat,by omega⟩
 rw [show ((4 : Int))=((4 : Nat) : Int) from rfl,xH]
 omega
end
end Go.Vm

namespace Go.Vm
open Go.Proofs
set_option maxRecDepth 100000
attribute [local irreducible] ab
section
variable {N : Nat} {E : List Arc} {A : List (List Int)}
def vd (h : Int→Int) : List Int→Int
 | []=>0
 | d :: f=>h d+vd h f
def DO (g : List Int) (l : List Int) : Prop:=∀ d∈l,∃ k : Nat,d=(k : Int)∧∃ a,g[k]?=some a∧1≤a∧a≤4
theorem xa (g : List Int) : ∀ (l : List Int) (i : Nat) (n : Int),DO g l→0≤n→n+4 * l.length≤1000000→aw (cW g) i n l=some (.inl (n+vd (fun d=>g.getD d.toNat 0) l))
 | [],i,n,_,_,_=>by simp [aw,vd]
 | d :: l,i,n,h,h0,h1=>by
  obtain ⟨k,rfl,a,ha,a1,a2⟩:=h d (by simp)
  simp only [List.length_cons] at h1
  simp only [aw,cW]
  rw [af,ha,Option.bind_some,aA a1,c7 a2]
  simp only [Bool.or_false,cond_false,Option.bind_some,Sum.elim_inl,vd]
  rw [cu (by omega) (by omega),xa g l (i+1) (n+a) (fun x hx=>h x (by simp [hx])) (by omega) (by omega),Int.toNat_natCast,List.getD_eq_getElem?_getD,ha]
  simp only [Option.getD_some]
  rw [show n+a+vd (fun d=>g.getD d.toNat 0) l=n+(a+vd (fun d=>g.getD d.toNat 0) l) by omega]
theorem yo (g : List Int) (l : List Int) (j : Nat) (h : DO g l) (hl : l.length≤65536) : dC g j () l=some (cond (gtI (l.length : Nat) 0 && neI (vd (fun d=>g.getD d.toNat 0) l) 4) (.inr ()) (.inl ())):=by
 unfold dC
 rw [xa g l 0 0 h (by omega) (by omega),Int.zero_add]
 rfl
theorem zd (g : List Int) : ∀ (A : List (List Int)) (i : Nat),(∀ l∈A,∀ j,dC g j () l=some (.inl ()))→aw (dC g) i () A=some (.inl ())
 | [],i,_=>rfl
 | l :: A,i,h=>by
  simp only [aw]
  rw [h l (by simp) i]
  exact zd g A (i+1) fun l hl=>h l (by simp [hl])
theorem DV (h : RotOK (N : Nat) E A) (hA : ∀ l∈A,l.length≤9223372036854775807) {g : List Int} {B : List ByteArray} {o : Int} {nx : List Int} (hN : 0 < N) (hc : jN N E) (hG : Zaw (((N : Int),E,A,()),())=some (0,()))
  (hT : TurnOK g B (2 * E.length)) (ho0 : 0≤o) (ho1 : o < 2 * E.length∨o=0) (ha : lY g A=some (.inl ())) (hb : cN (gQ B) 0 (2 * E.length)=true)
  (hf : Zay (((N : Int),E,A,()),())=some (aa nx,())) (hfi : nh (2 * E.length) (aa nx)) (hchk : cA g B o (aa nx)=true) :
  Zbt ((((N : Int),E,A,()),g,B,o,()),())=some (true,()):=by
 have hm1:=h.m1
 have hn1:=h.n1
 have hlen:=h.len
 have hv:=h.validB
 have hgl:=hT.glen
 have hBl:=hT.blen
 obtain ⟨bc,c1,c2⟩:=mK h hv hA
 have hbc : bc=true:=c2.2 ⟨hN,hc⟩
 subst hbc
 have e2 : aQ .i64 2 (E.length : Nat)=((2 * E.length : Nat) : Int):=by rw [fV (by omega) (by omega)]; omega
 have hang:=sW (N : Int) E A g B o (by omega) hA
 rw [ha] at hang
 have hbp:=qw (N : Int) E A g B o E.length hBl hm1 E.length 0 (by omega)
 rw [rZ,hb] at hbp
 have hbp' : oy ((N : Int),E,A,g,B,o,(N : Int),E,A,((2 * E.length : Nat) : Int),0,())=_:=hbp
 have hmax : jO ((2 * E.length : Nat) : Int) 1=if 2 * E.length=0 then 1 else ((2 * E.length : Nat) : Int):=by
  unfold jO; split <;> split <;> omega
 have hp:=rH hT ((N : Int),E,A,()) o (aa nx) hfi
 rw [hchk] at hp
 simp only at hp
 unfold Zbt
 simp only
 rw [ed ((N : Int),E,A,()) hA,hv,Option.bind_some]
 simp only [Bool.not_true,cond_false]
 rw [c1,Option.bind_some]
 simp only [Bool.not_true,cond_false]
 rw [hG,Option.bind_some]
 simp only
 rw [bn rfl,cond_false,e2,bn (by omega),cond_false,bn (by omega),cond_false,aA (by omega),cond_false,hmax,fZ (by split <;> omega),cond_false,hang,hbp']
 simp only [cond_true,Option.bind_some,Sum.elim_inl,Sum.elim_inr,Bool.not_true,cond_false]
 rw [hf,Option.bind_some]
 simp only
 rw [hp]
 rfl
end
end Go.Vm


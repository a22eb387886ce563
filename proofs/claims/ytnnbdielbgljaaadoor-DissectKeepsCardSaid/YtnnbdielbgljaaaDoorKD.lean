/-
 Directions; a shape that is as it must be is valid.
-/
import Derived.Test.YtnnbdielbgljaaaDoorVmD
import Derived.Test.YtnnbdielbgljaaaDoorKB
import Derived.Test.YtnnbdielbgljaaaDoorKC
import Derived.Test.YtnnbdielbgljaaaDoorKA
set_option linter.unusedVariables false
set_option linter.unusedSimpArgs false
/-
 Potentials: where the faces of a connected plane system close, differences along its edges come from numbers of its vertices.
-/
namespace Go.Vm
set_option maxRecDepth 100000
def ao : Nat→(Nat→Int)→Int
 | 0,_=>0
 | n+1,f=>ao n f+f n
theorem bA (n : Nat) (f : Nat→Int) : ao (n+1) f=ao n f+f n:=rfl
theorem aP {f g : Nat→Int} : ∀ {n : Nat},(∀ i,i < n→f i=g i)→ao n f=ao n g
 | 0,_=>rfl
 | n+1,h=>by
  unfold ao
  rw [aP (fun i hi=>h i (by omega)),h n (by omega)]
theorem eK (f g : Nat→Int) : ∀ n,ao n (fun i=>f i+g i)=ao n f+ao n g
 | 0=>rfl
 | n+1=>by simp only [bA]; rw [eK f g n]; omega
theorem dC (f g : Nat→Int) : ∀ n,ao n (fun i=>f i - g i)=ao n f - ao n g
 | 0=>rfl
 | n+1=>by simp only [bA]; rw [dC f g n]; omega
theorem d9 {f : Nat→Int} : ∀ {n : Nat},(∀ i,i < n→f i=0)→ao n f=0
 | 0,_=>rfl
 | n+1,h=>by unfold ao; rw [d9 (fun i hi=>h i (by omega)),h n (by omega)]; rfl
theorem ic {f g : Nat→Int} : ∀ {n : Nat},(∀ i,i < n→f i≤g i)→ao n f≤ao n g
 | 0,_=>Int.le_refl _
 | n+1,h=>by
  unfold ao
  have:=ic (f:=f) (g:=g) (n:=n) (fun i hi=>h i (by omega))
  have:=h n (by omega)
  omega
theorem bJ {f : Nat→Int} {k : Nat} : ∀ {n : Nat},k < n→(∀ i,i < n→i≠k→f i=0)→ao n f=f k
 | n+1,hk,h=>by
  unfold ao
  by_cases e : k=n
  ·subst e
   rw [d9 (fun i hi=>h i (by omega) (by omega))]; omega
  ·rw [bJ (k:=k) (n:=n) (by omega) (fun i hi=>h i (by omega)),h n (by omega) (by omega)]; omega
def mrg (L : Nat→Nat) (a b : Nat) : Nat→Nat:=fun x=>if L x=L b then L a else L x
structure Cls (n : Nat) (L : Nat→Nat) : Prop where
 lt : ∀ x,x < n→L x < n
 idem : ∀ x,x < n→L (L x)=L x
def jl (n : Nat) (L : Nat→Nat) : Int:=ao n fun x=>if L x=x then 1 else 0
theorem Cls.id (n : Nat) : Cls n (fun x=>x):=⟨fun _ h=>h,fun _ _=>rfl⟩
theorem Cls.mrg {n : Nat} {L : Nat→Nat} (h : Cls n L) {a b : Nat} (ha : a < n) (hb : b < n) : Cls n (mrg L a b) where
 lt:=by
  intro x hx
  unfold Vm.mrg
  split
  ·exact h.lt a ha
  ·exact h.lt x hx
 idem:=by
  intro x hx
  unfold Vm.mrg
  by_cases e : L x=L b
  ·simp only [e,if_true,h.idem a ha]
   split <;> rfl
  ·simp only [e,if_false,h.idem x hx]
theorem u7 {L : Nat→Nat} {a b x y : Nat} (h : L x=L y) : mrg L a b x=mrg L a b y:=by unfold mrg; rw [h]
theorem vO (L : Nat→Nat) (a b : Nat) : mrg L a b a=mrg L a b b:=by
 unfold mrg
 simp only [if_true]
 split <;> rfl
theorem D8 (n : Nat) : jl n (fun x=>x)=n:=by
 unfold jl
 have : ∀ m : Nat,ao m (fun x : Nat=>if x=x then 1 else 0)=m:=by
  intro m
  induction m with
  | zero=>rfl
  | succ m ih=>unfold ao; rw [ih]; simp
 exact this n
theorem zd {n : Nat} {L : Nat→Nat} (h : Cls n L) {a b : Nat} (ha : a < n) (hb : b < n) : jl n (mrg L a b)=jl n L - (if L a=L b then 0 else 1):=by
 by_cases e : L a=L b
 ·rw [if_pos e]
  unfold jl
  rw [Int.sub_zero]
  refine aP fun x _=>?_
  have : mrg L a b x=L x:=by
   unfold mrg
   split
   ·rename_i e'; rw [e,e']
   ·rfl
  rw [this]
 ·rw [if_neg e]
  have hone : ao n (fun x=>(if L x=x then (1 : Int) else 0) - (if mrg L a b x=x then 1 else 0))=1:=by
   rw [bJ (k:=L b) (h.lt b hb)]
   ·have h1 : L (L b)=L b:=h.idem b hb
    have h2 : mrg L a b (L b)=L a:=by unfold mrg; rw [if_pos h1]
    rw [if_pos h1,h2,if_neg e]
    rfl
   ·intro x hx hne
    by_cases e' : L x=L b
    ·have h1 : ¬ L x=x:=fun h'=>hne (by rw [← e',h'])
     have h2 : ¬ mrg L a b x=x:=by
      unfold mrg
      rw [if_pos e']
      intro h'
      apply e
      have:=h.idem a ha
      rw [h',e'] at this
      rw [h',this]
     rw [if_neg h1,if_neg h2]; rfl
    ·have : mrg L a b x=L x:=by unfold mrg; rw [if_neg e']
     rw [this]; omega
  rw [dC] at hone
  unfold jl
  omega
theorem t7 {n : Nat} {L : Nat→Nat} (h : Cls n L) (hn : 0 < n) (hc : ∀ x,x < n→L x=L 0) : jl n L=1:=by
 unfold jl
 rw [bJ (k:=L 0) (h.lt 0 hn)]
 ·rw [if_pos (h.idem 0 hn)]
 ·intro x hx hne
  rw [if_neg]
  intro e
  exact hne (by rw [← hc x hx,e])
section
variable (p q : Nat→Nat)
def dp : Nat→Nat→Nat
 | 0=>fun x=>x
 | k+1=>mrg (dp k) (p k) (q k)
def aZ (M : Nat) : Nat→Nat→Nat
 | 0=>fun x=>x
 | j+1=>mrg (aZ M j) (p (M - 1 - j)) (q (M - 1 - j))
variable {p q} {n M : Nat}
theorem lR (hp : ∀ i,i < M→p i < n) (hq : ∀ i,i < M→q i < n) : ∀ k,k≤M→Cls n (dp p q k)
 | 0,_=>Cls.id n
 | k+1,h=>(lR hp hq k (by omega)).mrg (hp k (by omega)) (hq k (by omega))
theorem ni : ∀ (k i : Nat),i < k→dp p q k (p i)=dp p q k (q i)
 | k+1,i,h=>by
  by_cases e : i=k
  ·subst e; exact vO _ _ _
  ·exact u7 (ni k i (by omega))
theorem qL (hp : ∀ i,i < M→p i < n) (hq : ∀ i,i < M→q i < n) : ∀ k,k≤M→jl n (dp p q k)=n - ao k (fun i=>if dp p q i (p i)=dp p q i (q i) then 0 else 1)
 | 0,_=>by show jl n (fun x=>x)=_; rw [D8]; simp [ao]
 | k+1,h=>by
  show jl n (mrg (dp p q k) (p k) (q k))=_
  rw [zd (lR hp hq k (by omega)) (hp k (by omega)) (hq k (by omega)),qL hp hq k (by omega)]
  simp only [bA]
  omega
theorem iO (hp : ∀ i,i < M→p i < n) (hq : ∀ i,i < M→q i < n) : ∀ j,j≤M→Cls n (aZ p q M j)
 | 0,_=>Cls.id n
 | j+1,h=>(iO hp hq j (by omega)).mrg (hp _ (by omega)) (hq _ (by omega))
theorem fh : ∀ (j i : Nat),j≤M→M - j≤i→i < M→aZ p q M j (p i)=aZ p q M j (q i)
 | 0,i,_,h1,h2=>by omega
 | j+1,i,h,h1,h2=>by
  by_cases e : i=M - 1 - j
  ·subst e; exact vO _ _ _
  ·exact u7 (fh j i (by omega) (by omega) h2)
theorem i7 (hp : ∀ i,i < M→p i < n) (hq : ∀ i,i < M→q i < n) : ∀ j,j≤M→jl n (aZ p q M j)=n - ao j (fun i=>if aZ p q M i (p (M - 1 - i))=aZ p q M i (q (M - 1 - i)) then 0 else 1)
 | 0,_=>by show jl n (fun x=>x)=_; rw [D8]; simp [ao]
 | j+1,h=>by
  show jl n (mrg (aZ p q M j) (p (M - 1 - j)) (q (M - 1 - j)))=_
  rw [zd (iO hp hq j (by omega)) (hp _ (by omega)) (hq _ (by omega)),i7 hp hq j (by omega)]
  simp only [bA]
  omega
end
theorem sa (f : Nat→Int) : ∀ M,ao M (fun i=>f (M - 1 - i))=ao M f:=by
 have shift : ∀ (n : Nat) (f : Nat→Int),ao (n+1) f=f 0+ao n (fun i=>f (i+1)):=by
  intro n
  induction n with
  | zero=>intro f; simp [ao]
  | succ n ih =>
   intro f
   have : ao (n+1+1) f=ao (n+1) f+f (n+1):=rfl
   rw [this,ih f]
   have : ao (n+1) (fun i=>f (i+1))=ao n (fun i=>f (i+1))+f (n+1):=rfl
   rw [this]; omega
 intro M
 induction M with
 | zero=>rfl
 | succ M ih =>
  rw [shift M]
  have : ao M (fun i=>f (M+1 - 1 - (i+1)))=ao M (fun i=>f (M - 1 - i)):=aP fun i _=>by congr 1; omega
  rw [this,ih]
  have : ao (M+1) f=ao M f+f M:=rfl
  rw [this]
  simp
  omega
section
variable {V F M : Nat} {t h l r : Nat→Nat} {δ : Nat→Int}
theorem vh (ht : ∀ i,i < M→t i < V) (hh : ∀ i,i < M→h i < V) (hl : ∀ i,i < M→l i < F) (hr : ∀ i,i < M→r i < F)
  (H1 : ∀ y g : Nat→Int,ao M (fun i=>(y (l i) - y (r i)) * (g (h i) - g (t i)))=0)
  (cV : ∀ L : Nat→Nat,(∀ i,i < M→L (t i)=L (h i))→∀ x,x < V→L x=L 0) (cF : ∀ L : Nat→Nat,(∀ i,i < M→L (l i)=L (r i))→∀ x,x < F→L x=L 0)
  (hV : 0 < V) (hF : 0 < F) (hE : V+F=M+2) : ∀ k,k < M→dp t h k (t k)=dp t h k (h k)→aZ l r M (M - 1 - k) (l k)≠aZ l r M (M - 1 - k) (r k):=by
 have pa : ∀ k,k < M→dp t h k (t k)≠dp t h k (h k)→aZ l r M (M - 1 - k) (l k)=aZ l r M (M - 1 - k) (r k):=by
  intro k hk h1
  apply Classical.byContradiction
  intro h2
  have e:=H1 (fun f=>if aZ l r M (M - 1 - k) f=aZ l r M (M - 1 - k) (l k) then 1 else 0) (fun v=>if dp t h k v=dp t h k (t k) then 1 else 0)
  rw [bJ (k:=k) hk] at e
  ·simp only [if_true] at e
   rw [if_neg (Ne.symm h2),if_neg (Ne.symm h1)] at e
   omega
  ·intro i hi hne
   rcases Nat.lt_or_ge i k with c | c
   ·rw [ni k i c]; simp
   ·rw [fh (M - 1 - k) i (by omega) (by omega) hi]; simp
 have e1:=qL ht hh M (Nat.le_refl _)
 have e2:=i7 hl hr M (Nat.le_refl _)
 rw [t7 (lR ht hh M (Nat.le_refl _)) hV (cV _ (fun i hi=>ni M i hi))] at e1
 rw [t7 (iO hl hr M (Nat.le_refl _)) hF (cF _ (fun i hi=>fh M i (Nat.le_refl _) (by omega) hi))] at e2
 have e3 : ao M (fun i=>if aZ l r M i (l (M - 1 - i))=aZ l r M i (r (M - 1 - i)) then (0 : Int) else 1)=ao M (fun i=>if aZ l r M (M - 1 - i) (l i)=aZ l r M (M - 1 - i) (r i) then 0 else 1):=by
  rw [← sa]
  refine aP fun i hi=>?_
  rw [show M - 1 - (M - 1 - i)=i by omega]
 rw [e3] at e2
 intro k hk h1 h2
 -- the edge k joins nothing: too few edges are left
 have e4 : ao M (fun i=>(if dp t h i (t i)=dp t h i (h i) then (0 : Int) else 1)+(if aZ l r M (M - 1 - i) (l i)=aZ l r M (M - 1 - i) (r i) then 0 else 1))=M:=by
  rw [eK]; omega
 have e5 : ao M (fun i=>(if dp t h i (t i)=dp t h i (h i) then (0 : Int) else 1)+(if aZ l r M (M - 1 - i) (l i)=aZ l r M (M - 1 - i) (r i) then 0 else 1))≤ao M (fun i=>if i=k then 0 else 1):=by
  refine ic fun i hi=>?_
  by_cases e : i=k
  ·subst e
   rw [if_pos h1,if_pos h2]; simp
  ·rw [if_neg e]
   by_cases c : dp t h i (t i)=dp t h i (h i)
   ·rw [if_pos c]; split <;> omega
   ·rw [if_neg c,if_pos (pa i hi c)]; omega
 have e6 : ao M (fun i=>(1 : Int) - (if i=k then 0 else 1))=1:=by
  rw [bJ (k:=k) hk]
  ·simp
  ·intro i _ hne; rw [if_neg hne]; rfl
 rw [dC] at e6
 have e7 : ao M (fun _=>(1 : Int))=M:=by
  have : ∀ m : Nat,ao m (fun _=>(1 : Int))=m:=by
   intro m
   induction m with
   | zero=>rfl
   | succ m ih=>unfold ao; rw [ih]; simp
  exact this M
 omega
def pot (t h : Nat→Nat) (δ : Nat→Int) : Nat→Nat→Int
 | 0=>fun _=>0
 | k+1=>fun x=>if dp t h k (t k)=dp t h k (h k) then pot t h δ k x else if dp t h k x=dp t h k (h k) then pot t h δ k x+(pot t h δ k (t k)+δ k - pot t h δ k (h k)) else pot t h δ k x
end
end Go.Vm

/-
 Sums over darts: what the faces and the vertices of a plane system give.
-/
namespace Go.Vm
set_option maxRecDepth 100000
theorem iQ (f : Nat→Nat→Int) (m : Nat) : ∀ n,ao n (fun i=>ao m (fun j=>f i j))=ao m (fun j=>ao n (fun i=>f i j))
 | 0=>(d9 (n:=m) (fun _ _=>rfl)).symm
 | n+1=>by
  simp only [bA]
  rw [iQ f m n,← eK]
theorem ec (c : Int) (f : Nat→Int) : ∀ n,ao n (fun i=>c * f i)=c * ao n f
 | 0=>by simp [ao]
 | n+1=>by simp only [bA]; rw [ec c f n,Int.mul_add]
theorem cD : ∀ m : Nat,ao m (fun _=>(1 : Int))=m
 | 0=>rfl
 | m+1=>by simp only [bA]; rw [cD m]; simp
theorem xM {c : Nat→Int} {n : Nat} (h1 : ∀ x,x < n→c x≤1) (h2 : ao n c=n) {x : Nat} (hx : x < n) : c x=1:=by
 have e : ao n c≤ao n (fun i=>if i=x then c x else 1):=ic fun i hi=>by
  by_cases e : i=x
  ·simp [e]
  ·simp only [e,if_false]; exact h1 i hi
 have e2 : ao n (fun i=>(1 : Int) - (if i=x then c x else 1))=1 - c x:=by
  rw [bJ hx (fun i _ hne=>by simp [hne])]; simp
 rw [dC,cD] at e2
 have:=h1 x hx
 omega
theorem iJ {π : Nat→Nat} {n : Nat} (hlt : ∀ d,d < n→π d < n) (hinj : ∀ a b,a < n→b < n→π a=π b→a=b) (f : Nat→Int) : ao n (fun d=>f (π d))=ao n f:=by
 have hc1 : ∀ x,x < n→ao n (fun d=>if π d=x then (1 : Int) else 0)≤1:=by
  intro x _
  by_cases h : ∃ d,d < n∧π d=x
  ·obtain ⟨d,hd,e⟩:=h
   rw [bJ hd (fun i hi hne=>by
    rw [if_neg]
    intro e'
    exact hne (hinj i d hi hd (by rw [e',e])))]
   split <;> omega
  ·rw [d9 (fun i hi=>by
    rw [if_neg]
    intro e'
    exact h ⟨i,hi,e'⟩)]
   omega
 have hc2 : ao n (fun x=>ao n (fun d=>if π d=x then (1 : Int) else 0))=n:=by
  rw [← iQ (fun d x=>if π d=x then (1 : Int) else 0) n n]
  rw [aP (g:=fun _=>(1 : Int)) (fun d hd=>by
   rw [bJ (hlt d hd) (fun i _ hne=>by rw [if_neg (Ne.symm hne)])]; simp)]
  exact cD n
 have e1 : ao n (fun d=>f (π d))=ao n (fun d=>ao n (fun x=>if π d=x then f x else 0)):=aP fun d hd=>by
  rw [bJ (hlt d hd) (fun i _ hne=>by rw [if_neg (Ne.symm hne)])]; simp
 rw [e1,iQ (fun d x=>if π d=x then f x else 0) n n]
 refine aP fun x hx=>?_
 have h:=xM hc1 hc2 hx
 rw [aP (g:=fun d=>f x * (if π d=x then (1 : Int) else 0)) (fun d _=>by split <;> simp),ec,h,Int.mul_one]
theorem ol (h : Nat→Int) : ∀ M,ao (2 * M) h=ao M (fun i=>h (2 * i)+h (2 * i+1))
 | 0=>rfl
 | M+1=>by
  have : 2 * (M+1)=2 * M+1+1:=by omega
  rw [this]
  simp only [bA]
  rw [ol h M]
  omega
theorem w7 (i : Nat) : oth (2 * i)=2 * i+1:=by unfold oth; rw [if_pos (by omega)]
theorem x5 (i : Nat) : oth (2 * i+1)=2 * i:=by unfold oth; rw [if_neg (by omega)]; rfl
section
variable {V F M : Nat} {nx tl fc : Nat→Nat} {δ : Nat→Int}
theorem CV (hlt : ∀ d,d < 2 * M→nx d < 2 * M) (hinj : ∀ a b,a < 2 * M→b < 2 * M→nx a=nx b→a=b) (hfc : ∀ d,d < 2 * M→fc (nx d)=fc d) (htl : ∀ d,d < 2 * M→tl (nx d)=tl (oth d)) (y g : Nat→Int) :
  ao M (fun i=>(y (fc (2 * i)) - y (fc (2 * i+1))) * (g (tl (2 * i+1)) - g (tl (2 * i))))=0:=by
 have e1 : ao (2 * M) (fun d=>y (fc d) * g (tl (oth d)) - y (fc d) * g (tl d))=0:=by
  rw [dC,aP (g:=fun d=>(fun x=>y (fc x) * g (tl x)) (nx d)) (fun d hd=>by simp only [hfc d hd,htl d hd]),iJ hlt hinj (fun x=>y (fc x) * g (tl x))]
  omega
 rw [ol] at e1
 rw [← e1]
 refine aP fun i _=>?_
 simp only [w7,x5]
 rw [Int.sub_mul,Int.mul_sub,Int.mul_sub]
 omega
end
end Go.Vm

/-
 A set of faces of a connected plane system: its vertices, edges and faces in number; where angles and directions are given, no set without the outer face is closed upwards.
-/
namespace Go.Vm
set_option maxRecDepth 100000
def bi (b : Bool) : Int:=cond b 1 0
theorem Hx {b : Bool} (h : b=true) : bi b=1:=by rw [h]; rfl
theorem kB {n F : Nat} {fc : Nat→Nat} (hF : ∀ d,d < n→fc d < F) (s : Nat→Int) (h : Nat→Int) : ao n (fun d=>s (fc d) * h d)=ao F (fun f=>s f * ao n (fun d=>if fc d=f then h d else 0)):=by
 rw [aP (n:=F) (g:=fun f=>ao n (fun d=>if fc d=f then s f * h d else 0)) (fun f _=>by
  rw [← ec]
  exact aP fun d _=>by split <;> simp)]
 rw [← iQ (fun d f=>if fc d=f then s f * h d else 0) F n]
 refine aP fun d hd=>?_
 rw [bJ (hF d hd) (fun i _ hne=>by rw [if_neg (Ne.symm hne)])]
 simp
theorem oh (f : Nat→Int) (m : Nat) : ∀ k,ao (m+k) f=ao m f+ao k (fun i=>f (m+i))
 | 0=>by simp [ao]
 | k+1=>by
  rw [show m+(k+1)=(m+k)+1 by omega,bA,oh f m k,bA]
  omega
structure Plane (V F M : Nat) (tl fc fw : Nat→Nat) : Prop where
 tlt : ∀ d,d < 2 * M→tl d < V
 fct : ∀ d,d < 2 * M→fc d < F
 fwt : ∀ d,d < 2 * M→fw d < 2 * M
 inj : ∀ a b,a < 2 * M→b < 2 * M→fw a=fw b→a=b
 tlf : ∀ d,d < 2 * M→tl (fw d)=tl d
 fcf : ∀ d,d < 2 * M→fc (fw d)=fc (oth d)
 cV : ∀ L : Nat→Nat,(∀ d,d < 2 * M→L (tl d)=L (tl (oth d)))→∀ x,x < V→L x=L 0
 cF : ∀ L : Nat→Nat,(∀ d,d < 2 * M→L (fc d)=L (fc (oth d)))→∀ x,x < F→L x=L 0
 around : ∀ P : Nat→Prop,(∀ d,d < 2 * M→P d→P (fw d))→∀ a b,a < 2 * M→b < 2 * M→tl a=tl b→P a→P b
 pos : 0 < V
 posF : 0 < F
 euler : V+F=M+2
theorem gH {d M : Nat} (h : d < 2 * M) : oth d < 2 * M:=by
 unfold oth
 split <;> omega
theorem kI (d : Nat) : oth (oth d)=d:=by
 unfold oth
 split <;> split <;> omega
theorem sm {M : Nat} (L p : Nat→Nat) (h : ∀ i,i < M→L (p (2 * i))=L (p (2 * i+1))) : ∀ d,d < 2 * M→L (p d)=L (p (oth d)):=by
 intro d hd
 rcases Nat.mod_two_eq_zero_or_one d with e | e
 ·have : d=2 * (d / 2):=by omega
  rw [this,w7]; exact h _ (by omega)
 ·have : d=2 * (d / 2)+1:=by omega
  rw [this,x5]; exact (h _ (by omega)).symm
section
variable {V F M : Nat} {tl fc fw : Nat→Nat}
theorem Plane.H1 (p : Plane V F M tl fc fw) (y g : Nat→Int) : ao M (fun i=>(y (fc (2 * i)) - y (fc (2 * i+1))) * (g (tl (2 * i+1)) - g (tl (2 * i))))=0 :=
 CV (nx:=fun d=>fw (oth d)) (fun d hd=>p.fwt _ (gH hd)) (fun a b ha hb e=>by
  have:=p.inj _ _ (gH ha) (gH hb) e
  rw [← kI a,this,kI]) (fun d hd=>by rw [p.fcf _ (gH hd),kI]) (fun d hd=>p.tlf _ (gH hd)) y g
theorem qJ {α : Type} (q : α→Bool) : ∀ l : List α,(l.filter q).length+(l.filter fun x=>!q x).length=l.length
 | []=>rfl
 | a :: l=>by
  have:=qJ q l
  rw [List.filter_cons,List.filter_cons]
  cases q a <;> simp <;> omega
theorem Dj {M d : Nat} (hd : d < 2 * M) : ∃ i,i < M∧((d=2 * i∧oth d=2 * i+1)∨(d=2 * i+1∧oth d=2 * i)):=by
 refine ⟨d / 2,by omega,?_⟩
 unfold oth
 split <;> omega
theorem order (eS : Nat→Bool) (M : Nat) : ∃ (π : Nat→Nat) (m : Nat),m≤M∧(∀ i,i < M→π i < M)∧(∀ a b,a < M→b < M→π a=π b→a=b)∧(∀ i,i < m→eS (π i)=true)∧(∀ i,m≤i→i < M→eS (π i)=false) ∧
  ao M (fun i=>bi (eS i))=m:=by
 let LS:=(List.range M).filter eS
 let LO:=(List.range M).filter fun i=>!eS i
 have hlen : LS.length+LO.length=M:=by
  have:=qJ eS (List.range M)
  rwa [List.length_range] at this
 have hnd : (LS++LO).Nodup:=by
  rw [List.nodup_append]
  refine ⟨List.nodup_range.filter _,List.nodup_range.filter _,?_⟩
  intro a ha b hb hab
  subst hab
  have h1:=(List.mem_filter.1 ha).2
  have h2:=(List.mem_filter.1 hb).2
  rw [h1] at h2; cases h2
 have hl : (LS++LO).length=M:=by rw [List.length_append]; exact hlen
 have get : ∀ i (hi : i < M),(LS++LO).getD i 0=(LS++LO)[i]'(by omega):=fun i hi=>by
  rw [List.getD_eq_getElem?_getD,List.getElem?_eq_getElem (by omega)]; rfl
 have hsum : ∀ n,ao n (fun i=>bi (eS i))=(((List.range n).filter eS).length : Nat):=by
  intro n
  induction n with
  | zero=>rfl
  | succ n ih =>
   rw [bA,ih,List.range_succ,List.filter_append,List.length_append]
   cases h : eS n <;> simp [h,bi]
 refine ⟨fun i=>(LS++LO).getD i 0,LS.length,by omega,?_,?_,?_,?_,hsum M⟩
 ·intro i hi
  simp only
  rw [get i hi]
  have:=List.getElem_mem (l:=LS++LO) (n:=i) (by omega)
  rcases List.mem_append.1 this with h | h
  ·exact List.mem_range.1 (List.mem_filter.1 h).1
  ·exact List.mem_range.1 (List.mem_filter.1 h).1
 ·intro a b ha hb e
  simp only at e
  rw [get a ha,get b hb] at e
  rcases Nat.lt_trichotomy a b with c | c | c
  ·exact absurd e (List.pairwise_iff_getElem.1 hnd _ _ (by omega) (by omega) c)
  ·exact c
  ·exact absurd e.symm (List.pairwise_iff_getElem.1 hnd _ _ (by omega) (by omega) c)
 ·intro i hi
  simp only
  rw [get i (by omega),List.getElem_append_left hi]
  exact (List.mem_filter.1 (List.getElem_mem hi)).2
 ·intro i h1 h2
  simp only
  rw [get i h2,List.getElem_append_right h1]
  have:=(List.mem_filter.1 (List.getElem_mem (l:=LO) (n:=i - LS.length) (by omega))).2
  simpa using this
theorem nA {M : Nat} {π : Nat→Nat} (h1 : ∀ i,i < M→π i < M) (h2 : ∀ a b,a < M→b < M→π a=π b→a=b) {i : Nat} (hi : i < M) : ∃ j,j < M∧π j=i:=by
 apply Classical.byContradiction
 intro hn
 have e:=iJ h1 h2 (fun x=>if x=i then (1 : Int) else 0)
 rw [d9 (fun j hj=>by
  rw [if_neg]
  intro h; exact hn ⟨j,hj,h⟩),bJ hi (fun j _ hne=>by rw [if_neg hne]),if_pos rfl] at e
 omega
theorem Plane.region (p : Plane V F M tl fc fw) (S : Nat→Bool) (vS : Nat→Bool) (o : Nat) (ho : S o=false) (hv : ∀ d,d < 2 * M→S (fc d)=true→vS (tl d)=true) (hv0 : ∃ v,v < V∧vS v=true)
  (hC : ∀ L : Nat→Nat,(∀ d,d < 2 * M→S (fc d)=false→S (fc (oth d))=false→L (fc d)=L (fc (oth d)))→∀ x,x < F→S x=false→L x=L o) :
  ao M (fun i=>bi (S (fc (2 * i)) || S (fc (2 * i+1))))+1≤ao V (fun v=>bi (vS v))+ao F (fun f=>bi (S f)):=by
 obtain ⟨π,m,hm,π1,π2,π3,π4,π5⟩:=order (fun i=>S (fc (2 * i)) || S (fc (2 * i+1))) M
 rw [π5]
 let t:=fun i=>tl (2 * π i)
 let h:=fun i=>tl (2 * π i+1)
 let l:=fun i=>fc (2 * π i)
 let r:=fun i=>fc (2 * π i+1)
 have ht : ∀ i,i < M→t i < V:=fun i hi=>p.tlt _ (by have:=π1 i hi; omega)
 have hh : ∀ i,i < M→h i < V:=fun i hi=>p.tlt _ (by have:=π1 i hi; omega)
 have hl : ∀ i,i < M→l i < F:=fun i hi=>p.fct _ (by have:=π1 i hi; omega)
 have hr : ∀ i,i < M→r i < F:=fun i hi=>p.fct _ (by have:=π1 i hi; omega)
 have cV : ∀ L : Nat→Nat,(∀ i,i < M→L (t i)=L (h i))→∀ x,x < V→L x=L 0:=fun L hL=>p.cV L (sm L tl fun i hi=>by
  obtain ⟨j,hj,rfl⟩:=nA π1 π2 hi; exact hL j hj)
 have cF : ∀ L : Nat→Nat,(∀ i,i < M→L (l i)=L (r i))→∀ x,x < F→L x=L 0:=fun L hL=>p.cF L (sm L fc fun i hi=>by
  obtain ⟨j,hj,rfl⟩:=nA π1 π2 hi; exact hL j hj)
 have key:=vh ht hh hl hr (fun y g=>by
  have:=p.H1 y g
  rw [← iJ π1 π2] at this
  exact this) cV cF p.pos p.posF p.euler
 -- every edge of the set joins vertices or faces
 have e1 : (m : Int)≤ao m (fun i=>if dp t h i (t i)=dp t h i (h i) then (0 : Int) else 1)+ao m (fun i=>if aZ l r M (M - 1 - i) (l i)=aZ l r M (M - 1 - i) (r i) then 0 else 1):=by
  rw [← eK,← cD m]
  refine ic fun i hi=>?_
  by_cases c : dp t h i (t i)=dp t h i (h i)
  ·rw [if_pos c,if_neg (key i (by omega) c)]; omega
  ·rw [if_neg c]; split <;> omega
 -- vertices
 have e2:=qL ht hh m hm
 have e3 : (V : Int) - ao V (fun v=>bi (vS v))+1≤jl V (dp t h m):=by
  have ends : ∀ i,i < m→vS (t i)=true∧vS (h i)=true:=by
   intro i hi
   have hM:=π1 i (by omega)
   have:=π3 i hi
   simp only [Bool.or_eq_true] at this
   have c1 : ∀ d,d < 2 * M→S (fc d)=true→vS (tl d)=true∧vS (tl (oth d))=true:=fun d hd hs=>by
    refine ⟨hv d hd hs,?_⟩
    have q:=hv (fw (oth d)) (p.fwt _ (gH hd)) (by rw [p.fcf _ (gH hd),kI]; exact hs)
    rwa [p.tlf _ (gH hd)] at q
   rcases this with q | q
   ·have:=c1 (2 * π i) (by omega) q
    rwa [w7] at this
   ·have:=c1 (2 * π i+1) (by omega) q
    rw [x5] at this
    exact ⟨this.2,this.1⟩
  have inv : ∀ k,k≤m→(∀ x,vS x=false→dp t h k x=x)∧∀ x,vS x=true→vS (dp t h k x)=true:=by
   intro k
   induction k with
   | zero=>intro _; exact ⟨fun _ _=>rfl,fun _ h=>h⟩
   | succ k ih =>
    intro hk
    obtain ⟨i1,i2⟩:=ih (by omega)
    obtain ⟨n1,n2⟩:=ends k (by omega)
    constructor
    ·intro x hx
     show mrg (dp t h k) (t k) (h k) x=x
     unfold mrg
     rw [if_neg,i1 x hx]
     rw [i1 x hx]
     intro e
     have:=i2 _ n2
     rw [← e,hx] at this; cases this
    ·intro x hx
     show vS (mrg (dp t h k) (t k) (h k) x)=true
     unfold mrg
     split
     ·exact i2 _ n1
     ·exact i2 _ hx
  obtain ⟨i1,i2⟩:=inv m (Nat.le_refl _)
  obtain ⟨v,hvV,hvS⟩:=hv0
  have hc:=lR (n:=V) ht hh m hm
  have hz1:=hc.lt v hvV
  have hz2:=hc.idem v hvV
  have hz3:=i2 v hvS
  unfold jl
  have : (V : Int) - ao V (fun v=>bi (vS v))+1=ao V (fun x=>1 - bi (vS x)+(if x=dp t h m v then 1 else 0)):=by
   have hz : ao V (fun x=>if x=dp t h m v then (1 : Int) else 0)=1:=by
    rw [bJ hz1 (fun i _ hne=>by rw [if_neg hne]),if_pos rfl]
   rw [eK,dC,cD,hz]
  rw [this]
  refine ic fun x hx=>?_
  cases hxS : vS x with
  | false =>
   rw [i1 x hxS,if_pos rfl,if_neg (fun e=>by rw [← e,hxS] at hz3; cases hz3)]
   decide
  | true =>
   by_cases e : x=dp t h m v
   ·rw [if_pos e,if_pos (by rw [e]; exact hz2)]; decide
   ·rw [if_neg e]; split <;> decide
 -- faces
 have e4:=i7 hl hr M (Nat.le_refl _)
 rw [t7 (iO hl hr M (Nat.le_refl _)) p.posF (cF _ (fun i hi=>fh M i (Nat.le_refl _) (by omega) hi))] at e4
 have e5:=i7 (n:=F) hl hr (M - m) (by omega)
 have e6 : jl F (aZ l r M (M - m))≤ao F (fun f=>bi (S f))+1:=by
  have hsame : ∀ x,x < F→S x=false→aZ l r M (M - m) x=aZ l r M (M - m) o:=hC _ (fun d hd s1 s2=>by
   obtain ⟨i,hi,hdi⟩:=Dj hd
   obtain ⟨j,hj,ej⟩:=nA π1 π2 hi
   have hjm : m≤j:=by
    apply Nat.le_of_not_lt
    intro hlt
    have:=π3 j hlt
    rw [ej] at this
    rcases hdi with ⟨e1,e2⟩ | ⟨e1,e2⟩
    ·rw [e1] at s1; rw [e2] at s2; rw [s1,s2] at this; cases this
    ·rw [e1] at s1; rw [e2] at s2; rw [s1,s2] at this; cases this
   have:=fh (p:=l) (q:=r) (M - m) j (by omega) (by omega) hj
   simp only [l,r,ej] at this
   rcases hdi with ⟨e1,e2⟩ | ⟨e1,e2⟩
   ·rw [e2,e1]; exact this
   ·rw [e2,e1]; exact this.symm)
  unfold jl
  have hone : ao F (fun x=>if x=aZ l r M (M - m) o then (1 : Int) else 0)≤1:=by
   by_cases c : aZ l r M (M - m) o < F
   ·rw [bJ c (fun i _ hne=>by rw [if_neg hne]),if_pos rfl]; omega
   ·rw [d9 (fun i hi=>by rw [if_neg (by omega)])]; omega
  have : ao F (fun x=>if aZ l r M (M - m) x=x then (1 : Int) else 0)≤ao F (fun x=>bi (S x)+(if x=aZ l r M (M - m) o then 1 else 0)):=ic fun x hx=>by
   cases hs : S x with
   | true=>rw [Hx rfl]; split <;> split <;> decide
   | false =>
    rw [hsame x hx hs]
    by_cases e : x=aZ l r M (M - m) o
    ·rw [if_pos e,if_pos e.symm]; decide
    ·rw [if_neg e,if_neg (Ne.symm e)]; decide
  rw [eK] at this
  omega
 have e7 : ao M (fun i=>if aZ l r M i (l (M - 1 - i))=aZ l r M i (r (M - 1 - i)) then (0 : Int) else 1)=ao (M - m) (fun i=>if aZ l r M i (l (M - 1 - i))=aZ l r M i (r (M - 1 - i)) then (0 : Int) else 1) +
   ao m (fun i=>if aZ l r M (M - 1 - i) (l i)=aZ l r M (M - 1 - i) (r i) then 0 else 1):=by
  have hs:=oh (fun i=>if aZ l r M i (l (M - 1 - i))=aZ l r M i (r (M - 1 - i)) then (0 : Int) else 1) (M - m) m
  rw [show M - m+m=M by omega] at hs
  rw [hs,← sa _ m]
  congr 1
  refine aP fun i hi=>?_
  rw [show M - m+(m - 1 - i)=M - 1 - i by omega,show M - 1 - (M - 1 - i)=i by omega]
 omega
structure Angl (V F M : Nat) (tl fc fw : Nat→Nat) (g : Nat→Int) (o : Nat) : Prop where
 ge : ∀ d,d < 2 * M→1≤g d
 vert : ∀ v,v < V→ao (2 * M) (fun d=>if tl d=v then g d else 0)=4
 out : o < F
 face : ∀ f,f < F→f≠o→ao (2 * M) (fun d=>if fc d=f then 2 - g (oth d) else 0)=4
structure Dirs (M : Nat) (fw : Nat→Nat) (g : Nat→Int) (k : Nat→Int) : Prop where
 nn : ∀ d,d < 2 * M→0≤k d∧k d < 4
 fw : ∀ d,d < 2 * M→(4 : Int)∣k (fw d) - k d - g d
 oth : ∀ d,d < 2 * M→(4 : Int)∣k (oth d) - k d - 2
variable {g k : Nat→Int} {o : Nat}
def HC (tl : Nat→Nat) (M : Nat) : Nat→List Nat→Nat→Prop
 | a,[],b=>a=b
 | a,d :: ds,b=>d < 2 * M∧tl d=a∧HC tl M (tl (oth d)) ds b
def cnt (ds : List Nat) (d : Nat) : Int:=((ds.count d : Nat) : Int)
end
end Go.Vm

namespace Go.Vm
open Go.Proofs
set_option maxRecDepth 100000
attribute [local irreducible] aa
section
variable {V F M : Nat} {t h l r : Nat→Nat}
end
section
variable {N : Nat} {E : List Arc} {A : List (List Int)} {nx fw : List Int}
noncomputable def fcn (E : List Arc) (nx : List Int) (k : Nat) : Nat:=((kj (2 * E.length) (ab nx)).getD k 0).toNat
def tln (E : List Arc) (k : Nat) : Nat:=(tl E k).toNat
def nxN (nx : List Int) (k : Nat) : Nat:=(nx.getD k 0).toNat
theorem tN (h : RotOK (N : Nat) E A) {k : Nat} (hk : k < 2 * E.length) : tl E k=(tln E k : Int)∧tln E k < N:=by
 obtain ⟨v,e,hv⟩:=h.tl_lt hk
 unfold tln
 rw [e]
 exact ⟨rfl,hv⟩
theorem ij (h : RotOK (N : Nat) E A) (hn : Fol oth E A nx) {k : Nat} (hk : k < 2 * E.length) : ∃ f,(ab nx)[fcn E nx k]?=some f∧(k : Int)∈f∧fcn E nx k < (ab nx).length:=by
 obtain ⟨j,j1,j2,f,j3,j4⟩:=eA (bh h hn).1 hk
 have : fcn E nx k=j:=by unfold fcn; rw [List.getD_eq_getElem?_getD,j2]; rfl
 rw [this]
 exact ⟨f,j3,j4,j1⟩
theorem Dg (h : RotOK (N : Nat) E A) (hn : Fol oth E A nx) {j k : Nat} {f : List Int} (hj : (ab nx)[j]?=some f) (hk : (k : Int)∈f) : fcn E nx k=j:=by
 have:=qQ (bh h hn).1 hj hk
 unfold fcn
 rw [List.getD_eq_getElem?_getD,this]; rfl
theorem xf (h : RotOK (N : Nat) E A) (hc : iS N E) (L : Nat→Nat) (hL : ∀ d,d < 2 * E.length→L (tln E d)=L (tln E (oth d))) : ∀ x,x < N→L x=L 0:=by
 intro x hx
 have key : ∀ {u v : Nat},Reach E u v→L v=L u:=by
  intro u v hr
  induction hr with
  | refl=>rfl
  | @step v w j _ hj e1 e2 ih =>
   rw [← ih]
   have:=hL j hj
   unfold tln at this
   unfold hd at e2
   rw [e1,e2] at this
   simpa using this.symm
 exact key (hc x hx)
end
end Go.Vm

/-
 A valid shape without bends: its darts have directions, and its numbers are those of a plane system with angles.
-/
namespace Go.Vm
open Go.Proofs
set_option maxRecDepth 100000
attribute [local irreducible] aa
theorem qh {n : Nat} {h : Nat→Int} : ∀ {l : List Int},l.Nodup→(∀ d∈l,∃ k : Nat,d=(k : Int)∧k < n)→ao n (fun k=>if (k : Int)∈l then h k else 0)=(l.map fun d=>h d.toNat).sum
 | [],_,_=>by
  rw [d9 (fun i _=>by simp)]; rfl
 | d :: l,hn,hd=>by
  obtain ⟨k,rfl,hk⟩:=hd d (by simp)
  obtain ⟨n1,n2⟩:=List.nodup_cons.1 hn
  rw [List.map_cons,List.sum_cons,← qh n2 (fun x hx=>hd x (by simp [hx]))]
  have : ao n (fun i=>if i=k then h k else 0)=h k:=by
   rw [bJ hk (fun i _ hne=>by rw [if_neg hne]),if_pos rfl]
  rw [Int.toNat_natCast,← this,← eK]
  refine aP fun i _=>?_
  by_cases e : i=k
  ·subst e
   rw [if_pos (by simp),if_pos rfl,if_neg n1]; simp
  ·rw [if_neg e]
   have : ((i : Int)∈(k : Int) :: l)↔(i : Int)∈l:=by
    rw [List.mem_cons]
    constructor
    ·rintro (h | h)
     ·omega
     ·exact h
    ·exact .inr
   by_cases c : (i : Int)∈l
   ·rw [if_pos (this.2 c),if_pos c]; simp
   ·rw [if_neg (fun h=>c (this.1 h)),if_neg c]; simp
theorem qa {n : Nat} {h : Nat→Int} {P : Nat→Prop} [DecidablePred P] {l : List Int} (hn : l.Nodup) (hd : ∀ d∈l,∃ k : Nat,d=(k : Int)∧k < n) (hP : ∀ k,k < n→(P k↔(k : Int)∈l)) : ao n (fun k=>if P k then h k else 0)=(l.map fun d=>h d.toNat).sum:=by
 rw [← qh hn hd]
 refine aP fun k hk=>?_
 by_cases c : (k : Int)∈l
 ·rw [if_pos c,if_pos ((hP k hk).2 c)]
 ·rw [if_neg c,if_neg (fun h=>c ((hP k hk).1 h))]
def gN (g : List Int) (k : Nat) : Int:=g.getD k 0
theorem sU {σ α ε : Type} {f : Nat→σ→α→Option (σ⊕ε)} {s0 : σ} (hs : ∀ s : σ,s=s0) : ∀ {l : List α} {i : Nat} {s t : σ},ay f i s l=some (.inl t)→∀ a∈l,∃ j,f j s0 a=some (.inl s0)
 | [],_,_,_,_,a,ha=>by simp at ha
 | x :: l,i,s,t,h,a,ha=>by
  simp only [ay] at h
  cases hx : f i s x with
  | none=>rw [hx] at h; cases h
  | some y =>
   rw [hx] at h
   cases y with
   | inr e=>cases h
   | inl u =>
    rw [hs u,hs s] at hx
    rcases List.mem_cons.1 ha with rfl | ha
    ·exact ⟨i,hx⟩
    ·exact sU hs (by simpa using h) a ha
theorem Ao {g : List Int} (hg : ∀ k : Nat,k < g.length→1≤gN g k∧gN g k≤4) : ∀ {l : List Int} {i : Nat} {n m : Int},(∀ d∈l,∃ k : Nat,d=(k : Int)∧k < g.length)→0≤n→n+4 * l.length≤1000000000→ay (cH g) i n l=some (.inl m)→m=n+(l.map fun d=>gN g d.toNat).sum
 | [],_,n,m,_,_,_,h=>by
  simp only [ay] at h
  cases h
  simp
 | d :: l,i,n,m,hl,h0,hb,h=>by
  obtain ⟨k,rfl,hk⟩:=hl d (by simp)
  simp only [ay,cH] at h
  have ge : g[k]?=some (gN g k):=by
   unfold gN
   rw [List.getD_eq_getElem?_getD,List.getElem?_eq_getElem hk]; rfl
  obtain ⟨a1,a2⟩:=hg k hk
  simp only [List.length_cons] at hb
  rw [ae,ge,Option.bind_some,aA a1,cM a2] at h
  simp only [Bool.or_false,cond_false,Option.bind_some,Sum.elim_inl] at h
  rw [dw (by omega) (by omega)] at h
  have:=Ao hg (fun d hd=>hl d (by simp [hd])) (by omega) (by omega) h
  rw [List.map_cons,List.sum_cons,this,Int.toNat_natCast]
  omega
theorem l5 {g : List Int} {B : List ByteArray} {L : Nat} (hb : ∀ k,k < L→(at0 B k).size=0) : ∀ {f : List Int},(∀ d∈f,∃ k : Nat,d=(k : Int)∧k < L)→tsZ g B f=(f.map fun d=>2 - gN g (oth d.toNat)).sum
 | [],_=>rfl
 | d :: f,hf=>by
  obtain ⟨k,rfl,hk⟩:=hf d (by simp)
  have ih:=l5 (g:=g) hb (f:=f) (fun d hd=>hf d (by simp [hd]))
  unfold tsZ
  rw [ih,List.map_cons,List.sum_cons,Int.toNat_natCast]
  have h0 : ac (at0 B k)=[]:=by
   have:=az (at0 B k)
   rw [hb k hk] at this
   exact List.length_eq_zero_iff.1 this
  unfold tnZ
  rw [h0]
  unfold gN bz
  omega
section
variable {N : Nat} {E : List Arc} {A : List (List Int)} {nx fw g : List Int} {B : List ByteArray} {o : Int}
theorem yS (h : RotOK (N : Nat) E A) {v : Nat} (hv : v < N) : ∃ l,A[v]?=some l∧l∈A∧l.Nodup∧(∀ d∈l,∃ k : Nat,d=(k : Int)∧k < 2 * E.length)∧∀ k,k < 2 * E.length→(tln E k=v↔(k : Int)∈l):=by
 have hvl : v < A.length:=by have:=h.al; omega
 have ge:=List.getElem?_eq_getElem hvl
 have hm:=List.getElem_mem hvl
 refine ⟨_,ge,hm,h.list_nodup hm,fun d hd=>h.mem_of hm hd,fun k hk=>⟨fun e=>?_,fun hd=>?_⟩⟩
 ·exact h.around hk (by rw [(tN h hk).1,e]) ge
 ·obtain ⟨j,e1,_,e3⟩:=h.dart v _ ge _ hd
  have : k=j:=by omega
  subst this
  unfold tln
  rw [e3]; rfl
theorem kz (h : ShapeOK N E A g B o nx) : ∀ k,k < 2 * E.length→1≤gN g k∧gN g k≤4:=by
 intro k hk
 obtain ⟨a,a1,a2,a3⟩:=h.turn.ang k hk
 unfold gN
 rw [List.getD_eq_getElem?_getD,a1]
 exact ⟨a2,a3⟩
theorem nQ (h : ShapeOK N E A g B o nx) {l : List Int} (hl : l∈A) (hne : l≠[]) : (l.map fun d=>gN g d.toNat).sum=4:=by
 have hg:=h.turn.glen
 obtain ⟨j,hj⟩:=sU (s0:=()) (fun _=>rfl) h.ang l hl
 unfold dj at hj
 cases hf : ay (cH g) 0 0 l with
 | none=>rw [hf] at hj; cases hj
 | some x =>
  rw [hf] at hj
  cases x with
  | inr e=>cases hj
  | inl m =>
   have hlen:=h.rot.list_len hl
   have hm1:=h.rot.m1
   have:=Ao (g:=g) (fun k hk=>kz h k (by omega)) (fun d hd=>by rw [hg]; exact h.rot.mem_of hl hd) (Int.le_refl 0) (by omega) hf
   have hpos : 0 < l.length:=List.length_pos_iff.2 hne
   simp only [Option.bind_some,Sum.elim_inl] at hj
   rw [dA (by omega),Bool.true_and] at hj
   by_cases e : m=4
   ·omega
   ·rw [fp e] at hj; cases hj
theorem v5 (h : RotOK (N : Nat) E A) (hc : iS N E) (hE : 0 < E.length) {v : Nat} (hv : v < N) : ∃ d,d < 2 * E.length∧tln E d=v:=by
 apply Classical.byContradiction
 intro hno
 have key:=xf h hc (fun x=>if x=v then 1 else 0) (fun d hd=>by
  rw [if_neg (fun e=>hno ⟨d,hd,e⟩),if_neg (fun e=>hno ⟨_,bd hd,e⟩)])
 have a:=key v hv
 have b:=key (tln E 0) (tN h (by omega)).2
 rw [if_pos rfl] at a
 rw [← a,if_neg (fun e=>hno ⟨0,by omega,e⟩)] at b
 omega
theorem qq (h : ShapeOK N E A g B o nx) (hE : 0 < E.length) : ∀ v,v < N→ao (2 * E.length) (fun d=>if tln E d=v then gN g d else 0)=4:=by
 intro v hv
 obtain ⟨l,_,lA,ln,ld,lt⟩:=yS h.rot hv
 obtain ⟨d,hd,e⟩:=v5 h.rot h.conn hE hv
 have hne : l≠[]:=fun e'=>by
  have:=(lt d hd).1 e
  rw [e'] at this; simp at this
 rw [qa ln ld lt,nQ h lA hne]
theorem xx (h : ShapeOK N E A g B o nx) (hE : 0 < E.length) (hb : ∀ k,k < 2 * E.length→(at0 B k).size=0) : fcn E nx o.toNat < (ab nx).length ∧
  ∀ f,f < (ab nx).length→ao (2 * E.length) (fun d=>if fcn E nx d=f then 2 - gN g (oth d) else 0)=if f=fcn E nx o.toNat then -4 else 4:=by
 have hn:=h.folOK
 obtain ⟨hfs,_⟩:=bh h.rot hn
 have h0:=h.out0
 obtain ⟨q,rfl⟩ : ∃ q : Nat,o=(q : Int):=⟨o.toNat,by omega⟩
 rw [Int.toNat_natCast]
 have hq : q < 2 * E.length:=by rcases h.out1 with h | h <;> omega
 obtain ⟨fo,o1,o2,o3⟩:=ij h.rot hn hq
 refine ⟨o3,fun f hf=>?_⟩
 have hm:=List.getElem_mem hf
 obtain ⟨_,hel⟩:=hfs.elem _ hm
 have hmem : ∀ k,k < 2 * E.length→(fcn E nx k=f↔(k : Int)∈(ab nx)[f]):=by
  intro k hk
  constructor
  ·intro e
   obtain ⟨f',f1,f2,_⟩:=ij h.rot hn hk
   rw [e,List.getElem?_eq_getElem hf] at f1
   rw [Option.some.inj f1]; exact f2
  ·intro hk2
   exact Dg h.rot hn (List.getElem?_eq_getElem hf) hk2
 rw [qa (hfs.nodup.sublist (List.sublist_flatten_of_mem hm)) hel hmem,← l5 hb hel]
 have hc:=h.chk
 unfold b8 at hc
 rw [List.all_eq_true] at hc
 have hf4:=hc _ hm
 unfold eh at hf4
 have hin : inB (ab nx)[f] (q : Int)=decide (f=fcn E nx q):=by
  unfold inB
  refine decide_eq_decide.2 ?_
  rw [← hmem q hq]
  exact eq_comm
 rw [hin] at hf4
 have hv : tsZ g B (ab nx)[f]=cond (decide (f=fcn E nx q)) (-4) 4:=by simpa [eqI] using hf4
 rw [hv]
 by_cases e : f=fcn E nx q
 ·rw [if_pos e]; simp [e]
 ·rw [if_neg e]; simp [e]
theorem vI (h : ShapeOK N E A g B o nx) (hE : 0 < E.length) (hb : ∀ k,k < 2 * E.length→(at0 B k).size=0) : N+(ab nx).length=E.length+2:=by
 have hn:=h.folOK
 obtain ⟨ho,hf⟩:=xx h hE hb
 have e1 : ao (2 * E.length) (fun d=>gN g d)=4 * (N : Int):=by
  have:=kB (n:=2 * E.length) (F:=N) (fc:=tln E) (fun d hd=>(tN h.rot hd).2) (fun _=>1) (gN g)
  simp only [Int.one_mul] at this
  rw [this,aP (g:=fun _=>4 * 1) (fun v hv=>by rw [qq h hE v hv]; rfl),ec,cD]
 have e2 : ao (2 * E.length) (fun d=>2 - gN g (oth d))=4 * ((ab nx).length : Int) - 8:=by
  have:=kB (n:=2 * E.length) (F:=(ab nx).length) (fc:=fcn E nx) (fun d hd=>by obtain ⟨_,_,_,q⟩:=ij h.rot hn hd; exact q) (fun _=>1) (fun d=>2 - gN g (oth d))
  simp only [Int.one_mul] at this
  have h8 : ao (ab nx).length (fun f=>if f=fcn E nx o.toNat then (8 : Int) else 0)=8:=by
   rw [bJ ho (fun i _ hne=>by rw [if_neg hne]),if_pos rfl]
  rw [this,aP (g:=fun f=>4 * 1 - (if f=fcn E nx o.toNat then 8 else 0)) (fun f hff=>by
   rw [hf f hff]
   split <;> rfl),dC,ec,cD,h8]
 have e3 : ao (2 * E.length) (fun d=>2 - gN g (oth d))=2 * (2 * E.length : Nat) - ao (2 * E.length) (fun d=>gN g d):=by
  rw [dC,iJ (π:=oth) (fun d hd=>bd hd) (fun a b _ _ e=>by rw [← kI a,e,kI]) (gN g)]
  congr 1
  have:=ec 2 (fun _=>1) (2 * E.length)
  simp only [Int.mul_one] at this
  rw [this,cD]
 omega
end
end Go.Vm

/-
 The directions of the darts, in the program.
-/
namespace Go.Vm
open Go.Proofs
set_option maxRecDepth 100000
attribute [local irreducible] aa
theorem AJ (N : Int) (E : List Arc) (A : List (List Int)) (g : List Int) (B : List ByteArray) (o : Int) (m : Nat) (hB : B.length=2 * m) (hm : m≤32768) (hs : ∀ k,k < 2 * m→(at0 B k).size≤64) : ∀ (k j : Nat) (n : Nat),j+k=m→n≤64 * j →
  ∃ v : Nat,n≤v∧v≤64 * m∧qi (N,E,A,g,B,o,(n : Int),((2 * j : Nat) : Int),())=some (.inl ((v : Int),()))∧lm (N,E,A,g,B,o,(n : Int),((2 * j : Nat) : Int),())=some (.inl ((v : Int),())) ∧
   (v=n→∀ i,j≤i→i < m→(at0 B (2 * i)).size=0):=by
 intro k
 induction k with
 | zero =>
  intro j n hj hn
  refine ⟨n,Nat.le_refl _,by omega,ai ?_,ai ?_,fun _ i h1 h2=>by omega⟩
  ·simp only [n5]
   rw [aA (by omega)]; rfl
  ·simp only [jY]
   rw [aA (by omega)]; rfl
 | succ k ih =>
  intro j n hj hn
  have h0 : B[2 * j]?=some (at0 B (2 * j)):=fI (by omega)
  have h64:=hs (2 * j) (by omega)
  have ea : ah .i64 ((2 * j : Nat) : Int) 2=((2 * (j+1) : Nat) : Int):=by rw [dw (by omega) (by omega)]; omega
  have eb : ah .i64 (n : Int) ((at0 B (2 * j)).size : Nat)=((n+(at0 B (2 * j)).size : Nat) : Int):=by rw [dw (by omega) (by omega)]; omega
  obtain ⟨v,v1,v2,h1,h2,h3⟩:=ih (j+1) (n+(at0 B (2 * j)).size) (by omega) (by omega)
  refine ⟨v,by omega,v2,?_,?_,fun e i i1 i2=>?_⟩
  ·refine (ap ?_).trans h1
   simp only [n5]
   rw [aG (by omega),cond_true,ae,h0,Option.bind_some,ea,eb]
  ·refine (ap ?_).trans h2
   simp only [jY]
   rw [aG (by omega),cond_true,ae,h0,Option.bind_some,ea,eb]
  ·by_cases e2 : i=j
   ·subst e2; omega
   ·exact h3 (by omega) i (by omega) i2
section
variable {N : Nat} {E : List Arc} {A : List (List Int)} {nx fw g : List Int} {B : List ByteArray} {o : Int}
def HO (out : List Int) : Nat:=out.countP fun x=>decide (x < 0)
def HS (s : List Int×List Int) (x : Nat) (v : Int) : List Int×List Int:=if s.1.getD x 0 < 0 then (s.1.set x v,s.2++[(x : Int)]) else s
structure DirI (k : Nat→Int) (M : Nat) (out : List Int) : Prop where
 len : out.length=2 * M
 val : ∀ d,d < 2 * M→out[d]?=some (-1)∨out[d]?=some (k d)
def Has (k : Nat→Int) (out : List Int) (d : Nat) : Prop:=out[d]?=some (k d)
variable {k : Nat→Int} {M : Nat}
def HY (k : Nat→Int) (M : Nat) : List Int:=(List.range (2 * M)).map k
structure DirS (k : Nat→Int) (M : Nat) (fw : Nat→Nat) (out st : List Int) : Prop where
 inv : DirI k M out
 stk : ∀ x∈st,∃ d : Nat,x=(d : Int)∧d < 2 * M∧Has k out d
 done : ∀ d,d < 2 * M→Has k out d→(d : Int)∈st∨(Has k out (fw d)∧Has k out (oth d))
 zero : Has k out 0
end
end Go.Vm

namespace Go.Vm
open Go.Proofs
set_option maxRecDepth 100000
attribute [local irreducible] aa
section
variable {N : Nat} {E : List Arc} {A : List (List Int)}
def t6 (h : Int→Int) : List Int→Int
 | []=>0
 | d :: f=>h d+t6 h f
def Ec (g : List Int) (l : List Int) : Prop:=∀ d∈l,∃ k : Nat,d=(k : Int)∧∃ a,g[k]?=some a∧1≤a∧a≤4
theorem vE (g : List Int) : ∀ (l : List Int) (i : Nat) (n : Int),Ec g l→0≤n→n+4 * l.length≤1000000→ay (cH g) i n l=some (.inl (n+t6 (fun d=>g.getD d.toNat 0) l))
 | [],i,n,_,_,_=>by simp [ay,t6]
 | d :: l,i,n,h,h0,h1=>by
  obtain ⟨k,rfl,a,ha,a1,a2⟩:=h d (by simp)
  simp only [List.length_cons] at h1
  simp only [ay,cH]
  rw [ae,ha,Option.bind_some,aA a1,cM a2]
  simp only [Bool.or_false,cond_false,Option.bind_some,Sum.elim_inl,t6]
  rw [dw (by omega) (by omega),vE g l (i+1) (n+a) (fun x hx=>h x (by simp [hx])) (by omega) (by omega),Int.toNat_natCast,List.getD_eq_getElem?_getD,ha]
  simp only [Option.getD_some]
  rw [show n+a+t6 (fun d=>g.getD d.toNat 0) l=n+(a+t6 (fun d=>g.getD d.toNat 0) l) by omega]
theorem yB (g : List Int) (l : List Int) (j : Nat) (h : Ec g l) (hl : l.length≤65536) : dj g j () l=some (cond (gtI (l.length : Nat) 0 && neI (t6 (fun d=>g.getD d.toNat 0) l) 4) (.inr ()) (.inl ())):=by
 unfold dj
 rw [vE g l 0 0 h (by omega) (by omega),Int.zero_add]
 rfl
theorem zu (g : List Int) : ∀ (A : List (List Int)) (i : Nat),(∀ l∈A,∀ j,dj g j () l=some (.inl ()))→ay (dj g) i () A=some (.inl ())
 | [],i,_=>rfl
 | l :: A,i,h=>by
  simp only [ay]
  rw [h l (by simp) i]
  exact zu g A (i+1) fun l hl=>h l (by simp [hl])
theorem Dm (h : RotOK (N : Nat) E A) (hA : ∀ l∈A,l.length≤9223372036854775807) {g : List Int} {B : List ByteArray} {o : Int} {nx : List Int} (hN : 0 < N) (hc : iS N E) (hG : Zbe (((N : Int),E,A,()),())=some (0,()))
  (hT : TurnOK g B (2 * E.length)) (ho0 : 0≤o) (ho1 : o < 2 * E.length∨o=0) (ha : ly g A=some (.inl ())) (hb : cy (fL B) 0 (2 * E.length)=true)
  (hf : Zbf (((N : Int),E,A,()),())=some (ab nx,())) (hfi : mo (2 * E.length) (ab nx)) (hchk : b8 g B o (ab nx)=true) :
  Zbr ((((N : Int),E,A,()),g,B,o,()),())=some (true,()):=by
 have hm1:=h.m1
 have hn1:=h.n1
 have hlen:=h.len
 have hv:=h.validB
 have hgl:=hT.glen
 have hBl:=hT.blen
 obtain ⟨bc,c1,c2⟩:=lY h hv hA
 have hbc : bc=true:=c2.2 ⟨hN,hc⟩
 subst hbc
 have e2 : aN .i64 2 (E.length : Nat)=((2 * E.length : Nat) : Int):=by rw [lH (by omega) (by omega)]; omega
 have hang:=rQ (N : Int) E A g B o (by omega) hA
 rw [ha] at hang
 have hbp:=rf (N : Int) E A g B o E.length hBl hm1 E.length 0 (by omega)
 rw [qW,hb] at hbp
 have hbp' : ns ((N : Int),E,A,g,B,o,(N : Int),E,A,((2 * E.length : Nat) : Int),0,())=_:=hbp
 have hmax : ju ((2 * E.length : Nat) : Int) 1=if 2 * E.length=0 then 1 else ((2 * E.length : Nat) : Int):=by
  unfold ju; split <;> split <;> omega
 have hp:=qG hT ((N : Int),E,A,()) o (ab nx) hfi
 rw [hchk] at hp
 simp only at hp
 unfold Zbr
 simp only
 rw [gp ((N : Int),E,A,()) hA,hv,Option.bind_some]
 simp only [Bool.not_true,cond_false]
 rw [c1,Option.bind_some]
 simp only [Bool.not_true,cond_false]
 rw [hG,Option.bind_some]
 simp only
 rw [bx rfl,cond_false,e2,bx (by omega),cond_false,bx (by omega),cond_false,aA (by omega),cond_false,hmax,jG (by split <;> omega),cond_false,hang,hbp']
 simp only [cond_true,Option.bind_some,Sum.elim_inl,Sum.elim_inr,Bool.not_true,cond_false]
 rw [hf,Option.bind_some]
 simp only
 rw [hp]
 rfl
end
end Go.Vm


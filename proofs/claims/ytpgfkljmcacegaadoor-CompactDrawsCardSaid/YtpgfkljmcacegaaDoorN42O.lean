/-
 Closed ways of four straight sides; faces of a rectangular shape.
-/
import Derived.Test.YtpgfkljmcacegaaDoorN42M
set_option linter.unusedVariables false
set_option linter.unusedSimpArgs false
namespace Go.Vm
open Go.Proofs
set_option maxRecDepth 100000
attribute [local irreducible] loopFix
theorem seq_inc {x : Nat→Int} {a b : Nat} (h : ∀ i,a≤i→i < b→x i+1≤x (i+1)) : ∀ (m i : Nat),a≤i→i+m≤b→x i+m≤x (i+m)
 | 0,i,_,_=>by simp
 | m+1,i,h1,h2=>by
  have:=seq_inc h m i h1 (by omega)
  have:=h (i+m) (by omega) (by omega)
  rw [show i+(m+1)=i+m+1 by omega]
  omega
theorem seq_const {x : Nat→Int} {a b : Nat} (h : ∀ i,a≤i→i < b→x (i+1)=x i) : ∀ (m : Nat),a+m≤b→x (a+m)=x a
 | 0,_=>rfl
 | m+1,h2=>by
  have:=seq_const h m (by omega)
  have:=h (a+m) (by omega) (by omega)
  rw [show a+(m+1)=a+m+1 by omega]
  omega
theorem seq_between {x : Nat→Int} {t : Int} : ∀ (m a : Nat),x a≤t→t < x (a+m)→∃ i,a≤i∧i < a+m∧x i≤t∧t < x (i+1)
 | 0,a,h1,h2=>by rw [Nat.add_zero] at h2; omega
 | m+1,a,h1,h2=>by
  by_cases c : x (a+m)≤t
  ·exact ⟨a+m,by omega,by omega,c,h2⟩
  ·obtain ⟨i,i1,i2,i3,i4⟩:=seq_between m a h1 (by omega)
   exact ⟨i,i1,by omega,i3,i4⟩
structure Sides (n : Nat) (L x y : Nat→Int) (xl xr yt yb : Int) : Prop where
 hx : xl < xr
 hy : yt < yb
 p0 : ∀ i,i < n→L i=0→y i=yb∧y (i+1)=yb∧xl≤x i∧x i < x (i+1)∧x (i+1)≤xr
 p1 : ∀ i,i < n→L i=1→x i=xr∧x (i+1)=xr∧yt≤y (i+1)∧y (i+1) < y i∧y i≤yb
 p2 : ∀ i,i < n→L i=2→y i=yt∧y (i+1)=yt∧xl≤x (i+1)∧x (i+1) < x i∧x i≤xr
 p3 : ∀ i,i < n→L i=3→x i=xl∧x (i+1)=xl∧yt≤y i∧y i < y (i+1)∧y (i+1)≤yb
 u0 : ∀ i j,i < n→j < n→i≠j→L i=0→L j=0→x (i+1)≤x j∨x (j+1)≤x i
 u1 : ∀ i j,i < n→j < n→i≠j→L i=1→L j=1→y i≤y (j+1)∨y j≤y (i+1)
 u2 : ∀ i j,i < n→j < n→i≠j→L i=2→L j=2→x i≤x (j+1)∨x j≤x (i+1)
 u3 : ∀ i j,i < n→j < n→i≠j→L i=3→L j=3→y (i+1)≤y j∨y (j+1)≤y i
 c1 : ∀ t,yt≤t→t < yb→∃ i,i < n∧L i=1∧y (i+1)≤t∧t < y i
 c3 : ∀ t,yt≤t→t < yb→∃ i,i < n∧L i=3∧y i≤t∧t < y (i+1)
theorem sides_of {n : Nat} {L x y : Nat→Int} (hL0 : L 0=0) (hL : ∀ i,i < n→L (i+1)=L i∨L (i+1)=L i+1) (hn : 0 < n) (hLn : L (n - 1)=3)
  (s0 : ∀ i,i < n→L i=0→x i+1≤x (i+1)∧y (i+1)=y i) (s1 : ∀ i,i < n→L i=1→y (i+1)+1≤y i∧x (i+1)=x i) (s2 : ∀ i,i < n→L i=2→x (i+1)+1≤x i∧y (i+1)=y i) (s3 : ∀ i,i < n→L i=3→y i+1≤y (i+1)∧x (i+1)=x i)
  (hx : x n=x 0) (hy : y n=y 0) : ∃ xl xr yt yb,Sides n L x y xl xr yt yb:=by
 have mono : ∀ m i,i+m≤n→L i≤L (i+m):=by
  intro m
  induction m with
  | zero=>intro i _; exact Int.le_refl _
  | succ m ih =>
   intro i hi
   have:=ih i (by omega)
   have:=hL (i+m) (by omega)
   rw [show i+(m+1)=i+m+1 by omega]
   omega
 have mono2 : ∀ i j,i≤j→j≤n→L i≤L j:=fun i j h1 h2=>by
  have:=mono (j - i) i (by omega)
  rwa [show i+(j - i)=j by omega] at this
 have find : ∀ t : Int,0≤t→t < 3→∃ e,e < n - 1∧L e=t∧L (e+1)=t+1:=by
  intro t h0 h3
  obtain ⟨i,i1,i2,i3,i4⟩:=seq_between (x:=L) (t:=t) (n - 1) 0 (by omega) (by rw [Nat.zero_add]; omega)
  have:=hL i (by omega)
  exact ⟨i,by omega,by omega,by omega⟩
 obtain ⟨e1,a1,a2,a3⟩:=find 0 (by decide) (by decide)
 obtain ⟨e2,b1,b2,b3⟩:=find 1 (by decide) (by decide)
 obtain ⟨e3,d1,d2,d3⟩:=find 2 (by decide) (by decide)
 have lt12 : e1 < e2:=by
  apply Nat.lt_of_not_le
  intro h
  have:=mono2 e2 e1 h (by omega)
  omega
 have lt23 : e2 < e3:=by
  apply Nat.lt_of_not_le
  intro h
  have:=mono2 e3 e2 h (by omega)
  omega
 have ph0 : ∀ i,i < e1+1→L i=0:=fun i hi=>by
  have:=mono2 0 i (by omega) (by omega)
  have:=mono2 i e1 (by omega) (by omega)
  omega
 have ph1 : ∀ i,e1+1≤i→i < e2+1→L i=1:=fun i h1 h2=>by
  have:=mono2 (e1+1) i h1 (by omega)
  have:=mono2 i e2 (by omega) (by omega)
  omega
 have ph2 : ∀ i,e2+1≤i→i < e3+1→L i=2:=fun i h1 h2=>by
  have:=mono2 (e2+1) i h1 (by omega)
  have:=mono2 i e3 (by omega) (by omega)
  omega
 have ph3 : ∀ i,e3+1≤i→i < n→L i=3:=fun i h1 h2=>by
  have:=mono2 (e3+1) i h1 (by omega)
  have:=mono2 i (n - 1) (by omega) (by omega)
  omega
 have which : ∀ i,i < n→(L i=0∧i < e1+1)∨(L i=1∧e1+1≤i∧i < e2+1)∨(L i=2∧e2+1≤i∧i < e3+1)∨(L i=3∧e3+1≤i):=fun i hi=>by
  by_cases q1 : i < e1+1
  ·exact .inl ⟨ph0 i q1,q1⟩
  ·by_cases q2 : i < e2+1
   ·exact .inr (.inl ⟨ph1 i (by omega) q2,by omega,q2⟩)
   ·by_cases q3 : i < e3+1
    ·exact .inr (.inr (.inl ⟨ph2 i (by omega) q3,by omega,q3⟩))
    ·exact .inr (.inr (.inr ⟨ph3 i (by omega) hi,by omega⟩))
 -- the sides
 have inc0 : ∀ m i,i+m≤e1+1→x i+m≤x (i+m):=fun m i h=>seq_inc (x:=x) (a:=0) (b:=e1+1) (fun i _ h2=>(s0 i (by omega) (ph0 i h2)).1) m i (Nat.zero_le _) h
 have con0 : ∀ m,m≤e1+1→y m=y 0:=fun m h=>by
  have:=seq_const (x:=y) (a:=0) (b:=e1+1) (fun i _ h2=>(s0 i (by omega) (ph0 i h2)).2) m (by omega)
  rwa [Nat.zero_add] at this
 have inc1 : ∀ m i,e1+1≤i→i+m≤e2+1→y (i+m)+m≤y i:=fun m i h1 h=>by
  have:=seq_inc (x:=fun i=>- y i) (a:=e1+1) (b:=e2+1) (fun i h1 h2=>by have:=(s1 i (by omega) (ph1 i h1 h2)).1; omega) m i h1 h
  omega
 have con1 : ∀ m,e1+1+m≤e2+1→x (e1+1+m)=x (e1+1):=fun m h=>seq_const (x:=x) (a:=e1+1) (b:=e2+1) (fun i h1 h2=>(s1 i (by omega) (ph1 i h1 h2)).2) m h
 have inc2 : ∀ m i,e2+1≤i→i+m≤e3+1→x (i+m)+m≤x i:=fun m i h1 h=>by
  have:=seq_inc (x:=fun i=>- x i) (a:=e2+1) (b:=e3+1) (fun i h1 h2=>by have:=(s2 i (by omega) (ph2 i h1 h2)).1; omega) m i h1 h
  omega
 have con2 : ∀ m,e2+1+m≤e3+1→y (e2+1+m)=y (e2+1):=fun m h=>seq_const (x:=y) (a:=e2+1) (b:=e3+1) (fun i h1 h2=>(s2 i (by omega) (ph2 i h1 h2)).2) m h
 have inc3 : ∀ m i,e3+1≤i→i+m≤n→y i+m≤y (i+m):=fun m i h1 h=>seq_inc (x:=y) (a:=e3+1) (b:=n) (fun i h1 h2=>(s3 i h2 (ph3 i h1 h2)).1) m i h1 h
 have con3 : ∀ m,e3+1+m≤n→x (e3+1+m)=x (e3+1):=fun m h=>seq_const (x:=x) (a:=e3+1) (b:=n) (fun i h1 h2=>(s3 i h2 (ph3 i h1 h2)).2) m h
 have y1:=con0 (e1+1) (Nat.le_refl _)
 have x12:=con1 (e2 - e1) (by omega)
 have y23:=con2 (e3 - e2) (by omega)
 have x3n:=con3 (n - (e3+1)) (by omega)
 have lx0:=inc0 (e1+1) 0 (by omega)
 have ly1:=inc1 (e2 - e1) (e1+1) (Nat.le_refl _) (by omega)
 rw [show e1+1+(e2 - e1)=e2+1 by omega] at x12 ly1
 rw [show e2+1+(e3 - e2)=e3+1 by omega] at y23
 rw [show e3+1+(n - (e3+1))=n by omega] at x3n
 rw [Nat.zero_add] at lx0
 refine ⟨x 0,x (e1+1),y (e2+1),y 0,by omega,by omega,?_,?_,?_,?_,?_,?_,?_,?_,?_,?_⟩
 ·intro i hi h
  rcases which i hi with q | q | q | q <;> try omega
  have g1:=con0 i (by omega)
  have g2:=con0 (i+1) (by omega)
  have g3:=inc0 i 0 (by omega)
  have g4:=inc0 1 i (by omega)
  have g5:=inc0 (e1+1 - (i+1)) (i+1) (by omega)
  rw [Nat.zero_add] at g3
  rw [show i+1+(e1+1 - (i+1))=e1+1 by omega] at g5
  exact ⟨g1,g2,by omega,by omega,by omega⟩
 ·intro i hi h
  rcases which i hi with q | q | q | q <;> try omega
  have g1:=con1 (i - (e1+1)) (by omega)
  have g2:=con1 (i+1 - (e1+1)) (by omega)
  have g3:=inc1 (i - (e1+1)) (e1+1) (by omega) (by omega)
  have g4:=inc1 1 i (by omega) (by omega)
  have g5:=inc1 (e2+1 - (i+1)) (i+1) (by omega) (by omega)
  rw [show e1+1+(i - (e1+1))=i by omega] at g1 g3
  rw [show e1+1+(i+1 - (e1+1))=i+1 by omega] at g2
  rw [show i+1+(e2+1 - (i+1))=e2+1 by omega] at g5
  exact ⟨g1,g2,by omega,by omega,by omega⟩
 ·intro i hi h
  rcases which i hi with q | q | q | q <;> try omega
  have g1:=con2 (i - (e2+1)) (by omega)
  have g2:=con2 (i+1 - (e2+1)) (by omega)
  have g3:=inc2 (i - (e2+1)) (e2+1) (by omega) (by omega)
  have g4:=inc2 1 i (by omega) (by omega)
  have g5:=inc2 (e3+1 - (i+1)) (i+1) (by omega) (by omega)
  rw [show e2+1+(i - (e2+1))=i by omega] at g1 g3
  rw [show e2+1+(i+1 - (e2+1))=i+1 by omega] at g2
  rw [show i+1+(e3+1 - (i+1))=e3+1 by omega] at g5
  exact ⟨g1,g2,by omega,by omega,by omega⟩
 ·intro i hi h
  rcases which i hi with q | q | q | q <;> try omega
  have g1:=con3 (i - (e3+1)) (by omega)
  have g2:=con3 (i+1 - (e3+1)) (by omega)
  have g3:=inc3 (i - (e3+1)) (e3+1) (by omega) (by omega)
  have g4:=inc3 1 i (by omega) (by omega)
  have g5:=inc3 (n - (i+1)) (i+1) (by omega) (by omega)
  rw [show e3+1+(i - (e3+1))=i by omega] at g1 g3
  rw [show e3+1+(i+1 - (e3+1))=i+1 by omega] at g2
  rw [show i+1+(n - (i+1))=n by omega] at g5
  exact ⟨by omega,by omega,by omega,by omega,by omega⟩
 ·intro i j hi hj hne h1 h2
  rcases which i hi with q | q | q | q <;> try omega
  rcases which j hj with r | r | r | r <;> try omega
  rcases Nat.lt_or_ge i j with c | c
  ·have:=inc0 (j - (i+1)) (i+1) (by omega)
   rw [show i+1+(j - (i+1))=j by omega] at this
   omega
  ·have:=inc0 (i - (j+1)) (j+1) (by omega)
   rw [show j+1+(i - (j+1))=i by omega] at this
   omega
 ·intro i j hi hj hne h1 h2
  rcases which i hi with q | q | q | q <;> try omega
  rcases which j hj with r | r | r | r <;> try omega
  rcases Nat.lt_or_ge i j with c | c
  ·have:=inc1 (j - (i+1)) (i+1) (by omega) (by omega)
   rw [show i+1+(j - (i+1))=j by omega] at this
   omega
  ·have:=inc1 (i - (j+1)) (j+1) (by omega) (by omega)
   rw [show j+1+(i - (j+1))=i by omega] at this
   omega
 ·intro i j hi hj hne h1 h2
  rcases which i hi with q | q | q | q <;> try omega
  rcases which j hj with r | r | r | r <;> try omega
  rcases Nat.lt_or_ge i j with c | c
  ·have:=inc2 (j - (i+1)) (i+1) (by omega) (by omega)
   rw [show i+1+(j - (i+1))=j by omega] at this
   omega
  ·have:=inc2 (i - (j+1)) (j+1) (by omega) (by omega)
   rw [show j+1+(i - (j+1))=i by omega] at this
   omega
 ·intro i j hi hj hne h1 h2
  rcases which i hi with q | q | q | q <;> try omega
  rcases which j hj with r | r | r | r <;> try omega
  rcases Nat.lt_or_ge i j with c | c
  ·have:=inc3 (j - (i+1)) (i+1) (by omega) (by omega)
   rw [show i+1+(j - (i+1))=j by omega] at this
   omega
  ·have:=inc3 (i - (j+1)) (j+1) (by omega) (by omega)
   rw [show j+1+(i - (j+1))=i by omega] at this
   omega
 ·intro t h1 h2
  obtain ⟨i,i1,i2,i3,i4⟩:=seq_between (x:=fun i=>- y i) (t:=- t - 1) (e2 - e1) (e1+1) (by omega) (by rw [show e1+1+(e2 - e1)=e2+1 by omega]; omega)
  exact ⟨i,by omega,ph1 i i1 (by omega),by omega,by omega⟩
 ·intro t h1 h2
  obtain ⟨i,i1,i2,i3,i4⟩:=seq_between (x:=y) (t:=t) (n - (e3+1)) (e3+1) (by omega) (by rw [show e3+1+(n - (e3+1))=n by omega]; omega)
  exact ⟨i,by omega,ph3 i i1 (by omega),i3,i4⟩
theorem four_corners {n : Nat} {κ c : Nat→Int} {w : Int} (hn : 0 < n) (hw : w=1∨w=-1) (hκ : ∀ i,0≤κ i∧κ i < 4) (hc : ∀ i,c i=0∨c i=1) (hstep : ∀ i,(4 : Int)∣κ (i+1) - κ i+w * c i) (hper : ∀ i,c (i+n)=c i) (hperk : ∀ i,κ (i+n)=κ i) (hsum : sumTo n c=4) :
  ∃ s,∃ L : Nat→Int,L 0=0∧(∀ i,L (i+1)=L i∨L (i+1)=L i+1)∧L (n - 1)=3∧(∀ i,(4 : Int)∣κ (s+i) - 1+w * L i):=by
 have rot : ∀ s,sumTo n (fun j=>c (s+j))=4:=by
  intro s
  induction s with
  | zero=>rw [← hsum]; exact sumTo_congr fun j _=>by rw [Nat.zero_add]
  | succ s ih =>
   obtain ⟨m,rfl⟩ : ∃ m,n=m+1:=⟨n - 1,by omega⟩
   rw [sumTo_succ]
   have h1:=sumTo_split (fun j=>c (s+j)) 1 m
   rw [show 1+m=m+1 by omega,ih] at h1
   have h2 : sumTo 1 (fun j=>c (s+j))=c s:=by simp [sumTo]
   have h3 : sumTo m (fun i=>c (s+(1+i)))=sumTo m (fun j=>c (s+1+j)):=sumTo_congr fun j _=>by rw [Nat.add_assoc]
   have h4:=hper s
   rw [show s+1+m=s+(m+1) by omega]
   omega
 have dir : ∀ s i,(4 : Int)∣κ (s+i) - κ s+w * sumTo i (fun j=>c (s+j)):=by
  intro s i
  induction i with
  | zero=>simp [sumTo]
  | succ i ih =>
   rw [sumTo_succ,Int.mul_add]
   have:=hstep (s+i)
   rw [show s+(i+1)=s+i+1 by omega]
   omega
 have cor : ∀ s,c (s+(n - 1))=1→κ s=1→∃ s,∃ L : Nat→Int,L 0=0∧(∀ i,L (i+1)=L i∨L (i+1)=L i+1)∧L (n - 1)=3∧(∀ i,(4 : Int)∣κ (s+i) - 1+w * L i):=by
  intro s h1 h2
  refine ⟨s,fun i=>sumTo i (fun j=>c (s+j)),rfl,fun i=>?_,?_,fun i=>?_⟩
  ·simp only [sumTo_succ]
   have:=hc (s+i)
   omega
  ·have:=rot s
   obtain ⟨m,rfl⟩ : ∃ m,n=m+1:=⟨n - 1,by omega⟩
   rw [sumTo_succ] at this
   rw [show m+1 - 1=m by omega] at h1
   show sumTo (m+1 - 1) (fun j=>c (s+j))=3
   rw [show m+1 - 1=m by omega]
   omega
  ·have:=dir s i
   rw [h2] at this
   exact this
 -- a corner
 obtain ⟨q,q1⟩ : ∃ q,c q=1:=by
  apply Classical.byContradiction
  intro hno
  have : sumTo n c=0:=sumTo_zero fun i _=>by
   rcases hc i with h | h
   ·exact h
   ·exact absurd ⟨i,h⟩ hno
  omega
 have hq : c (q+1+(n - 1))=1:=by rw [show q+1+(n - 1)=q+n by omega,hper]; exact q1
 -- the corner behind which the direction is 1
 have hk:=hκ (q+1)
 obtain ⟨t,t0,t3,t4⟩ : ∃ t : Int,0≤t∧t≤3∧(4 : Int)∣κ (q+1) - 1 - w * t:=by
  rcases hw with rfl | rfl
  ·exact ⟨(κ (q+1)+3) % 4,by omega,by omega,by omega⟩
  ·exact ⟨(5 - κ (q+1)) % 4,by omega,by omega,by omega⟩
 by_cases h0 : t=0
 ·subst h0
  exact cor (q+1) hq (by omega)
 ·obtain ⟨i,_,i2,i3,i4⟩:=seq_between (x:=fun i=>sumTo i (fun j=>c (q+1+j))) (t:=t - 1) n 0 (by simp [sumTo]; omega) (by rw [Nat.zero_add]; have:=rot (q+1); omega)
  have i4' : t - 1 < sumTo i (fun j=>c (q+1+j))+c (q+1+i):=i4
  have hci:=hc (q+1+i)
  have hd:=dir (q+1) (i+1)
  rw [sumTo_succ] at hd
  have he : sumTo i (fun j=>c (q+1+j))+c (q+1+i)=t:=by omega
  rw [he] at hd
  refine cor (q+1+(i+1)) ?_ ?_
  ·rw [show q+1+(i+1)+(n - 1)=q+1+i+n by omega,hper]; omega
  ·have hk2:=hκ (q+1+(i+1))
   rcases hw with rfl | rfl <;> omega
end Go.Vm

/-
 The lists and faces of the straightened shape.
-/
import Derived.Test.YtnnbdielbgljaaaDoorKG
import Derived.Test.YtnnbdielbgljaaaDoorKL
set_option linter.unusedVariables false
set_option linter.unusedSimpArgs false
/-
 The straightened shape: what stands where in its lists.
-/
namespace Go.Vm
open Go.Proofs
set_option maxRecDepth 100000
attribute [local irreducible] aa
def Mo (B : List ByteArray) : Nat→Nat→Nat
 | _,0=>0
 | e,i+1=>bs B e+1+Mo B (e+1) i
def Ko (B : List ByteArray) : Nat→Nat→Nat
 | _,0=>0
 | e,i+1=>bs B e+Ko B (e+1) i
theorem mN {B : List ByteArray} : ∀ {i e : Nat},Mo B e (i+1)=Mo B e i+bs B (e+i)+1
 | 0,e=>by simp [Mo]
 | i+1,e=>by
  have ih:=mN (B:=B) (i:=i) (e:=e+1)
  rw [show e+1+i=e+(i+1) by omega] at ih
  show bs B e+1+Mo B (e+1) (i+1)=bs B e+1+Mo B (e+1) i+bs B (e+(i+1))+1
  omega
theorem mF {B : List ByteArray} : ∀ {i e : Nat},Ko B e (i+1)=Ko B e i+bs B (e+i)
 | 0,e=>by simp [Ko]
 | i+1,e=>by
  have ih:=mF (B:=B) (i:=i) (e:=e+1)
  rw [show e+1+i=e+(i+1) by omega] at ih
  show bs B e+Ko B (e+1) (i+1)=bs B e+Ko B (e+1) i+bs B (e+(i+1))
  omega
theorem zW {B : List ByteArray} : ∀ {i : Nat},Mo B 0 i=Ko B 0 i+i
 | 0=>rfl
 | i+1=>by
  have ih:=zW (B:=B) (i:=i)
  rw [mN,mF,ih]; omega
theorem vT {B : List ByteArray} {i : Nat} : ∀ {k : Nat},i < k→Mo B 0 i+bs B i+1≤Mo B 0 k
 | 0,h=>by omega
 | k+1,h=>by
  have e:=mN (B:=B) (i:=k) (e:=0)
  rw [Nat.zero_add] at e
  by_cases c : i=k
  ·subst c; omega
  ·have:=vT (B:=B) (i:=i) (k:=k) (by omega); omega
theorem Fu {B : List ByteArray} {i : Nat} : ∀ {k : Nat},i < k→Ko B 0 i+bs B i≤Ko B 0 k
 | 0,h=>by omega
 | k+1,h=>by
  have e:=mF (B:=B) (i:=k) (e:=0)
  rw [Nat.zero_add] at e
  by_cases c : i=k
  ·subst c; omega
  ·have:=Fu (B:=B) (i:=i) (k:=k) (by omega); omega
theorem tQ {B : List ByteArray} : ∀ {n x : Nat},x < Mo B 0 n→∃ i j,i < n∧j≤bs B i∧x=Mo B 0 i+j
 | 0,x,h=>by simp [Mo] at h
 | n+1,x,h=>by
  have e:=mN (B:=B) (i:=n) (e:=0)
  rw [Nat.zero_add] at e
  by_cases c : x < Mo B 0 n
  ·obtain ⟨i,j,h1,h2,h3⟩:=tQ c
   exact ⟨i,j,by omega,h2,h3⟩
  ·exact ⟨n,x - Mo B 0 n,by omega,by omega,by omega⟩
theorem tY {B : List ByteArray} : ∀ {n x : Nat},x < Ko B 0 n→∃ i j,i < n∧j < bs B i∧x=Ko B 0 i+j
 | 0,x,h=>by simp [Ko] at h
 | n+1,x,h=>by
  have e:=mF (B:=B) (i:=n) (e:=0)
  rw [Nat.zero_add] at e
  by_cases c : x < Ko B 0 n
  ·obtain ⟨i,j,h1,h2,h3⟩:=tY c
   exact ⟨i,j,by omega,h2,h3⟩
  ·exact ⟨n,x - Ko B 0 n,by omega,by omega,by omega⟩
theorem tD {B : List ByteArray} {i j i' j' : Nat} (hj : j≤bs B i) (hj' : j'≤bs B i') (h : Mo B 0 i+j=Mo B 0 i'+j') : i=i'∧j=j':=by
 rcases Nat.lt_trichotomy i i' with c | c | c
 ·have:=vT (B:=B) c; omega
 ·subst c; exact ⟨rfl,by omega⟩
 ·have:=vT (B:=B) c; omega
theorem Am {B : List ByteArray} : ∀ {Es : List Arc} {e n : Nat},nR B e Es n=n+Ko B e Es.length
 | [],_,_=>rfl
 | a :: Es,e,n=>by
  rw [nR,Am,List.length_cons,Ko]; omega
theorem sg {B : List ByteArray} : ∀ {Es : List Arc} {e m : Nat},mR B e Es m=m+Mo B e Es.length
 | [],_,_=>rfl
 | a :: Es,e,m=>by
  rw [mR,sg,List.length_cons,Mo]; omega
theorem jP {B : List ByteArray} : ∀ {Es : List Arc} {e m : Nat},(frR B e Es m).length=Ko B e Es.length
 | [],_,_=>rfl
 | a :: Es,e,m=>by
  rw [frR,List.length_append,gL,jP,List.length_cons,Ko]
theorem zI : ∀ {r n j : Nat} {p : Int},j < r→(chP p n r)[j]?=some (if j=0 then p else ((n+j - 1 : Nat) : Int),((n+j : Nat) : Int),())
 | 0,_,_,_,h=>by omega
 | r+1,n,0,p,h=>rfl
 | r+1,n,j+1,p,h=>by
  rw [chP,List.getElem?_cons_succ,zI (by omega),if_neg (show ¬ j+1=0 by omega)]
  by_cases c : j=0
  ·subst c; rw [if_pos rfl]; rfl
  ·rw [if_neg c]
   congr 2
   ·congr 1; omega
   ·congr 2; omega
theorem ww : ∀ {r n : Nat} {p : Int},mj p n r=if r=0 then p else ((n+r - 1 : Nat) : Int)
 | 0,_,_=>rfl
 | r+1,n,p=>by
  rw [mj,ww,if_neg (show ¬ r+1=0 by omega)]
  by_cases c : r=0
  ·subst c; rw [if_pos rfl]; rfl
  ·rw [if_neg c]; congr 1; omega
theorem tV {B : List ByteArray} : ∀ {Es : List Arc} {e n i j : Nat} {a : Arc},Es[i]?=some a→j≤bs B (e+i) →
  (EdR B e Es n)[Mo B e i+j]?=some (if j=0 then a.1 else ((n+Ko B e i+j - 1 : Nat) : Int),if j=bs B (e+i) then a.2.1 else ((n+Ko B e i+j : Nat) : Int),())
 | [],_,_,_,_,_,h,_=>by simp at h
 | b :: Es,e,n,0,j,a,h,hj=>by
  have : b=a:=by simpa using h
  subst this
  simp only [Nat.add_zero] at hj ⊢
  rw [EdR,Mo,Ko]
  simp only [Nat.zero_add,Nat.add_zero]
  by_cases c : j < bs B e
  ·rw [List.getElem?_append_left (by rw [cN]; exact c),zI c,if_neg (by omega : ¬ j=bs B e)]
  ·have : j=bs B e:=by omega
   subst this
   rw [List.getElem?_append_right (by rw [cN]; exact Nat.le_refl _),cN,Nat.sub_self,ww,if_pos rfl]
   rfl
 | b :: Es,e,n,i+1,j,a,h,hj=>by
  have ih:=tV (B:=B) (Es:=Es) (e:=e+1) (n:=n+bs B e) (i:=i) (j:=j) (a:=a) (by simpa using h) (by rw [show e+1+i=e+(i+1) by omega]; exact hj)
  rw [show e+1+i=e+(i+1) by omega] at ih
  rw [EdR,Mo,Ko,List.getElem?_append_right (by rw [cN]; omega),cN,show bs B e+1+Mo B (e+1) i+j - bs B e=(Mo B (e+1) i+j)+1 by omega,List.getElem?_cons_succ,ih,show n+bs B e+Ko B (e+1) i=n+(bs B e+Ko B (e+1) i) by omega]
theorem zC : ∀ {r m j : Nat},j < r→(frL m r)[j]?=some [((2 * (m+j)+1 : Nat) : Int),((2 * (m+j)+2 : Nat) : Int)]
 | 0,_,_,h=>by omega
 | r+1,m,0,h=>rfl
 | r+1,m,j+1,h=>by
  rw [frL,List.getElem?_cons_succ,zC (by omega),show m+1+j=m+(j+1) by omega]
theorem yU {B : List ByteArray} : ∀ {Es : List Arc} {e m i j : Nat},i < Es.length→j < bs B (e+i)→(frR B e Es m)[Ko B e i+j]?=some [((2 * (m+Mo B e i+j)+1 : Nat) : Int),((2 * (m+Mo B e i+j)+2 : Nat) : Int)]
 | [],_,_,_,_,h,_=>by simp at h
 | b :: Es,e,m,0,j,h,hj=>by
  rw [Nat.add_zero] at hj
  rw [frR,Mo,Ko]
  simp only [Nat.zero_add,Nat.add_zero]
  rw [List.getElem?_append_left (by rw [gL]; exact hj),zC hj]
 | b :: Es,e,m,i+1,j,h,hj=>by
  have ih:=yU (B:=B) (Es:=Es) (e:=e+1) (m:=m+bs B e+1) (i:=i) (j:=j) (by simpa using h) (by rw [show e+1+i=e+(i+1) by omega]; exact hj)
  rw [frR,Mo,Ko,List.getElem?_append_right (by rw [gL]; omega),gL,show bs B e+Ko B (e+1) i+j - bs B e=Ko B (e+1) i+j by omega,ih,show m+bs B e+1+Mo B (e+1) i+j=m+(bs B e+1+Mo B (e+1) i)+j by omega]
theorem uN {B : List ByteArray} : ∀ {Es : List Arc} {e m i : Nat},i < Es.length→(fiR B e Es m)[2 * i]?=some ((2 * (m+Mo B e i) : Nat) : Int)∧(fiR B e Es m)[2 * i+1]?=some ((2 * (m+Mo B e i+bs B (e+i))+1 : Nat) : Int)
 | [],_,_,_,h=>by simp at h
 | b :: Es,e,m,0,h=>⟨rfl,rfl⟩
 | b :: Es,e,m,i+1,h=>by
  obtain ⟨h1,h2⟩:=uN (B:=B) (Es:=Es) (e:=e+1) (m:=m+bs B e+1) (i:=i) (by simpa using h)
  rw [show e+1+i=e+(i+1) by omega] at h2
  rw [fiR,Mo,show 2 * (i+1)=(2 * i+1)+1 by omega,List.getElem?_cons_succ,List.getElem?_cons_succ,h1,List.getElem?_cons_succ,List.getElem?_cons_succ,h2,show m+bs B e+1+Mo B (e+1) i=m+(bs B e+1+Mo B (e+1) i) by omega]
  exact ⟨rfl,rfl⟩
theorem uw {B : List ByteArray} : ∀ {Es : List Arc} {e m i : Nat},i < Es.length→(paR B e Es m)[i]?=some (rC (m+Mo B e i) (bs B (e+i)))
 | [],_,_,_,h=>by simp at h
 | b :: Es,e,m,0,h=>rfl
 | b :: Es,e,m,i+1,h=>by
  have ih:=uw (B:=B) (Es:=Es) (e:=e+1) (m:=m+bs B e+1) (i:=i) (by simpa using h)
  rw [paR,List.getElem?_cons_succ,ih,Mo,show e+1+i=e+(i+1) by omega,show m+bs B e+1+Mo B (e+1) i=m+(bs B e+1+Mo B (e+1) i) by omega]
theorem qg : ∀ {l : List Int} {j : Nat},j < l.length→(eR l)[2 * j]?=some (bG (l.getD j 0))∧(eR l)[2 * j+1]?=some (4 - bG (l.getD j 0))
 | [],_,h=>by simp at h
 | c :: l,0,h=>⟨rfl,rfl⟩
 | c :: l,j+1,h=>by
  obtain ⟨h1,h2⟩:=qg (l:=l) (j:=j) (by simpa using h)
  have e : (c :: l).getD (j+1) 0=l.getD j 0:=by simp
  rw [eR,e,show 2 * (j+1)=(2 * j+1)+1 by omega,List.getElem?_cons_succ,List.getElem?_cons_succ,h1,List.getElem?_cons_succ,List.getElem?_cons_succ,h2]
  exact ⟨rfl,rfl⟩
def btc (B : List ByteArray) (e j : Nat) : Int:=(ac (at0 B (2 * e))).getD j 0
theorem An {g : List Int} {B : List ByteArray} : ∀ {Es : List Arc} {e i j : Nat},i < Es.length→j≤bs B (e+i) →
  (anR g B e Es)[2 * (Mo B e i+j)]?=some (if j=0 then g.getD (2 * (e+i)) 0 else 4 - bG (btc B (e+i) (j - 1))) ∧
  (anR g B e Es)[2 * (Mo B e i+j)+1]?=some (if j=bs B (e+i) then g.getD (2 * (e+i)+1) 0 else bG (btc B (e+i) j))
 | [],_,_,_,h,_=>by simp at h
 | b :: Es,e,0,j,h,hj=>by
  rw [Nat.add_zero] at hj ⊢
  have hbl : (ac (at0 B (2 * e))).length=bs B e:=az _
  have hal : (eR (ac (at0 B (2 * e)))).length=2 * bs B e:=by rw [jp,hbl]
  have hCl : (g.getD (2 * e) 0 :: eR (ac (at0 B (2 * e)))++[g.getD (2 * e+1) 0]).length=2 * bs B e+2:=by simp only [List.length_append,List.length_cons,List.length_nil,hal]
  have key : ∀ x,x < 2 * bs B e+2→((g.getD (2 * e) 0 :: eR (ac (at0 B (2 * e)))++[g.getD (2 * e+1) 0])++anR g B (e+1) Es)[x]?=(g.getD (2 * e) 0 :: eR (ac (at0 B (2 * e)))++[g.getD (2 * e+1) 0])[x]?:=fun x hx=>List.getElem?_append_left (by rw [hCl]; exact hx)
  rw [anR,Mo,Nat.zero_add,key _ (by omega),key _ (by omega)]
  constructor
  ·cases j with
   | zero=>rw [if_pos rfl]; rfl
   | succ j =>
    rw [if_neg (by omega),List.cons_append,show 2 * (j+1)=(2 * j+1)+1 by omega,List.getElem?_cons_succ,List.getElem?_append_left (by rw [hal]; omega),(qg (by rw [hbl]; omega)).2]
    rfl
  ·rw [List.cons_append,List.getElem?_cons_succ]
   by_cases c : j=bs B e
   ·subst c
    rw [if_pos rfl,List.getElem?_append_right (by rw [hal]; omega),hal,Nat.sub_self]; rfl
   ·rw [if_neg c,List.getElem?_append_left (by rw [hal]; omega),(qg (by rw [hbl]; omega)).1]
    rfl
 | b :: Es,e,i+1,j,h,hj=>by
  have ih:=An (g:=g) (B:=B) (Es:=Es) (e:=e+1) (i:=i) (j:=j) (by simpa using h) (by rw [show e+1+i=e+(i+1) by omega]; exact hj)
  rw [show e+1+i=e+(i+1) by omega] at ih
  have hbl : (ac (at0 B (2 * e))).length=bs B e:=az _
  have hal : (eR (ac (at0 B (2 * e)))).length=2 * bs B e:=by rw [jp,hbl]
  have hCl : (g.getD (2 * e) 0 :: eR (ac (at0 B (2 * e)))++[g.getD (2 * e+1) 0]).length=2 * bs B e+2:=by simp only [List.length_append,List.length_cons,List.length_nil,hal]
  rw [anR,Mo,List.getElem?_append_right (by rw [hCl]; omega),List.getElem?_append_right (by rw [hCl]; omega),hCl,show 2 * (bs B e+1+Mo B (e+1) i+j) - (2 * bs B e+2)=2 * (Mo B (e+1) i+j) by omega,show 2 * (bs B e+1+Mo B (e+1) i+j)+1 - (2 * bs B e+2)=2 * (Mo B (e+1) i+j)+1 by omega]
  exact ih
def upL : Nat→Nat→List Int
 | x,0=>[((2 * x : Nat) : Int)]
 | x,r+1=>((2 * x : Nat) : Int) :: upL (x+1) r
def dnL : Nat→Nat→List Int
 | x,0=>[((2 * x+1 : Nat) : Int)]
 | x,r+1=>((2 * x+1 : Nat) : Int) :: dnL (x - 1) r
theorem mP : ∀ {r x : Nat} {z : Int},z∈upL x r↔∃ j,j≤r∧z=((2 * (x+j) : Nat) : Int)
 | 0,x,z=>by
  rw [upL,List.mem_singleton]
  exact ⟨fun h=>⟨0,Nat.le_refl _,h⟩,fun ⟨j,h1,h2⟩=>by rw [h2]; congr 1; omega⟩
 | r+1,x,z=>by
  rw [upL,List.mem_cons,mP]
  constructor
  ·rintro (h | ⟨j,h1,h2⟩)
   ·exact ⟨0,by omega,h⟩
   ·exact ⟨j+1,by omega,by rw [h2]; congr 1; omega⟩
  ·rintro ⟨j,h1,h2⟩
   cases j with
   | zero=>exact .inl h2
   | succ j=>exact .inr ⟨j,by omega,by rw [h2]; congr 1; omega⟩
theorem mw : ∀ {r x : Nat} {z : Int},r≤x→(z∈dnL x r↔∃ j,j≤r∧z=((2 * (x - r+j)+1 : Nat) : Int))
 | 0,x,z,_=>by
  rw [dnL,List.mem_singleton]
  exact ⟨fun h=>⟨0,Nat.le_refl _,h⟩,fun ⟨j,h1,h2⟩=>by rw [h2]; congr 1; omega⟩
 | r+1,x,z,hr=>by
  rw [dnL,List.mem_cons,mw (by omega)]
  constructor
  ·rintro (h | ⟨j,h1,h2⟩)
   ·exact ⟨r+1,Nat.le_refl _,by rw [h]; congr 1; omega⟩
   ·exact ⟨j,by omega,by rw [h2]; congr 1; omega⟩
  ·rintro ⟨j,h1,h2⟩
   by_cases c : j=r+1
   ·left; rw [h2]; congr 1; omega
   ·exact .inr ⟨j,by omega,by rw [h2]; congr 1; omega⟩
theorem sD : ∀ {r x : Nat},(upL x r).Nodup
 | 0,_=>by simp [upL]
 | r+1,x=>by
  rw [upL,List.nodup_cons]
  refine ⟨fun h=>?_,sD⟩
  obtain ⟨j,_,h2⟩:=mP.1 h
  omega
theorem sc : ∀ {r x : Nat},r≤x→(dnL x r).Nodup
 | 0,_,_=>by simp [dnL]
 | r+1,x,h=>by
  rw [dnL,List.nodup_cons]
  refine ⟨fun h'=>?_,sc (by omega)⟩
  obtain ⟨j,_,h2⟩:=(mw (by omega)).1 h'
  omega
theorem wN {nx : List Int} {z : Int} : ∀ {r x : Nat},(∀ j,j < r→nx[2 * (x+j)]?=some ((2 * (x+j)+2 : Nat) : Int))→nx[2 * (x+r)]?=some z→dm nx ((2 * x : Nat) : Int) (upL x r) z
 | 0,x,_,h=>⟨rfl,z,by rw [Int.toNat_natCast]; exact h,rfl⟩
 | r+1,x,h,hz=>by
  refine ⟨rfl,((2 * (x+1) : Nat) : Int),by rw [Int.toNat_natCast]; exact h 0 (by omega),?_⟩
  refine wN (fun j hj=>?_) (by rw [show x+1+r=x+(r+1) by omega]; exact hz)
  have:=h (j+1) (by omega)
  rw [show x+1+j=x+(j+1) by omega]; exact this
theorem wi {nx : List Int} {z : Int} : ∀ {r x : Nat},r≤x→(∀ j,j < r→nx[2 * (x - j)+1]?=some ((2 * (x - j - 1)+1 : Nat) : Int))→nx[2 * (x - r)+1]?=some z→dm nx ((2 * x+1 : Nat) : Int) (dnL x r) z
 | 0,x,_,_,h=>⟨rfl,z,by rw [Int.toNat_natCast]; exact h,rfl⟩
 | r+1,x,hr,h,hz=>by
  refine ⟨rfl,((2 * (x - 1)+1 : Nat) : Int),by rw [Int.toNat_natCast]; exact h 0 (by omega),?_⟩
  refine wi (by omega) (fun j hj=>?_) (by rw [show x - 1 - r=x - (r+1) by omega]; exact hz)
  have:=h (j+1) (by omega)
  rw [show x - 1 - j=x - (j+1) by omega]; exact this
def prt (B : List ByteArray) (d : Int) : List Int:=if d.toNat % 2=0 then upL (Mo B 0 (d.toNat / 2)) (bs B (d.toNat / 2)) else dnL (Mo B 0 (d.toNat / 2)+bs B (d.toNat / 2)) (bs B (d.toNat / 2))
theorem vu {B : List ByteArray} {i : Nat} : prt B ((2 * i : Nat) : Int)=upL (Mo B 0 i) (bs B i):=by
 unfold prt
 rw [Int.toNat_natCast,if_pos (by omega),show 2 * i / 2=i by omega]
theorem vC {B : List ByteArray} {i : Nat} : prt B ((2 * i+1 : Nat) : Int)=dnL (Mo B 0 i+bs B i) (bs B i):=by
 unfold prt
 rw [Int.toNat_natCast,if_neg (by omega),show (2 * i+1) / 2=i by omega]
theorem jI {B : List ByteArray} {E : List Arc} {i : Nat} (h : i < E.length) : plc B E ((2 * i : Nat) : Int)=((2 * Mo B 0 i : Nat) : Int):=by
 unfold plc
 rw [Int.toNat_natCast,List.getD_eq_getElem?_getD,(uN h).1,Nat.zero_add]; rfl
theorem jE {B : List ByteArray} {E : List Arc} {i : Nat} (h : i < E.length) : plc B E ((2 * i+1 : Nat) : Int)=((2 * (Mo B 0 i+bs B i)+1 : Nat) : Int):=by
 unfold plc
 rw [Int.toNat_natCast,List.getD_eq_getElem?_getD,(uN h).2,Nat.zero_add,Nat.zero_add]; rfl
theorem cI {m d : Nat} (h : d < 2 * m) : ∃ i,i < m∧(d=2 * i∨d=2 * i+1):=⟨d / 2,by omega,by omega⟩
end Go.Vm

/-
 The straightened shape is a plain shape.
-/
namespace Go.Vm
open Go.Proofs
set_option maxRecDepth 100000
attribute [local irreducible] aa
theorem mc {E : List Arc} {i : Nat} {a : Arc} (h : E[i]?=some a) : tl E (2 * i)=a.1∧tl E (2 * i+1)=a.2.1:=by
 unfold tl
 rw [show 2 * i / 2=i by omega,show (2 * i+1) / 2=i by omega,h]
 simp only
 rw [if_pos (by omega),if_neg (by omega)]
 exact ⟨rfl,rfl⟩
section
variable {N : Nat} {E : List Arc} {A : List (List Int)} {nx nx' : List Int} {g : List Int} {B : List ByteArray} {o : Int}
theorem lk : (EdR B 0 E N).length=Mo B 0 E.length:=by
 have:=oR (B:=B) (Es:=E) (e:=0) (n:=N) (m:=0)
 rw [sg] at this
 omega
theorem ib {i j : Nat} (hi : i < E.length) (hj : j≤bs B i) : tl (EdR B 0 E N) (2 * (Mo B 0 i+j))=(if j=0 then tl E (2 * i) else ((N+Ko B 0 i+j - 1 : Nat) : Int))∧tl (EdR B 0 E N) (2 * (Mo B 0 i+j)+1)=(if j=bs B i then tl E (2 * i+1) else ((N+Ko B 0 i+j : Nat) : Int)):=by
 have he:=List.getElem?_eq_getElem hi
 have h1:=tV (B:=B) (e:=0) (n:=N) (j:=j) he (by rw [Nat.zero_add]; exact hj)
 rw [Nat.zero_add] at h1
 obtain ⟨t1,t2⟩:=mc h1
 obtain ⟨u1,u2⟩:=mc he
 rw [t1,t2,u1,u2]
 exact ⟨rfl,rfl⟩
theorem uo {d : Nat} (h : d < 2 * (EdR B 0 E N).length) : ∃ i j,i < E.length∧j≤bs B i∧(d=2 * (Mo B 0 i+j)∨d=2 * (Mo B 0 i+j)+1):=by
 rw [lk] at h
 obtain ⟨x,hx,e⟩:=cI h
 obtain ⟨i,j,h1,h2,h3⟩:=tQ hx
 exact ⟨i,j,h1,h2,by omega⟩
theorem mB {i j : Nat} (hi : i < E.length) (hj : j≤bs B i) : 2 * (Mo B 0 i+j)+1 < 2 * (EdR B 0 E N).length:=by
 rw [lk]
 have:=vT (B:=B) hi
 omega
theorem DZ {d : Nat} (hd : d < 2 * E.length) : ∃ x : Nat,plc B E (d : Int)=(x : Int)∧x < 2 * (EdR B 0 E N).length∧tl (EdR B 0 E N) x=tl E d:=by
 obtain ⟨i,hi,rfl | rfl⟩:=cI hd
 ·have:=mB (N:=N) hi (Nat.zero_le (bs B i))
  refine ⟨2 * Mo B 0 i,jI hi,by omega,?_⟩
  have:=(ib (N:=N) hi (Nat.zero_le (bs B i))).1
  rw [if_pos rfl] at this
  exact this
 ·have:=mB (N:=N) hi (Nat.le_refl (bs B i))
  refine ⟨2 * (Mo B 0 i+bs B i)+1,jE hi,by omega,?_⟩
  have:=(ib (N:=N) hi (Nat.le_refl (bs B i))).2
  rw [if_pos rfl] at this
  exact this
theorem E8 {d d' : Nat} (hd : d < 2 * E.length) (hd' : d' < 2 * E.length) (e : plc B E (d : Int)=plc B E (d' : Int)) : d=d':=by
 obtain ⟨i,hi,rfl | rfl⟩:=cI hd <;> obtain ⟨i',hi',rfl | rfl⟩:=cI hd'
 ·rw [jI hi,jI hi'] at e
  have:=tD (B:=B) (i:=i) (j:=0) (i':=i') (j':=0) (by omega) (by omega) (by omega)
  omega
 ·rw [jI hi,jE hi'] at e; omega
 ·rw [jE hi,jI hi'] at e; omega
 ·rw [jE hi,jE hi'] at e
  have:=tD (B:=B) (i:=i) (j:=bs B i) (i':=i') (j':=bs B i') (by omega) (by omega) (by omega)
  omega
theorem tx (hal : A.length=N) {v : Nat} (hv : v < N) {l : List Int} (hl : A[v]?=some l) : (plA B E A++frR B 0 E 0)[v]?=some (l.map (plc B E)):=by
 rw [List.getElem?_append_left (by simp [plA]; omega)]
 unfold plA
 rw [List.getElem?_map,hl]; rfl
theorem o6 (hal : A.length=N) {i j : Nat} (hi : i < E.length) (hj : j < bs B i) : (plA B E A++frR B 0 E 0)[N+Ko B 0 i+j]?=some [((2 * (Mo B 0 i+j)+1 : Nat) : Int),((2 * (Mo B 0 i+j)+2 : Nat) : Int)]:=by
 have hpl : (plA B E A).length=N:=by simp [plA]; omega
 rw [List.getElem?_append_right (by rw [hpl]; omega),hpl,show N+Ko B 0 i+j - N=Ko B 0 i+j by omega]
 have:=yU (B:=B) (Es:=E) (e:=0) (m:=0) (i:=i) (j:=j) hi (by rw [Nat.zero_add]; exact hj)
 rw [this,Nat.zero_add]
theorem nK (hal : A.length=N) {v : Nat} {l : List Int} (hl : (plA B E A++frR B 0 E 0)[v]?=some l) : (∃ l0,A[v]?=some l0∧l=l0.map (plc B E))∨∃ i j,i < E.length∧j < bs B i∧v=N+Ko B 0 i+j∧l=[((2 * (Mo B 0 i+j)+1 : Nat) : Int),((2 * (Mo B 0 i+j)+2 : Nat) : Int)]:=by
 have hpl : (plA B E A).length=N:=by simp [plA]; omega
 rcases Nat.lt_or_ge v N with c | c
 ·left
  have hv:=List.getElem?_eq_getElem (by omega : v < A.length)
  rw [tx hal c hv] at hl
  exact ⟨_,hv,(Option.some.inj hl).symm⟩
 ·right
  have hvl:=(List.getElem?_eq_some_iff.1 hl).1
  rw [List.length_append,hpl,jP] at hvl
  obtain ⟨i,j,h1,h2,h3⟩:=tY (B:=B) (n:=E.length) (x:=v - N) (by omega)
  have hv : v=N+Ko B 0 i+j:=by omega
  subst hv
  rw [o6 hal h1 h2] at hl
  exact ⟨i,j,h1,h2,rfl,(Option.some.inj hl).symm⟩
theorem ye (h : RotOK (N : Nat) E A) (hN : N+Ko B 0 E.length≤16384) (hM : Mo B 0 E.length≤32768) : RotOK ((N+Ko B 0 E.length : Nat) : Nat) (EdR B 0 E N) (plA B E A++frR B 0 E 0):=by
 have hal:=h.al
 have hlen:=lk (B:=B) (E:=E) (N:=N)
 have hpl : (plA B E A).length=N:=by simp [plA]; omega
 refine me hN (by omega) (by rw [List.length_append,hpl,jP]) ?_ ?_ ?_ ?_
 ·intro a ha
  obtain ⟨x,hx⟩:=List.mem_iff_getElem?.1 ha
  have hxl:=(List.getElem?_eq_some_iff.1 hx).1
  obtain ⟨t1,t2⟩:=mc hx
  rw [hlen] at hxl
  obtain ⟨i,j,hi,hj,rfl⟩:=tQ hxl
  obtain ⟨s1,s2⟩:=ib (N:=N) hi hj
  rw [s1] at t1
  rw [s2] at t2
  obtain ⟨a1,a2,a3,a4,a5⟩:=h.edge E[i] (List.getElem_mem hi)
  obtain ⟨u1,u2⟩:=mc (List.getElem?_eq_getElem hi)
  have hK:=Fu (B:=B) hi
  rw [← t1,← t2]
  by_cases c1 : j=0 <;> by_cases c2 : j=bs B i
  ·rw [if_pos c1,if_pos c2,u1,u2]
   exact ⟨a1,by omega,a3,by omega,a5⟩
  ·rw [if_pos c1,if_neg c2,u1]
   exact ⟨a1,by omega,by omega,by omega,by omega⟩
  ·rw [if_neg c1,if_pos c2,u2]
   exact ⟨by omega,by omega,a3,by omega,by omega⟩
  ·rw [if_neg c1,if_neg c2]
   exact ⟨by omega,by omega,by omega,by omega,by omega⟩
 ·intro l hl
  obtain ⟨v,hv⟩:=List.mem_iff_getElem?.1 hl
  rcases nK hal hv with ⟨l0,h0,rfl⟩ | ⟨i,j,hi,hj,_,rfl⟩
  ·have hn:=h.list_nodup (List.mem_of_getElem? h0)
   rw [List.Nodup,List.pairwise_map]
   refine hn.imp_of_mem ?_
   intro x y hx hy hne e
   obtain ⟨k,rfl,hk⟩:=h.mem_of (List.mem_of_getElem? h0) hx
   obtain ⟨k',rfl,hk'⟩:=h.mem_of (List.mem_of_getElem? h0) hy
   exact hne (by rw [E8 hk hk' e])
  ·rw [List.nodup_cons]
   refine ⟨?_,by simp⟩
   rw [List.mem_singleton]
   omega
 ·intro v l hl d hd
  rcases nK hal hl with ⟨l0,h0,rfl⟩ | ⟨i,j,hi,hj,rfl,rfl⟩
  ·obtain ⟨d0,hd0,rfl⟩:=List.mem_map.1 hd
   obtain ⟨k,rfl,hk,ht⟩:=h.dart v l0 h0 d0 hd0
   obtain ⟨x,x1,x2,x3⟩:=DZ (N:=N) (B:=B) hk
   exact ⟨x,x1,x2,by rw [x3]; exact ht⟩
  ·have l1:=mB (N:=N) hi (by omega : j≤bs B i)
   have l2:=mB (N:=N) hi (by omega : j+1≤bs B i)
   simp only [List.mem_cons,List.not_mem_nil,or_false] at hd
   rcases hd with rfl | rfl
   ·refine ⟨_,rfl,by omega,?_⟩
    rw [(ib (N:=N) hi (by omega : j≤bs B i)).2,if_neg (by omega)]
   ·refine ⟨_,rfl,by omega,?_⟩
    rw [show 2 * (Mo B 0 i+j)+2=2 * (Mo B 0 i+(j+1)) by omega,(ib (N:=N) hi (by omega : j+1≤bs B i)).1,if_neg (by omega)]
    congr 1
 ·intro d hd
  have old : ∀ d0,d0 < 2 * E.length→∃ l∈plA B E A++frR B 0 E 0,plc B E (d0 : Int)∈l:=fun d0 h0=>by
   obtain ⟨v,hv,hvN⟩:=h.tl_lt h0
   have hA:=List.getElem?_eq_getElem (by omega : v < A.length)
   exact ⟨_,List.mem_of_getElem? (tx hal hvN hA),List.mem_map.2 ⟨_,h.around h0 hv hA,rfl⟩⟩
  obtain ⟨i,j,hi,hj,rfl | rfl⟩:=uo hd
  ·cases j with
   | zero =>
    obtain ⟨l,h1,h2⟩:=old (2 * i) (by omega)
    rw [jI hi] at h2
    exact ⟨l,h1,h2⟩
   | succ j =>
    refine ⟨_,List.mem_of_getElem? (o6 hal hi (by omega : j < bs B i)),?_⟩
    have : 2 * (Mo B 0 i+(j+1))=2 * (Mo B 0 i+j)+2:=by omega
    rw [this]; simp
  ·by_cases c : j=bs B i
   ·subst c
    obtain ⟨l,h1,h2⟩:=old (2 * i+1) (by omega)
    rw [jE hi] at h2
    exact ⟨l,h1,h2⟩
   ·exact ⟨_,List.mem_of_getElem? (o6 hal hi (by omega : j < bs B i)),by simp⟩
theorem ot (hal : A.length=N) (hn' : Fol oth (EdR B 0 E N) (plA B E A++frR B 0 E 0) nx') {i j : Nat} (hi : i < E.length) (hj : j < bs B i) :
  nx'[2 * (Mo B 0 i+j)]?=some ((2 * (Mo B 0 i+j)+2 : Nat) : Int)∧nx'[2 * (Mo B 0 i+j+1)+1]?=some ((2 * (Mo B 0 i+j)+1 : Nat) : Int):=by
 have hl:=List.mem_of_getElem? (o6 hal hi hj)
 have q0:=hn'.get _ hl 0 (by simp)
 have q1:=hn'.get _ hl 1 (by simp)
 simp only [List.getElem_cons_zero,List.getElem_cons_succ,Int.toNat_natCast,List.length_cons,List.length_nil] at q0 q1
 rw [show oth (2 * (Mo B 0 i+j)+1)=2 * (Mo B 0 i+j) from cJ _] at q0
 rw [show 2 * (Mo B 0 i+j)+2=2 * (Mo B 0 i+j+1) by omega,cK] at q1
 exact ⟨by simpa using q0,by simpa using q1⟩
theorem ve (h : RotOK (N : Nat) E A) (hn : Fol oth E A nx) (hn' : Fol oth (EdR B 0 E N) (plA B E A++frR B 0 E 0) nx') {d y : Nat} (hd : d < 2 * E.length) (hy : nx[d]?=some (y : Int)) : ∀ x : Nat,plc B E ((oth d : Nat) : Int)=(x : Int)→nx'[oth x]?=some (plc B E (y : Int)):=by
 intro x hx
 have hal:=h.al
 have hod:=bd hd
 obtain ⟨v,hv,hvN⟩:=h.tl_lt hod
 have hA:=List.getElem?_eq_getElem (by omega : v < A.length)
 have hm:=h.around hod hv hA
 obtain ⟨i,hi,ei⟩:=List.getElem_of_mem hm
 have q:=hn.get _ (List.mem_of_getElem? hA) i hi
 rw [ei,Int.toNat_natCast,cv,hy] at q
 have hl:=List.mem_of_getElem? (tx (B:=B) (E:=E) hal hvN hA)
 have q':=hn'.get _ hl i (by simpa using hi)
 have hmod : (i+1) % A[v].length < A[v].length:=Nat.mod_lt _ (by omega)
 rw [List.getElem_map,ei,hx,Int.toNat_natCast,List.length_map,List.getD_eq_getElem?_getD,List.getElem?_map,List.getElem?_eq_getElem hmod] at q'
 rw [List.getD_eq_getElem?_getD,List.getElem?_eq_getElem hmod] at q
 have q2:=Option.some.inj q
 simp only [Option.getD_some] at q2
 rw [q',← q2]; rfl
theorem EG (h : RotOK (N : Nat) E A) (hn : Fol oth E A nx) (hn' : Fol oth (EdR B 0 E N) (plA B E A++frR B 0 E 0) nx') {d y : Nat} (hd : d < 2 * E.length) (hy : nx[d]?=some (y : Int)) : dm nx' (plc B E (d : Int)) (prt B (d : Int)) (plc B E (y : Int)):=by
 have hal:=h.al
 have hold:=ve h hn hn' hd hy
 obtain ⟨i,hi,rfl | rfl⟩:=cI hd
 ·rw [cK] at hold
  have:=hold _ (jE hi)
  rw [cJ] at this
  rw [jI hi,vu]
  exact wN (fun j hj=>(ot hal hn' hi hj).1) this
 ·rw [cJ] at hold
  have:=hold _ (jI hi)
  rw [cK] at this
  rw [jE hi,vC]
  refine wi (by omega) (fun j hj=>?_) (by rw [show Mo B 0 i+bs B i - bs B i=Mo B 0 i by omega]; exact this)
  have q:=(ot hal hn' hi (by omega : bs B i - j - 1 < bs B i)).2
  rw [show Mo B 0 i+(bs B i - j - 1)+1=Mo B 0 i+bs B i - j by omega,show Mo B 0 i+(bs B i - j - 1)=Mo B 0 i+bs B i - j - 1 by omega] at q
  exact q
theorem vp (h : RotOK (N : Nat) E A) (hn : Fol oth E A nx) (hn' : Fol oth (EdR B 0 E N) (plA B E A++frR B 0 E 0) nx') : ∀ {f : List Int} {x z : Nat},x < 2 * E.length→dm nx (x : Int) f (z : Int)→dm nx' (plc B E (x : Int)) (f.flatMap (prt B)) (plc B E (z : Int))
 | [],x,z,_,hp=>by
  have : (x : Int)=z:=hp
  rw [this]; rfl
 | a :: f,x,z,hx,hp=>by
  obtain ⟨rfl,y,hy,hp'⟩:=hp
  rw [Int.toNat_natCast] at hy
  have hN : jj nx (2 * E.length):=by have:=Fol.nxOK h hn; rwa [hn.len] at this
  obtain ⟨y',hy',e'⟩:=hN.2 x hx
  rw [hy] at e'
  have:=Option.some.inj e'
  subst this
  rw [List.flatMap_cons]
  exact cu.2 ⟨_,EG h hn hn' hx hy,vp h hn hn' hy' hp'⟩
theorem pU {d : Nat} (hd : d < 2 * E.length) {z : Int} (hz : z∈prt B (d : Int)) : ∃ k : Nat,z=(k : Int)∧k < 2 * (EdR B 0 E N).length∧∃ j,j≤bs B (d / 2)∧k=2 * (Mo B 0 (d / 2)+j)+d % 2:=by
 obtain ⟨i,hi,rfl | rfl⟩:=cI hd
 ·rw [vu] at hz
  obtain ⟨j,hj,rfl⟩:=mP.1 hz
  have:=mB (N:=N) hi hj
  rw [show 2 * i / 2=i by omega,show 2 * i % 2=0 by omega]
  exact ⟨_,rfl,by omega,j,hj,rfl⟩
 ·rw [vC] at hz
  obtain ⟨j,hj,rfl⟩:=(mw (by omega)).1 hz
  rw [show Mo B 0 i+bs B i - bs B i+j=Mo B 0 i+j by omega]
  have:=mB (N:=N) hi hj
  rw [show (2 * i+1) / 2=i by omega,show (2 * i+1) % 2=1 by omega]
  exact ⟨_,rfl,by omega,j,hj,rfl⟩
theorem zP {d d' : Nat} (hd : d < 2 * E.length) (hd' : d' < 2 * E.length) {z : Int} (hz : z∈prt B (d : Int)) (hz' : z∈prt B (d' : Int)) : d=d':=by
 obtain ⟨k,e1,_,j,j1,j2⟩:=pU (N:=0) hd hz
 obtain ⟨k',e2,_,j',j1',j2'⟩:=pU (N:=0) hd' hz'
 have:=tD (B:=B) j1 j1' (by omega)
 omega
theorem AZ {d : Int} : (prt B d).Nodup:=by
 unfold prt
 split
 ·exact sD
 ·exact sc (by omega)
theorem DU {d : Int} : prt B d≠[]:=by
 unfold prt
 split
 ·cases bs B (d.toNat / 2) <;> simp [upL]
 ·cases bs B (d.toNat / 2) <;> simp [dnL]
theorem GW (h : RotOK (N : Nat) E A) {fs : List (List Int)} (hf : FsOK (2 * E.length) fs) (hF : fs.length≤2 * E.length) : FsOK (2 * (EdR B 0 E N).length) (fs.map fun f=>f.flatMap (prt B)):=by
 have hel : ∀ x∈fs.flatten,∃ k : Nat,x=(k : Int)∧k < 2 * E.length:=fun x hx=>by
  obtain ⟨l,hl,hxl⟩:=List.mem_flatten.1 hx
  exact (hf.elem l hl).2 x hxl
 have hflat : (fs.map fun f=>f.flatMap (prt B)).flatten=fs.flatten.flatMap (prt B):=by
  rw [List.flatMap_def,List.map_flatten,List.flatten_flatten,List.map_map]
  rfl
 refine ⟨fun f hf'=>?_,?_,fun d hd=>?_,?_⟩
 ·obtain ⟨f0,h0,rfl⟩:=List.mem_map.1 hf'
  obtain ⟨q1,q2⟩:=hf.elem f0 h0
  refine ⟨?_,fun z hz=>?_⟩
  ·cases f0 with
   | nil=>exact absurd rfl q1
   | cons x f0 =>
    rw [List.flatMap_cons]
    intro e
    exact DU (List.append_eq_nil_iff.1 e).1
  ·obtain ⟨x,hx,hzx⟩:=List.mem_flatMap.1 hz
   obtain ⟨k,rfl,hk⟩:=q2 x hx
   obtain ⟨k',e1,e2,_⟩:=pU (N:=N) hk hzx
   exact ⟨k',e1,e2⟩
 ·rw [hflat]
  refine List.pairwise_flatMap.2 ⟨fun x _=>AZ,hf.nodup.imp_of_mem ?_⟩
  intro x y hx hy hne z hz w hw e
  subst e
  obtain ⟨k,rfl,hk⟩:=hel x hx
  obtain ⟨k',rfl,hk'⟩:=hel y hy
  exact hne (by rw [zP hk hk' hz hw])
 ·rw [hflat]
  obtain ⟨i,j,hi,hj,rfl | rfl⟩:=uo hd
  ·exact List.mem_flatMap.2 ⟨_,hf.cover (2 * i) (by omega),by rw [vu]; exact mP.2 ⟨j,hj,rfl⟩⟩
  ·refine List.mem_flatMap.2 ⟨_,hf.cover (2 * i+1) (by omega),?_⟩
   rw [vC]
   exact (mw (by omega)).2 ⟨j,hj,by rw [show Mo B 0 i+bs B i - bs B i+j=Mo B 0 i+j by omega]⟩
 ·rw [List.length_map,lk]
  have:=zW (B:=B) (i:=E.length)
  omega
theorem Ge (h : RotOK (N : Nat) E A) (hn : Fol oth E A nx) (hn' : Fol oth (EdR B 0 E N) (plA B E A++frR B 0 E 0) nx') {f : List Int} (hf : ∀ x∈f,∃ k : Nat,x=(k : Int)∧k < 2 * E.length) (hc : Cyc nx f) : Cyc nx' (f.flatMap (prt B)):=by
 cases f with
 | nil=>exact absurd rfl hc.1
 | cons x f =>
  obtain ⟨k,rfl,hk⟩:=hf x (by simp)
  refine cL (vp h hn hn' hk (bS hc)) ?_
  rw [List.flatMap_cons]
  intro e
  exact DU (List.append_eq_nil_iff.1 e).1
theorem pO (h : RotOK (N : Nat) E A) (hN : N+Ko B 0 E.length≤16384) (hM : Mo B 0 E.length≤32768) {i : Nat} (hi : i < E.length) : ∀ {j u w : Nat},j≤bs B i→tl E (2 * i)=(u : Int)→tl (EdR B 0 E N) (2 * (Mo B 0 i+j))=(w : Int)→Reach (EdR B 0 E N) u w
 | 0,u,w,hj,hu,hw=>by
  rw [(ib (N:=N) hi hj).1,if_pos rfl,hu] at hw
  have : u=w:=by omega
  subst this; exact .refl _
 | j+1,u,w,hj,hu,hw=>by
  have hr:=ye (B:=B) h hN hM
  have l1:=mB (N:=N) hi (by omega : j≤bs B i)
  obtain ⟨w',hw',_⟩:=hr.tl_lt (k:=2 * (Mo B 0 i+j)) (by omega)
  have ih:=pO h hN hM hi (j:=j) (by omega) hu hw'
  refine .step ih (by omega : 2 * (Mo B 0 i+j) < _) hw' ?_
  unfold hd
  rw [cK,(ib (N:=N) hi (by omega : j≤bs B i)).2,if_neg (by omega)]
  rw [(ib (N:=N) hi hj).1,if_neg (by omega)] at hw
  rw [← hw]
  congr 1
theorem Fg (h : RotOK (N : Nat) E A) (hc : iS N E) (hN : N+Ko B 0 E.length≤16384) (hM : Mo B 0 E.length≤32768) : iS (N+Ko B 0 E.length) (EdR B 0 E N):=by
 have hr:=ye (B:=B) h hN hM
 have hedge : ∀ {i u v : Nat},i < E.length→tl E (2 * i)=(u : Int)→tl E (2 * i+1)=(v : Int)→Reach (EdR B 0 E N) u v:=by
  intro i u v hi hu hv
  have l1:=mB (N:=N) hi (Nat.le_refl (bs B i))
  obtain ⟨w',hw',_⟩:=hr.tl_lt (k:=2 * (Mo B 0 i+bs B i)) (by omega)
  refine .step (pO h hN hM hi (Nat.le_refl _) hu hw') (by omega : 2 * (Mo B 0 i+bs B i) < _) hw' ?_
  unfold hd
  rw [cK,(ib (N:=N) hi (Nat.le_refl _)).2,if_pos rfl,hv]
 have old : ∀ {u v : Nat},Reach E u v→Reach (EdR B 0 E N) u v:=by
  intro u v hr'
  induction hr' with
  | refl=>exact .refl _
  | @step v w k _ hk h1 h2 ih =>
   refine ih.trans ?_
   unfold hd at h2
   obtain ⟨i,hi,rfl | rfl⟩:=cI hk
   ·rw [cK] at h2
    exact hedge hi h1 h2
   ·rw [cJ] at h2
    exact (hedge hi h2 h1).symm
 intro v hv
 by_cases c : v < N
 ·exact old (hc v c)
 ·obtain ⟨i,j,hi,hj,e⟩:=tY (B:=B) (n:=E.length) (x:=v - N) (by omega)
  obtain ⟨u,hu,huN⟩:=h.tl_lt (k:=2 * i) (by omega)
  refine (old (hc u huN)).trans (pO h hN hM hi (by omega : j+1≤bs B i) hu ?_)
  rw [(ib (N:=N) hi (by omega : j+1≤bs B i)).1,if_neg (by omega)]
  congr 1
  omega
end
end Go.Vm


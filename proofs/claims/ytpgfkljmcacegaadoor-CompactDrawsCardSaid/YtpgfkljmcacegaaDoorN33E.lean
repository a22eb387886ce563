/-
 Paths and cycles of darts.
-/
import Derived.Test.YtpgfkljmcacegaaDoorN33S
set_option linter.unusedVariables false
set_option linter.unusedSimpArgs false
namespace Go.Vm
open Go.Proofs
set_option maxRecDepth 100000
attribute [local irreducible] loopFix
theorem path_app {nx : List Int} : ∀ {f g : List Int} {x z : Int},Path nx x (f++g) z↔∃ y,Path nx x f y∧Path nx y g z
 | [],g,x,z=>by
  constructor
  ·intro h; exact ⟨x,rfl,h⟩
  ·rintro ⟨y,h1,h2⟩; have : x=y:=h1; subst this; exact h2
 | a :: f,g,x,z=>by
  constructor
  ·rintro ⟨h1,y,h2,h3⟩
   obtain ⟨w,w1,w2⟩:=path_app.1 h3
   exact ⟨w,⟨h1,y,h2,w1⟩,w2⟩
  ·rintro ⟨w,⟨h1,y,h2,h3⟩,h4⟩
   exact ⟨h1,y,h2,path_app.2 ⟨w,h3,h4⟩⟩
theorem path_of {nx : List Int} : ∀ {f : List Int} {x z : Int},(f++[z])[0]?=some x→(∀ i (h : i < f.length),nx[f[i].toNat]?=(f++[z])[i+1]?)→Path nx x f z
 | [],x,z,h,_=>by simpa [Path] using h.symm
 | a :: f,x,z,h,h2=>by
  have hx : a=x:=by simpa using h
  have h0:=h2 0 (by simp)
  obtain ⟨y,hy⟩ : ∃ y,(f++[z])[0]?=some y:=⟨_,List.getElem?_eq_getElem (by simp)⟩
  refine ⟨hx,y,?_,path_of hy fun i hi=>?_⟩
  ·rw [← hx]
   rw [show ((a :: f)++[z])[0+1]?=(f++[z])[0]? from rfl,hy] at h0
   simpa using h0
  ·have:=h2 (i+1) (by simpa using hi)
   simpa using this
theorem cyc_path {nx : List Int} {x : Int} {f : List Int} (h : Cyc nx (x :: f)) : Path nx x (x :: f) x:=by
 refine path_of (by simp) fun i hi=>?_
 rw [h.2 i hi]
 by_cases e : i+1 < (x :: f).length
 ·rw [Nat.mod_eq_of_lt e,List.getD_eq_getElem?_getD,List.getElem?_append_left e,List.getElem?_eq_getElem e]; rfl
 ·have e2 : i+1=(x :: f).length:=by omega
  rw [e2,Nat.mod_self,List.getElem?_append_right (by omega)]
  simp
theorem cyc_rot {nx p q : List Int} (h : Cyc nx (p++q)) : Cyc nx (q++p):=by
 cases p with
 | nil=>simpa using h
 | cons a p =>
  cases q with
  | nil=>simpa using h
  | cons b q =>
   have h1:=cyc_path (x:=a) (f:=p++b :: q) h
   obtain ⟨y,h2,h3⟩:=path_app (f:=a :: p) (g:=b :: q).1 h1
   have : b=y:=h3.1
   subst this
   exact path_cyc (x:=b) (path_app.2 ⟨a,h3,h2⟩) (by simp)
theorem pigeon {n m : Nat} (φ : Nat→Nat) (h1 : ∀ i,i < n→φ i < m) (h2 : ∀ i j,i < n→j < n→φ i=φ j→i=j) : n≤m:=by
 have hn : ((List.range n).map φ).Nodup:=by
  refine List.pairwise_map.2 (List.Pairwise.imp_of_mem (fun {a b} ha hb hab e=>?_) List.nodup_range)
  exact hab (h2 a b (List.mem_range.1 ha) (List.mem_range.1 hb) e)
 have:=nodup_le m _ hn (by
  intro x hx
  obtain ⟨i,hi,rfl⟩:=List.mem_map.1 hx
  exact h1 i (List.mem_range.1 hi))
 simpa using this
end Go.Vm

/-
 The faces of darts.
-/
import Derived.Test.YtpgfkljmcacegaaDoorN29I
set_option linter.unusedVariables false
set_option linter.unusedSimpArgs false
namespace Go.Vm
open Go.Proofs
set_option maxRecDepth 100000
attribute [local irreducible] loopFix
def setAll (out f : List Int) (i : Int) : List Int:=f.foldl (fun o d=>o.set d.toNat i) out
def markAll : List Int→Nat→List (List Int)→List Int
 | out,_,[]=>out
 | out,i,f :: fs=>markAll (setAll out f (i : Int)) (i+1) fs
theorem setAll_len (i : Int) : ∀ (f out : List Int),(setAll out f i).length=out.length
 | [],out=>rfl
 | d :: f,out=>by
  show (setAll (out.set d.toNat i) f i).length=_
  rw [setAll_len i f]; simp
theorem setAll_not (i : Int) {k : Nat} : ∀ {f out : List Int},(∀ d∈f,∃ x : Nat,d=(x : Int))→(k : Int)∉f→(setAll out f i)[k]?=out[k]?
 | [],out,_,_=>rfl
 | d :: f,out,hd,hk=>by
  show (setAll (out.set d.toNat i) f i)[k]?=_
  obtain ⟨x,rfl⟩:=hd d (by simp)
  rw [setAll_not i (fun d hd'=>hd d (by simp [hd'])) (fun h=>hk (by simp [h])),List.getElem?_set]
  rw [if_neg]
  intro e
  simp only [Int.toNat_natCast] at e
  subst e
  exact hk (by simp)
theorem setAll_mem (i : Int) {k : Nat} : ∀ {f out : List Int},(∀ d∈f,∃ x : Nat,d=(x : Int))→(k : Int)∈f→k < out.length→(setAll out f i)[k]?=some i
 | [],out,_,hk,_=>by simp at hk
 | d :: f,out,hd,hk,hl=>by
  show (setAll (out.set d.toNat i) f i)[k]?=_
  have hd' : ∀ d∈f,∃ x : Nat,d=(x : Int):=fun d hd'=>hd d (by simp [hd'])
  by_cases hf : (k : Int)∈f
  ·exact setAll_mem i hd' hf (by simpa using hl)
  ·rw [setAll_not i hd' hf]
   rcases List.mem_cons.1 hk with rfl | hk
   ·simp [hl]
   ·exact absurd hk hf
theorem markAll_not {k : Nat} : ∀ {fs : List (List Int)} {out : List Int} {i : Nat},(∀ f∈fs,∀ d∈f,∃ x : Nat,d=(x : Int))→(k : Int)∉fs.flatten→(markAll out i fs)[k]?=out[k]?
 | [],_,_,_,_=>rfl
 | f :: fs,out,i,hd,hk=>by
  unfold markAll
  simp only [List.flatten_cons,List.mem_append,not_or] at hk
  rw [markAll_not (fun f hf=>hd f (by simp [hf])) hk.2,setAll_not _ (hd f (by simp)) hk.1]
theorem markAll_mem {k : Nat} : ∀ {fs : List (List Int)} {out : List Int} {i j : Nat} {f : List Int},(∀ f∈fs,∀ d∈f,∃ x : Nat,d=(x : Int))→fs.flatten.Nodup→fs[j]?=some f→(k : Int)∈f→k < out.length→(markAll out i fs)[k]?=some ((i+j : Nat) : Int)
 | [],_,_,_,_,_,_,h,_,_=>by simp at h
 | g :: fs,out,i,j,f,hd,hn,hj,hk,hl=>by
  unfold markAll
  rw [List.flatten_cons,List.nodup_append] at hn
  obtain ⟨_,n2,n3⟩:=hn
  cases j with
  | zero =>
   simp at hj
   subst hj
   rw [markAll_not (fun f hf=>hd f (by simp [hf])) (fun h=>n3 _ hk _ h rfl),setAll_mem _ (hd g (by simp)) hk hl]
   rfl
  | succ j =>
   rw [markAll_mem (j:=j) (fun f hf=>hd f (by simp [hf])) n2 (by simpa using hj) hk (by rw [setAll_len]; exact hl)]
   congr 2
   omega
structure FsOK (L : Nat) (fs : List (List Int)) : Prop where
 elem : ∀ f∈fs,f≠[]∧∀ d∈f,∃ k : Nat,d=(k : Int)∧k < L
 nodup : fs.flatten.Nodup
 cover : ∀ k,k < L→(k : Int)∈fs.flatten
 num : fs.length≤L
theorem FsOK.nat {L : Nat} {fs : List (List Int)} (h : FsOK L fs) : ∀ f∈fs,∀ d∈f,∃ x : Nat,d=(x : Int):=fun f hf d hd=>by
 obtain ⟨k,e,_⟩:=(h.elem f hf).2 d hd; exact ⟨k,e⟩
def marksOf (L : Nat) (fs : List (List Int)) : List Int:=markAll (List.replicate L 0) 0 fs
theorem marksOf_at {L : Nat} {fs : List (List Int)} (h : FsOK L fs) {j k : Nat} {f : List Int} (hj : fs[j]?=some f) (hk : (k : Int)∈f) : (marksOf L fs)[k]?=some (j : Int):=by
 obtain ⟨x,e,hx⟩:=(h.elem f (List.mem_of_getElem? hj)).2 _ hk
 have : k=x:=by omega
 subst this
 unfold marksOf
 rw [markAll_mem h.nat h.nodup hj hk (by simpa using hx)]
 simp
theorem FsOK.face {L : Nat} {fs : List (List Int)} (h : FsOK L fs) {k : Nat} (hk : k < L) : ∃ j f,fs[j]?=some f∧(k : Int)∈f∧j < fs.length:=by
 obtain ⟨f,hf,hkf⟩:=List.mem_flatten.1 (h.cover k hk)
 obtain ⟨j,hj⟩:=List.mem_iff_getElem?.1 hf
 exact ⟨j,f,hj,hkf,(List.getElem?_eq_some_iff.1 hj).1⟩
theorem marksOf_some {L : Nat} {fs : List (List Int)} (h : FsOK L fs) {k : Nat} (hk : k < L) : ∃ j : Nat,j < fs.length∧(marksOf L fs)[k]?=some (j : Int)∧∃ f,fs[j]?=some f∧(k : Int)∈f:=by
 obtain ⟨j,f,h1,h2,h3⟩:=h.face hk
 exact ⟨j,h3,marksOf_at h h1 h2,f,h1,h2⟩
section
variable {N : Nat} {E : List Arc} {A : List (List Int)}
end
end Go.Vm

/-
 The faces of darts.
-/
import Derived.Test.YtnnbdielbgljaaaDoorP29I
set_option linter.unusedVariables false
set_option linter.unusedSimpArgs false
namespace Go.Vm
open Go.Proofs
set_option maxRecDepth 100000
attribute [local irreducible] loopFix
def setAll (out f : List Int) (i : Int) : List Int:=f.foldl (fun o d=>o.set d.toNat i) out
def markAll : List Int→Nat→List (List Int)→List Int
 | out,_,[]=>out
 | out,i,f :: fs=>markAll (setAll out f (i : Int)) (i+1) fs
structure FsOK (L : Nat) (fs : List (List Int)) : Prop where
 elem : ∀ f∈fs,f≠[]∧∀ d∈f,∃ k : Nat,d=(k : Int)∧k < L
 nodup : fs.flatten.Nodup
 cover : ∀ k,k < L→(k : Int)∈fs.flatten
 num : fs.length≤L
def marksOf (L : Nat) (fs : List (List Int)) : List Int:=markAll (List.replicate L 0) 0 fs
section
variable {N : Nat} {E : List Arc} {A : List (List Int)}
end
end Go.Vm

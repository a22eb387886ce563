/-
 Faces are cycles.
-/
import Derived.Test.YtnnbdielbgljaaaDoorP29I
set_option linter.unusedVariables false
set_option linter.unusedSimpArgs false
namespace Go.Vm
open Go.Proofs
set_option maxRecDepth 100000
attribute [local irreducible] loopFix
def Path (nx : List Int) : Int→List Int→Int→Prop
 | x,[],z=>x=z
 | x,a :: f,z=>a=x∧∃ y,nx[x.toNat]?=some y∧Path nx y f z
def Cyc (nx : List Int) (f : List Int) : Prop:=f≠[]∧∀ i (h : i < f.length),nx[f[i].toNat]?=some (f.getD ((i+1) % f.length) 0)
def Inj (nx : List Int) : Prop:=∀ (a b : Nat) (y : Int),nx[a]?=some y→nx[b]?=some y→a=b
def Rel (nx nx' : List Int) : Prop:=∀ (k y : Nat),nx[k]?=some (y : Int)→nx'[oth y]?=some ((oth k : Nat) : Int)
def NatL (f : List Int) : Prop:=∀ x∈f,∃ k : Nat,x=(k : Int)
end Go.Vm

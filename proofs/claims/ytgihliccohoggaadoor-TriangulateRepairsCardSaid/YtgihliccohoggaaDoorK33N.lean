/-
  What an edge asks that is put in.
-/
import Derived.Test.YtgihliccohoggaaDoorK33A
set_option linter.unusedVariables false
set_option linter.unusedSimpArgs false
namespace Go.Vm
open Go.Proofs
set_option maxRecDepth 100000
attribute [local irreducible] loopFix
def insA (A : List (List Int)) (u v m : Nat) (d f : Int) : List (List Int) := (A.set u (bef (subL A u) (2 * m : Nat) d)).set v (bef (subL A v) (2 * m + 1 : Nat) f)
structure EdgeOK (N : Nat) (E : List Arc) (A : List (List Int)) (d f u v : Nat) : Prop where
  rot : RotOK (N : Nat) E A
  val : validB ((N : Int), E, A, ()) = true
  d2 : d < 2 * E.length
  f2 : f < 2 * E.length
  tu : tl E d = u
  tv : tl E f = v
  un : u < N
  vn : v < N
  ne : u ≠ v
  m : E.length < 32768
  face : ∃ nx, Fol oth E A nx ∧ NxOK nx nx.length ∧ FsOK (2 * E.length) (facesOf nx) ∧ ∃ a : Int, (marksOf (2 * E.length) (facesOf nx))[d]? = some a ∧ (marksOf (2 * E.length) (facesOf nx))[f]? = some a
end Go.Vm

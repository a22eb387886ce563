/-
  The genus of a system with a new edge.
-/
import Derived.Test.YtgihliccohoggaaDoorK33G
set_option linter.unusedVariables false
set_option linter.unusedSimpArgs false
namespace Go.Vm
open Go.Proofs
set_option maxRecDepth 100000
attribute [local irreducible] loopFix
section
variable {N : Nat} {E : List Arc} {A : List (List Int)} {d f u v : Nat}
theorem EdgeOK.join (h : EdgeOK N E A d f u v) : Reach E u v := by
  obtain ⟨nx, hn, _, hf, a, ma, mb⟩ := h.face
  obtain ⟨j, j1, j2, g, j3, j4⟩ := marksOf_some hf h.d2
  obtain ⟨j', j1', j2', g', j3', j4'⟩ := marksOf_some hf h.f2
  rw [ma] at j2
  rw [mb] at j2'
  have : j = j' := by
    have e1 := Option.some.inj j2
    have e2 := Option.some.inj j2'
    omega
  subst this
  rw [j3] at j3'
  have : g = g' := Option.some.inj j3'
  subst this
  exact face_reach h.rot hn (List.mem_of_getElem? j3) j4 j4' h.tu h.tv
theorem bef_nonempty {l : List Int} {d f : Int} (h : f ∈ l) : (bef l d f).isEmpty = false ∧ l.isEmpty = false := by
  have h1 : f ∈ bef l d f := bef_mem.2 (.inl h)
  constructor
  · cases hb : bef l d f with
    | nil => rw [hb] at h1; simp at h1
    | cons a b => rfl
  · cases l with
    | nil => simp at h
    | cons a b => rfl
theorem EdgeOK.emp (h : EdgeOK N E A d f u v) : emp (insA A u v E.length d f) = emp A := by
  have hal := h.al
  have hu : u < A.length := by rw [hal]; exact h.un
  have hv : v < A.length := by rw [hal]; exact h.vn
  unfold insA
  have e1 : subL (A.set u (bef (subL A u) ((2 * E.length : Nat) : Int) (d : Int))) v = subL A v := by
    rw [subL_eq (by simpa using hv), subL_eq hv, List.getElem_set_ne h.ne]
  rw [emp_set (by simpa using hv) (by rw [e1, (bef_nonempty h.mv).1, (bef_nonempty (d := 0) h.mv).2]), emp_set hu (by rw [(bef_nonempty h.mu).1, (bef_nonempty (d := 0) h.mu).2])]
theorem EdgeOK.genus (h : EdgeOK N E A d f u v) {nx nx' : List Int} (hn : Fol oth E A nx) (hn' : Fol oth (E ++ [((u : Int), (v : Int), ())]) (insA A u v E.length d f) nx') :
    genZ N (E ++ [((u : Int), (v : Int), ())]) (insA A u v E.length d f) (facesOf nx').length = genZ N E A (facesOf nx).length := by
  unfold genZ
  rw [h.faces hn hn', h.emp, comps_congr (N := N) fun x y => reach_new h.join]
  congr 2
  simp
  omega
end
end Go.Vm

/-
  Routes of the program.
-/
import Derived.Test.YtkedmhafnkafdaaDoorM32H
set_option linter.unusedVariables false
set_option linter.unusedSimpArgs false
namespace Go.Vm
open Go.Proofs
set_option maxRecDepth 100000
attribute [local irreducible] loopFix

theorem Rt.congr {M : Nat} {fc D : Nat → Nat} {P P' : Nat → Prop} : ∀ {s : Nat} {l : List Int}, Rt M fc D P s l → (∀ f, D f = s → (P f ↔ P' f)) → Rt M fc D P' s l
  | 0, _, h, _ => h
  | s + 1, _, ⟨k, t, a1, a2, a3, a4, a5⟩, hP => ⟨k, t, a1, ⟨(hP _ a2.2.1).1 a2.1, a2.2⟩, fun j hj hc => a3 j hj ⟨(hP _ hc.2.1).2 hc.1, hc.2⟩, a4, a5⟩

section
variable {N : Nat} {E : List Arc} {A : List (List Int)} {nx m : List Int} {n : Nat}

/-- What Distance and Route give: the distances D, the least of those around u, and the route. -/
def RouteOf (E : List Arc) (m : List Int) (n : Nat) (lu lv : List Int) (D : Nat → Nat) (s : Nat) (l : List Int) : Prop :=
  (∀ f, f < n → IsDist (AdjF (2 * E.length) (fcM m)) (fun f => (f : Int) ∈ aroundL m lv) f (D f)) ∧ (∃ f : Nat, (f : Int) ∈ aroundL m lu ∧ f < n ∧ D f = s) ∧ (∀ f : Nat, (f : Int) ∈ aroundL m lu → s ≤ D f) ∧
    Rt E.length (fcM m) D (fun f => (f : Int) ∈ aroundL m lu) s l

theorem Pla.small (p : Pla N E A nx m n) : n ≤ 200 + 1 := by
  have := p.fs.num
  have := p.few
  have := p.n
  omega

theorem Pla.route (p : Pla N E A nx m n) (c1 : dual_check (((N : Int), E, A, ()), ()) = some (0, ())) (k1 : dual_numbers (((N : Int), E, A, ()), ()) = some (m, (n : Int), ())) {u v : Nat} {lu lv : List Int} (hu : A[u]? = some lu) (hv : A[v]? = some lv) (huv : u ≠ v)
    (hlu : lu.length ≤ 100) (hlv : lv.length ≤ 100) :
    ∃ D s l, RouteOf E m n lu lv D s l ∧ dual_Route (((N : Int), E, A, ()), (u : Int), (v : Int), ()) = some (l, 0, ()) := by
  have hn := p.small
  have hE := p.few
  have hAl : A.length = N := by have := p.rot.len; omega
  have huN : u < N := by rw [← hAl]; exact (List.getElem?_eq_some_iff.1 hu).1
  have hvN : v < N := by rw [← hAl]; exact (List.getElem?_eq_some_iff.1 hv).1
  have hml : m.length = 2 * E.length := p.fc.len
  have hlm : ∀ l ∈ A, ∀ d ∈ l, ∃ k : Nat, d = (k : Int) ∧ k < m.length := by
    intro l hl d hd
    obtain ⟨k, e, hk⟩ := p.rot.mem_of hl hd
    exact ⟨k, e, by omega⟩
  have p1 := around_eq (N : Int) E A m lu u hu (hlm _ (List.mem_of_getElem? hu)) (by omega)
  have p2 := around_eq (N : Int) E A m lv v hv (hlm _ (List.mem_of_getElem? hv)) (by omega)
  have gu := p.goals_nat (List.mem_of_getElem? hu)
  have gv := p.goals_nat (List.mem_of_getElem? hv)
  have nu := p.goals_ne (List.mem_of_getElem? hu)
  have lnu := around_len m lu
  have lnv := around_len m lv
  obtain ⟨dist, d1, d2, d3⟩ := distances_eq (N := (N : Int)) (A := A) p.fc hE (by omega) (aroundL m lv) gv (by omega) (p.hconn (List.mem_of_getElem? hv))
  obtain ⟨D, hDdef⟩ : ∃ D : Nat → Nat, ∀ f, D f = ((dist[f]?).getD 0).toNat := ⟨_, fun _ => rfl⟩
  have hD : ∀ f, f < n → dist[f]? = some (D f : Int) ∧ IsDist (AdjF (2 * E.length) (fcM m)) (fun f => (f : Int) ∈ aroundL m lv) f (D f) := by
    intro f hf
    obtain ⟨d, e1, e2⟩ := d3 f hf
    have : D f = d := by rw [hDdef, e1]; rfl
    rw [this]; exact ⟨e1, e2⟩
  have hS : ∀ f : Nat, (f : Int) ∈ aroundL m lv → f < n := by
    intro f hf
    obtain ⟨g, e, hg⟩ := gv _ hf
    omega
  have hA : ∀ f g, AdjF (2 * E.length) (fcM m) f g → f < n := by
    rintro f g ⟨k, hk, rfl, _⟩
    exact p.fc.lt k hk
  have hDn : ∀ f, f < n → D f ≤ 1000 := by
    intro f hf
    have := (hD f hf).2.lt hS hA
    omega
  have hlab : ∀ f, f < n → lab dist f = (D f : Int) := fun f hf => by unfold lab; rw [(hD f hf).1]; rfl
  obtain ⟨z, z1, z2, z3⟩ := least_eq (dist := dist) (aroundL m lu) nu (fun x hx => by obtain ⟨f, e, hf⟩ := gu x hx; exact ⟨f, e, by omega⟩) (fun f hf => by rw [hlab f (by omega)]; have := hDn f (by omega); omega) (by omega)
  obtain ⟨g, rfl, hg⟩ := gu z z2
  have q := delete_eq (dist := dist) (left := (D g : Int)) (aroundL m lu) (fun x hx => by obtain ⟨f, e, hf⟩ := gu x hx; exact ⟨f, e, by omega⟩) (by omega)
  have hkeep : ∀ f : Nat, D f = D g → ((f : Int) ∈ keep dist (D g : Int) (aroundL m lu) ↔ (f : Int) ∈ aroundL m lu) := by
    intro f hf
    unfold keep
    rw [List.mem_filter]
    constructor
    · exact fun h => h.1
    · intro h
      refine ⟨h, ?_⟩
      obtain ⟨f', e, hfn⟩ := gu _ h
      have : f = f' := by omega
      subst this
      simp [hlab f hfn, hf]
  have hlen : (keep dist (D g : Int) (aroundL m lu)).length ≤ 1000 := Nat.le_trans (List.length_filter_le _ _) (by omega)
  obtain ⟨l, l1, l2⟩ := route_loop (N := (N : Int)) (A := A) (dist := dist) (fun f hf => (hD f hf).2) p.fc hE (fun f hf => (hD f hf).1) hDn (D g) (keep dist (D g : Int) (aroundL m lu)) [] hlen (hDn g hg) (by have := hDn g hg; simp; omega) ⟨g, (hkeep g rfl).2 z2, hg, rfl⟩
  refine ⟨D, D g, l, ⟨fun f hf => (hD f hf).2, ⟨g, z2, hg, rfl⟩, ?_, l2.congr hkeep⟩, ?_⟩
  · intro f hf
    obtain ⟨f', e, hfn⟩ := gu _ hf
    have : f = f' := by omega
    subst this
    have := z3 _ hf
    simp only [Int.toNat_natCast] at this
    rw [hlab f hfn, hlab g hg] at this
    omega
  · unfold dual_Route
    simp only
    rw [c1, Option.bind_some]
    simp only
    rw [neI_f rfl, cond_false, ltI_f (by omega), cond_false, geI_f (by omega), cond_false, ltI_f (by omega), cond_false, geI_f (by omega), cond_false, eqI_f (by omega), cond_false, k1, Option.bind_some]
    simp only
    rw [p2, Option.bind_some]
    simp only
    rw [d1, Option.bind_some]
    simp only
    rw [p1, Option.bind_some]
    simp only
    rw [z1, Option.bind_some]
    simp only
    rw [idxI_of (by omega), Option.bind_some, (hD g hg).1, Option.bind_some, q, Option.bind_some]
    simp only
    rw [l1]
    rfl
end

/-- The two cases of a system: an error, or a system in the plane. -/
theorem cases32 (N : Int) (E : List Arc) (A : List (List Int)) (hE : E.length ≤ 100) (hl : ∀ l ∈ A, l.length ≤ 100) :
    (∃ e, e ≠ 0 ∧ dual_check ((N, E, A, ()), ()) = some (e, ()) ∧ layoutref32_Build ((N, E, A, ()), ()) = some ((0, [], ()), e, ())) ∨
    ∃ (k : Nat) (nx m : List Int) (n : Nat), N = (k : Int) ∧ validB ((k : Int), E, A, ()) = true ∧ 0 < k ∧ Pla k E A nx m n ∧ dual_check ((N, E, A, ()), ()) = some (0, ()) ∧ dual_numbers ((N, E, A, ()), ()) = some (m, (n : Int), ()) ∧ layoutref32_Marks ((N, E, A, ()), ()) = some (m, ()) ∧
      rotation_Faces ((N, E, A, ()), ()) = some (facesOf nx, ()) ∧ layoutref32_Build ((N, E, A, ()), ()) = some (((n : Int), arcsFrom m 0 E.length, ()), 0, ()) := by
  rcases build32 N E A hE (fun l h => by have := hl l h; omega) with ⟨e, he, c1, c2, c3⟩ | ⟨k, fs, rfl, h, hvv, hk, hc, hf, ⟨nx, f1, rfl, f3⟩, c1, r1, r2, k1, k2, b1, b2⟩
  · exact .inl ⟨e, he, c1, c3⟩
  · have hmx : maxI 1 ((facesOf nx).length : Nat) = ((max 1 (facesOf nx).length : Nat) : Int) := by unfold maxI; split <;> omega
    rw [hmx] at k1 b2
    exact .inr ⟨k, nx, _, _, rfl, hvv, hk, ⟨h, hc, f1, f3, hf, hE, rfl, rfl⟩, c1, k1, k2, r1, b2⟩

/-- Route and Distance of the program. -/
theorem droute32 (N : Int) (E : List Arc) (A : List (List Int)) (u v : Int) :
    ∀ l e, dual_Route ((N, E, A, ()), u, v, ()) = some (l, e, ()) → dual_Distance ((N, E, A, ()), u, v, ()) = some (((l.length : Nat) : Int), e, ()) := by
  intro l e h
  unfold dual_Distance
  simp only
  rw [h]; rfl
end Go.Vm

/-
 Components, counted.
-/
import Derived.Test.YtnnbdielbgljaaaDoorP29V
set_option linter.unusedVariables false
set_option linter.unusedSimpArgs false
namespace Go.Vm
open Go.Proofs
set_option maxRecDepth 100000
attribute [local irreducible] loopFix
section
variable {N : Nat} {E : List Arc} {A : List (List Int)}
def MinV (E : List Arc) (v : Nat) : Prop:=∀ u,u < v→¬ Reach E u v
open Classical in
noncomputable def minB (E : List Arc) (v : Nat) : Bool:=decide (MinV E v)
noncomputable def comps (N : Nat) (E : List Arc) : Nat:=(List.range N).countP (minB E)
structure LookQ (N : Nat) (E : List Arc) (Q : Nat→Prop) (seen0 seen : List Bool) (st : List Int) : Prop where
 len : seen.length=N
 stk : ∀ d∈st,∃ v : Nat,d=(v : Int)∧v < N∧seen[v]?=some true
 closed : ∀ v : Nat,v < N→seen[v]?=some true→(v : Int)∉st→∀ k w : Nat,k < 2 * E.length→tl E k=v→hd E k=w→seen[w]?=some true
 reach : ∀ v : Nat,v < N→seen[v]?=some true→Q v
 keep : ∀ v : Nat,v < N→seen0[v]?=some true→seen[v]?=some true
theorem LookQ.step (h : RotOK (N : Nat) E A) {Q : Nat→Prop} (hQ : ∀ v w k : Nat,Q v→k < 2 * E.length→tl E k=v→hd E k=w→Q w) {seen0 seen seen' : List Bool} {st new : List Int} {v : Nat} {l : List Int} (hL : LookQ N E Q seen0 seen st) (hvN : v < N) (hv : (v : Int)∈st) (hl : A[v]?=some l) (rest : List Int) (hrest : ∀ d,d∈st↔d=(v : Int)∨d∈rest)
  (h2 : seen'.length=N) (h4 : ∀ v,v < N→(seen'[v]?=some true↔seen[v]?=some true∨∃ k : Nat,(k : Int)∈l∧hd E k=v)) (h5 : ∀ v : Nat,v < N→seen'[v]?=some true→seen[v]?=some true∨(v : Int)∈new)
  (h6 : ∀ d∈new,∃ v : Nat,d=(v : Int)∧v < N∧seen'[v]?=some true) : LookQ N E Q seen0 seen' (rest++new):=by
 refine ⟨h2,?_,?_,?_,?_⟩
 ·intro d hd'
  rcases List.mem_append.1 hd' with hd' | hd'
  ·obtain ⟨u,e1,e2,e3⟩:=hL.stk d ((hrest d).2 (.inr hd'))
   exact ⟨u,e1,e2,(h4 u e2).2 (.inl e3)⟩
  ·exact h6 d hd'
 ·intro u hu hus hun k w hk hkt hkh
  obtain ⟨w',hw',hwN⟩:=h.hd_lt hk
  have : w=w':=by omega
  subst this
  rcases h5 u hu hus with hus | hus
  ·by_cases e : u=v
   ·subst e
    exact (h4 w hwN).2 (.inr ⟨k,h.around hk hkt hl,hkh⟩)
   ·refine (h4 w hwN).2 (.inl (hL.closed u hu hus (fun hin=>?_) k w hk hkt hkh))
    rcases (hrest u).1 hin with e2 | e2
    ·exact e (by omega)
    ·exact hun (List.mem_append.2 (.inl e2))
  ·exact absurd (List.mem_append.2 (.inr hus)) hun
 ·intro u hu hus
  rcases (h4 u hu).1 hus with hus | ⟨k,hk,hkh⟩
  ·exact hL.reach u hu hus
  ·obtain ⟨_,e1,e2,e3⟩:=hL.stk v hv
   have hvv : v=_:=Int.ofNat.inj e1
   obtain ⟨k',f1,f2,f3⟩:=h.dart v l hl _ hk
   have : k=k':=by omega
   subst this
   exact hQ v u k (hL.reach v hvN (by rw [hvv]; exact e3)) f2 f3 hkh
 ·intro u hu hus
  exact (h4 u hu).2 (.inl (hL.keep u hu hus))
structure Done (N : Nat) (E : List Arc) (k : Nat) (seen : List Bool) : Prop where
 len : seen.length=N
 closed : ∀ v : Nat,v < N→seen[v]?=some true→∀ d w : Nat,d < 2 * E.length→tl E d=v→hd E d=w→seen[w]?=some true
 old : ∀ v : Nat,v < k→v < N→seen[v]?=some true
 from' : ∀ v : Nat,v < N→seen[v]?=some true→∃ u,u < k∧Reach E u v
theorem Done.reach (h : RotOK (N : Nat) E A) {k : Nat} {seen : List Bool} (hD : Done N E k seen) : ∀ {u v : Nat},Reach E u v→u < N→seen[u]?=some true→seen[v]?=some true:=by
 intro u v hr
 induction hr with
 | refl=>intro _ h; exact h
 | step hr' hk e1 e2 ih =>
  intro hu hs
  obtain ⟨u',e3,e4⟩:=h.tl_lt hk
  rw [e1] at e3
  have : _=u':=Int.ofNat.inj e3
  subst this
  exact hD.closed _ e4 (ih hu hs) _ _ hk e1 e2
end
end Go.Vm

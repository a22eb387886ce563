/-
 A set of faces of a connected plane system: its vertices, edges and faces in number; where angles and directions are given, no set without the outer face is closed upwards.
-/
import Derived.Test.YtpgfkljmcacegaaDoorN42B
set_option linter.unusedVariables false
set_option linter.unusedSimpArgs false
namespace Go.Vm
set_option maxRecDepth 100000
def bi (b : Bool) : Int := cond b 1 0
theorem bi_t {b : Bool} (h : b = true) : bi b = 1 := by rw [h]; rfl
theorem sum_fibre {n F : Nat} {fc : Nat → Nat} (hF : ∀ d, d < n → fc d < F) (s : Nat → Int) (h : Nat → Int) : sumTo n (fun d => s (fc d) * h d) = sumTo F (fun f => s f * sumTo n (fun d => if fc d = f then h d else 0)) := by
 rw [sumTo_congr (n := F) (g := fun f => sumTo n (fun d => if fc d = f then s f * h d else 0)) (fun f _ => by
  rw [← sumTo_mul]
  exact sumTo_congr fun d _ => by split <;> simp)]
 rw [← sumTo_comm (fun d f => if fc d = f then s f * h d else 0) F n]
 refine sumTo_congr fun d hd => ?_
 rw [sumTo_one (hF d hd) (fun i _ hne => by rw [if_neg (Ne.symm hne)])]
 simp
theorem sumTo_split (f : Nat → Int) (m : Nat) : ∀ k, sumTo (m + k) f = sumTo m f + sumTo k (fun i => f (m + i))
 | 0 => by simp [sumTo]
 | k + 1 => by
  rw [show m + (k + 1) = (m + k) + 1 by omega, sumTo_succ, sumTo_split f m k, sumTo_succ]
  omega
structure Plane (V F M : Nat) (tl fc fw : Nat → Nat) : Prop where
 tlt : ∀ d, d < 2 * M → tl d < V
 fct : ∀ d, d < 2 * M → fc d < F
 fwt : ∀ d, d < 2 * M → fw d < 2 * M
 inj : ∀ a b, a < 2 * M → b < 2 * M → fw a = fw b → a = b
 tlf : ∀ d, d < 2 * M → tl (fw d) = tl d
 fcf : ∀ d, d < 2 * M → fc (fw d) = fc (oth d)
 cV : ∀ L : Nat → Nat, (∀ d, d < 2 * M → L (tl d) = L (tl (oth d))) → ∀ x, x < V → L x = L 0
 cF : ∀ L : Nat → Nat, (∀ d, d < 2 * M → L (fc d) = L (fc (oth d))) → ∀ x, x < F → L x = L 0
 around : ∀ P : Nat → Prop, (∀ d, d < 2 * M → P d → P (fw d)) → ∀ a b, a < 2 * M → b < 2 * M → tl a = tl b → P a → P b
 pos : 0 < V
 posF : 0 < F
 euler : V + F = M + 2
theorem oth_lt2 {d M : Nat} (h : d < 2 * M) : oth d < 2 * M := by
 unfold oth
 split <;> omega
theorem oth_two (d : Nat) : oth (oth d) = d := by
 unfold oth
 split <;> split <;> omega
theorem both_ends {M : Nat} (L p : Nat → Nat) (h : ∀ i, i < M → L (p (2 * i)) = L (p (2 * i + 1))) : ∀ d, d < 2 * M → L (p d) = L (p (oth d)) := by
 intro d hd
 rcases Nat.mod_two_eq_zero_or_one d with e | e
 ·have : d = 2 * (d / 2) := by omega
  rw [this, oth_ev]; exact h _ (by omega)
 ·have : d = 2 * (d / 2) + 1 := by omega
  rw [this, oth_od]; exact (h _ (by omega)).symm
section
variable {V F M : Nat} {tl fc fw : Nat → Nat}
theorem Plane.H1 (p : Plane V F M tl fc fw) (y g : Nat → Int) : sumTo M (fun i => (y (fc (2 * i)) - y (fc (2 * i + 1))) * (g (tl (2 * i + 1)) - g (tl (2 * i)))) = 0 :=
 plane_H1 (nx := fun d => fw (oth d)) (fun d hd => p.fwt _ (oth_lt2 hd)) (fun a b ha hb e => by
  have := p.inj _ _ (oth_lt2 ha) (oth_lt2 hb) e
  rw [← oth_two a, this, oth_two]) (fun d hd => by rw [p.fcf _ (oth_lt2 hd), oth_two]) (fun d hd => p.tlf _ (oth_lt2 hd)) y g
theorem filter_two {α : Type} (q : α → Bool) : ∀ l : List α, (l.filter q).length + (l.filter fun x => !q x).length = l.length
 | [] => rfl
 | a :: l => by
  have := filter_two q l
  rw [List.filter_cons, List.filter_cons]
  cases q a <;> simp <;> omega
theorem dart_two {M d : Nat} (hd : d < 2 * M) : ∃ i, i < M ∧ ((d = 2 * i ∧ oth d = 2 * i + 1) ∨ (d = 2 * i + 1 ∧ oth d = 2 * i)) := by
 refine ⟨d / 2, by omega, ?_⟩
 unfold oth
 split <;> omega
theorem order (eS : Nat → Bool) (M : Nat) : ∃ (π : Nat → Nat) (m : Nat), m ≤ M ∧ (∀ i, i < M → π i < M) ∧ (∀ a b, a < M → b < M → π a = π b → a = b) ∧ (∀ i, i < m → eS (π i) = true) ∧ (∀ i, m ≤ i → i < M → eS (π i) = false) ∧
  sumTo M (fun i => bi (eS i)) = m := by
 let LS := (List.range M).filter eS
 let LO := (List.range M).filter fun i => !eS i
 have hlen : LS.length + LO.length = M := by
  have := filter_two eS (List.range M)
  rwa [List.length_range] at this
 have hnd : (LS ++ LO).Nodup := by
  rw [List.nodup_append]
  refine ⟨List.nodup_range.filter _, List.nodup_range.filter _, ?_⟩
  intro a ha b hb hab
  subst hab
  have h1 := (List.mem_filter.1 ha).2
  have h2 := (List.mem_filter.1 hb).2
  rw [h1] at h2; cases h2
 have hl : (LS ++ LO).length = M := by rw [List.length_append]; exact hlen
 have get : ∀ i (hi : i < M), (LS ++ LO).getD i 0 = (LS ++ LO)[i]'(by omega) := fun i hi => by
  rw [List.getD_eq_getElem?_getD, List.getElem?_eq_getElem (by omega)]; rfl
 have hsum : ∀ n, sumTo n (fun i => bi (eS i)) = (((List.range n).filter eS).length : Nat) := by
  intro n
  induction n with
  | zero => rfl
  | succ n ih =>
   rw [sumTo_succ, ih, List.range_succ, List.filter_append, List.length_append]
   cases h : eS n <;> simp [h, bi]
 refine ⟨fun i => (LS ++ LO).getD i 0, LS.length, by omega, ?_, ?_, ?_, ?_, hsum M⟩
 ·intro i hi
  simp only
  rw [get i hi]
  have := List.getElem_mem (l := LS ++ LO) (n := i) (by omega)
  rcases List.mem_append.1 this with h | h
  ·exact List.mem_range.1 (List.mem_filter.1 h).1
  ·exact List.mem_range.1 (List.mem_filter.1 h).1
 ·intro a b ha hb e
  simp only at e
  rw [get a ha, get b hb] at e
  rcases Nat.lt_trichotomy a b with c | c | c
  ·exact absurd e (List.pairwise_iff_getElem.1 hnd _ _ (by omega) (by omega) c)
  ·exact c
  ·exact absurd e.symm (List.pairwise_iff_getElem.1 hnd _ _ (by omega) (by omega) c)
 ·intro i hi
  simp only
  rw [get i (by omega), List.getElem_append_left hi]
  exact (List.mem_filter.1 (List.getElem_mem hi)).2
 ·intro i h1 h2
  simp only
  rw [get i h2, List.getElem_append_right h1]
  have := (List.mem_filter.1 (List.getElem_mem (l := LO) (n := i - LS.length) (by omega))).2
  simpa using this
theorem perm_onto {M : Nat} {π : Nat → Nat} (h1 : ∀ i, i < M → π i < M) (h2 : ∀ a b, a < M → b < M → π a = π b → a = b) {i : Nat} (hi : i < M) : ∃ j, j < M ∧ π j = i := by
 apply Classical.byContradiction
 intro hn
 have e := sumTo_perm h1 h2 (fun x => if x = i then (1 : Int) else 0)
 rw [sumTo_zero (fun j hj => by
  rw [if_neg]
  intro h; exact hn ⟨j, hj, h⟩), sumTo_one hi (fun j _ hne => by rw [if_neg hne]), if_pos rfl] at e
 omega
theorem Plane.region (p : Plane V F M tl fc fw) (S : Nat → Bool) (vS : Nat → Bool) (o : Nat) (ho : S o = false) (hv : ∀ d, d < 2 * M → S (fc d) = true → vS (tl d) = true) (hv0 : ∃ v, v < V ∧ vS v = true)
  (hC : ∀ L : Nat → Nat, (∀ d, d < 2 * M → S (fc d) = false → S (fc (oth d)) = false → L (fc d) = L (fc (oth d))) → ∀ x, x < F → S x = false → L x = L o) :
  sumTo M (fun i => bi (S (fc (2 * i)) || S (fc (2 * i + 1)))) + 1 ≤ sumTo V (fun v => bi (vS v)) + sumTo F (fun f => bi (S f)) := by
 obtain ⟨π, m, hm, π1, π2, π3, π4, π5⟩ := order (fun i => S (fc (2 * i)) || S (fc (2 * i + 1))) M
 rw [π5]
 let t := fun i => tl (2 * π i)
 let h := fun i => tl (2 * π i + 1)
 let l := fun i => fc (2 * π i)
 let r := fun i => fc (2 * π i + 1)
 have ht : ∀ i, i < M → t i < V := fun i hi => p.tlt _ (by have := π1 i hi; omega)
 have hh : ∀ i, i < M → h i < V := fun i hi => p.tlt _ (by have := π1 i hi; omega)
 have hl : ∀ i, i < M → l i < F := fun i hi => p.fct _ (by have := π1 i hi; omega)
 have hr : ∀ i, i < M → r i < F := fun i hi => p.fct _ (by have := π1 i hi; omega)
 have cV : ∀ L : Nat → Nat, (∀ i, i < M → L (t i) = L (h i)) → ∀ x, x < V → L x = L 0 := fun L hL => p.cV L (both_ends L tl fun i hi => by
  obtain ⟨j, hj, rfl⟩ := perm_onto π1 π2 hi; exact hL j hj)
 have cF : ∀ L : Nat → Nat, (∀ i, i < M → L (l i) = L (r i)) → ∀ x, x < F → L x = L 0 := fun L hL => p.cF L (both_ends L fc fun i hi => by
  obtain ⟨j, hj, rfl⟩ := perm_onto π1 π2 hi; exact hL j hj)
 have key := tree_cotree ht hh hl hr (fun y g => by
  have := p.H1 y g
  rw [← sumTo_perm π1 π2] at this
  exact this) cV cF p.pos p.posF p.euler
 -- every edge of the set joins vertices or faces
 have e1 : (m : Int) ≤ sumTo m (fun i => if upto t h i (t i) = upto t h i (h i) then (0 : Int) else 1) + sumTo m (fun i => if downto l r M (M - 1 - i) (l i) = downto l r M (M - 1 - i) (r i) then 0 else 1) := by
  rw [← sumTo_add, ← sumTo_ones m]
  refine sumTo_le fun i hi => ?_
  by_cases c : upto t h i (t i) = upto t h i (h i)
  ·rw [if_pos c, if_neg (key i (by omega) c)]; omega
  ·rw [if_neg c]; split <;> omega
 -- vertices
 have e2 := upto_fix ht hh m hm
 have e3 : (V : Int) - sumTo V (fun v => bi (vS v)) + 1 ≤ fixN V (upto t h m) := by
  have ends : ∀ i, i < m → vS (t i) = true ∧ vS (h i) = true := by
   intro i hi
   have hM := π1 i (by omega)
   have := π3 i hi
   simp only [Bool.or_eq_true] at this
   have c1 : ∀ d, d < 2 * M → S (fc d) = true → vS (tl d) = true ∧ vS (tl (oth d)) = true := fun d hd hs => by
    refine ⟨hv d hd hs, ?_⟩
    have q := hv (fw (oth d)) (p.fwt _ (oth_lt2 hd)) (by rw [p.fcf _ (oth_lt2 hd), oth_two]; exact hs)
    rwa [p.tlf _ (oth_lt2 hd)] at q
   rcases this with q | q
   ·have := c1 (2 * π i) (by omega) q
    rwa [oth_ev] at this
   ·have := c1 (2 * π i + 1) (by omega) q
    rw [oth_od] at this
    exact ⟨this.2, this.1⟩
  have inv : ∀ k, k ≤ m → (∀ x, vS x = false → upto t h k x = x) ∧ ∀ x, vS x = true → vS (upto t h k x) = true := by
   intro k
   induction k with
   | zero => intro _; exact ⟨fun _ _ => rfl, fun _ h => h⟩
   | succ k ih =>
    intro hk
    obtain ⟨i1, i2⟩ := ih (by omega)
    obtain ⟨n1, n2⟩ := ends k (by omega)
    constructor
    ·intro x hx
     show mrg (upto t h k) (t k) (h k) x = x
     unfold mrg
     rw [if_neg, i1 x hx]
     rw [i1 x hx]
     intro e
     have := i2 _ n2
     rw [← e, hx] at this; cases this
    ·intro x hx
     show vS (mrg (upto t h k) (t k) (h k) x) = true
     unfold mrg
     split
     ·exact i2 _ n1
     ·exact i2 _ hx
  obtain ⟨i1, i2⟩ := inv m (Nat.le_refl _)
  obtain ⟨v, hvV, hvS⟩ := hv0
  have hc := upto_cls (n := V) ht hh m hm
  have hz1 := hc.lt v hvV
  have hz2 := hc.idem v hvV
  have hz3 := i2 v hvS
  unfold fixN
  have : (V : Int) - sumTo V (fun v => bi (vS v)) + 1 = sumTo V (fun x => 1 - bi (vS x) + (if x = upto t h m v then 1 else 0)) := by
   have hz : sumTo V (fun x => if x = upto t h m v then (1 : Int) else 0) = 1 := by
    rw [sumTo_one hz1 (fun i _ hne => by rw [if_neg hne]), if_pos rfl]
   rw [sumTo_add, sumTo_sub, sumTo_ones, hz]
  rw [this]
  refine sumTo_le fun x hx => ?_
  cases hxS : vS x with
  | false =>
   rw [i1 x hxS, if_pos rfl, if_neg (fun e => by rw [← e, hxS] at hz3; cases hz3)]
   decide
  | true =>
   by_cases e : x = upto t h m v
   ·rw [if_pos e, if_pos (by rw [e]; exact hz2)]; decide
   ·rw [if_neg e]; split <;> decide
 -- faces
 have e4 := downto_fix hl hr M (Nat.le_refl _)
 rw [fix_one (downto_cls hl hr M (Nat.le_refl _)) p.posF (cF _ (fun i hi => downto_edge M i (Nat.le_refl _) (by omega) hi))] at e4
 have e5 := downto_fix (n := F) hl hr (M - m) (by omega)
 have e6 : fixN F (downto l r M (M - m)) ≤ sumTo F (fun f => bi (S f)) + 1 := by
  have hsame : ∀ x, x < F → S x = false → downto l r M (M - m) x = downto l r M (M - m) o := hC _ (fun d hd s1 s2 => by
   obtain ⟨i, hi, hdi⟩ := dart_two hd
   obtain ⟨j, hj, ej⟩ := perm_onto π1 π2 hi
   have hjm : m ≤ j := by
    apply Nat.le_of_not_lt
    intro hlt
    have := π3 j hlt
    rw [ej] at this
    rcases hdi with ⟨e1, e2⟩ | ⟨e1, e2⟩
    ·rw [e1] at s1; rw [e2] at s2; rw [s1, s2] at this; cases this
    ·rw [e1] at s1; rw [e2] at s2; rw [s1, s2] at this; cases this
   have := downto_edge (p := l) (q := r) (M - m) j (by omega) (by omega) hj
   simp only [l, r, ej] at this
   rcases hdi with ⟨e1, e2⟩ | ⟨e1, e2⟩
   ·rw [e2, e1]; exact this
   ·rw [e2, e1]; exact this.symm)
  unfold fixN
  have hone : sumTo F (fun x => if x = downto l r M (M - m) o then (1 : Int) else 0) ≤ 1 := by
   by_cases c : downto l r M (M - m) o < F
   ·rw [sumTo_one c (fun i _ hne => by rw [if_neg hne]), if_pos rfl]; omega
   ·rw [sumTo_zero (fun i hi => by rw [if_neg (by omega)])]; omega
  have : sumTo F (fun x => if downto l r M (M - m) x = x then (1 : Int) else 0) ≤ sumTo F (fun x => bi (S x) + (if x = downto l r M (M - m) o then 1 else 0)) := sumTo_le fun x hx => by
   cases hs : S x with
   | true => rw [bi_t rfl]; split <;> split <;> decide
   | false =>
    rw [hsame x hx hs]
    by_cases e : x = downto l r M (M - m) o
    ·rw [if_pos e, if_pos e.symm]; decide
    ·rw [if_neg e, if_neg (Ne.symm e)]; decide
  rw [sumTo_add] at this
  omega
 have e7 : sumTo M (fun i => if downto l r M i (l (M - 1 - i)) = downto l r M i (r (M - 1 - i)) then (0 : Int) else 1) = sumTo (M - m) (fun i => if downto l r M i (l (M - 1 - i)) = downto l r M i (r (M - 1 - i)) then (0 : Int) else 1) +
   sumTo m (fun i => if downto l r M (M - 1 - i) (l i) = downto l r M (M - 1 - i) (r i) then 0 else 1) := by
  have hs := sumTo_split (fun i => if downto l r M i (l (M - 1 - i)) = downto l r M i (r (M - 1 - i)) then (0 : Int) else 1) (M - m) m
  rw [show M - m + m = M by omega] at hs
  rw [hs, ← sumTo_rev _ m]
  congr 1
  refine sumTo_congr fun i hi => ?_
  rw [show M - m + (m - 1 - i) = M - 1 - i by omega, show M - 1 - (M - 1 - i) = i by omega]
 omega
structure Angl (V F M : Nat) (tl fc fw : Nat → Nat) (g : Nat → Int) (o : Nat) : Prop where
 ge : ∀ d, d < 2 * M → 1 ≤ g d
 vert : ∀ v, v < V → sumTo (2 * M) (fun d => if tl d = v then g d else 0) = 4
 out : o < F
 face : ∀ f, f < F → f ≠ o → sumTo (2 * M) (fun d => if fc d = f then 2 - g (oth d) else 0) = 4
structure Dirs (M : Nat) (fw : Nat → Nat) (g : Nat → Int) (k : Nat → Int) : Prop where
 nn : ∀ d, d < 2 * M → 0 ≤ k d ∧ k d < 4
 fw : ∀ d, d < 2 * M → (4 : Int) ∣ k (fw d) - k d - g d
 oth : ∀ d, d < 2 * M → (4 : Int) ∣ k (oth d) - k d - 2
variable {g k : Nat → Int} {o : Nat}
def Walk (tl : Nat → Nat) (M : Nat) : Nat → List Nat → Nat → Prop
 | a, [], b => a = b
 | a, d :: ds, b => d < 2 * M ∧ tl d = a ∧ Walk tl M (tl (oth d)) ds b
def cnt (ds : List Nat) (d : Nat) : Int := ((ds.count d : Nat) : Int)
end
end Go.Vm

/-
  A machine on typed values, small enough to be reckoned by the kernel, and the proof that it goes with the model: part 3 of 3. What it computes for a function is that function's contract. No condition of its own.
-/
import Derived.Test.YtkedmhafnkafdaaDoorVmB
import Derived.ChangeKeysEq
import Derived.Lib.LaidTab
import Derived.WideKeyArgs
import Derived.ChangeSame
import Derived.RowKit
import Derived.Test.YtkedmhafnkafdaaDoorVmA
import Derived.IntWalk
import Derived.Laws.Strings
set_option linter.unusedVariables false
set_option linter.unusedSimpArgs false
/-
  What must come before what; memory and slots behind a set of operations.
-/
namespace Go.Vm

section
variable {C : Ctx} {R : Type} {res : R} {all : List Oper}

/-! ### The order -/

structure OrdOK (all : List Oper) (ms : List Nat) (k : Nat) : Prop where
  le : k ≤ all.length
  edge : ∀ (i : Nat) (o : Oper) (e : Edge), all[i]? = some o → e ∈ o.after.toList → Region.binds .any e = true → e.on < i
  pre : ∀ i o j, all[i]? = some o → (bit (ms.getD i 0) j = true ↔ ∃ e ∈ o.after.toList, Region.binds .any e = true ∧ (e.on = j ∨ bit (ms.getD e.on 0) j = true))
  dst : ∀ i o, i < k → all[i]? = some o → ∃ d, o.dst = some d
  cls : ∀ i j, i < k → j < k → (dstsOf all).getD i 0 = (dstsOf all).getD j 0 → i = j
  looks : ∀ i o t, all[i]? = some o → t ∈ looks all o → ∀ q o', all[q]? = some o' → o'.dst = some t → bit (ms.getD i 0) q = true ∨ bit (ms.getD q 0) i = true
  uniq : ∀ (p q : Nat) (o o' : Oper) (d : Nat), all[p]? = some o → all[q]? = some o' → o.dst = some d → o'.dst = some d → p = q
  chain : ∀ i o, k ≤ i → all[i]? = some o → ∀ j o', j < i → all[j]? = some o' → bit (ms.getD i 0) j = true ∨ heapFree o' = true

theorem OrdOK.lt {ms : List Nat} {k : Nat} (h : OrdOK all ms k) : ∀ {i j : Nat}, i < all.length → bit (ms.getD i 0) j = true → j < i := by
  intro i
  induction i using Nat.strongRecOn with
  | ind i ih =>
    intro j hi hb
    obtain ⟨o, ho⟩ : ∃ o, all[i]? = some o := ⟨_, List.getElem?_eq_getElem hi⟩
    obtain ⟨e, he, hbe, h1⟩ := (h.pre i o j ho).1 hb
    have hlt := h.edge i o e ho he hbe
    rcases h1 with h1 | h1
    · omega
    · have := ih e.on hlt (by omega) h1; omega

theorem nodupB_get : ∀ {l : List Nat} {i j : Nat} {a : Nat}, nodupB l = true → l[i]? = some a → l[j]? = some a → i = j
  | [], _, _, _, _, h, _ => by simp at h
  | b :: l, 0, 0, _, _, _, _ => rfl
  | b :: l, 0, j + 1, a, hn, h1, h2 => by
    simp only [nodupB, Bool.and_eq_true, Bool.not_eq_true'] at hn
    simp only [List.getElem?_cons_zero, Option.some.injEq] at h1
    subst h1
    have hm : b ∈ l := List.mem_of_getElem? (i := j) (by simpa using h2)
    have := hn.1
    rw [List.any_eq_false] at this
    exact absurd (Nat.beq_refl b) (by simpa using this b hm)
  | b :: l, i + 1, 0, a, hn, h1, h2 => by
    simp only [nodupB, Bool.and_eq_true, Bool.not_eq_true'] at hn
    simp only [List.getElem?_cons_zero, Option.some.injEq] at h2
    subst h2
    have hm : b ∈ l := List.mem_of_getElem? (i := i) (by simpa using h1)
    have := hn.1
    rw [List.any_eq_false] at this
    exact absurd (Nat.beq_refl b) (by simpa using this b hm)
  | b :: l, i + 1, j + 1, a, hn, h1, h2 => by
    simp only [nodupB, Bool.and_eq_true] at hn
    exact congrArg (· + 1) (nodupB_get (i := i) (j := j) hn.2 (by simpa using h1) (by simpa using h2))

theorem nodupB_filterMap : ∀ {l : List Oper} {i j : Nat} {o o' : Oper} {d : Nat}, nodupB (l.filterMap fun o => o.dst) = true → l[i]? = some o → l[j]? = some o' → o.dst = some d → o'.dst = some d → i = j
  | [], _, _, _, _, _, _, h, _, _, _ => by simp at h
  | b :: l, 0, 0, _, _, _, _, _, _, _, _ => rfl
  | b :: l, 0, j + 1, o, o', d, hn, h1, h2, d1, d2 => by
    simp only [List.getElem?_cons_zero, Option.some.injEq] at h1
    subst h1
    rw [List.filterMap_cons_some d1] at hn
    simp only [nodupB, Bool.and_eq_true, Bool.not_eq_true'] at hn
    have hm : d ∈ l.filterMap fun o => o.dst := List.mem_filterMap.2 ⟨o', List.mem_of_getElem? (i := j) (by simpa using h2), d2⟩
    have := hn.1
    rw [List.any_eq_false] at this
    exact absurd (Nat.beq_refl d) (by simpa using this d hm)
  | b :: l, i + 1, 0, o, o', d, hn, h1, h2, d1, d2 => by
    simp only [List.getElem?_cons_zero, Option.some.injEq] at h2
    subst h2
    rw [List.filterMap_cons_some d2] at hn
    simp only [nodupB, Bool.and_eq_true, Bool.not_eq_true'] at hn
    have hm : d ∈ l.filterMap fun o => o.dst := List.mem_filterMap.2 ⟨o, List.mem_of_getElem? (i := i) (by simpa using h1), d1⟩
    have := hn.1
    rw [List.any_eq_false] at this
    exact absurd (Nat.beq_refl d) (by simpa using this d hm)
  | b :: l, i + 1, j + 1, o, o', d, hn, h1, h2, d1, d2 => by
    have hn' : nodupB (l.filterMap fun o => o.dst) = true := by
      cases hb : b.dst with
      | none => rwa [List.filterMap_cons_none hb] at hn
      | some x =>
        rw [List.filterMap_cons_some hb] at hn
        simp only [nodupB, Bool.and_eq_true] at hn
        exact hn.2
    exact congrArg (· + 1) (nodupB_filterMap (i := i) (j := j) hn' (by simpa using h1) (by simpa using h2) d1 d2)

theorem behindAll_get {m : Nat} : ∀ {l : List Oper} {j0 t : Nat} {o : Oper}, behindAll m j0 l = true → l[t]? = some o → bit m (j0 + t) = true ∨ heapFree o = true
  | [], _, _, _, _, h => by simp at h
  | b :: l, j0, 0, o, h, h1 => by
    simp only [List.getElem?_cons_zero, Option.some.injEq] at h1
    subst h1
    simp only [behindAll, Bool.and_eq_true, Bool.or_eq_true] at h
    exact h.1
  | b :: l, j0, t + 1, o, h, h1 => by
    simp only [behindAll, Bool.and_eq_true] at h
    have := behindAll_get h.2 (t := t) (by simpa using h1)
    rwa [show j0 + (t + 1) = j0 + 1 + t by omega]

theorem chainLen_get {ms : List Nat} : ∀ {n i : Nat}, n - chainLen all ms n ≤ i → i < n → behindAll (ms.getD i 0) 0 (all.take i) = true
  | 0, _, _, h => by omega
  | n + 1, i, h, hi => by
    simp only [chainLen] at h
    cases hb : behindAll (ms.getD n 0) 0 (all.take n) with
    | false => rw [hb] at h; simp at h; omega
    | true =>
      rw [hb, cond_true] at h
      rcases Nat.eq_or_lt_of_le (Nat.le_of_lt_succ hi) with rfl | hlt
      · exact hb
      · exact chainLen_get (by omega) hlt

theorem mem_zip {l : List Oper} {i : Nat} {o : Oper} (h : l[i]? = some o) : (o, i) ∈ l.zipIdx := by
  rw [List.mem_zipIdx_iff_getElem?]; exact h

theorem ord_of {k : Nat} (hk : k = all.length - chainLen all (befs all []) all.length) (h : okA all (befs all []) k = true) : OrdOK all (befs all []) k := by
  simp only [okA, Bool.and_eq_true] at h
  obtain ⟨⟨⟨⟨h1, h2⟩, h3⟩, h4⟩, h5⟩ := h
  simp only [List.all_eq_true] at h1 h3 h4
  have hle : k ≤ all.length := by omega
  have hedge : ∀ (i : Nat) (o : Oper) (e : Edge), all[i]? = some o → e ∈ o.after.toList → Region.binds .any e = true → e.on < i := by
    intro i o e ho he hb
    have := h1 (o, i) (mem_zip ho) e he
    rw [hb] at this
    exact Nat.le_of_ble_eq_true (by simpa [Nat.blt] using this)
  refine ⟨hle, hedge, ?_, ?_, ?_, ?_, fun p q o o' d => nodupB_filterMap h5, ?_⟩
  · intro i o j ho
    have hg := befs_get all [] i o ho
    simp only [List.length_nil, Nat.zero_add] at hg
    rw [hg]
    unfold accOf
    rw [fold_bit]
    constructor
    · rintro (h | ⟨e, he, hb, h⟩)
      · simp [bit] at h
      · refine ⟨e, he, hb, ?_⟩
        rcases h with h | h
        · exact .inl h
        · right
          have hlt := hedge i o e ho he hb
          rw [List.getD_eq_getElem?_getD, List.getElem?_take, if_pos hlt, ← List.getD_eq_getElem?_getD] at h
          exact h
    · rintro ⟨e, he, hb, h⟩
      right
      refine ⟨e, he, hb, ?_⟩
      rcases h with h | h
      · exact .inl h
      · right
        have hlt := hedge i o e ho he hb
        rw [List.getD_eq_getElem?_getD, List.getElem?_take, if_pos hlt, ← List.getD_eq_getElem?_getD]
        exact h
  · intro i o hi ho
    have := h3 o (List.mem_of_getElem? (i := i) (by rw [List.getElem?_take, if_pos hi]; exact ho))
    exact Option.isSome_iff_exists.1 this
  · intro i j hi hj he
    have get : ∀ i, i < k → (dstsOf (all.take k))[i]? = some ((dstsOf all).getD i 0) := by
      intro i hi
      obtain ⟨o, ho⟩ : ∃ o, all[i]? = some o := ⟨_, List.getElem?_eq_getElem (by omega)⟩
      simp [dstsOf, List.getElem?_take, hi, ho, List.getD_eq_getElem?_getD]
    exact nodupB_get h2 (get i hi) (by rw [he]; exact get j hj)
  · intro i o t ho ht q o' ho' hd
    have := h4 (o, i) (mem_zip ho) t ht (o', q) (mem_zip ho')
    simp only [hd, Nat.beq_refl, cond_true, Bool.or_eq_true] at this
    exact this
  · intro i o hi ho j o' hj ho'
    have hlt : i < all.length := (List.getElem?_eq_some_iff.1 ho).1
    have := behindAll_get (chainLen_get (all := all) (ms := befs all []) (n := all.length) (by omega) hlt) (t := j) (o := o') (by rw [List.getElem?_take, if_pos hj]; exact ho')
    simpa using this

/-! ### The whole trace -/

structure Trace (C : Ctx) (all : List Oper) (ms : List Nat) (k : Nat) (s : St) (V : Nat → SV) (X : Nat → Heap) (E : Nat → Env) (L : Nat → List (Nat × Heap)) (H : Nat → Heap) : Prop where
  e0 : E 0 = s.env
  l0 : L 0 = []
  stepA : ∀ j o, j < k → all[j]? = some o → StepA C all ms s.G V X E L j o
  stepT : ∀ j o, k ≤ j → all[j]? = some o → StepT C all V E H j o
  hk : H k = (L k).foldr (fun p G => p.2 ++ G) s.G

theorem runDraw_trace {s : St} {K : St → Option R} (h : runDraw C all s K = some res) :
    ∃ k V X E L H, OrdOK all (befs all []) k ∧ Trace C all (befs all []) k s V X E L H ∧ okN all (befs all []) k (L k) s.G = true ∧ K ⟨E all.length, H all.length⟩ = some res := by
  unfold runDraw at h
  dsimp only at h
  obtain ⟨k, hk⟩ : ∃ k, k = all.length - chainLen all (befs all []) all.length := ⟨_, rfl⟩
  rw [← hk] at h
  cases hA : okA all (befs all []) k with
  | false => rw [hA] at h; cases h
  | true =>
    rw [hA, cond_true] at h
    have ho := ord_of hk hA
    have hle := ho.le
    obtain ⟨V, X, E, L, a1, a2, a3, a4⟩ := runA_trace (all.take k) 0 s.env [] (fun j hj => by rw [List.getElem?_take]; simp at hj; simp; omega) h
    have hl : (all.take k).length = k := by simp; omega
    simp only [Nat.zero_add, hl] at a3 a4
    cases hN : okN all (befs all []) k (L k) s.G with
    | false => rw [hN] at a3; cases a3
    | true =>
      rw [hN, cond_true] at a3
      obtain ⟨V2, E2, H, b1, b2, b3, b4⟩ := runT_trace (all.drop k) k (E k) _ (fun j hj => by rw [List.getElem?_drop]) a3
      have hl2 : k + (all.drop k).length = all.length := by simp; omega
      rw [hl2] at b3 b4
      refine ⟨k, fun i => if i < k then V i else V2 i, X, fun i => if i < k then E i else E2 i, L, H, ho, ⟨?_, a2, ?_, ?_, b2⟩, hN, ?_⟩
      · by_cases h0 : 0 < k
        · simp [h0, a1]
        · have : k = 0 := by omega
          subst this
          simp [b1, a1]
      · intro j o hj hoj
        have := a4 j o (Nat.zero_le _) hj hoj
        have e1 : (if j + 1 < k then E (j + 1) else E2 (j + 1)) = E (j + 1) := by
          split
          · rfl
          · have : j + 1 = k := by omega
            rw [this, b1]
        unfold StepA at this ⊢
        dsimp only
        rw [e1, if_pos hj, if_pos hj]
        exact this
      · intro j o hj hoj
        have := b4 j o hj (List.getElem?_eq_some_iff.1 hoj).1 hoj
        unfold StepT at this ⊢
        dsimp only
        rw [if_neg (by omega), if_neg (by omega), if_neg (by omega)]
        exact this
      · dsimp only
        rw [if_neg (by omega)]
        exact b3

/-! ### Slots -/

def dstAt (all : List Oper) (i : Nat) : Option Nat := (all[i]?).bind (·.dst)

def envS (all : List Oper) (V : Nat → SV) (e0 : Env) (S : Nat → Bool) : Nat → Nat → SV
  | 0, t => e0.get t
  | i + 1, t => if S i = true ∧ dstAt all i = some t then V i else envS all V e0 S i t

def put1 (S : Nat → Bool) (i : Nat) : Nat → Bool := fun j => S j || j == i

theorem envS_congr {V : Nat → SV} {e0 : Env} {S S' : Nat → Bool} {t : Nat} : ∀ {n : Nat}, (∀ q, q < n → dstAt all q = some t → S q = S' q) → envS all V e0 S n t = envS all V e0 S' n t
  | 0, _ => rfl
  | n + 1, h => by
    simp only [envS]
    by_cases hd : dstAt all n = some t
    · rw [h n (by omega) hd, envS_congr fun q hq => h q (by omega)]
    · simp only [hd, and_false, if_false]
      exact envS_congr fun q hq => h q (by omega)

theorem envS_none {V : Nat → SV} {e0 : Env} {S : Nat → Bool} {t : Nat} : ∀ {n : Nat}, (∀ q, q < n → dstAt all q = some t → S q = false) → envS all V e0 S n t = e0.get t
  | 0, _ => rfl
  | n + 1, h => by
    simp only [envS]
    rw [if_neg, envS_none fun q hq => h q (by omega)]
    rintro ⟨h1, h2⟩
    rw [h n (by omega) h2] at h1; cases h1

theorem envS_put {ms : List Nat} {k : Nat} (ho : OrdOK all ms k) {V : Nat → SV} {e0 : Env} {S : Nat → Bool} {i t : Nat} : ∀ {n : Nat}, n ≤ all.length → i < n → envS all V e0 (put1 S i) n t = if dstAt all i = some t then V i else envS all V e0 S n t
  | 0, _, h => by omega
  | n + 1, hn, h => by
    by_cases hd : dstAt all i = some t
    · rw [if_pos hd]
      rcases Nat.eq_or_lt_of_le (Nat.le_of_lt_succ h) with rfl | hlt
      · simp [envS, put1, hd]
      · simp only [envS]
        rw [if_neg, envS_put ho (by omega) hlt, if_pos hd]
        rintro ⟨_, h2⟩
        unfold dstAt at hd h2
        obtain ⟨o, h3, h4⟩ := Option.bind_eq_some_iff.1 hd
        obtain ⟨o', h5, h6⟩ := Option.bind_eq_some_iff.1 h2
        have := ho.uniq i n o o' t h3 h5 h4 h6
        omega
    · rw [if_neg hd]
      refine envS_congr fun q _ hq => ?_
      have : q ≠ i := fun e => hd (e ▸ hq)
      simp [put1, this]

section
variable {ms : List Nat} {k : Nat} {s : St} {V : Nat → SV} {X : Nat → Heap} {E : Nat → Env} {L : Nat → List (Nat × Heap)} {H : Nat → Heap}

theorem Trace.env_step (ho : OrdOK all ms k) (h : Trace C all ms k s V X E L H) {i : Nat} {o : Oper} (hi : all[i]? = some o) (t : Nat) : (E (i + 1)).get t = if o.dst = some t then V i else (E i).get t := by
  by_cases hk : i < k
  · have := (h.stepA i o hk hi).1 t
    obtain ⟨d, hd⟩ := ho.dst i o hk hi
    rw [hd] at this ⊢
    simpa using this
  · exact (h.stepT i o (by omega) hi).1 t

theorem Trace.env (ho : OrdOK all ms k) (h : Trace C all ms k s V X E L H) : ∀ {i : Nat}, i ≤ all.length → ∀ t, (E i).get t = envS all V s.env (fun q => decide (q < i)) all.length t
  | 0, _, t => by rw [h.e0, envS_none]; intro q _ _; simp
  | i + 1, hi, t => by
    obtain ⟨o, hoi⟩ : ∃ o, all[i]? = some o := ⟨_, List.getElem?_eq_getElem (by omega)⟩
    have hS : (fun q => decide (q < i + 1)) = put1 (fun q => decide (q < i)) i := by
      funext q
      unfold put1
      by_cases h1 : q < i
      · have : q < i + 1 := by omega
        simp [h1, this]
      · by_cases h2 : q = i
        · simp [h2]
        · have : ¬ q < i + 1 := by omega
          simp [h1, h2, this]
    rw [h.env_step ho hoi, hS, envS_put ho (Nat.le_refl _) (by omega), h.env ho (by omega)]
    simp [dstAt, hoi]

/-- Is the set closed against what must come before? -/
def Closed (all : List Oper) (ms : List Nat) (S : Nat → Bool) : Prop := ∀ i, S i = true → i < all.length ∧ ∀ j, bit (ms.getD i 0) j = true → S j = true

/-- What an operation looks at is the same on every way. -/
theorem Trace.seen (ho : OrdOK all ms k) (h : Trace C all ms k s V X E L H) {S : Nat → Bool} (hS : Closed all ms S) {i : Nat} {o : Oper} (hi : all[i]? = some o) (hn : S i = false) (hp : ∀ j, bit (ms.getD i 0) j = true → S j = true)
    {t : Nat} (ht : t ∈ looks all o) : (E i).get t = envS all V s.env S all.length t := by
  have hlt : i < all.length := (List.getElem?_eq_some_iff.1 hi).1
  rw [h.env ho (by omega)]
  refine envS_congr fun q hq hd => ?_
  unfold dstAt at hd
  obtain ⟨o', h1, h2⟩ := Option.bind_eq_some_iff.1 hd
  rcases ho.looks i o t hi ht q o' h1 h2 with h3 | h3
  · rw [hp q h3]; simp [ho.lt hlt h3]
  · have := ho.lt hq h3
    have hSq : S q = false := by
      cases hh : S q with
      | false => rfl
      | true => rw [(hS q hh).2 i h3] at hn; cases hn
    rw [hSq]; simp; omega

theorem Closed.put (ho : OrdOK all ms k) {S : Nat → Bool} (hS : Closed all ms S) {i : Nat} (hi : i < all.length) (hp : ∀ j, bit (ms.getD i 0) j = true → S j = true) : Closed all ms (put1 S i) := by
  intro j hj
  unfold put1 at hj
  simp only [Bool.or_eq_true, beq_iff_eq] at hj
  rcases hj with hj | rfl
  · exact ⟨(hS j hj).1, fun q hq => by simp [put1, (hS j hj).2 q hq]⟩
  · exact ⟨hi, fun q hq => by simp [put1, hp q hq]⟩

/-! ### Memory -/

def look (X : Nat → Heap) (B : Heap) (S : Nat → Bool) : Nat → Nat → Option Obj
  | 0, id => B.get id
  | j + 1, id => match cond (S j) ((X j).get id) none with
    | some o => some o
    | none => look X B S j id

theorem look_some {X : Nat → Heap} {B : Heap} {S : Nat → Bool} {id : Nat} {o : Obj} : ∀ {j : Nat}, look X B S j id = some o →
    (∃ q, q < j ∧ S q = true ∧ (X q).get id = some o ∧ ∀ q', q < q' → q' < j → S q' = true → (X q').get id = none) ∨ ((∀ q, q < j → S q = true → (X q).get id = none) ∧ B.get id = some o)
  | 0, h => .inr ⟨fun q hq => by omega, h⟩
  | j + 1, h => by
    simp only [look] at h
    split at h
    · rename_i o' ho'
      cases h
      cases hS : S j with
      | false => rw [hS] at ho'; cases ho'
      | true => rw [hS] at ho'; exact .inl ⟨j, by omega, hS, ho', fun q' h1 h2 => by omega⟩
    · rename_i hn
      have hj : S j = true → (X j).get id = none := fun hS => by rw [hS] at hn; exact hn
      rcases look_some h with ⟨q, h1, h2, h3, h4⟩ | ⟨h1, h2⟩
      · refine .inl ⟨q, by omega, h2, h3, fun q' g1 g2 g3 => ?_⟩
        rcases Nat.eq_or_lt_of_le (Nat.le_of_lt_succ g2) with rfl | g2
        · exact hj g3
        · exact h4 q' g1 g2 g3
      · refine .inr ⟨fun q g1 g2 => ?_, h2⟩
        rcases Nat.eq_or_lt_of_le (Nat.le_of_lt_succ g1) with rfl | g1
        · exact hj g2
        · exact h1 q g1 g2

theorem look_base {X : Nat → Heap} {B : Heap} {S : Nat → Bool} {id : Nat} : ∀ {j : Nat}, (∀ q, q < j → S q = true → (X q).get id = none) → look X B S j id = B.get id
  | 0, _ => rfl
  | j + 1, h => by
    simp only [look]
    cases hS : S j with
    | false => exact look_base fun q hq => h q (by omega)
    | true => rw [cond_true, h j (by omega) hS]; exact look_base fun q hq => h q (by omega)

theorem look_of {X : Nat → Heap} {B : Heap} {S : Nat → Bool} {id : Nat} {o : Obj} : ∀ {j q : Nat}, q < j → S q = true → (X q).get id = some o → (∀ q', q < q' → q' < j → S q' = true → (X q').get id = none) → look X B S j id = some o
  | 0, _, h, _, _, _ => by omega
  | j + 1, q, h, hS, ho, hl => by
    simp only [look]
    rcases Nat.eq_or_lt_of_le (Nat.le_of_lt_succ h) with rfl | hlt
    · rw [hS, cond_true, ho]
    · have : cond (S j) ((X j).get id) none = none := by
        cases hSj : S j with
        | false => rfl
        | true => exact hl j hlt (by omega) hSj
      rw [this]
      exact look_of hlt hS ho fun q' h1 h2 => hl q' h1 (by omega)

theorem look_congr {X : Nat → Heap} {B : Heap} {S S' : Nat → Bool} {id : Nat} : ∀ {j : Nat}, (∀ q, q < j → S q = S' q ∨ (X q).get id = none) → look X B S j id = look X B S' j id
  | 0, _ => rfl
  | j + 1, h => by
    simp only [look]
    have : cond (S j) ((X j).get id) none = cond (S' j) ((X j).get id) none := by
      rcases h j (by omega) with h | h
      · rw [h]
      · rw [h]; cases S j <;> cases S' j <;> rfl
    rw [this]
    split
    · rfl
    · exact look_congr fun q hq => h q (by omega)

theorem Trace.l_step (h : Trace C all ms k s V X E L H) {j : Nat} (hj : j < k) (hle : k ≤ all.length) : L (j + 1) = (j, X j) :: L j ∨ (L (j + 1) = L j ∧ X j = []) := by
  obtain ⟨o, ho⟩ : ∃ o, all[j]? = some o := ⟨_, List.getElem?_eq_getElem (by omega)⟩
  rcases (h.stepA j o hj ho).2 with ⟨_, h1, _⟩ | ⟨_, h1, _, h2⟩
  · exact .inl h1
  · exact .inr ⟨h1, h2⟩

theorem Trace.heapFor_get (h : Trace C all ms k s V X E L H) (hle : k ≤ all.length) (m : Nat) : ∀ {j : Nat}, j ≤ k → ∀ id, (heapFor m (L j) s.G).get id = look X s.G (bit m) j id
  | 0, _, id => by rw [h.l0]; rfl
  | j + 1, hj, id => by
    simp only [look]
    have ih := h.heapFor_get hle m (j := j) (by omega) id
    rcases h.l_step (by omega : j < k) hle with h1 | ⟨h1, h2⟩
    · rw [h1]
      show (cond (bit m j) (X j ++ heapFor m (L j) s.G) (heapFor m (L j) s.G)).get id = _
      cases hb : bit m j with
      | false => exact ih
      | true =>
        rw [cond_true, cond_true, Heap.get_append, ih]
        try (cases (X j).get id <;> rfl)
    · rw [h1, h2, ih]
      have : cond (bit m j) (Heap.get [] id) none = none := by cases bit m j <;> rfl
      rw [this]

theorem Trace.all_get (h : Trace C all ms k s V X E L H) (hle : k ≤ all.length) : ∀ {j : Nat}, j ≤ k → ∀ id, ((L j).foldr (fun p G => p.2 ++ G) s.G).get id = look X s.G (fun _ => true) j id
  | 0, _, id => by rw [h.l0]; rfl
  | j + 1, hj, id => by
    simp only [look, cond_true]
    have ih := h.all_get hle (j := j) (by omega) id
    rcases h.l_step (by omega : j < k) hle with h1 | ⟨h1, h2⟩
    · rw [h1, List.foldr_cons, Heap.get_append, ih]
      try (show (match (X j).get id with | some o => some o | none => _) = _; cases (X j).get id <;> rfl)
    · rw [h1, h2, ih]; rfl

theorem Trace.l_mem (h : Trace C all ms k s V X E L H) (hle : k ≤ all.length) : ∀ {j q : Nat}, j ≤ k → q < j → X q = [] ∨ (q, X q) ∈ L j
  | 0, _, _, hq => by omega
  | j + 1, q, hj, hq => by
    rcases h.l_step (by omega : j < k) hle with h1 | ⟨h1, h2⟩
    · rw [h1]
      rcases Nat.eq_or_lt_of_le (Nat.le_of_lt_succ hq) with rfl | hlt
      · exact .inr (by simp)
      · rcases h.l_mem hle (by omega) hlt with h | h
        · exact .inl h
        · exact .inr (by simp [h])
    · rw [h1]
      rcases Nat.eq_or_lt_of_le (Nat.le_of_lt_succ hq) with rfl | hlt
      · exact .inl h2
      · exact h.l_mem hle (by omega) hlt

/-- The new objects stay apart. -/
structure Sep (all : List Oper) (ms : List Nat) (k : Nat) (X : Nat → Heap) (B : Heap) : Prop where
  base : ∀ q id o, q < k → (X q).get id = some o → B.get id = none
  two : ∀ p q id o o', p < k → q < k → (X p).get id = some o → (X q).get id = some o' → p = q ∨
    ((bit (ms.getD p 0) q = true ∨ bit (ms.getD q 0) p = true) ∧ ∀ i, i < k → bit (ms.getD i 0) p = false ∨ i = q ∨ bit (ms.getD i 0) q = true ∨ bit (ms.getD q 0) i = true)

theorem Trace.sep (h : Trace C all ms k s V X E L H) (hle : k ≤ all.length) (hN : okN all ms k (L k) s.G = true) : Sep all ms k X s.G := by
  have mem : ∀ q id o, q < k → (X q).get id = some o → (q, X q) ∈ L k ∧ (id, o) ∈ X q := by
    intro q id o hq hg
    rcases h.l_mem hle (Nat.le_refl _) hq with h1 | h1
    · rw [h1] at hg; simp [Heap.get] at hg
    · exact ⟨h1, Heap.mem_of_get hg⟩
  simp only [okN, List.all_eq_true] at hN
  refine ⟨fun q id o hq hg => ?_, fun p q id o o' hp hq hg hg' => ?_⟩
  · obtain ⟨h1, h2⟩ := mem q id o hq hg
    have := hN _ h1 _ h2
    simp only [Bool.and_eq_true, Bool.not_eq_true'] at this
    cases hb : s.G.get id with
    | none => rfl
    | some o' => have h3 := this.1.1; rw [Heap.has_of_get hb] at h3; cases h3
  · obtain ⟨h1, h2⟩ := mem p id o hp hg
    obtain ⟨h3, h4⟩ := mem q id o' hq hg'
    have := hN _ h1 _ h2
    simp only [Bool.and_eq_true] at this
    have := this.2
    rw [List.all_eq_true] at this
    have := this _ h3
    simp only [Bool.or_eq_true, Bool.and_eq_true] at this
    rcases this with (h5 | h5) | ⟨h5, h6⟩
    · exact .inl (Nat.eq_of_beq_eq_true h5)
    · simp only [Bool.not_eq_true'] at h5
      rw [List.any_eq_false] at h5
      exact absurd (Nat.beq_refl (id % 1000)) (by simpa using h5 _ h4)
    · refine .inr ⟨h5, fun i hi => ?_⟩
      rw [List.all_eq_true] at h6
      have := h6 i (by simpa using hi)
      simp only [Bool.or_eq_true, Bool.not_eq_true'] at this
      rcases this with ((h7 | h7) | h7) | h7
      · exact .inl h7
      · exact .inr (.inl (Nat.eq_of_beq_eq_true h7))
      · exact .inr (.inr (.inl h7))
      · exact .inr (.inr (.inr h7))

theorem look_sub (ho : OrdOK all ms k) {B : Heap} (hX : Sep all ms k X B) {S : Nat → Bool} (hS : Closed all ms S) {i : Nat} (hi : i < k) (hn : S i = false) (hp : ∀ j, bit (ms.getD i 0) j = true → S j = true)
    {id : Nat} {o : Obj} (hg : look X B (bit (ms.getD i 0)) i id = some o) : look X B S k id = some o := by
  have hle := ho.le
  rcases look_some hg with ⟨q, h1, h2, h3, h4⟩ | ⟨h1, h2⟩
  · refine look_of (by omega) (hp q h2) h3 fun q' g1 g2 g3 => ?_
    cases hx : (X q').get id with
    | none => rfl
    | some o' =>
      rcases hX.two q q' id o o' (by omega) g2 h3 hx with e | ⟨e1, e2⟩
      · omega
      · rcases e2 i hi with e | e | e | e
        · rw [h2] at e; cases e
        · subst e; rw [hn] at g3; cases g3
        · rw [h4 q' g1 (ho.lt (by omega) e) e] at hx; cases hx
        · rw [(hS q' g3).2 i e] at hn; cases hn
  · rw [look_base, h2]
    intro q g1 g2
    cases hx : (X q).get id with
    | none => rfl
    | some o' => rw [hX.base q id o' g1 hx] at h2; cases h2

theorem look_new (ho : OrdOK all ms k) {B : Heap} (hX : Sep all ms k X B) {S : Nat → Bool} (hS : Closed all ms S) {i : Nat} (hi : i < k) (hn : S i = false)
    {id : Nat} {o : Obj} (hx : (X i).get id = some o) (hg : look X B (bit (ms.getD i 0)) i id = none) : look X B S k id = none := by
  have hle := ho.le
  cases hl : look X B S k id with
  | none => rfl
  | some o' =>
    rcases look_some hl with ⟨q, h1, h2, h3, h4⟩ | ⟨h1, h2⟩
    · rcases hX.two i q id o o' hi h1 hx h3 with e | ⟨e1, _⟩
      · subst e; rw [hn] at h2; cases h2
      · rcases e1 with e | e
        · have hlt := ho.lt (by omega) e
          exfalso
          -- the last of them
          have : ∀ j, j ≤ i → q < j → look X B (bit (ms.getD i 0)) j id ≠ none := by
            intro j
            induction j with
            | zero => intro _ h; omega
            | succ j ih =>
              intro hj hq
              simp only [look]
              split
              · simp
              · rename_i hnone
                rcases Nat.eq_or_lt_of_le (Nat.le_of_lt_succ hq) with rfl | hq
                · rw [e, cond_true, h3] at hnone; cases hnone
                · exact ih (by omega) hq
          exact this i (Nat.le_refl _) hlt hg
        · rw [(hS q h2).2 i e] at hn; cases hn
    · rw [hX.base i id o hi hx] at h2; cases h2

theorem look_put (ho : OrdOK all ms k) {B : Heap} (hX : Sep all ms k X B) {S : Nat → Bool} (hS : Closed all ms S) {i : Nat} (hi : i < k) (hn : S i = false) (id : Nat) :
    look X B (put1 S i) k id = (match (X i).get id with | some o => some o | none => look X B S k id) := by
  have hle := ho.le
  cases hx : (X i).get id with
  | some o =>
    refine look_of hi (by simp [put1]) hx fun q g1 g2 g3 => ?_
    cases hq : (X q).get id with
    | none => rfl
    | some o' =>
      have hSq : S q = true := by
        simp only [put1, Bool.or_eq_true, beq_iff_eq] at g3
        rcases g3 with g3 | g3
        · exact g3
        · omega
      rcases hX.two i q id o o' hi g2 hx hq with e | ⟨e1, _⟩
      · omega
      · rcases e1 with e | e
        · have := ho.lt (by omega) e; omega
        · rw [(hS q hSq).2 i e] at hn; cases hn
  | none =>
    refine look_congr fun q _ => ?_
    by_cases e : q = i
    · subst e; exact .inr hx
    · left; simp [put1, e]
end
end
end Go.Vm

/-
  Regions whose operations stand in no fixed order.
-/
namespace Go.Vm

section
variable {P : Program} {C : Ctx} {w0 : World} {M : Own} {N : Nat} {ops : Array Oper} {ms : List Nat} {k : Nat} {s : St} {V : Nat → SV} {X : Nat → Heap} {E : Nat → Env} {L : Nat → List (Nat × Heap)} {H : Nat → Heap} {a : Act}

theorem guard_wanted {m : Mem} {f : Nat → SV} {o : Oper} {e : Env} {b : Bool} (hS : ∀ t, RelSV m (a.tmps.getD t undef) (f t)) (he : ∀ t ∈ looks ops.toList o, e.get t = f t) (hg : Going ops.toList o e b) :
    Region.wanted o (yielded ops a.tmps) = b := by
  have slot : ∀ {j want d}, o.guard = some (j, want) → slotOf ops.toList j = some d → d ∈ looks ops.toList o := by
    intro j want d h1 h2
    unfold looks
    rw [h1]
    simp [h2]
  have yv : ∀ {j d}, slotOf ops.toList j = some d → (ops[j]?).bind (·.dst) = some d := by
    intro j d hj
    unfold slotOf at hj
    rw [Array.getElem?_toList] at hj
    split at hj
    · rename_i o ho; simp [ho, hj]
    · simp at hj
  have get : ∀ d v, a.tmps.getD d undef = v → v ≠ undef → a.tmps[d]? = some v := by
    intro d v h hne
    rw [Array.getD_eq_getD_getElem?] at h
    cases hg : a.tmps[d]? with
    | none => rw [hg] at h; exact absurd h.symm hne
    | some u => rw [hg] at h; simp at h; rw [h]
  cases b with
  | true =>
    rcases hg with hg | ⟨j, want, d, h1, h2, h3⟩
    · simp [Region.wanted, hg]
    · have hv := hS d
      rw [← he d (slot h1 h2), h3] at hv
      have hv := get d _ (rel_bool hv) (by simp [undef])
      simp [Region.wanted, h1, yielded, yv h2, hv]
  | false =>
    obtain ⟨j, want, d, h1, h2, h3⟩ := hg
    have hv := hS d
    rw [← he d (slot h1 h2)] at hv
    rcases h3 with h3 | h3
    · rw [h3] at hv
      have hv : a.tmps.getD d undef = undef := hv
      rw [Array.getD_eq_getD_getElem?] at hv
      simp only [Region.wanted, h1, yielded, yv h2, Option.bind_some]
      cases hg : a.tmps[d]? with
      | none => simp
      | some v => rw [hg] at hv; simp at hv; subst hv; simp [undef]
    · rw [h3] at hv
      have hv := get d _ (rel_bool hv) (by simp [undef])
      simp [Region.wanted, h1, yielded, yv h2, hv]

theorem put_slots {m m' : Mem} {o : Oper} {v : Value} {f g : Nat → SV} (he : Evo m m') (hS : ∀ t, RelSV m (a.tmps.getD t undef) (f t)) (hd : ∀ d, o.dst = some d → d < a.tmps.size)
    (hv : ∀ d, o.dst = some d → RelSV m' v (g d)) (hg : ∀ t, o.dst ≠ some t → g t = f t) : ∀ t, RelSV m' ((a.put o.dst v).tmps.getD t undef) (g t) := by
  intro t
  rw [getD_put a o.dst v hd]
  split
  · rename_i e; exact hv t e
  · rename_i e; rw [hg t e]; exact evo_sv he (hS t)

/-- Memory behind a set of operations. -/
def HeapOK (all : List Oper) (k : Nat) (B : Heap) (X : Nat → Heap) (H : Nat → Heap) (S : Nat → Bool) (G : Heap) : Prop :=
  ((∀ l o, k ≤ l → all[l]? = some o → heapFree o = false → S l = false) ∧ ∀ id, G.get id = look X B S k id) ∨
  (∃ j, k ≤ j ∧ j ≤ all.length ∧ (∀ l o, l < j → all[l]? = some o → heapFree o = false → S l = true) ∧ (∀ l o, j ≤ l → all[l]? = some o → heapFree o = false → S l = false) ∧ ∀ id, G.get id = (H j).get id)

theorem Trace.free_new {all : List Oper} (h : Trace C all ms k s V X E L H) {i : Nat} {o : Oper} (hi : i < k) (ho : all[i]? = some o) (hf : heapFree o = true) : X i = [] := by
  rcases (h.stepA i o hi ho).2 with ⟨_, _, _, _, s', h1, _, h2⟩ | ⟨_, _, _, h2⟩
  · have := (runOp_free hf h1).1
    rw [h2] at this
    simpa using this
  · exact h2

theorem Trace.free_heap {all : List Oper} (h : Trace C all ms k s V X E L H) {i : Nat} {o : Oper} (hi : k ≤ i) (ho : all[i]? = some o) (hf : heapFree o = true) : H (i + 1) = H i := by
  rcases (h.stepT i o hi ho).2 with ⟨_, s', h1, _, h2⟩ | ⟨_, _, h2⟩
  · rw [← h2, (runOp_free hf h1).1]
  · exact h2

theorem Trace.free_heaps {all : List Oper} (h : Trace C all ms k s V X E L H) {j : Nat} (hj : k ≤ j) : ∀ (d : Nat), j + d ≤ all.length → (∀ l o, j ≤ l → l < j + d → all[l]? = some o → heapFree o = true) → H (j + d) = H j
  | 0, _, _ => rfl
  | d + 1, hd, hf => by
    obtain ⟨o, ho⟩ : ∃ o, all[j + d]? = some o := ⟨_, List.getElem?_eq_getElem (by omega)⟩
    have := h.free_heap (by omega : k ≤ j + d) ho (hf _ o (by omega) (by omega) ho)
    rw [show j + (d + 1) = j + d + 1 by omega, this]
    exact h.free_heaps hj d (by omega) fun l o h1 h2 => hf l o h1 (by omega)

/-- Memory before an operation of the second part. -/
theorem heap_at {all : List Oper} (ho : OrdOK all ms k) (h : Trace C all ms k s V X E L H) {S : Nat → Bool} {G : Heap} (hH : HeapOK all k s.G X H S G) {i : Nat} (hki : k ≤ i) (hi : i ≤ all.length)
    (hb : ∀ l o, l < i → all[l]? = some o → heapFree o = false → S l = true) (ha : ∀ l o, i ≤ l → all[l]? = some o → heapFree o = false → S l = false) : ∀ id, G.get id = (H i).get id := by
  have hle := ho.le
  rcases hH with ⟨h1, h2⟩ | ⟨j, j1, j2, j3, j4, j5⟩
  · have e : H i = H k := by
      obtain ⟨d, rfl⟩ : ∃ d, i = k + d := ⟨i - k, by omega⟩
      refine h.free_heaps (Nat.le_refl _) d hi fun l o l1 l2 hl => ?_
      cases hf : heapFree o with
      | true => rfl
      | false => have := h1 l o l1 hl hf; rw [hb l o l2 hl hf] at this; cases this
    intro id
    rw [h2, e, h.hk, h.all_get hle (Nat.le_refl _)]
    refine look_congr fun q hq => ?_
    obtain ⟨o, hoq⟩ : ∃ o, all[q]? = some o := ⟨_, List.getElem?_eq_getElem (by omega)⟩
    cases hf : heapFree o with
    | true => right; rw [h.free_new hq hoq hf]; rfl
    | false => left; exact hb q o (by omega) hoq hf
  · intro id
    rw [j5]
    rcases Nat.le_total j i with hji | hji
    · obtain ⟨d, rfl⟩ : ∃ d, i = j + d := ⟨i - j, by omega⟩
      rw [h.free_heaps j1 d hi fun l o l1 l2 hl => ?_]
      cases hf : heapFree o with
      | true => rfl
      | false => have := j4 l o l1 hl hf; rw [hb l o l2 hl hf] at this; cases this
    · obtain ⟨d, rfl⟩ : ∃ d, j = i + d := ⟨j - i, by omega⟩
      rw [h.free_heaps hki d j2 fun l o l1 l2 hl => ?_]
      cases hf : heapFree o with
      | true => rfl
      | false => have := j3 l o l2 hl hf; rw [ha l o l1 hl hf] at this; cases this

/-- Memory stays as it is. -/
theorem heap_same {all : List Oper} (ho : OrdOK all ms k) (h : Trace C all ms k s V X E L H) {S : Nat → Bool} {G : Heap} (hH : HeapOK all k s.G X H S G) {i : Nat} {o : Oper} (hi : all[i]? = some o) (hX : i < k → X i = [])
    (hor : heapFree o = true ∨ (i < k ∧ S i = false)) : HeapOK all k s.G X H (put1 S i) G := by
  have hne : ∀ l o', all[l]? = some o' → heapFree o' = false → heapFree o = true → put1 S i l = S l := by
    intro l o' hl hf hfo
    have : l ≠ i := fun e => by subst e; rw [hi] at hl; cases hl; rw [hf] at hfo; cases hfo
    simp [put1, this]
  rcases hH with ⟨h1, h2⟩ | ⟨j, j1, j2, j3, j4, j5⟩
  · refine .inl ⟨fun l o' hl ho' hf => ?_, fun id => ?_⟩
    · rcases hor with hfo | ⟨hlt, _⟩
      · rw [hne l o' ho' hf hfo]; exact h1 l o' hl ho' hf
      · have : l ≠ i := by omega
        simp only [put1, h1 l o' hl ho' hf, Bool.false_or, beq_eq_false_iff_ne, ne_eq]
        exact this
    · rw [h2]
      refine look_congr fun q hq => ?_
      by_cases e : q = i
      · subst e; right; rw [hX hq]; rfl
      · left; simp [put1, e]
  · rcases hor with hfo | ⟨hlt, hn⟩
    · exact .inr ⟨j, j1, j2, fun l o' hl ho' hf => by rw [hne l o' ho' hf hfo]; exact j3 l o' hl ho' hf, fun l o' hl ho' hf => by rw [hne l o' ho' hf hfo]; exact j4 l o' hl ho' hf, j5⟩
    · refine .inr ⟨j, j1, j2, fun l o' hl ho' hf => by simp [put1, j3 l o' hl ho' hf], fun l o' hl ho' hf => ?_, j5⟩
      have : l ≠ i := by omega
      simp only [put1, j4 l o' hl ho' hf, Bool.false_or, beq_eq_false_iff_ne, ne_eq]
      exact this

/-- The state behind a set of operations. -/
structure Good (C : Ctx) (w0 : World) (M : Own) (N : Nat) (all : List Oper) (k : Nat) (s : St) (V : Nat → SV) (X H : Nat → Heap) (S : Nat → Bool) (a : Act) (m : Mem) : Prop where
  inv : Inv C w0 M m
  defers : a.defers = []
  size : N ≤ a.tmps.size
  env : ∀ t, RelSV m (a.tmps.getD t undef) (envS all V s.env S all.length t)
  heap : HeapOK all k s.G X H S m.G

theorem sees_rel {m : Mem} {o : Oper} {f : Nat → SV} {e : Env} (hS : ∀ t, RelSV m (a.tmps.getD t undef) (f t)) (he : ∀ t ∈ looks ops.toList o, e.get t = f t) :
    ∀ t, RelSV m (a.tmps.getD t undef) ((sees ops.toList o e).get t) := by
  intro t
  rcases sees_get (all := ops.toList) (o := o) (e := e) t with ⟨h1, h2⟩ | h1
  · rw [h1, he t h2]; exact hS t
  · rw [h1]; trivial

theorem put_get {dst : Option Nat} {d : Nat} {v : SV} {e : Env} {G : Heap} (h : dst = some d) : (putEnv dst v ⟨e, G⟩).env.get (dst.getD 0) = v := by
  subst h; simp [putEnv, Env.get_cons]

theorem good_step (hC : CtxOK P C) (ho : OrdOK ops.toList ms k) (h : Trace C ops.toList ms k s V X E L H) (hX : Sep ops.toList ms k X s.G) (hbox : ∀ id l, s.G.get id = some (.box l) → ∀ a ∈ l, atomHas s.G a = true)
    (hd : ∀ o ∈ ops.toList, ∀ d, o.dst = some d → d < N) {Q : Exit → Act → World → Prop} {K : Act → World → Prop}
    {S : Nat → Bool} {m : Mem} {i : Nat} {o : Oper} (hg : Good C w0 M N ops.toList k s V X H S a m) (hS : Closed ops.toList ms S) (hi : ops.toList[i]? = some o) (hn : S i = false) (hp : ∀ j, bit (ms.getD i 0) j = true → S j = true)
    (hK : ∀ a' m', Good C w0 M N ops.toList k s V X H (put1 S i) a' m' → K a' m'.w) : wpOp P ops Q i K a m.w := by
  have hlt : i < ops.toList.length := (List.getElem?_eq_some_iff.1 hi).1
  have hle := ho.le
  have hseen : ∀ t ∈ looks ops.toList o, (E i).get t = envS ops.toList V s.env S ops.toList.length t := fun t ht => h.seen ho hS hi hn hp ht
  have hrel := sees_rel hg.env hseen
  have hmem : o ∈ ops.toList := List.mem_of_getElem? hi
  have hdN : ∀ d, o.dst = some d → d < a.tmps.size := fun d hd' => Nat.lt_of_lt_of_le (hd o hmem d hd') hg.size
  have hda : dstAt ops.toList i = o.dst := by simp [dstAt, hi]
  have henv : ∀ t, envS ops.toList V s.env (put1 S i) ops.toList.length t = if o.dst = some t then V i else envS ops.toList V s.env S ops.toList.length t := by
    intro t; rw [envS_put ho (Nat.le_refl _) hlt, hda]
  have hops : ops[i]? = some o := by rw [← Array.getElem?_toList]; exact hi
  -- what is left behind, by value and memory
  have fin : ∀ (v : Value) (m' : Mem), Inv C w0 M m' → Evo m m' → (∀ d, o.dst = some d → RelSV m' v (V i)) → HeapOK ops.toList k s.G X H (put1 S i) m'.G → K (a.put o.dst v) m'.w := by
    intro v m' h1 h2 h3 h4
    refine hK _ m' ⟨h1, by cases o.dst <;> exact hg.defers, by cases o.dst <;> simp [Act.put, hg.size], ?_, h4⟩
    refine put_slots h2 hg.env hdN (fun d hd' => ?_) (fun t ht => ?_)
    · rw [henv, if_pos hd']; exact h3 d hd'
    · rw [henv, if_neg ht]
  -- passed by
  have skip : Going ops.toList o (E i) false → V i = .av .undef → HeapOK ops.toList k s.G X H (put1 S i) m.G → wpOp P ops Q i K a m.w := by
    intro hgo hv hh
    unfold wpOp
    simp only [hops]
    rw [guard_wanted hg.env hseen hgo]
    simp only [Bool.false_eq_true, if_false]
    exact fin undef m hg.inv (Evo.refl m) (fun d _ => by rw [hv]; exact (rfl : undef = undef)) hh
  -- carried out
  have run : ∀ {w1 : World} {M1 : Own} {m1 : Mem} {s' : St}, Going ops.toList o (E i) true → m1.w = m.w → Inv C w1 M1 m1 → (∀ t, RelSV m1 (a.tmps.getD t undef) ((sees ops.toList o (E i)).get t)) →
      runOp C o ⟨sees ops.toList o (E i), m1.G⟩ some = some s' → V i = s'.env.get (o.dst.getD 0) →
      (∀ v m', Inv C w1 M1 m' → Evo m1 m' → (∀ d, o.dst = some d → RelSV m' v (V i)) → m'.G = s'.G → K (a.put o.dst v) m'.w) → wpOp P ops Q i K a m.w := by
    intro w1 M1 m1 s' hgo hw hi1 hr hrun hv hfin
    unfold wpOp
    simp only [hops]
    rw [guard_wanted hg.env hseen hgo]
    simp only [if_true]
    left
    rw [← hw]
    refine op_all (s := ⟨sees ops.toList o (E i), m1.G⟩) (K := some) hC.tab hC.eqs hC.con hi1 rfl (rel_eval hi1 hr) hrun K Q ?_
    rintro v w' ⟨s2, hs2, m', sv, rfl, hs3, q1, q2, q3⟩
    cases hs2
    refine hfin v m' q1 q2 (fun d hd' => ?_) (by rw [hs3]; cases o.dst <;> rfl)
    rw [hv, hs3, put_get hd']
    exact q3
  by_cases hf : heapFree o = true
  · -- looks at no memory
    have hX0 : i < k → X i = [] := fun hik => h.free_new hik hi hf
    have hh : HeapOK ops.toList k s.G X H (put1 S i) m.G := heap_same ho h hg.heap hi hX0 (.inl hf)
    have go : ∀ {G : Heap} {s' : St}, Going ops.toList o (E i) true → runOp C o ⟨sees ops.toList o (E i), G⟩ some = some s' → V i = s'.env.get (o.dst.getD 0) → wpOp P ops Q i K a m.w := by
      intro G s' hgo hr hv
      refine run hgo rfl hg.inv hrel ((runOp_free hf hr).2 m.G) hv fun v m' q1 q2 q3 q4 => fin v m' q1 q2 q3 ?_
      rw [q4]; exact hh
    by_cases hik : i < k
    · rcases (h.stepA i o hik hi).2 with ⟨hgo, _, _, _, s', hr, hv, _⟩ | ⟨hgo, _, hv, _⟩
      · exact go hgo hr hv
      · exact skip hgo hv hh
    · rcases (h.stepT i o (by omega) hi).2 with ⟨hgo, s', hr, hv, _⟩ | ⟨hgo, hv, _⟩
      · exact go hgo hr hv
      · exact skip hgo hv hh
  · have hf : heapFree o = false := by simpa using hf
    by_cases hik : i < k
    · -- the first part
      have hA : (∀ l o, k ≤ l → ops.toList[l]? = some o → heapFree o = false → S l = false) ∧ ∀ id, m.G.get id = look X s.G S k id := by
        rcases hg.heap with hA | ⟨j, j1, _, j3, _⟩
        · exact hA
        · have := j3 i o (by omega) hi hf; rw [hn] at this; cases this
      rcases (h.stepA i o hik hi).2 with ⟨hgo, hL, hsv, hbx, s', hr, hv, hsG⟩ | ⟨hgo, _, hv, hX0⟩
      · have hGi := h.heapFor_get hle (ms.getD i 0) (j := i) (by omega)
        have hsub : ∀ id o, (heapFor (ms.getD i 0) (L i) s.G).get id = some o → m.G.get id = some o := by
          intro id ob hob
          rw [hA.2]
          rw [hGi] at hob
          exact look_sub ho hX hS hik hn hp hob
        have hBhas : ∀ id, s.G.has id = true → (heapFor (ms.getD i 0) (L i) s.G).has id = true := by
          intro id hid
          obtain ⟨ob, hob⟩ := Heap.get_of_has hid
          have : (heapFor (ms.getD i 0) (L i) s.G).get id = some ob := by
            rw [hGi, look_base, hob]
            intro q hq _
            cases hx : (X q).get id with
            | none => rfl
            | some o' => rw [hX.base q id o' (by omega) hx] at hob; cases hob
          exact Heap.has_of_get this
        have hbox' : ∀ id l, (heapFor (ms.getD i 0) (L i) s.G).get id = some (.box l) → l.all (fun a => atomHas (heapFor (ms.getD i 0) (L i) s.G) a) = true := by
          intro id l hl
          rw [hGi] at hl
          rcases look_some hl with ⟨q, h1, h2, h3, _⟩ | ⟨_, h2⟩
          · rcases h.l_mem hle (by omega : i ≤ k) h1 with h4 | h4
            · rw [h4] at h3; simp [Heap.get] at h3
            · rw [List.all_eq_true] at hbx
              have h5 := hbx _ h4
              simp only [h2, Bool.not_true, Bool.false_or] at h5
              unfold boxHas at h5
              rw [List.all_eq_true] at h5
              exact h5 _ (Heap.mem_of_get h3)
          · rw [List.all_eq_true]
            exact fun a ha => atomHas_mono hBhas (hbox id l h2 a ha)
        have hin := frame_in hg.inv hsub hbox'
        have hrel' : ∀ t, RelSV ⟨m.w, m.F, m.ι, heapFor (ms.getD i 0) (L i) s.G⟩ (a.tmps.getD t undef) ((sees ops.toList o (E i)).get t) := by
          intro t
          refine relSV_in hsub (hrel t) ?_
          rw [List.all_eq_true] at hsv
          have hmem' : ∀ (e : Env) (t : Nat), (∀ p ∈ e, svHas (heapFor (ms.getD i 0) (L i) s.G) p.2 = true) → svHas (heapFor (ms.getD i 0) (L i) s.G) (e.get t) = true := by
            intro e t he
            induction e with
            | nil => rfl
            | cons p r ih =>
              obtain ⟨q, v⟩ := p
              simp only [Env.get]
              cases Nat.beq q t with
              | true => exact he (q, v) (by simp)
              | false => exact ih fun p hp => he p (by simp [hp])
          exact hmem' _ t hsv
        refine run (m1 := ⟨m.w, m.F, m.ι, heapFor (ms.getD i 0) (L i) s.G⟩) hgo rfl hin hrel' hr hv fun v m' q1 q2 q3 q4 => ?_
        obtain ⟨m2, r1, r2, r3, r4, r5⟩ := frame_out hg.inv hsub q1 q2 (by rw [q4, hsG]) (fun id ob hx hnone => by
          rw [hA.2]
          rw [hGi] at hnone
          exact look_new ho hX hS hik hn hx hnone)
        rw [← r1]
        refine fin v m2 r3 r4 (fun d hd' => r5 _ _ (q3 d hd')) (.inl ⟨fun l o' hl ho' hf' => ?_, fun id => ?_⟩)
        · have : l ≠ i := by omega
          simp only [put1, hA.1 l o' hl ho' hf', Bool.false_or, beq_eq_false_iff_ne, ne_eq]
          exact this
        · rw [r2, Heap.get_append, look_put ho hX hS hik hn, hA.2]
          try (cases (X i).get id <;> rfl)
      · exact skip hgo hv (heap_same ho h hg.heap hi (fun _ => hX0) (.inr ⟨hik, hn⟩))
    · -- the second part
      have hb : ∀ l o', l < i → ops.toList[l]? = some o' → heapFree o' = false → S l = true := by
        intro l o' hl ho' hf'
        rcases ho.chain i o (by omega) hi l o' hl ho' with hc | hc
        · exact hp l hc
        · rw [hf'] at hc; cases hc
      have ha : ∀ l o', i ≤ l → ops.toList[l]? = some o' → heapFree o' = false → S l = false := by
        intro l o' hl ho' hf'
        rcases Nat.eq_or_lt_of_le hl with rfl | hl
        · exact hn
        · cases hSl : S l with
          | false => rfl
          | true =>
            rcases ho.chain l o' (by omega) ho' i o hl hi with hc | hc
            · rw [(hS l hSl).2 i hc] at hn; cases hn
            · rw [hf] at hc; cases hc
      have hGH := heap_at ho h hg.heap (by omega) (by omega) hb ha
      have hafter : ∀ G : Heap, (∀ id, G.get id = (H (i + 1)).get id) → HeapOK ops.toList k s.G X H (put1 S i) G := by
        intro G hG
        refine .inr ⟨i + 1, by omega, by omega, fun l o' hl ho' hf' => ?_, fun l o' hl ho' hf' => ?_, hG⟩
        · by_cases e : l = i
          · simp [put1, e]
          · simp [put1, hb l o' (by omega) ho' hf']
        · have : l ≠ i := by omega
          simp only [put1, ha l o' (by omega) ho' hf', Bool.false_or, beq_eq_false_iff_ne, ne_eq]
          exact this
      rcases (h.stepT i o (by omega) hi).2 with ⟨hgo, s', hr, hv, hsG⟩ | ⟨hgo, hv, hH⟩
      · obtain ⟨hi1, he1⟩ := inv_congr hg.inv (G' := H i) fun id => (hGH id).symm
        refine run (m1 := ⟨m.w, m.F, m.ι, H i⟩) hgo rfl hi1 (fun t => evo_sv he1 (hrel t)) hr hv fun v m' q1 q2 q3 q4 => ?_
        exact fin v m' q1 (Evo.trans he1 q2) q3 (hafter _ fun id => by rw [q4, hsG])
      · exact skip hgo hv (hafter _ fun id => by rw [hH]; exact hGH id)

/-! ### All of it -/

theorem cnt_put {S : Nat → Bool} {i : Nat} (hS : S i = false) : ∀ {n : Nat}, i < n → (List.range n).countP (put1 S i) = (List.range n).countP S + 1
  | 0, h => by omega
  | n + 1, h => by
    rw [List.range_succ, List.countP_append, List.countP_append]
    by_cases e : i = n
    · subst e
      have h1 : (List.range i).countP (put1 S i) = (List.range i).countP S := by
        refine List.countP_congr fun x hx => ?_
        have := List.mem_range.1 hx
        have hne : x ≠ i := by omega
        simp [put1, hne]
      rw [h1]
      simp [put1, hS]
    · rw [cnt_put hS (by omega : i < n)]
      have : put1 S i n = S n := by simp [put1, Ne.symm e]
      simp [List.countP_cons, this]
      omega

theorem draw_ok (hm : P.follows .mixedOrders = true) : DrawOK P := by
  intro C w0 M N a m s R res K id ops Q hC hs hG hd h hQ
  refine wp_region_any hm ?_
  obtain ⟨k, V, X, E, L, H, ho, ht, hN, hKr⟩ := runDraw_trace h
  have hX := ht.sep ho.le hN
  have hdst := region_dst hd
  have hlen : ops.toList.length = ops.size := by simp
  have hbox : ∀ id l, s.G.get id = some (.box l) → ∀ a ∈ l, atomHas s.G a = true := by
    intro id l hl a ha
    rw [← hG] at hl ⊢
    obtain ⟨b, c, el, _, _, _, h3⟩ := hs.inv.objs id _ hl
    exact relAtoms_has h3 a ha
  -- the draw
  obtain ⟨d1, d2⟩ := step_draw hs.inv (w1 := { m.w with drawn := m.w.drawn + 1 }) ⟨rfl, rfl, rfl, Nat.le_refl _, fun _ _ _ => rfl⟩
  let SS : Array Bool → Nat → Bool := fun l j => l.getD j false
  have set_S : ∀ (l : Array Bool) (i : Nat), i < l.size → SS (l.setIfInBounds i true) = put1 (SS l) i := by
    intro l i hi
    funext j
    show (l.setIfInBounds i true).getD j false = (l.getD j false || j == i)
    by_cases e : j = i
    · subst e; simp [hi]
    · rw [getD_set_ne false (Ne.symm e)]; simp [e]
  have last : ∀ {S : Nat → Bool} {a : Act} {m : Mem}, (∀ i, i < ops.size → S i = true) → Good C w0 M N ops.toList k s V X H S a m → Q .normal a m.w := by
    intro S a m hall hg
    have hGH := heap_at ho ht hg.heap ho.le (Nat.le_refl _) (fun l o hl _ _ => hall l (by omega)) (fun l o hl ho' _ => by
      have := (List.getElem?_eq_some_iff.1 ho').1; omega)
    obtain ⟨hi1, he1⟩ := inv_congr hg.inv (G' := H ops.toList.length) fun id => (hGH id).symm
    refine hQ ⟨E ops.toList.length, H ops.toList.length⟩ a ⟨m.w, m.F, m.ι, H ops.toList.length⟩ hKr rfl ⟨hi1, hg.defers, hg.size, fun t => ?_⟩
    show RelSV _ _ ((E ops.toList.length).get t)
    rw [ht.env ho (Nat.le_refl _)]
    rw [envS_congr (S' := S) fun q hq _ => by rw [hall q (by omega)]; exact decide_eq_true hq]
    exact evo_sv he1 (hg.env t)
  have key : ∀ (fuel : Nat) (listed : Array Bool) (a : Act) (m : Mem), listed.size = ops.size → ops.size ≤ fuel + (List.range ops.size).countP (SS listed) →
      Closed ops.toList (befs ops.toList []) (SS listed) → Good C w0 M N ops.toList k s V X H (SS listed) a m → wpAny P .any ops Q fuel listed a m.w := by
    intro fuel
    induction fuel with
    | zero =>
      intro listed a m hsz hcnt hcl hg
      have hall : ∀ i, i < ops.size → SS listed i = true := by
        have h1 : (List.range ops.size).countP (SS listed) = (List.range ops.size).length := by
          have := List.countP_le_length (p := SS listed) (l := List.range ops.size)
          simp only [List.length_range] at this ⊢
          omega
        rw [List.countP_eq_length] at h1
        exact fun i hi => h1 i (List.mem_range.2 hi)
      refine ⟨?_, last hall hg⟩
      unfold Region.ready
      rw [List.filter_eq_nil_iff]
      intro i hi
      have hi := List.mem_range.1 hi
      have h1 : listed.getD i false = true := hall i hi
      have : listed.getD i true = true := by
        have hlt : i < listed.size := by omega
        simpa [hlt] using h1
      rw [this]; simp
    | succ fuel ih =>
      intro listed a m hsz hcnt hcl hg
      refine ⟨fun hr => last ?_ hg, fun i hi => ?_⟩
      · intro i
        induction i using Nat.strongRecOn with
        | ind i ih2 =>
          intro hi
          cases hh : SS listed i with
          | true => rfl
          | false =>
            have : i ∈ Region.ready .any ops listed := by
              rw [mem_ready]
              have hh : listed.getD i false = false := hh
              have hlt : i < listed.size := by omega
              refine ⟨by simpa [hlt] using hh, ops[i], by simp [hi], fun e he hb => ?_⟩
              have hon := ho.edge i ops[i] e (by rw [Array.getElem?_toList]; simp [hi]) (by simpa using he) hb
              exact ih2 e.on hon (by omega)
            rw [hr] at this
            cases this
      · obtain ⟨h1, o, ho1, h2⟩ := mem_ready.1 hi
        have hlt : i < ops.size := (Array.getElem?_eq_some_iff.1 ho1).1
        have hlt' : i < listed.size := by omega
        have hn : SS listed i = false := by
          show listed.getD i false = false
          simpa [hlt'] using h1
        have hi' : ops.toList[i]? = some o := by rw [Array.getElem?_toList]; exact ho1
        have hp : ∀ j, bit ((befs ops.toList []).getD i 0) j = true → SS listed j = true := by
          intro j hj
          obtain ⟨e, he, hb, h3⟩ := (ho.pre i o j hi').1 hj
          have hon : SS listed e.on = true := h2 e (by simpa using he) hb
          rcases h3 with h3 | h3
          · rw [← h3]; exact hon
          · exact (hcl e.on hon).2 j h3
        refine good_step hC ho ht hX hbox hdst hg hcl hi' hn hp fun a' m' hg' => ?_
        refine ih (listed.setIfInBounds i true) a' m' (by simp [hsz]) ?_ ?_ ?_
        · rw [set_S listed i hlt', cnt_put hn hlt]; omega
        · rw [set_S listed i hlt']; exact hcl.put ho (by omega) hp
        · rw [set_S listed i hlt']; exact hg'
  have hS0 : SS (Array.replicate ops.size false) = fun _ => false := by
    funext j
    show (Array.replicate ops.size false).getD j false = false
    simp [Array.getElem?_replicate]
    split <;> rfl
  refine key ops.size _ a ⟨{ m.w with drawn := m.w.drawn + 1 }, m.F, m.ι, m.G⟩ (by simp) (by omega) ?_ ⟨d1, hs.defers, hs.size, fun t => ?_, .inl ⟨fun l o _ _ _ => by rw [hS0], fun id => ?_⟩⟩
  · rw [hS0]; intro i hi; cases hi
  · rw [hS0, envS_none fun _ _ _ => rfl]
    exact evo_sv d2 (hs.env t)
  · rw [hS0, look_base (fun q _ hq => by cases hq), ← hG]
end
end Go.Vm

/-
  Equality of structs.
-/
namespace Go.Vm

def Ty.deep : Ty → Nat
  | .prod a b => max (a.deep + 1) b.deep
  | .arr _ e => e.deep + 1
  | _ => 1

def Ty.Within (d : Nat) : Ty → Prop
  | .prod a b => a.deep ≤ d ∧ b.deep ≤ d + 1
  | _ => True

def eqChk (P : Program) : Ty → Option (List Field × Nat) → TypeId → Bool
  | .int _, none, _ => true
  | .bool, none, _ => true
  | .str, none, _ => true
  | .prod a b, none, t => !(P.stoodInHeld t) && (match P.underlying t with
    | some (.struct fs) => (match fs.toList with
      | f :: r => (f.name != "_") && eqChk P a none f.type && eqChk P b (some (r, a.size)) 0
      | [] => false)
    | _ => false)
  | .unit, none, t => !(P.stoodInHeld t)
  | .arr _ e, none, t => (match P.underlying t with
    | some (.array _ et) => eqChk P e none et
    | _ => false)
  | .prod a b, some (f :: r, o), _ => (f.name != "_") && eqChk P a none f.type && eqChk P b (some (r, o + a.size)) 0
  | .unit, some ([], _), _ => true
  | _, _, _ => false

def eqsOK (P : Program) (T : Tab) (eqs : List Nat) : Bool := eqs.all fun t => match T.get t with
  | some τ => eqChk P τ none t && Nat.ble τ.deep 9000 && !(P.eqGuardType P.depth t)
  | none => true

section
variable {P : Program}

theorem run_part' {τ : Ty} {t : TypeId} (h : chk P τ none t = true) (us : List Value) (o : Nat) (hl : o + τ.size ≤ us.length) (w : World) :
    (part t us.toArray o).run P w = .ok (toV τ ((us.drop o).take τ.size)) w := by
  cases ha : τ.isAgg with
  | true => simp [part, run_isAgg' h, ha, run_sizeOf' h, toV, List.drop_take]
  | false =>
    have h1' := size_one ha
    have hlt : o < us.length := by omega
    simp only [part, Sem.run_bind, run_isAgg' h, ha, Result.andThen_ok, Bool.false_eq_true, if_false, List.getElem?_toArray, List.getElem?_eq_getElem hlt, toV, cond_false, h1', Sem.run_pure]
    rw [List.drop_eq_getElem_cons hlt]; rfl

theorem take_mid {α : Type} (p c r : List α) : ((p ++ (c ++ r)).drop p.length).take c.length = c := by simp

theorem within_of {b : Ty} {d : Nat} (h : b.deep ≤ d + 1) : b.Within d := by
  cases b <;> simp only [Ty.deep, Ty.Within] at h ⊢
  omega

mutual
theorem eq_ty {w : World} {F : Nat → Prop} : ∀ {τ : Ty} {t : TypeId} {d : Nat} {cs cs' : List Value} {x y : τ.den} {r : Bool}, chk P τ none t = true → eqChk P τ none t = true → τ.deep ≤ d → eqT τ x y = some r → Rd w F τ cs x → Rd w F τ cs' y →
    ∀ w', (Op.equalIn d t (toV τ cs) (toV τ cs')).run P w' = .ok r w'
  | .int k, t, d, cs, cs', x, y, r, h1, _, h3, h4, h5, h6, w' => by
    obtain ⟨d, rfl⟩ : ∃ d', d = d' + 1 := ⟨d - 1, by simp only [Ty.deep] at h3; omega⟩
    obtain ⟨rfl, _⟩ := h5
    obtain ⟨rfl, _⟩ := h6
    simp only [eqT, Option.some.injEq] at h4
    subst h4
    exact run_equalIn_int w' d t k k x y (int_of h1)
  | .bool, t, d, cs, cs', x, y, r, h1, _, h3, h4, h5, h6, w' => by
    obtain ⟨d, rfl⟩ : ∃ d', d = d' + 1 := ⟨d - 1, by simp only [Ty.deep] at h3; omega⟩
    unfold Rd at h5 h6
    subst h5; subst h6
    simp only [eqT, Option.some.injEq] at h4
    subst h4
    exact run_equalIn_bool' w' d t x y (bool_of h1)
  | .str, t, d, cs, cs', x, y, r, h1, _, h3, h4, h5, h6, w' => by
    obtain ⟨d, rfl⟩ : ∃ d', d = d' + 1 := ⟨d - 1, by simp only [Ty.deep] at h3; omega⟩
    obtain ⟨rfl, _⟩ := h5
    obtain ⟨rfl, _⟩ := h6
    simp only [eqT, Option.some.injEq] at h4
    subst h4
    exact run_equalIn_string w' d t x y (str_of h1)
  | .prod a b, t, d, cs, cs', x, y, r, h1, h2, h3, h4, h5, h6, w' => by
    simp only [eqChk, Bool.and_eq_true, Bool.not_eq_true'] at h2
    obtain ⟨hp, h2⟩ := h2
    simp only [chk, Bool.and_eq_true] at h1
    obtain ⟨_, h1⟩ := h1
    split at h2
    · rename_i fs hu
      rw [hu] at h1
      simp only at h1
      split at h2
      · rename_i f rest hfs
        rw [hfs] at h1
        simp only [Bool.and_eq_true] at h1 h2
        obtain ⟨⟨c1, c2⟩, c3⟩ := h1
        obtain ⟨⟨e1, e2⟩, e3⟩ := h2
        obtain ⟨d, rfl⟩ : ∃ d', d = d' + 1 := ⟨d - 1, by simp only [Ty.deep] at h3; omega⟩
        have hfo : P.fieldsOf t = fs := by unfold Program.fieldsOf; rw [hu]
        show (Op.equalIn (d + 1) t (.agg cs.toArray) (.agg cs'.toArray)).run P w' = _
        rw [run_equalIn_struct w' d t cs.toArray cs'.toArray (by rw [hfo]; exact hu) hp, hfo, hfs]
        have := eq_fields (τ := .prod a b) (fs := f :: rest) (o := 0) (d := d) (pre := []) (pre' := []) (suf := []) (suf' := []) (by simp [chk, c1, c2]; simpa using c3) (by simp only [eqChk, Bool.and_eq_true]; exact ⟨⟨e1, e2⟩, by simpa using e3⟩) (by
          simp only [Ty.deep] at h3
          exact ⟨by omega, by omega⟩) h4 h5 h6 rfl rfl w'
        simpa using this
      · simp at h2
    · simp at h2
  | .unit, t, d, cs, cs', x, y, r, h1, h2, h3, h4, h5, h6, w' => by
    simp only [eqChk, Bool.not_eq_true'] at h2
    simp only [chk, Bool.and_eq_true] at h1
    obtain ⟨_, h1⟩ := h1
    split at h1
    · rename_i fs hu
      split at h1
      · rename_i hfs
        obtain ⟨d, rfl⟩ : ∃ d', d = d' + 1 := ⟨d - 1, by simp only [Ty.deep] at h3; omega⟩
        have hfo : P.fieldsOf t = fs := by unfold Program.fieldsOf; rw [hu]
        show (Op.equalIn (d + 1) t (.agg cs.toArray) (.agg cs'.toArray)).run P w' = _
        rw [run_equalIn_struct w' d t cs.toArray cs'.toArray (by rw [hfo]; exact hu) h2, hfo, hfs]
        simp only [eqT, Option.some.injEq] at h4
        subst h4
        simp [Op.eqFields]
      · simp at h1
    · simp at h1
  | .slice _, _, _, _, _, _, _, _, _, _, _, h4, _, _, _ => by simp [eqT] at h4
  | .arr n e, t, d, cs, cs', x, y, r, h1, h2, h3, h4, h5, h6, w' => by
    obtain ⟨d, rfl⟩ : ∃ d', d = d' + 1 := ⟨d - 1, by simp only [Ty.deep] at h3; omega⟩
    simp only [Ty.deep] at h3
    obtain ⟨et, hu, he⟩ := arr_of h1
    simp only [eqChk, hu] at h2
    obtain ⟨ie, ze, s1, s2, _⟩ := info_of he
    obtain ⟨l1, l2, l3⟩ := h5
    obtain ⟨k1, k2, k3⟩ := h6
    have hc : P.cellsOf et = e.size := by unfold Program.cellsOf; rw [s1]; simpa using s2
    show (Op.equalIn (d + 1) t (.agg cs.toArray) (.agg cs'.toArray)).run P w' = _
    rw [run_equalIn_array w' d cs.toArray cs'.toArray hu s1, hc]
    have items : ∀ (q q' : List e.den) (i : Nat) (r : Bool), eqLs (eqT e) q q' = some r → i + q.length = n → i + q'.length = n → (∀ j (hj : j < q.length), Rd w F e ((cs.drop ((i + j) * e.size)).take e.size) q[j]) → (∀ j (hj : j < q'.length), Rd w F e ((cs'.drop ((i + j) * e.size)).take e.size) q'[j]) →
        (Op.eqItems d et e.size cs.toArray cs'.toArray (List.range' i q.length)).run P w' = .ok r w' := by
      intro q
      induction q with
      | nil =>
        intro q' i r hr hq hq' _ _
        cases q' with
        | nil => simp only [eqLs, Option.some.injEq] at hr; subst hr; simp [Op.eqItems]
        | cons b q' => simp [eqLs] at hr
      | cons a q ih =>
        intro q' i r hr hq hq' hR hR'
        cases q' with
        | nil => simp [eqLs] at hr
        | cons b q' =>
          simp only [List.length_cons] at hq hq'
          have hle : (i + 1) * e.size ≤ n * e.size := Nat.mul_le_mul_right _ (by omega)
          rw [Nat.add_mul, Nat.one_mul] at hle
          have p1 := run_part' he cs (i * e.size) (by omega) w'
          have p2 := run_part' he cs' (i * e.size) (by omega) w'
          simp only [eqLs] at hr
          split at hr
          · rename_i p hp
            split at hr
            · rename_i q2 hq2
              cases hr
              have ra := hR 0 (by simp)
              have rb := hR' 0 (by simp)
              simp only [Nat.add_zero, List.getElem_cons_zero] at ra rb
              have ha := eq_ty (d := d) he h2 (by omega) hp ra rb w'
              rw [List.length_cons, List.range'_succ]
              simp only [Op.eqItems, Sem.run_bind, p1, p2, Result.andThen_ok, ha]
              cases p with
              | false => simp
              | true =>
                simp only [Bool.not_true, Bool.false_eq_true, if_false, Bool.true_and]
                exact ih q' (i + 1) q2 hq2 (by omega) (by omega) (fun j hj => by
                  have := hR (j + 1) (by simp; omega)
                  rw [show i + (j + 1) = i + 1 + j by omega] at this
                  simpa using this) (fun j hj => by
                  have := hR' (j + 1) (by simp; omega)
                  rw [show i + (j + 1) = i + 1 + j by omega] at this
                  simpa using this)
            · simp at hr
          · simp at hr
    have := items x y 0 r h4 (by omega) (by omega) (fun j hj => by rw [Nat.zero_add]; exact l3 j hj) (fun j hj => by rw [Nat.zero_add]; exact k3 j hj)
    rw [l1] at this
    rw [List.range_eq_range']
    exact this
  | .ptr _, _, _, _, _, _, _, _, _, _, _, h4, _, _, _ => by simp [eqT] at h4
  | .clo _ _, _, _, _, _, _, _, _, _, _, _, h4, _, _, _ => by simp [eqT] at h4

theorem eq_fields {w : World} {F : Nat → Prop} : ∀ {τ : Ty} {fs : List Field} {o d : Nat} {cs cs' pre pre' suf suf' : List Value} {x y : τ.den} {r : Bool}, chk P τ (some (fs, o)) 0 = true → eqChk P τ (some (fs, o)) 0 = true →
    τ.Within d → eqT τ x y = some r → Rd w F τ cs x → Rd w F τ cs' y → pre.length = o → pre'.length = o →
    ∀ w', (Op.eqFields d (pre ++ (cs ++ suf)).toArray (pre' ++ (cs' ++ suf')).toArray fs).run P w' = .ok r w'
  | .prod a b, f :: rest, o, d, cs, cs', pre, pre', suf, suf', x, y, r, h1, h2, h3, h4, h5, h6, hp, hp', w' => by
    simp only [chk, Bool.and_eq_true] at h1
    simp only [eqChk, Bool.and_eq_true, bne_iff_ne, ne_eq] at h2
    obtain ⟨⟨c1, c2⟩, c3⟩ := h1
    obtain ⟨⟨e1, e2⟩, e3⟩ := h2
    have hoff : f.offset = o := Nat.eq_of_beq_eq_true c1
    obtain ⟨u1, u2, rfl, hu1, hu2⟩ := h5
    obtain ⟨v1, v2, rfl, hv1, hv2⟩ := h6
    have lu := hu1.len
    have lv := hv1.len
    have p1 : (part f.type (pre ++ ((u1 ++ u2) ++ suf)).toArray f.offset).run P w' = .ok (toV a u1) w' := by
      rw [run_part' c2 _ _ (by simp; omega), hoff, ← hp, ← lu, List.append_assoc u1, take_mid]
    have p2 : (part f.type (pre' ++ ((v1 ++ v2) ++ suf')).toArray f.offset).run P w' = .ok (toV a v1) w' := by
      rw [run_part' c2 _ _ (by simp; omega), hoff, ← hp', ← lv, List.append_assoc v1, take_mid]
    simp only [eqT] at h4
    split at h4
    · rename_i p hpp
      split at h4
      · rename_i q hq
        cases h4
        have ha := eq_ty c2 e2 h3.1 hpp hu1 hv1 w'
        simp only [Op.eqFields, e1, not_false_eq_true, if_true, ne_eq, Sem.run_bind, p1, p2, Result.andThen_ok, ha]
        cases p with
        | false => simp
        | true =>
          simp only [Bool.not_true, Bool.false_eq_true, if_false, Bool.true_and]
          have hb3 : b.Within d := within_of h3.2
          have := eq_fields (τ := b) (fs := rest) (o := o + a.size) (d := d) (pre := pre ++ u1) (pre' := pre' ++ v1) (suf := suf) (suf' := suf') c3 e3 hb3 hq hu2 hv2 (by simp; omega) (by simp; omega) w'
          simpa using this
      · simp at h4
    · simp at h4
  | .prod a b, [], _, _, _, _, _, _, _, _, _, _, _, h1, _, _, _, _, _, _, _, _ => by simp [chk] at h1
  | .unit, [], o, d, cs, cs', pre, pre', suf, suf', x, y, r, h1, h2, h3, h4, h5, h6, hp, hp', w' => by
    simp only [eqT, Option.some.injEq] at h4
    subst h4
    simp [Op.eqFields]
  | .unit, _ :: _, _, _, _, _, _, _, _, _, _, _, _, h1, _, _, _, _, _, _, _, _ => by simp [chk] at h1
  | .int _, _, _, _, _, _, _, _, _, _, _, _, _, h1, _, _, _, _, _, _, _, _ => by simp [chk] at h1
  | .bool, _, _, _, _, _, _, _, _, _, _, _, _, h1, _, _, _, _, _, _, _, _ => by simp [chk] at h1
  | .str, _, _, _, _, _, _, _, _, _, _, _, _, h1, _, _, _, _, _, _, _, _ => by simp [chk] at h1
  | .slice _, _, _, _, _, _, _, _, _, _, _, _, _, h1, _, _, _, _, _, _, _, _ => by simp [chk] at h1
  | .arr _ _, _, _, _, _, _, _, _, _, _, _, _, _, h1, _, _, _, _, _, _, _, _ => by simp [chk] at h1
  | .ptr _, _, _, _, _, _, _, _, _, _, _, _, _, h1, _, _, _, _, _, _, _, _ => by simp [chk] at h1
  | .clo _ _, _, _, _, _, _, _, _, _, _, _, _, _, h1, _, _, _, _, _, _, _, _ => by simp [chk] at h1
end

theorem eqs_ok {C : Ctx} (hT : tabOK P C.tab = true) (h : eqsOK P C.tab C.eqs = true) : EqOK P C := by
  intro t τ ht ha hin w F cs cs' x y r hr h1 h2
  rw [List.any_eq_true] at hin
  obtain ⟨e, he, hee⟩ := hin
  have : e = t := Nat.eq_of_beq_eq_true hee
  subst this
  unfold eqsOK at h
  rw [List.all_eq_true] at h
  have := h e he
  rw [ht] at this
  simp only [Bool.and_eq_true, Bool.not_eq_true'] at this
  obtain ⟨⟨c1, c2⟩, c3⟩ := this
  refine ⟨fun w' => ?_, fun op p q w' => ?_⟩
  · show (Op.equalIn Op.maxDepth e _ _).run P w' = _
    exact eq_ty (chk_of_tab hT ht) c1 (by have := Nat.le_of_ble_eq_true c2; show τ.deep ≤ 10000; omega) hr h1 h2 w'
  · have e1 : toV τ cs = .agg cs.toArray := by simp [toV, ha]
    have e2 : toV τ cs' = .agg cs'.toArray := by simp [toV, ha]
    rw [e1, e2]
    exact run_eqGuard_agg w' op e p q _ _ c3
end
end Go.Vm

/-
  A function's contract, from its text and its loops.
-/
namespace Go.Vm

/-- A loop's round, as it was printed. -/
structure LoopPf (C : Ctx) (A : Anns) (body : Code) where
  key : Nat
  ann : Ann
  B : ann.head.ty.den → Option (ann.head.ty.den ⊕ exitTy ann.exits)
  fix : ann.fn = loopFix B
  R : ∀ x, round C A ann (loopBody key body) x = B x

theorem loops_ok {C : Ctx} {A : Anns} {body : Code} (l : List (LoopPf C A body)) (h1 : loopsIn body = l.map fun p => loopBody p.key body)
    (h2 : (l.map fun p => A.get (loopKey (loopBody p.key body))) = l.map fun p => some p.ann) : LoopsOK C A (loopsIn body) := by
  intro c hc ann hann x y hy
  rw [h1] at hc
  obtain ⟨p, hp, rfl⟩ := List.mem_map.1 hc
  have h3 : A.get (loopKey (loopBody p.key body)) = some p.ann := by
    clear h1 hc
    induction l with
    | nil => simp at hp
    | cons q l ih =>
      simp only [List.map_cons, List.cons.injEq] at h2
      rcases List.mem_cons.1 hp with rfl | hp
      · exact h2.1
      · exact ih h2.2 hp
  rw [h3] at hann
  cases hann
  rw [p.fix] at hy
  have : round C A p.ann (loopBody p.key body) = p.B := funext p.R
  rw [this]
  exact loopFix_some.1 hy

/-- What is asked once of a program. -/
structure SeatOK (P : Program) (T : Tab) (eqs : List Nat) : Prop where
  tab : tabOK P T = true
  eqs : eqsOK P T eqs = true
  order : P.follows .mixedOrders = true

theorem SeatOK.ctx {P : Program} {C : Ctx} (h : SeatOK P C.tab C.eqs) (hc : ∀ f site c, C.con f site = some c → c.Holds P C.glob f) : CtxOK P C :=
  ⟨h.tab, eqs_ok h.tab h.eqs, hc⟩

theorem fn_holds {P : Program} {C : Ctx} {A : Anns} {f : FuncId} {fn : Func} {ins : List (Mode × Ty)} {outs : Outs} {M : (tupTy (ins.map (·.2))).den → Option (tupTy ((outs.map (·.2)).map (·.2) ++ mutTys ins)).den}
    (hS : SeatOK P C.tab C.eqs) (hc : ∀ f site c, C.con f site = some c → c.Holds P C.glob f) (hf : P.funcs[f]? = some fn) (hb : fn.body = some (bodyOf fn))
    (hL : LoopsOK C A (loopsIn (bodyOf fn))) (hk : (!(fn.name == "runtime.NumGoroutine") && dstOK fn.ntmps (bodyOf fn) && pinsOK A ins && resOK P outs) = true) (hres : fn.results = (outs.map (·.1)).toArray)
    (heq : ∀ x, callFn C A (bodyOf fn) ins outs x = M x) : Con.Holds P C.glob f ⟨ins, outs.map (·.2), M⟩ := by
  simp only [Bool.and_eq_true, Bool.not_eq_true'] at hk
  obtain ⟨⟨⟨k1, k2⟩, k3⟩, k4⟩ := hk
  exact con_holds (hS.ctx hc) (draw_ok hS.order) hf hb k1 hL k2 k3 hres k4 heq
end Go.Vm

/-
  A law's arguments, read as data, are readings of the machine; and the law's statement from the contract of its function.
-/
namespace Go.Vm
open Go.ChangeShapes Go.RowKit

/-- What can be an argument. -/
def Ty.good : Ty → Bool
  | .int _ => true
  | .bool => true
  | .str => true
  | .slice e => e.good && Nat.blt 0 e.size
  | .prod a b => a.good && b.good
  | .unit => true
  | .arr _ e => e.good
  | _ => false

/-- What is known of every value. -/
def Wf : (τ : Ty) → τ.den → Prop
  | .int k, n => k.min ≤ n ∧ n ≤ k.max
  | .bool, _ => True
  | .str, s => s.size ≤ maxLen
  | .slice e, l => l.length ≤ maxLen ∧ ∀ x ∈ l, Wf e x
  | .prod a b, x => Wf a x.1 ∧ Wf b x.2
  | .unit, _ => True
  | .arr n e, l => l.length = n ∧ ∀ x ∈ l, Wf e x
  | .ptr e, x => Wf e x
  | .clo _ e, x => Wf e x

theorem Rd.wf {w : World} {F : Nat → Prop} : ∀ {τ : Ty} {cs : List Value} {x : τ.den}, Rd w F τ cs x → Wf τ x
  | .int _, _, _, h => h.2
  | .bool, _, _, _ => trivial
  | .str, _, _, h => h.2
  | .slice e, _, l, h => by
    obtain ⟨a, cap, _, h2, h3, h4⟩ := h
    refine ⟨by omega, fun x hx => ?_⟩
    obtain ⟨i, hi, rfl⟩ := List.getElem_of_mem hx
    obtain ⟨b, off, c, el, fz, _, _, _, _, q5⟩ := h4 (List.ne_nil_of_mem hx)
    exact (q5 i hi).wf
  | .prod a b, _, _, h => by
    obtain ⟨c1, c2, _, h1, h2⟩ := h
    exact ⟨h1.wf, h2.wf⟩
  | .unit, _, _, _ => trivial
  | .arr n e, _, l, h => by
    obtain ⟨h1, _, h3⟩ := h
    refine ⟨h1, fun x hx => ?_⟩
    obtain ⟨i, hi, rfl⟩ := List.getElem_of_mem hx
    exact (h3 i hi).wf
  | .ptr e, _, _, h => by
    obtain ⟨b, off, c, el, fz, _, _, _, _, h⟩ := h
    exact Rd.wf (τ := e) h
  | .clo g e, _, _, h => by
    obtain ⟨vs, _, h⟩ := h
    exact Rd.wf (τ := e) h

section
variable {H : Type}
/-- A datum as a value of the machine. -/
def ofD : (τ : Ty) → DataW H → Option τ.den
  | .int _, .lit (.int _ n) => some n
  | .bool, .lit (.bool b) => some b
  | .str, .lit (.string s) => some ⟨s.toArray⟩
  | .slice _, .nil => some []
  | .slice e, .slice l _ => l.mapM (ofD e)
  | .arr _ e, .agg l => l.mapM (ofD e)
  | .prod a b, .agg (d :: r) => match ofD a d with
    | some x => match ofD b (.agg r) with
      | some y => some (x, y)
      | none => none
    | none => none
  | .unit, .agg [] => some ()
  | _, _ => none

variable {enc : TypeId × Value → H} {P : Program} {W : World} {sp : Nat → Bool} {hd : Bool}

theorem cells_of {τ : Ty} {t : TypeId} (h : chk P τ none t = true) : P.cellsOf t = τ.size := by
  obtain ⟨i, z, h1, h2, _⟩ := info_of h
  simp [Program.cellsOf, h1, h2]

theorem mapM_some {α β : Type} {f : α → Option β} : ∀ {l : List α}, (∀ a ∈ l, ∃ b, f a = some b) → ∃ r, l.mapM f = some r
  | [], _ => ⟨[], rfl⟩
  | a :: l, h => by
    obtain ⟨b, hb⟩ := h a (by simp)
    obtain ⟨r, hr⟩ := mapM_some fun x hx => h x (List.mem_cons_of_mem _ hx)
    exact ⟨b :: r, by simp [List.mapM_cons, hb, hr]⟩

/-- Lists of readings: each of them with what it reads as. -/
theorem mapM_rd {e : Ty} {ys : List (DataW H × List MemPlace)} {Q : Nat → e.den → Prop} (h : ∀ i y, ys[i]? = some y → ∃ x, ofD e y.1 = some x ∧ Q i x) :
    ∃ l, (ys.map (·.1)).mapM (ofD e) = some l ∧ l.length = ys.length ∧ ∀ i (hi : i < l.length), Q i l[i] := by
  obtain ⟨l, hl⟩ := mapM_some (f := ofD e) (l := ys.map (·.1)) fun d hd => by
    obtain ⟨y, hy, rfl⟩ := List.mem_map.1 hd
    obtain ⟨i, hi, rfl⟩ := List.getElem_of_mem hy
    obtain ⟨x, hx, _⟩ := h i ys[i] (List.getElem?_eq_getElem hi)
    exact ⟨x, hx⟩
  have hlen : l.length = ys.length := by simpa using Lib.mapM_length hl
  refine ⟨l, hl, hlen, fun i hi => ?_⟩
  have hi' : i < ys.length := by omega
  obtain ⟨x, hx, hq⟩ := h i ys[i] (List.getElem?_eq_getElem hi')
  obtain ⟨b, hb1, hb2⟩ := Lib.mapM_at hl i ys[i].1 (by simp [hi'])
  rw [hx] at hb2
  cases hb2
  have : l[i] = x := by rw [List.getElem?_eq_getElem hi] at hb1; exact Option.some.inj hb1
  rw [this]; exact hq

theorem cells_at {a : Addr} {n : Nat} {cs : List Value} (h : W.cells? 0 a n = some cs) : cs.length = n ∧ ∀ j, j < n → W.cell? (a.add j) = cs[j]? := by
  unfold World.cells? at h
  rw [if_pos (Nat.zero_le _)] at h
  have hl : cs.length = n := by simpa using Lib.mapM_length h
  refine ⟨hl, fun j hj => ?_⟩
  obtain ⟨b, hb1, hb2⟩ := Lib.mapM_at h j j (by simp [hj])
  rw [hb2, hb1]

theorem addr_of {a : Addr} {v : Value} (h : W.cell? a = some v) : ∃ b off c el fz, a = ⟨b, off, none⟩ ∧ W.heap[b]? = some (.cells c el fz) := by
  obtain ⟨b, off, spot⟩ := a
  unfold World.cell? at h
  split at h
  · rename_i c el fz hh
    cases spot with
    | none => exact ⟨b, off, c, el, fz, rfl, hh⟩
    | some _ => simp at h
  · cases h

mutual
theorem trod_rd : ∀ {τ : Ty} {t : TypeId} {fuel : Nat} {cs : List Value} {x : DataW H × List MemPlace}, τ.good = true → chk P τ none t = true → DataW.trod enc P W 0 sp hd fuel t cs = some x →
    ∃ y, ofD τ x.1 = some y ∧ Rd W (fun b => b < W.heap.size) τ cs y
  | .int k, t, fuel, cs, x, _, hc, h => by
    obtain ⟨n, rfl, rfl, hw⟩ := DataW.trod_int (int_of hc) h
    simp only [Lit.wf, Bool.and_eq_true, decide_eq_true_eq] at hw
    exact ⟨n, rfl, rfl, hw⟩
  | .bool, t, fuel, cs, x, _, hc, h => by
    cases fuel with
    | zero => simp [DataW.trod] at h
    | succ fuel =>
      simp only [DataW.trod, bool_of hc] at h
      split at h
      all_goals try (simp_all; done)
      rename_i b heq
      simp only [Option.some.injEq] at h
      subst h
      exact ⟨b, rfl, rfl⟩
  | .str, t, fuel, cs, x, _, hc, h => by
    cases fuel with
    | zero => simp [DataW.trod] at h
    | succ fuel =>
      simp only [DataW.trod, str_of hc] at h
      split at h <;> simp_all
      obtain ⟨h1, rfl⟩ := h
      exact ⟨_, rfl, rfl, h1⟩
  | .slice e, t, fuel, cs, x, hg, hc, h => by
    simp only [Ty.good, Bool.and_eq_true] at hg
    have hpos : 0 < e.size := Nat.le_of_ble_eq_true hg.2
    obtain ⟨et, hu, hce⟩ := slice_of hc
    cases fuel with
    | zero => simp [DataW.trod] at h
    | succ fuel =>
      simp only [DataW.trod, hu, cells_of hce] at h
      split at h
      all_goals try (simp_all; done)
      · cases h
        exact ⟨[], rfl, none, 0, rfl, Nat.le_refl _, Nat.zero_le _, fun h => absurd rfl h⟩
      · rename_i e' a len cap heq
        split at h
        · rename_i hcond
          obtain ⟨elems, he, h⟩ := Option.bind_eq_some_iff.1 h
          obtain ⟨rest, _, rfl⟩ := Option.map_eq_some_iff.1 h
          have hel : elems.length = len := by simpa using Lib.mapM_length he
          have each : ∀ i y, elems[i]? = some y → ∃ ci, W.cells? 0 (a.add (i * e.size)) e.size = some ci ∧ DataW.trod enc P W 0 sp hd fuel et ci = some y := by
            intro i y hy
            have hi : i < len := by have := (List.getElem?_eq_some_iff.1 hy).1; omega
            obtain ⟨b, hb1, hb2⟩ := Lib.mapM_at he i i (by simp [hi])
            rw [hy] at hb1; cases hb1
            cases heq
            rw [cells_of hce] at hb2
            exact Option.bind_eq_some_iff.1 hb2
          obtain ⟨l, q1, q2, q3⟩ := mapM_rd (e := e) (ys := elems) (Q := fun i x => ∃ ci, W.cells? 0 (a.add (i * e.size)) e.size = some ci ∧ Rd W (fun b => b < W.heap.size) e ci x) fun i y hy => by
            obtain ⟨ci, h1, h2⟩ := each i y hy
            obtain ⟨x, h3, h4⟩ := trod_rd hg.1 hce h2
            exact ⟨x, h3, ci, h1, h4⟩
          refine ⟨l, q1, some a, cap, by rw [q2, hel], by omega, hcond.2.2, fun hne => ?_⟩
          have hl0 : 0 < l.length := List.length_pos_iff.2 hne
          obtain ⟨c0, h1, _⟩ := q3 0 hl0
          obtain ⟨k1, k2⟩ := cells_at h1
          have h00 : W.cell? a = some (c0[0]'(by omega)) := by
            have := k2 0 hpos
            rw [List.getElem?_eq_getElem (by omega)] at this
            simpa [Addr.add] using this
          obtain ⟨b, off, c, el, fz, rfl, hh⟩ := addr_of h00
          have pt : ∀ i (hi : i < l.length), ∃ ci, ci.length = e.size ∧ (∀ j, j < e.size → c[off + i * e.size + j]? = ci[j]?) ∧ Rd W (fun b => b < W.heap.size) e ci l[i] := by
            intro i hi
            obtain ⟨ci, g1, g2⟩ := q3 i hi
            obtain ⟨g3, g4⟩ := cells_at g1
            refine ⟨ci, g3, fun j hj => ?_, g2⟩
            have := g4 j hj
            rw [add_off, add_off, cell_at hh] at this
            exact this
          have hb : b < W.heap.size := (Array.getElem?_eq_some_iff.1 hh).1
          have hsz : off + l.length * e.size ≤ c.size := by
            obtain ⟨ci, g3, g4, _⟩ := pt (l.length - 1) (by omega)
            have := g4 (e.size - 1) (by omega)
            rw [List.getElem?_eq_getElem (by omega)] at this
            have hlt := (Array.getElem?_eq_some_iff.1 this).1
            have : l.length * e.size = (l.length - 1) * e.size + e.size := by
              obtain ⟨n, hn⟩ : ∃ n, l.length = n + 1 := ⟨l.length - 1, by omega⟩
              rw [hn]; simp [Nat.add_mul]
            omega
          refine ⟨b, off, c, el, fz, rfl, hb, hh, hsz, fun i hi => ?_⟩
          obtain ⟨ci, g3, g4, g5⟩ := pt i hi
          have : seg c (off + i * e.size) e.size = ci := by
            apply List.ext_getElem?
            intro j
            by_cases hj : j < e.size
            · rw [seg_getElem? _ _ _ _ hj, g4 j hj]
            · rw [List.getElem?_eq_none (by omega : ci.length ≤ j)]
              unfold seg; rw [List.getElem?_take, if_neg hj]
          rw [this]; exact g5
        · cases h
  | .prod a b, t, fuel, cs, x, hg, hc, h => by
    have hc0 := hc
    simp only [chk, Bool.and_eq_true] at hc
    obtain ⟨_, hc⟩ := hc
    split at hc
    · rename_i fs hu
      cases fuel with
      | zero => simp [DataW.trod] at h
      | succ fuel =>
        simp only [DataW.trod, hu, cells_of hc0] at h
        split at h
        · rename_i hlen
          obtain ⟨xs, hx, rfl⟩ := Option.map_eq_some_iff.1 h
          split at hc
          · rename_i f r hfs
            simp only [Bool.and_eq_true] at hc
            rw [hfs] at hx
            have := trod_fields (τ := .prod a b) (fs := f :: r) (o := 0) (cs := cs) (xs := xs) hg (by simp only [chk, Bool.and_eq_true]; exact ⟨hc.1, by simpa using hc.2⟩) hx (by simpa using hlen)
            simpa using this
          · simp at hc
        · cases h
    · simp at hc
  | .unit, t, fuel, cs, x, _, hc, h => by
    have hc0 := hc
    simp only [chk, Bool.and_eq_true] at hc
    obtain ⟨_, hc⟩ := hc
    split at hc
    · rename_i fs hu
      split at hc
      · rename_i hfs
        cases fuel with
        | zero => simp [DataW.trod] at h
        | succ fuel =>
          simp only [DataW.trod, hu, cells_of hc0, hfs] at h
          split at h
          · rename_i hlen
            simp only [List.mapM_nil, Option.pure_def, Option.map_some, Option.some.injEq] at h
            subst h
            refine ⟨(), rfl, ?_⟩
            simp only [Ty.size] at hlen
            exact List.length_eq_zero_iff.1 hlen
          · cases h
      · simp at hc
    · simp at hc
  | .arr n e, t, fuel, cs, x, hg, hc, h => by
    obtain ⟨et, hu, hce⟩ := arr_of hc
    cases fuel with
    | zero => simp [DataW.trod] at h
    | succ fuel =>
      simp only [DataW.trod, hu, cells_of hc, cells_of hce] at h
      split at h
      · rename_i hlen
        obtain ⟨xs, hx, rfl⟩ := Option.map_eq_some_iff.1 h
        have hxl : xs.length = n := by simpa using Lib.mapM_length hx
        obtain ⟨l, q1, q2, q3⟩ := mapM_rd (e := e) (ys := xs) (Q := fun i x => Rd W (fun b => b < W.heap.size) e ((cs.drop (i * e.size)).take e.size) x) fun i y hy => by
          have hi : i < n := by have := (List.getElem?_eq_some_iff.1 hy).1; omega
          obtain ⟨b, hb1, hb2⟩ := Lib.mapM_at hx i i (by simp [hi])
          rw [hy] at hb1; cases hb1
          exact trod_rd hg hce hb2
        exact ⟨l, q1, by omega, by simpa [Ty.size] using hlen, q3⟩
      · cases h
  | .ptr _, _, _, _, _, hg, _, _ => by simp [Ty.good] at hg
  | .clo _ _, _, _, _, _, hg, _, _ => by simp [Ty.good] at hg

theorem trod_fields : ∀ {τ : Ty} {fs : List Field} {o fuel : Nat} {cs : List Value} {xs : List (DataW H × List MemPlace)}, τ.good = true → chk P τ (some (fs, o)) 0 = true →
    fs.mapM (fun f => DataW.trod enc P W 0 sp hd fuel f.type ((cs.drop f.offset).take (P.cellsOf f.type))) = some xs → cs.length = o + τ.size →
    ∃ y, ofD τ (.agg (xs.map (·.1))) = some y ∧ Rd W (fun b => b < W.heap.size) τ (cs.drop o) y
  | .prod a b, f :: r, o, fuel, cs, xs, hg, hc, hx, hl => by
    simp only [Ty.good, Bool.and_eq_true] at hg
    simp only [chk, Bool.and_eq_true] at hc
    obtain ⟨⟨c1, c2⟩, c3⟩ := hc
    have hoff : f.offset = o := Nat.eq_of_beq_eq_true c1
    rw [List.mapM_cons] at hx
    simp only [Option.bind_eq_bind, Option.bind_eq_some_iff, Option.pure_def, Option.some.injEq] at hx
    obtain ⟨x0, h0, xs', hxs, rfl⟩ := hx
    rw [cells_of c2, hoff] at h0
    obtain ⟨y0, e0, r0⟩ := trod_rd hg.1 c2 h0
    obtain ⟨y1, e1, r1⟩ := trod_fields (τ := b) (o := o + a.size) hg.2 c3 hxs (by simp only [Ty.size] at hl; omega)
    refine ⟨(y0, y1), ?_, (cs.drop o).take a.size, cs.drop (o + a.size), ?_, r0, r1⟩
    · simp only [List.map_cons, ofD, e0, e1]
    · rw [← List.drop_drop, List.take_append_drop]
  | .unit, [], o, fuel, cs, xs, _, _, hx, hl => by
    simp only [List.mapM_nil, Option.pure_def, Option.some.injEq] at hx
    subst hx
    refine ⟨(), rfl, ?_⟩
    have : cs.drop o = [] := List.drop_eq_nil_of_le (by simp only [Ty.size] at hl; omega)
    exact this
  | .prod _ _, [], _, _, _, _, _, hc, _, _ => by simp [chk] at hc
  | .unit, _ :: _, _, _, _, _, _, hc, _, _ => by simp [chk] at hc
  | .int _, _, _, _, _, _, _, hc, _, _ => by simp [chk] at hc
  | .bool, _, _, _, _, _, _, hc, _, _ => by simp [chk] at hc
  | .str, _, _, _, _, _, _, hc, _, _ => by simp [chk] at hc
  | .slice _, _, _, _, _, _, _, hc, _, _ => by simp [chk] at hc
  | .arr _ _, _, _, _, _, _, _, hc, _, _ => by simp [chk] at hc
  | .ptr _, _, _, _, _, _, hg, _, _, _ => by simp [Ty.good] at hg
  | .clo _ _, _, _, _, _, _, hg, _, _, _ => by simp [Ty.good] at hg
end

/-- The form of a value of a type. -/
theorem toV_of_ok {τ : Ty} {t : TypeId} {base : Nat} {v : Value} (hg : τ.good = true) (hc : chk P τ none t = true) (h : Value.okWide P W .any base t v) : toV τ v.cells.toList = v := by
  cases τ with
  | int k => simp only [Value.okWide, int_of hc, Cell.okWide, Cell.ok] at h; split at h <;> simp_all [toV, Ty.isAgg, Value.cells]
  | bool => simp only [Value.okWide, bool_of hc, Cell.okWide, Cell.ok] at h; split at h <;> simp_all [toV, Ty.isAgg, Value.cells]
  | str => simp only [Value.okWide, str_of hc, Cell.okWide, Cell.ok] at h; split at h <;> simp_all [toV, Ty.isAgg, Value.cells]
  | slice e =>
    obtain ⟨et, hu, _⟩ := slice_of hc
    simp only [Value.okWide, hu, Cell.okWide, Cell.ok] at h; split at h <;> simp_all [toV, Ty.isAgg, Value.cells]
  | prod a b =>
    obtain ⟨d, hu, hd⟩ := under_of hc
    unfold Value.okWide at h
    rw [hu] at h
    cases d <;> simp [Ty.isAgg] at hd
    all_goals
      obtain ⟨cs, rfl, _⟩ := h
      simp [toV, Ty.isAgg, Value.cells]
  | unit =>
    obtain ⟨d, hu, hd⟩ := under_of hc
    unfold Value.okWide at h
    rw [hu] at h
    cases d <;> simp [Ty.isAgg] at hd
    all_goals
      obtain ⟨cs, rfl, _⟩ := h
      simp [toV, Ty.isAgg, Value.cells]
  | arr n e =>
    obtain ⟨d, hu, hd⟩ := under_of hc
    unfold Value.okWide at h
    rw [hu] at h
    cases d <;> simp [Ty.isAgg] at hd
    all_goals
      obtain ⟨cs, rfl, _⟩ := h
      simp [toV, Ty.isAgg, Value.cells]
  | ptr _ => simp [Ty.good] at hg
  | clo _ _ => simp [Ty.good] at hg

/-- Are all arguments read alone, and of these types? -/
def insOK (P : Program) : List (Mode × Ty) → List TypeId → Bool
  | [], [] => true
  | (.rd, τ) :: l, t :: ts => τ.good && chk P τ none t && P.readableRec t && Nat.blt t P.types.size && insOK P l ts
  | _, _ => false

def WfIns : (ins : List (Mode × Ty)) → (tupTy (ins.map (·.2))).den → Prop
  | [], _ => True
  | p :: l, x => Wf p.2 x.1 ∧ WfIns l x.2

theorem args_rd {base : Nat} : ∀ {ins : List (Mode × Ty)} {ts : List TypeId} {vs : List Value} {ds : List (DataW H)} {ps : List MemPlace}, insOK P ins ts = true → DataW.TrodAll enc P W 0 sp hd ts vs ds ps →
    (∀ (j : Nat) t v, ts[j]? = some t → vs[j]? = some v → Value.okWide P W .any base t v) → ∃ x, ArgsRd W (fun b => b < W.heap.size) ins vs x ∧ WfIns ins x ∧ argHdrs ins vs = [] ∧ ds.length = ins.length
  | [], [], vs, ds, ps, _, h, _ => by
    obtain ⟨rfl, rfl, rfl⟩ := trodAll_nil h
    exact ⟨(), trivial, trivial, rfl, rfl⟩
  | [], _ :: _, _, _, _, hi, _, _ => by simp [insOK] at hi
  | (_, _) :: _, [], _, _, _, hi, _, _ => by simp [insOK] at hi
  | (.upd, _) :: _, _ :: _, _, _, _, hi, _, _ => by simp [insOK] at hi
  | (.take, _) :: _, _ :: _, _, _, _, hi, _, _ => by simp [insOK] at hi
  | (.rd, τ) :: l, t :: ts, vs, ds, ps, hi, h, hok => by
    simp only [insOK, Bool.and_eq_true] at hi
    obtain ⟨⟨⟨⟨c1, c2⟩, _⟩, _⟩, c3⟩ := hi
    obtain ⟨v, vs', d, ds', p, q, rfl, rfl, rfl, ⟨fuel, h1⟩, h2⟩ := trodAll_cons h
    obtain ⟨y, _, hr⟩ := trod_rd c1 c2 h1
    obtain ⟨x, x1, x2, x3, x4⟩ := args_rd (base := base) c3 h2 fun j t v hj hv => hok (j + 1) t v (by simpa using hj) (by simpa using hv)
    exact ⟨(y, x), ⟨⟨v.cells.toList, (toV_of_ok c1 c2 (hok 0 t v rfl rfl)).symm, hr⟩, x1⟩, ⟨hr.wf, x2⟩, x3, by simp [x4]⟩

/-- The arguments read as they did. -/
theorem args_same {W' : World} {sp' : Nat → Bool} (hl : laidOutB P = true) : ∀ {ins : List (Mode × Ty)} {ts : List TypeId} {vs : List Value} {ds : List (DataW H)} {ps : List MemPlace}, insOK P ins ts = true →
    DataW.TrodAll enc P W 0 (fun _ => true) true ts vs ds ps → (∀ p ∈ ps, W.sameAt W' p) → (∀ p ∈ ps, sp' p.block = true) → DataW.TrodAll enc P W' 0 sp' true ts vs ds ps
  | [], [], vs, ds, ps, _, h, _, _ => by
    obtain ⟨rfl, rfl, rfl⟩ := trodAll_nil h
    exact rfl
  | [], _ :: _, _, _, _, hi, _, _, _ => by simp [insOK] at hi
  | (_, _) :: _, [], _, _, _, hi, _, _, _ => by simp [insOK] at hi
  | (.upd, _) :: _, _ :: _, _, _, _, hi, _, _, _ => by simp [insOK] at hi
  | (.take, _) :: _, _ :: _, _, _, _, hi, _, _, _ => by simp [insOK] at hi
  | (.rd, τ) :: l, t :: ts, vs, ds, ps, hi, h, hs, hsp => by
    simp only [insOK, Bool.and_eq_true] at hi
    obtain ⟨⟨⟨⟨_, _⟩, c4⟩, c5⟩, c3⟩ := hi
    obtain ⟨v, vs', d, ds', p, q, rfl, rfl, rfl, h1, h2⟩ := trodAll_cons h
    exact ⟨p, q, WideElems.Trod_stays hl c4 (Nat.le_of_ble_eq_true c5) h1 (fun x hx => hs x (by simp [hx])) (fun x hx => hsp x (by simp [hx])), args_same hl c3 h2 (fun x hx => hs x (by simp [hx])) (fun x hx => hsp x (by simp [hx])), rfl⟩
end

/-- A call that answers true and leaves all that was there. -/
theorem post_true {H : Type} {enc : TypeId × Value → H} {P : Program} {f : Func} {s : ChangeSpec} {W W' : World} {args : Array Value} {ds : List (DataW H)} {before : List MemPlace} {ins : List (Mode × Ty)} {tb : TypeId} {fresh handsOn again : Bool}
    (hl : laidOutB P = true) (hi : insOK P ins f.params.toList = true) (hr : f.resultTypes = #[tb]) (hb : P.underlying tb = some .bool) (hv : s.vars = [])
    (hW : DataW.Whole enc P f.params.toList s.vars false W args.toList ds [] before) (hs : s.fn H (ds ++ []) = { results := [.lit (.bool true)], args := ds })
    (hk : Kept W (fun _ => False) W') : s.post enc P f false fresh handsOn again W args (.bool true) W' := by
  have hold : ∀ p ∈ before, decide (p.block < W.heap.size) = true := fun p hp => by simpa using hW.lt p hp
  have hblk : ∀ b, b < W.heap.size → W'.heap[b]? = W.heap[b]? := fun b hb => hk.block b hb (fun h => h)
  have hsame : ∀ p ∈ before, W.sameAt W' p := by
    intro p hp
    have := hblk p.block (hW.lt p hp)
    cases p with
    | cell b off => simp only [MemPlace.block] at this; simp [World.sameAt, World.cell?, this]
    | map b => exact this
  have hW' := hW
  obtain ⟨p, q, hA, hV, rfl, hz, _⟩ := hW
  rw [hv] at hV
  obtain rfl : q = [] := hV
  simp only [List.append_nil] at hold hsame hz hW'
  have args' : ∀ sp : Nat → Bool, (∀ x ∈ p, sp x.block = true) → DataW.TrodAll enc P W' 0 sp true f.params.toList args.toList ds p := fun sp hsp => args_same hl hi hA hsame hsp
  have res' : ∀ (b : Nat) (sp : Nat → Bool) (hd : Bool), DataW.TrodAll enc P W' b sp hd f.resultTypes.toList ((Value.bool true).resultList f.resultTypes.size) [.lit (.bool true)] [] := by
    intro b sp hd
    rw [hr]
    exact trodAll_mk1 (shut_bool hb true)
  have ok' : ∀ (j : Nat) (t : TypeId) (r : Value), f.resultTypes[j]? = some t → ((Value.bool true).resultList f.resultTypes.size)[j]? = some r → Value.okWide P W' .any 0 t r := by
    intro j t r hj hv
    rw [hr] at hj hv
    match j, hj, hv with
    | 0, hj, hv =>
      simp [Value.resultList] at hj hv
      subst hj; subst hv
      simp [Value.okWide, hb, Cell.okWide, Cell.ok]
  have vars' : ∀ sp : Nat → Bool, DataW.TrodVars enc P W' sp s.vars (s.fn H (ds ++ [])).vars [] := by
    intro sp; rw [hv, hs]; exact rfl
  refine ⟨ds, [], p, [], p, [], hW', by rw [hs]; exact res' _ _ _, by rw [hs]; exact args' _ hold, vars' _, ⟨hk.os, hk.output, fun i hi => ?_⟩, fun _ => ⟨ok', [.lit (.bool true)] ++ ds, [], p, ⟨p, [], ?_, ?_, by simp, ?_, fun h => by cases h⟩, fun x hx _ => hx⟩⟩
  · rw [hblk i hi]
    cases h : W.heap[i]? with
    | none => trivial
    | some o =>
      cases o with
      | cells c t fr => exact ⟨rfl, rfl, rfl, fun _ _ => rfl⟩
      | map es ck => exact .inr ⟨rfl, rfl⟩
      | _ => rfl
  · have := trodAll_append (args' (fun _ => true) (fun _ _ => rfl)) (res' 0 (fun _ => true) true)
    simpa using this
  · rw [hv]; exact rfl
  · intro b off hp
    have := hblk b (of_decide_eq_true (hold _ hp))
    have h2 := hz b off hp
    simpa [World.frozen?, this] using h2

/-- The law's call, from the contract of its function. -/
theorem law_calls {H : Type} {enc : TypeId × Value → H} {P : Program} {f : FuncId} {fn : Func} {s : ChangeSpec} {glob : List (Nat × (Σ t : Ty, t.den))} {ins : List (Mode × Ty)} {tb : TypeId} {M : (tupTy (ins.map (·.2))).den → Option (tupTy ([(true, Ty.bool)].map (·.2) ++ mutTys ins)).den} {fresh handsOn again : Bool}
    (hl : laidOutB P = true) (hf : P.funcs[f]? = some fn) (hb : fn.body.isSome = true) (hn : (fn.name == "runtime.NumGoroutine") = false) (hi : insOK P ins fn.params.toList = true) (hr : fn.resultTypes = #[tb]) (hbt : P.underlying tb = some .bool) (hv : s.vars = [])
    (hs : ∀ ds : List (DataW H), ds.length = ins.length → s.fn H (ds ++ []) = { results := [.lit (.bool true)], args := ds })
    (hc : Con.Holds P glob f ⟨ins, [(true, .bool)], M⟩) (hM : ∀ x, WfIns ins x → ∃ r, M x = some (true, r))
    {W : World} {base : Nat} {args : Array Value} {ds gs : List (DataW H)} {before : List MemPlace}
    (hg : ∀ g τ x, globGet glob g = some ⟨τ, x⟩ → Rd W (fun b => b < W.heap.size) (.ptr τ) [.pointer (some ⟨g, 0, none⟩)] x)
    (hok : ∀ (j : Nat) t v, fn.params[j]? = some t → args[j]? = some v → Value.okWide P W .any base t v) (hW : DataW.Whole enc P fn.params.toList s.vars false W args.toList ds gs before) :
    Calls P f args W fun e W' => ∃ v, e = .returned v ∧ s.post enc P fn false fresh handsOn again W args v W' := by
  have hW0 := hW
  obtain ⟨p, q, hA, hV, _, _, _⟩ := hW
  obtain rfl : gs = [] := by
    rw [hv] at hV
    cases gs with
    | nil => rfl
    | cons g r => exact absurd hV (by intro h; cases h)
  obtain ⟨x, a1, a2, a3, a4⟩ := args_rd (base := base) hi hA (fun j t v hj hv => hok j t v (by rw [← Array.getElem?_toList]; exact hj) (by rw [← Array.getElem?_toList]; exact hv))
  obtain ⟨r, hMx⟩ := hM x a2
  have hp : Pre glob W (fun b => b < W.heap.size) ins args.toList x := ⟨a1, by rw [a3]; simp, by rw [a3]; exact List.Pairwise.nil, fun b hb => hb, hg⟩
  have fin : ∀ {v : Value} {W' : World}, (∃ F2 css, Post W (fun b => b < W.heap.size) ins args.toList [(true, .bool)] (true, r) v W' F2 css) → s.post enc P fn false fresh handsOn again W args v W' := by
    rintro v W' ⟨F2, css, hP⟩
    have hk := hP.kept
    rw [a3] at hk
    have hk' : Kept W (fun _ => False) W' := ⟨hk.os, hk.tape, hk.output, hk.size, fun b hb _ => hk.block b hb (by rintro ⟨u, hu, _⟩; simp at hu)⟩
    have hv' : v = .bool true := by
      have h1 := hP.res
      have h2 := hP.val
      match css, h1 with
      | [cs], h1 =>
        have h3 : Rd W' F2 .bool cs true := h1.1
        unfold Rd at h3
        subst h3
        rw [h2]; rfl
    subst hv'
    exact post_true hl hi hr hbt hv hW0 (hs ds a4) hk'
  have hn' : ¬ fn.name = "runtime.NumGoroutine" := by simpa using hn
  obtain ⟨body, hbody⟩ := Option.isSome_iff_exists.1 hb
  have hcall : (callFunc f args).run P W = .ok (.enter f args) W := by simp [callFunc, hf, hn', hbody]
  have harr : args.toList.toArray = args := by simp
  rcases hc W _ args.toList x (true, r) hp hMx with ⟨_, h2⟩ | ⟨v, w', h1, _⟩
  · rw [harr] at h2
    refine h2.mono fun e W' he => ?_
    obtain ⟨v, rfl, hR⟩ := he
    exact ⟨v, rfl, fin hR⟩
  · rw [harr, hcall] at h1
    cases h1
end Go.Vm

namespace Go.Vm
/-- A listed variable as a reading. -/
theorem rd_of_laid {P : Program} {W : World} {laid : List (String × DataW Unit)} (h : laidMetH P laid W) (hno : (laid.filter fun x => x.2.handleName?.isSome) = []) {name : String} {d : DataW Unit} {g : Nat} {t : TypeId} {τ : Ty} {x : τ.den}
    (hmem : (name, d) ∈ laid) (hg : P.globalNamed name = some g) (ht : (P.globals[g]?).map (·.type) = some t) (hc : (chk P τ none t && τ.good) = true) (hx : ofD τ d = some x) :
    Rd W (fun b => b < W.heap.size) (.ptr τ) [.pointer (some ⟨g, 0, none⟩)] x := by
  simp only [Bool.and_eq_true] at hc
  unfold laidMetH at h
  rw [hno] at h
  obtain ⟨ps, hv, _⟩ := h
  have key : ∀ (l : List (String × DataW Unit)) (ps : List MemPlace), DataW.LaidVars P W l ps → (name, d) ∈ l → ∃ g t cs fuel p, P.globalNamed name = some g ∧ (P.globals[g]?).map (·.type) = some t ∧ W.var? P name = some cs ∧ DataW.trod (fun _ => ()) P W 0 (fun _ => true) false fuel t cs.toList = some (d, p) := by
    intro l
    induction l with
    | nil => intro _ _ hm; simp at hm
    | cons q l ih =>
      obtain ⟨n, e⟩ := q
      rintro ps ⟨g, t, cs, fuel, p, q, h1, h2, h3, h4, h5, _⟩ hm
      rcases List.mem_cons.1 hm with hm | hm
      · cases hm; exact ⟨g, t, cs, fuel, p, h1, h2, h3, h4⟩
      · exact ih q h5 hm
  obtain ⟨g', t', cs, fuel, p, h1, h2, h3, h4⟩ := key laid ps hv hmem
  rw [hg] at h1; cases h1
  rw [ht] at h2; cases h2
  obtain ⟨y, hy, hr⟩ := trod_rd hc.2 hc.1 h4
  rw [hx] at hy; cases hy
  unfold World.var? at h3
  rw [hg] at h3
  simp only [Option.bind_some] at h3
  split at h3
  · rename_i c el fz hh
    cases h3
    have hb : g < W.heap.size := (Array.getElem?_eq_some_iff.1 hh).1
    have hl := hr.len
    rw [Array.length_toList] at hl
    refine ⟨g, 0, cs, el, fz, rfl, hb, hh, by omega, ?_⟩
    have : seg cs 0 τ.size = cs.toList := by
      unfold seg
      rw [List.drop_zero, List.take_of_length_le (by rw [Array.length_toList]; omega)]
    rw [this]; exact hr
  · cases h3

theorem globs {W : World} {glob : List (Nat × (Σ t : Ty, t.den))} (h : ∀ p ∈ glob, Rd W (fun b => b < W.heap.size) (.ptr p.2.1) [.pointer (some ⟨p.1, 0, none⟩)] p.2.2) :
    ∀ g τ x, globGet glob g = some ⟨τ, x⟩ → Rd W (fun b => b < W.heap.size) (.ptr τ) [.pointer (some ⟨g, 0, none⟩)] x := by
  induction glob with
  | nil => intro g τ x hg; simp [globGet] at hg
  | cons p r ih =>
    intro g τ x hg
    obtain ⟨k, v⟩ := p
    simp only [globGet] at hg
    cases hk : Nat.beq k g with
    | true =>
      rw [hk] at hg
      cases hg
      rw [← Nat.eq_of_beq_eq_true hk]
      exact h (k, ⟨τ, x⟩) (by simp)
    | false => rw [hk] at hg; exact ih (fun p hp => h p (by simp [hp])) g τ x hg
end Go.Vm

/-
  Plain laws for what the decompiler prints: numbers, lists, strings, loops.
-/
namespace Go.Vm

theorem lim_val : lim = 68719476736 := by decide

/-! ### Numbers -/

theorem addI64 {a b : Int} (h1 : -9223372036854775808 ≤ a + b) (h2 : a + b ≤ 9223372036854775807) : addI .i64 a b = a + b := IntWalk.i64_in _ ⟨h1, h2⟩
theorem subI64 {a b : Int} (h1 : -9223372036854775808 ≤ a - b) (h2 : a - b ≤ 9223372036854775807) : subI .i64 a b = a - b := IntWalk.i64_in _ ⟨h1, h2⟩
theorem mulI64 {a b : Int} (h1 : -9223372036854775808 ≤ a * b) (h2 : a * b ≤ 9223372036854775807) : mulI .i64 a b = a * b := IntWalk.i64_in _ ⟨h1, h2⟩
theorem add1 {a : Nat} (h : a < 9223372036854775807) : addI .i64 (a : Int) 1 = ((a + 1 : Nat) : Int) := by rw [addI64 (by omega) (by omega)]; rfl
theorem sub1 {a : Nat} (h : a ≤ 9223372036854775800) : subI .i64 (a : Int) 1 = (a : Int) - 1 := subI64 (by omega) (by omega)

theorem ltI_t {a b : Int} (h : a < b) : ltI a b = true := by simp [ltI, h]
theorem ltI_f {a b : Int} (h : b ≤ a) : ltI a b = false := by simp [ltI]; omega
theorem gtI_t {a b : Int} (h : b < a) : gtI a b = true := by simp [gtI, h]
theorem gtI_f {a b : Int} (h : a ≤ b) : gtI a b = false := by simp [gtI]; omega
theorem geI_t {a b : Int} (h : b ≤ a) : geI a b = true := by simp [geI]; omega
theorem geI_f {a b : Int} (h : a < b) : geI a b = false := by simp [geI]; omega
theorem leI_t {a b : Int} (h : a ≤ b) : leI a b = true := by simp [leI, h]
theorem leI_f {a b : Int} (h : b < a) : leI a b = false := by simp [leI]; omega
theorem eqI_t {a b : Int} (h : a = b) : eqI a b = true := by simp [eqI, h]
theorem eqI_f {a b : Int} (h : a ≠ b) : eqI a b = false := by simp [eqI, h]
theorem neI_t {a b : Int} (h : a ≠ b) : neI a b = true := by simp [neI, h]
theorem neI_f {a b : Int} (h : a = b) : neI a b = false := by simp [neI, h]

theorem quo2 {d : Nat} (h : d ≤ 9223372036854775807) : quoI .i64 (d : Int) 2 = ((d / 2 : Nat) : Int) := by
  unfold quoI
  have : (d : Int).tdiv 2 = ((d / 2 : Nat) : Int) := by rw [Int.tdiv_eq_ediv_of_nonneg (by omega)]; omega
  rw [this]
  exact IntWalk.i64_in _ ⟨by omega, by omega⟩
theorem rem2 {d : Nat} : remI (d : Int) 2 = ((d % 2 : Nat) : Int) := by
  unfold remI
  rw [Int.tmod_eq_emod_of_nonneg (by omega)]; omega

/-- The other dart of an edge. -/
def oth (d : Nat) : Nat := if d % 2 = 0 then d + 1 else d - 1
theorem oth_oth (d : Nat) : oth (oth d) = d := by unfold oth; split <;> split <;> omega
theorem oth_lt {d m : Nat} (h : d < 2 * m) : oth d < 2 * m := by unfold oth; split <;> omega
theorem oth_ne (d : Nat) : oth d ≠ d := by unfold oth; split <;> omega
theorem oth_div (d : Nat) : oth d / 2 = d / 2 := by unfold oth; split <;> omega
theorem oth_mod (d : Nat) : oth d % 2 = 1 - d % 2 := by unfold oth; split <;> omega
theorem xor_one (d : Nat) : d ^^^ 1 = oth d := by
  apply Nat.eq_of_testBit_eq
  intro i
  rw [Nat.testBit_xor]
  cases i with
  | zero =>
    simp only [Nat.testBit_zero]
    have := oth_mod d
    rcases Nat.mod_two_eq_zero_or_one d with h | h
    · rw [this, h]; rfl
    · rw [this, h]; rfl
  | succ i =>
    rw [Nat.testBit_succ, Nat.testBit_succ, Nat.testBit_succ, oth_div]
    simp
theorem xor1 {d : Nat} (h : d < 4611686018427387904) : xorI .i64 (d : Int) 1 = ((oth d : Nat) : Int) := by
  unfold xorI
  have h1 : (BitVec.ofInt (IntKind.bits .i64) (d : Int)).toNat = d := by
    show (BitVec.ofInt 64 (d : Int)).toNat = d
    rw [BitVec.toNat_ofInt]
    omega
  have h2 : (BitVec.ofInt (IntKind.bits .i64) (1 : Int)).toNat = 1 := by decide
  have h3 : (BitVec.ofInt (IntKind.bits .i64) (d : Int) ^^^ BitVec.ofInt (IntKind.bits .i64) 1).toNat = oth d := by
    rw [BitVec.toNat_xor, h1, h2, xor_one]
  rw [h3]
  have : oth d ≤ d + 1 := by unfold oth; split <;> omega
  exact IntWalk.i64_in _ ⟨by omega, by omega⟩

/-! ### Lists -/

theorem idxI_of {n i : Nat} (h : i < n) : idxI n (i : Int) = some i := by simp [idxI, h]
theorem idxI_int {n : Nat} {i : Int} (h0 : 0 ≤ i) (h : i < n) : idxI n i = some i.toNat := by simp [idxI, h0, h]
theorem getI_of {α : Type} {l : List α} {i : Nat} : getI l (i : Int) = l[i]? := by simp [getI]
theorem getI_int {α : Type} {l : List α} {i : Int} (h : 0 ≤ i) : getI l i = l[i.toNat]? := by simp [getI, h]
theorem app_of {α : Type} {l r : List α} (h : l.length + r.length ≤ 68719476736) : app l r = some (l ++ r) := by simp [app, lim_val, h]
theorem catS_of {a b : ByteArray} (h : a.size + b.size ≤ 68719476736) : catS a b = some (a ++ b) := by simp [catS, lim_val, h]
theorem makeL_of {e : Ty} {n c : Nat} (h : n ≤ c) (h2 : c ≤ 68719476736) : makeL e (n : Int) (c : Int) = some (List.replicate n (zeroVal e)) := by
  have h3 : (c : Int) ≤ 68719476736 := by omega
  simp [makeL, lim_val, h, h3]

/-! ### Loops -/
section
variable {σ ρ : Type} {f : σ → Option (σ ⊕ ρ)}

theorem loop_step {s t : σ} (h : f s = some (.inl t)) : loopFix f s = loopFix f t := by rw [loopFix_eq, h]; rfl
theorem loop_done {s : σ} {r : ρ} (h : f s = some (.inr r)) : loopFix f s = some r := by rw [loopFix_eq, h]; rfl

/-- A loop by what stands at its head, and by what grows less. -/
theorem loop_rule (I : σ → Prop) (m : σ → Nat) (Q : ρ → Prop) (step : ∀ s, I s → (∃ t, f s = some (.inl t) ∧ I t ∧ m t < m s) ∨ ∃ r, f s = some (.inr r) ∧ Q r) : ∀ s, I s → ∃ r, loopFix f s = some r ∧ Q r := by
  have : ∀ n s, m s ≤ n → I s → ∃ r, loopFix f s = some r ∧ Q r := by
    intro n
    induction n with
    | zero =>
      intro s hm hs
      rcases step s hs with ⟨t, _, _, h⟩ | ⟨r, h1, h2⟩
      · omega
      · exact ⟨r, loop_done h1, h2⟩
    | succ n ih =>
      intro s hm hs
      rcases step s hs with ⟨t, h1, h2, h⟩ | ⟨r, h1, h2⟩
      · rw [loop_step h1]; exact ih t (by omega) h2
      · exact ⟨r, loop_done h1, h2⟩
  exact fun s hs => this (m s) s (Nat.le_refl _) hs
end

/-! ### Bytes -/

theorem bytesOf_length (s : ByteArray) : (bytesOf s).length = s.size := by
  unfold bytesOf
  rw [List.length_map, Array.length_toList]; rfl
theorem bytesOf_range {s : ByteArray} : ∀ n ∈ bytesOf s, 0 ≤ n ∧ n < 256 := by
  intro n hn
  obtain ⟨b, _, rfl⟩ := List.mem_map.1 hn
  have := b.toNat_lt
  omega
theorem ofBytes_bytesOf (s : ByteArray) : ofBytes (bytesOf s) = s := by
  obtain ⟨⟨l⟩⟩ := s
  simp [ofBytes, bytesOf, Function.comp_def]
theorem bytesOf_ofBytes {l : List Int} (h : ∀ n ∈ l, 0 ≤ n ∧ n < 256) : bytesOf (ofBytes l) = l := by
  simp only [ofBytes, bytesOf, List.map_map]
  conv => rhs; rw [← List.map_id l]
  refine List.map_congr_left fun n hn => ?_
  have := h n hn
  simp only [Function.comp_apply, id]
  rw [UInt8.toNat_ofNat']
  omega
theorem eqS_refl (s : ByteArray) : eqS s s = true := by simp [eqS]
theorem eqS_iff {a b : ByteArray} : eqS a b = true ↔ a = b := by
  simp only [eqS, beq_iff_eq]
  constructor
  · intro h
    rw [ByteArray.toList_eq, ByteArray.toList_eq] at h
    obtain ⟨⟨x⟩⟩ := a
    obtain ⟨⟨y⟩⟩ := b
    simpa using h
  · intro h; rw [h]
theorem size_ofBytes (l : List Int) : (ofBytes l).size = l.length := by simp [ofBytes, ByteArray.size]

/-- A byte of a string. -/
theorem byte_at (s : ByteArray) (i : Nat) : (s.data.toList[i]?).map (fun c => (c.toNat : Int)) = (bytesOf s)[i]? := by simp [bytesOf]

/-! ### slices.Reverse -/

def revB {α : Type} (x : List α × Int × Int × Unit) : Option ((List α × Int × Int × Unit) ⊕ ((List α × Unit) ⊕ Empty)) :=
  cond (ltI x.2.1 x.2.2.1) ((idxI x.1.length x.2.2.1).bind fun j1 => (x.1[j1]?).bind fun y2 => (idxI x.1.length x.2.1).bind fun j3 => (x.1[j3]?).bind fun y4 => (idxI x.1.length x.2.1).bind fun j5 => (x.1[j5]?).bind fun _ => (idxI (x.1.set j5 y2).length x.2.2.1).bind fun j7 => ((x.1.set j5 y2)[j7]?).bind fun _ => some (.inl (((x.1.set j5 y2).set j7 y4), ((addI .i64 x.2.1 1), ((subI .i64 x.2.2.1 1), ()))))) (some (.inr (.inl (x.1, ()))))

theorem rev_loop {α : Type} : ∀ (n : Nat) (p m q : List α), m.length ≤ n → (p ++ m ++ q).length ≤ 68719476736 →
    loopFix revB (p ++ m ++ q, ((p.length : Int), (((p.length + m.length : Nat) : Int) - 1, ()))) = some (.inl (p ++ m.reverse ++ q, ())) := by
  intro n
  induction n using Nat.strongRecOn with
  | ind n ih =>
    intro p m q hm hlen
    match m, hm with
    | [], _ =>
      refine loop_done ?_
      simp only [revB]
      rw [ltI_f (by simp; omega)]
      simp
    | [a], _ =>
      refine loop_done ?_
      simp only [revB]
      rw [ltI_f (by simp)]
      simp
    | a :: b :: m', hm =>
      obtain ⟨mid, z, hz⟩ : ∃ mid z, b :: m' = mid ++ [z] := ⟨(b :: m').dropLast, (b :: m').getLast (by simp), (List.dropLast_concat_getLast (by simp)).symm⟩
      rw [hz] at hm hlen ⊢
      have hl : (p ++ a :: (mid ++ [z]) ++ q).length = p.length + mid.length + 2 + q.length := by simp; omega
      have hstep : revB (p ++ a :: (mid ++ [z]) ++ q, ((p.length : Int), (((p.length + (a :: (mid ++ [z])).length : Nat) : Int) - 1, ()))) =
          some (.inl ((p ++ [z]) ++ mid ++ ([a] ++ q), (((p ++ [z]).length : Int), ((((p ++ [z]).length + mid.length : Nat) : Int) - 1, ())))) := by
        simp only [revB]
        rw [ltI_t (by simp; omega)]
        have e2 : (((p.length + (a :: (mid ++ [z])).length : Nat) : Int) - 1) = ((p.length + mid.length + 1 : Nat) : Int) := by simp; omega
        rw [e2, cond_true, idxI_of (by omega), Option.bind_some]
        have g1 : (p ++ a :: (mid ++ [z]) ++ q)[p.length + mid.length + 1]? = some z := by
          have : p ++ a :: (mid ++ [z]) ++ q = (p ++ a :: mid) ++ (z :: q) := by simp
          rw [this, List.getElem?_append_right (by simp; omega)]
          simp
          have : p.length + mid.length + 1 - (p.length + (mid.length + 1)) = 0 := by omega
          rw [this]; rfl
        have g2 : (p ++ a :: (mid ++ [z]) ++ q)[p.length]? = some a := by simp
        rw [g1, Option.bind_some, idxI_of (by omega), Option.bind_some, g2, Option.bind_some, Option.bind_some]
        simp only [g2, Option.bind_some]
        rw [List.length_set, idxI_of (by omega), Option.bind_some]
        have s1 : (p ++ a :: (mid ++ [z]) ++ q).set p.length z = p ++ z :: (mid ++ [z]) ++ q := by simp
        rw [s1]
        have g3 : (p ++ z :: (mid ++ [z]) ++ q)[p.length + mid.length + 1]? = some z := by
          have : p ++ z :: (mid ++ [z]) ++ q = (p ++ z :: mid) ++ (z :: q) := by simp
          rw [this, List.getElem?_append_right (by simp; omega)]
          simp
          have : p.length + mid.length + 1 - (p.length + (mid.length + 1)) = 0 := by omega
          rw [this]; rfl
        rw [g3, Option.bind_some]
        have s2 : (p ++ z :: (mid ++ [z]) ++ q).set (p.length + mid.length + 1) a = (p ++ [z]) ++ mid ++ ([a] ++ q) := by
          have : p ++ z :: (mid ++ [z]) ++ q = (p ++ z :: mid) ++ (z :: q) := by simp
          rw [this, List.set_append_right _ _ (by simp; omega)]
          have : p.length + mid.length + 1 - (p ++ z :: mid).length = 0 := by simp; omega
          rw [this]; simp
        rw [s2, add1 (by omega), subI64 (by omega) (by omega)]
        simp
        omega
      rw [loop_step hstep, ih mid.length (by simp at hm; omega) (p ++ [z]) mid ([a] ++ q) (Nat.le_refl _) (by simp at hlen ⊢; omega)]
      simp

theorem rev_all {α : Type} (l : List α) (h : l.length ≤ 68719476736) : loopFix revB (l, ((0 : Int), (subI .i64 (l.length : Nat) 1, ()))) = some (.inl (l.reverse, ())) := by
  have := rev_loop l.length [] l [] (Nat.le_refl _) (by simpa using h)
  rw [sub1 (by omega)]
  simpa using this
end Go.Vm

namespace Go.Vm
/-! ### Loops over a list -/

/-- A list gone through from the left, with a way out. -/
def foldE {S α ε : Type} (g : Nat → S → α → Option (S ⊕ ε)) : Nat → S → List α → Option (S ⊕ ε)
  | _, s, [] => some (.inl s)
  | i, s, a :: l => (g i s a).bind (Sum.elim (fun t => foldE g (i + 1) t l) (fun e => some (.inr e)))

theorem scan_from {σ ρ S α ε : Type} {B : σ → Option (σ ⊕ ρ)} (I : Nat → S → Prop) (st : S → Nat → σ) (out : S → ρ) (ex : ε → ρ) (g : Nat → S → α → Option (S ⊕ ε)) (l : List α)
    (h1 : ∀ s i a, I i s → l[i]? = some a → B (st s i) = (g i s a).bind (Sum.elim (fun t => some (.inl (st t (i + 1)))) (fun e => some (.inr (ex e)))))
    (hI : ∀ s i a t, I i s → l[i]? = some a → g i s a = some (.inl t) → I (i + 1) t)
    (h2 : ∀ s, I l.length s → B (st s l.length) = some (.inr (out s))) : ∀ (r p : List α) (s : S), p ++ r = l → I p.length s → loopFix B (st s p.length) = (foldE g p.length s r).bind (Sum.elim (fun t => some (out t)) (fun e => some (ex e)))
  | [], p, s, h, hs => by
    have : p.length = l.length := by rw [← h]; simp
    rw [this] at hs ⊢
    rw [loop_done (h2 s hs)]
    rfl
  | a :: r, p, s, h, hs => by
    have ha : l[p.length]? = some a := by rw [← h]; simp
    rw [loopFix_eq, h1 s p.length a hs ha]
    simp only [foldE]
    cases hg : g p.length s a with
    | none => rfl
    | some x =>
      cases x with
      | inl t =>
        simp only [Option.bind_some, Sum.elim_inl]
        have := scan_from I st out ex g l h1 hI h2 r (p ++ [a]) t (by simp [h]) (by simpa using hI s p.length a t hs ha hg)
        simpa using this
      | inr e => rfl

/-- A loop over a list; what stands at its head. -/
theorem scanI {σ ρ S α ε : Type} {B : σ → Option (σ ⊕ ρ)} (I : Nat → S → Prop) (st : S → Nat → σ) (out : S → ρ) (ex : ε → ρ) (g : Nat → S → α → Option (S ⊕ ε)) (l : List α)
    (h1 : ∀ s i a, I i s → l[i]? = some a → B (st s i) = (g i s a).bind (Sum.elim (fun t => some (.inl (st t (i + 1)))) (fun e => some (.inr (ex e)))))
    (hI : ∀ s i a t, I i s → l[i]? = some a → g i s a = some (.inl t) → I (i + 1) t)
    (h2 : ∀ s, I l.length s → B (st s l.length) = some (.inr (out s))) (s : S) (hs : I 0 s) : loopFix B (st s 0) = (foldE g 0 s l).bind (Sum.elim (fun t => some (out t)) (fun e => some (ex e))) :=
  scan_from I st out ex g l h1 hI h2 l [] s rfl hs

/-- A loop over a list. -/
theorem scan {σ ρ S α ε : Type} {B : σ → Option (σ ⊕ ρ)} (st : S → Nat → σ) (out : S → ρ) (ex : ε → ρ) (g : Nat → S → α → Option (S ⊕ ε)) (l : List α)
    (h1 : ∀ s i a, l[i]? = some a → B (st s i) = (g i s a).bind (Sum.elim (fun t => some (.inl (st t (i + 1)))) (fun e => some (.inr (ex e)))))
    (h2 : ∀ s, B (st s l.length) = some (.inr (out s))) (s : S) : loopFix B (st s 0) = (foldE g 0 s l).bind (Sum.elim (fun t => some (out t)) (fun e => some (ex e))) :=
  scanI (fun _ _ => True) st out ex g l (fun s i a _ => h1 s i a) (fun _ _ _ _ _ _ _ => trivial) (fun s _ => h2 s) s trivial

/-- What holds all along a list. -/
theorem foldE_inv {S α ε : Type} {g : Nat → S → α → Option (S ⊕ ε)} {I : Nat → S → Prop} : ∀ {l : List α} {i : Nat} {s t : S}, (∀ s j a t, I (i + j) s → l[j]? = some a → g (i + j) s a = some (.inl t) → I (i + j + 1) t) → I i s → foldE g i s l = some (.inl t) → I (i + l.length) t
  | [], i, s, t, _, hs, h => by simp only [foldE] at h; cases h; exact hs
  | a :: l, i, s, t, hI, hs, h => by
    simp only [foldE] at h
    cases hg : g i s a with
    | none => rw [hg] at h; cases h
    | some x =>
      rw [hg] at h
      cases x with
      | inl u =>
        have := foldE_inv (l := l) (i := i + 1) (s := u) (t := t) (fun s j b t h1 h2 h3 => by
          have := hI s (j + 1) b t (by rwa [show i + (j + 1) = i + 1 + j by omega]) (by simpa using h2) (by rwa [show i + (j + 1) = i + 1 + j by omega])
          rwa [show i + (j + 1) + 1 = i + 1 + j + 1 by omega] at this) (by simpa using hI s 0 a u hs rfl hg) (by simpa using h)
        rw [List.length_cons, show i + (l.length + 1) = i + 1 + l.length by omega]
        exact this
      | inr e => cases h

theorem foldE_append {S α ε : Type} {g : Nat → S → α → Option (S ⊕ ε)} : ∀ {l r : List α} {i : Nat} {s : S}, foldE g i s (l ++ r) = (foldE g i s l).bind (Sum.elim (fun t => foldE g (i + l.length) t r) (fun e => some (.inr e)))
  | [], r, i, s => by simp [foldE]
  | a :: l, r, i, s => by
    simp only [List.cons_append, foldE]
    cases g i s a with
    | none => rfl
    | some x =>
      cases x with
      | inl t =>
        simp only [Option.bind_some, Sum.elim_inl]
        rw [foldE_append]
        simp [Nat.add_assoc, Nat.add_comm 1]
      | inr e => rfl

/-- All of a loop's rounds go on. -/
theorem foldE_inl {S α ε : Type} {g : Nat → S → α → Option (S ⊕ ε)} (f : Nat → S → α → S) {l : List α} : ∀ {i : Nat} {s : S}, (∀ j a s, l[j]? = some a → g (i + j) s a = some (.inl (f (i + j) s a))) → ∃ t, foldE g i s l = some (.inl t) := by
  induction l with
  | nil => intro i s _; exact ⟨s, rfl⟩
  | cons a l ih =>
    intro i s h
    have h0 := h 0 a s rfl
    simp only [Nat.add_zero] at h0
    simp only [foldE, h0, Option.bind_some, Sum.elim_inl]
    refine ih fun j b s hj => ?_
    have := h (j + 1) b s (by simpa using hj)
    rwa [show i + (j + 1) = i + 1 + j by omega] at this
end Go.Vm


/-
  slices.Insert at numbers as a contract of the machine.
-/
import Derived.Test.YtganppkchbnikaaGreatDoorVmExt
import Derived.Shelf.Spec.SlicesInsert
import Derived.Shelf.Spec.SlicesInsertGrow
open List renaming getElem?_eq_getElem->A1,mem_append->A4,pairwise_singleton->JI,getElem_append_left->JJ,getElem_append_right->JL,length_drop->JU,getElem?_map->KS,getElem_append->Lr,getElem_take->LD,length_map->Ms
open Nat renaming le_refl->B2,zero_add->JP,add_assoc->JX,min_eq_left->Lj
open Option.some renaming inj->B7
open Array renaming getElem?_eq_getElem->Kt,getElem?_append_left->K2,getElem?_modify->Li
set_option linter.unusedVariables false
set_option linter.unusedSimpArgs false
namespace Go.Vm
open Go.Proofs Go.Sort Go.Shelf
abbrev LI : Ty := .slice (.int .i64)
def Hj (l : List Int) (i : Int) (vs : List Int) : Option (List Int × Unit) :=
  if 0 <= i /\ i.toNat <= l.length /\ 0 < vs.length /\ l.length + vs.length <= lim then some (l.take i.toNat ++ vs ++ l.drop i.toNat, ()) else none
def insertC : Con := { ins := [(.take, .slice (.int .i64)), (.rd, .int .i64), (.take, .slice (.int .i64))], outs := [(true, .slice (.int .i64))], fn := fun x => Hj x.1 x.2.1 x.2.2.1 }
theorem dB (b : Nat) : ∀ (vs : List Value) (o : Nat) (w : World), ∃ H, w.setCells b o vs = { w with heap := H } /\ H.size = w.heap.size /\ (∀ k, k ≠ b -> H[k]? = w.heap[k]?) /\
    ∀ c el fz, w.heap[b]? = some (.cells c el fz) -> ∃ c', H[b]? = some (.cells c' el fz) /\ c'.size = c.size
  | [], o, w => ⟨w.heap, rfl, rfl, fun _ _ => rfl, fun c el fz h => ⟨c, h, rfl⟩⟩
  | v :: r, o, w => by
    obtain ⟨H, h1, h2, h3, h4⟩ := dB b r (o + 1) (w.setCell ⟨b, o, none⟩ v)
    refine ⟨H, ?_, ?_, fun k hk => ?_, fun c el fz h => ?_⟩
    · rw [World.setCells, h1]; rfl
    · rw [h2]; simp [World.setCell]
    · rw [h3 k hk]
      simp only [World.setCell, Li]
      rw [if_neg (fun e => hk e.symm)]
    · obtain ⟨c', q1, q2⟩ := h4 (c.setIfInBounds o v) el fz (by
        simp only [World.setCell, Li]
        simp only [if_true, h]; rfl)
      exact ⟨c', q1, by rw [q2]; simp⟩
theorem qZ {w : World} {F : Nat -> Prop} {l : List Int} {b off cap : Nat} {c : Array Value} {el : TypeId} {fz : Nat × Nat} (h2 : w.heap[b]? = some (.cells c el fz)) (h3 : eo (.int .i64) c.size fz) (h4 : off + cap * 1 <= c.size) (hl : l.length <= cap) (hm : cap <= maxLen)
    (h5 : ∀ i (h : i < l.length), w.cell? ⟨b, off + i, none⟩ = some (.int .i64 l[i])) (h6 : ∀ n ∈ l, IntKind.i64.min <= n /\ n <= IntKind.i64.max) : HdrW w F (.slice (some ⟨b, off, none⟩) l.length cap) (.int .i64) l :=
  pF h2 h3 h4 hl hm (fun i hi => by rw [<- cC h2]; exact h5 i hi) h6
theorem jq {w : World} {F : Nat -> Prop} {l : List Int} {b off cap : Nat} {c : Array Value} {el : TypeId} {fz : Nat × Nat} (h2 : w.heap[b]? = some (.cells c el fz)) (h3 : eo (.int .i64) c.size fz) (h4 : off + cap * 1 <= c.size) (hl : l.length <= cap)
    (h5 : ∀ i (h : i < l.length), Rd w F (.int .i64) (seg c (off + i * 1) 1) l[i]) : ∀ j v, (l.map (Value.int .i64))[j]? = some v -> w.cell? ⟨b, off + j, none⟩ = some v := by
  intro j v hj
  rw [KS] at hj
  cases hn : l[j]? with
  | none => rw [hn] at hj; cases hj
  | some n =>
    rw [hn] at hj
    cases hj
    have hjl : j < l.length := (List.getElem?_eq_some_iff.1 hn).1
    have := (mq h2 h3 h4 hl h5 j (by simpa using hjl)).1
    rw [this]
    have e : l[j] = n := by have := A1 hjl; rw [hn] at this; exact (B7 this).symm
    simp [getElem!_pos, hjl, e]
theorem tk (l : List Int) : ∀ v ∈ l.map (Value.int .i64), v.oneCell' = true := by
  intro v hv
  obtain ⟨n, _, rfl⟩ := List.mem_map.1 hv
  rfl
theorem tj {glob : List (Nat × (Σ t : Ty, t.den))} {w w' : World} {F : Nat -> Prop} {u1 u2 u3 : Value} {x : (ac (insertC.ins.map (·.2))).den} {R : List Int} {b off cap : Nat} {H : Array Go.Obj} {c' : Array Value} {el : TypeId} {fz : Nat × Nat}
    (hp : Pre glob w F insertC.ins [u1, u2, u3] x) {n0 : Nat} (hu : u1 = .slice (some ⟨b, off, none⟩) n0 cap) (hcap : cap ≠ 0)
    (ho : w'.os = w.os) (ht : w'.tape = w.tape) (hu' : w'.output = w.output) (hs : w'.heap.size = w.heap.size) (hk : ∀ k, k ≠ b -> w'.heap[k]? = w.heap[k]?)
    (hb : w'.heap[b]? = some (.cells c' el fz)) (hc : eo (.int .i64) c'.size fz) (h4 : off + cap * 1 <= c'.size) (hl : R.length <= cap) (hm : cap <= maxLen)
    (h5 : ∀ i (h : i < R.length), w'.cell? ⟨b, off + i, none⟩ = some (.int .i64 R[i])) (h6 : ∀ n ∈ R, IntKind.i64.min <= n /\ n <= IntKind.i64.max) :
    ∃ F2 css, AI w F insertC.ins [u1, u2, u3] insertC.outs (R, ()) (.slice (some ⟨b, off, none⟩) R.length cap) w' F2 css insertC.deep := by
  have hblk : HB u1 b := by rw [hu]; simp [HB, HB1, hcap]
  have hown := hp.own u1 (by simp [az, insertC]) b hblk
  refine ⟨F, [[.slice (some ⟨b, off, none⟩) R.length cap]], ⟨ho, ht, hu', by rw [hs]; exact B2 _, fun b' _ hn => ?_⟩, fun _ h => h, fun b' hb' => ⟨by rw [hs]; exact hp.fro b' hb', .inl hb'⟩, rfl, ⟨⟨_, rfl, qZ hb hc h4 hl hm h5 h6⟩, trivial⟩, trivial, ?_, ?_⟩
  · refine hk b' ?_
    rintro rfl
    exact hn ⟨u1, by simp [az, insertC], hblk⟩
  · show cm [_]
    exact JI _ _
  · intro v hv b' hb'
    have hv : v = .slice (some ⟨b, off, none⟩) R.length cap := by simpa [bS, aO, ba, insertC] using hv
    subst hv
    have : b' = b := by have h9 := hb'; simp [HB, HB1, hcap] at h9; exact h9.symm
    subst this
    exact ⟨.inr ⟨u1, by simp [az, insertC], hblk⟩, hown.1, by rw [hs]; exact hown.2⟩
theorem wZ {glob : List (Nat × (Σ t : Ty, t.den))} {w w' : World} {F : Nat -> Prop} {us : List Value} {x : (ac (insertC.ins.map (·.2))).den} {R : List Int} {cap : Nat} {c' : Array Value} {el : TypeId} {fz : Nat × Nat}
    (hp : Pre glob w F insertC.ins us x) (hus : ba insertC.ins us = [])
    (ho : w'.os = w.os) (ht : w'.tape = w.tape) (hu' : w'.output = w.output) (hs : w'.heap.size = w.heap.size + 1) (hk : ∀ k, k < w.heap.size -> w'.heap[k]? = w.heap[k]?)
    (hb : w'.heap[w.heap.size]? = some (.cells c' el fz)) (hc : eo (.int .i64) c'.size fz) (h4 : 0 + cap * 1 <= c'.size) (hl : R.length <= cap) (hm : cap <= maxLen)
    (h5 : ∀ i (h : i < R.length), w'.cell? ⟨w.heap.size, 0 + i, none⟩ = some (.int .i64 R[i])) (h6 : ∀ n ∈ R, IntKind.i64.min <= n /\ n <= IntKind.i64.max) :
    ∃ F2 css, AI w F insertC.ins us insertC.outs (R, ()) (.slice (some ⟨w.heap.size, 0, none⟩) R.length cap) w' F2 css insertC.deep := by
  refine ⟨F, [[.slice (some ⟨w.heap.size, 0, none⟩) R.length cap]], ⟨ho, ht, hu', by omega, fun b' hb' _ => hk b' hb'⟩, fun _ h => h, fun b' hb' => ⟨by have := hp.fro b' hb'; omega, .inl hb'⟩, rfl, ⟨⟨_, rfl, qZ hb hc h4 hl hm h5 h6⟩, trivial⟩, ?_, ?_, ?_⟩
  · match us, hp.args with
    | [u1, u2, u3], _ => trivial
  · rw [hus]
    show cm [_]
    exact JI _ _
  · intro v hv b' hb'
    rw [hus] at hv
    have hv : v = .slice (some ⟨w.heap.size, 0, none⟩) R.length cap := by simpa [bS, aO, insertC] using hv
    subst hv
    have : b' = w.heap.size := by have h9 := hb'; simp [HB, HB1] at h9; exact h9.2.symm
    subst this
    exact ⟨.inl (B2 _), fun hF => absurd (hp.fro _ hF) (Nat.lt_irrefl _), by omega⟩
theorem sw {P : Program} {ρ : Shelf.Ren} (L : Lays2.n21 P ρ) (he : ∀ args w, (callFunc (ρ.f 21) args).run P w = .ok (.enter (ρ.f 21) args) w) (glob : List (Nat × (Σ t : Ty, t.den))) : Con.Holds P glob (ρ.f 21) insertC := by
  refine Con.Holds.plain rfl ?_
  intro w F us x r hp hr
  obtain ⟨l, i, vs, u0⟩ := x
  have hfn : Hj l i vs = some r := hr
  unfold Hj at hfn
  by_cases hc : 0 <= i /\ i.toNat <= l.length /\ 0 < vs.length /\ l.length + vs.length <= lim
  case neg => rw [if_neg hc] at hfn; cases hfn
  rw [if_pos hc] at hfn
  cases hfn
  obtain ⟨hi0, hi, hm, hlim⟩ := hc
  obtain ⟨k, rfl⟩ : ∃ k : Nat, i = (k : Int) := ⟨i.toNat, (Int.toNat_of_nonneg hi0).symm⟩
  simp only [Int.toNat_natCast] at hi ⊢
  have hlimv : lim = 1000000000000 \/ True := .inr trivial
  match us, hp.args with
  | [u1, u2, u3], hargs =>
    have hu1 : HdrW w F u1 (.int .i64) l := hargs.1
    have hu2 : ∃ cs, u2 = toV (.int .i64) cs /\ Rd w F (.int .i64) cs (k : Int) := hargs.2.1
    have hu3 : HdrW w F u3 (.int .i64) vs := hargs.2.2.1
    obtain ⟨cs2, rfl, hr2⟩ := hu2
    obtain ⟨rfl, hb2⟩ := hr2
    have hbl := kg hu1
    have hbv := kg hu3
    have hap := hp.apart
    have hap : cm [u1, u3] := hap
    obtain ⟨ad, cap, rfl, h1, h2, h3⟩ := hu1
    obtain ⟨ad3, cap3, rfl, v1, v2, v3⟩ := hu3
    obtain ⟨vb, voff, vc, vel, vfz, rfl, w2, w3, w4, w5⟩ := v3 (by omega)
    have hcv := jq w2 w3 (by simpa [Ty.size] using w4) v1 (by simpa [Ty.size] using w5)
    have h1v := tk vs
    have h1c := tk l
    have hmx : maxLen = 9223372036854775807 := rfl
    have hRl : (l.take k ++ vs ++ l.drop k).length = l.length + vs.length := by simp; omega
    have hRb : ∀ n ∈ l.take k ++ vs ++ l.drop k, IntKind.i64.min <= n /\ n <= IntKind.i64.max := by
      intro n hn
      rcases A4.1 hn with hn | hn
      · rcases A4.1 hn with hn | hn
        · exact hbl n (List.mem_of_mem_take hn)
        · exact hbv n hn
      · exact hbl n (List.mem_of_mem_drop hn)
    refine .inl ⟨he _ _, ?_⟩
    have hvlt : vb < w.heap.size := (Array.getElem?_eq_some_iff.1 w2).1
    have hgo : ∀ {Q : Ending -> World -> Prop}, Calls P (ρ.f 21) #[.slice ad l.length cap, .int .i64 (k : Int), .slice (some ⟨vb, voff, none⟩) vs.length cap3] w Q -> Calls P (ρ.f 21) [.slice ad l.length cap, toV (.int .i64) [.int .i64 (k : Int)], .slice (some ⟨vb, voff, none⟩) vs.length cap3].toArray w Q := fun h => h
    refine hgo ?_
    have hk0 : HB (.slice (some ⟨vb, voff, none⟩) vs.length cap3) vb := by simp [HB, HB1]; omega
    have hvl : (vs.map (Value.int .i64)).length = vs.length := Ms ..
    have hcl : (l.map (Value.int .i64)).length = l.length := Ms ..
    have hlm : lim = 68719476736 := rfl
    have hgl := grownCap_le_maxLen w (l.length + vs.length) cap (ρ.t 3) (by omega)
    have hgg := grownCap_ge w (l.length + vs.length) cap (ρ.t 3)
    by_cases hroom : l.length + vs.length <= cap
    · have hcap : cap ≠ 0 := by omega
      obtain ⟨b, off, c, el, fz, rfl, q2, q3, q4, q5⟩ := h3 hcap
      have q4' : off + cap * 1 <= c.size := by simpa [Ty.size] using q4
      have hcl' := jq q2 q3 q4' h1 (by simpa [Ty.size] using q5)
      have hvb : vb ≠ b := by
        rintro rfl
        refine (List.pairwise_cons.1 hap).1 _ (List.mem_singleton.2 rfl) vb ?_ hk0
        simp [HB, HB1, hcap]
      have hsp : ∀ j, j < cap -> (w.cell? ⟨b, off + j, none⟩).isSome = true := fun j hj => by
        rw [cC q2, Kt (by omega)]; rfl
      have hfz : ∀ j, j < cap -> w.frozen? ⟨b, off + j, none⟩ = false := fun j hj => eS q2 q3 (off + j) (by omega)
      by_cases he2 : k = l.length
      · subst he2
        refine (Any2.slices_Insert_int_end_room L b off l.length cap vb voff vs.length cap3 (vs.map (Value.int .i64)) w hm hroom (by omega) hvl (fun j hj => by rw [JX]; exact hsp _ (by omega)) (fun j hj => by rw [JX]; exact hfz _ (by omega)) hcv h1v).mono ?_
        rintro e w' ⟨rfl, hw'⟩
        obtain ⟨H, g1, g2, g3, g4⟩ := dB b (vs.map (Value.int .i64)) (off + l.length) w
        obtain ⟨c', g5, g6⟩ := g4 c el fz q2
        have hcell : ∀ j (hj : j < (l.take l.length ++ vs ++ l.drop l.length).length), w'.cell? ⟨b, off + j, none⟩ = some (.int .i64 (l.take l.length ++ vs ++ l.drop l.length)[j]) := by
          intro j hj
          rw [hw']
          have hj' : j < l.length + vs.length := by omega
          by_cases hjl : j < l.length
          · rw [World.cell?_setCells_out _ _ _ _ _ (fun _ _ => by show off + j < off + l.length \/ _; omega)]
            refine hcl' j _ ?_
            rw [KS, A1 hjl]
            simp [Lr, hjl]
          · have := World.cell?_setCells_in b (vs.map (Value.int .i64)) (off + l.length) w (fun i hi => by rw [JX]; exact hsp _ (by rw [hvl] at hi; omega)) (j - l.length) (by rw [hvl]; omega)
            rw [show off + l.length + (j - l.length) = off + j by omega] at this
            rw [this]
            simp [Lr, hjl]
        rw [<- hw'] at g1
        subst w'
        refine ⟨_, rfl, ?_⟩
        rw [show l.length + vs.length = (l.take l.length ++ vs ++ l.drop l.length).length from hRl.symm]
        exact tj (H := H) hp rfl hcap (by rw [g1]) (by rw [g1]) (by rw [g1]) (by rw [g1]; exact g2) (fun k hk => by rw [g1]; exact g3 k hk) (by rw [g1]; exact g5) (by rw [g6]; exact q3) (by omega) (by omega) h2 hcell hRb
      · have hk : k < l.length := by omega
        have hdl : ((l.map (Value.int .i64)).drop k).length = l.length - k := by rw [JU, hcl]
        have hfe : w.frozen? ⟨vb, vc.size, none⟩ = false := by
          obtain ⟨lo, hi⟩ := vfz
          simp only [World.frozen?, w2]
          rcases w3 with h | ⟨h, _⟩
          · have h : hi <= lo := h
            simp; omega
          · cases h
        have hsa : w.shape? vb = some (vel, vc.size) := by simp only [World.shape?, w2]
        have hsb : w.shape? b = some (el, c.size) := by simp only [World.shape?, q2]
        refine (Any2.slices_Insert_int_shift L b off l.length cap k vb voff vs.length cap3 (l.map (Value.int .i64)) (vs.map (Value.int .i64)) w hk hm hroom (by omega) hvb hcl hvl hcl' (fun j hj => hsp j (by omega)) (fun j hj => hfz j (by omega)) hcv h1c h1v vel el vc.size c.size hsa hsb (by omega) (eS w2 w3 voff (by have := w4; simp [Ty.size] at this; omega)) hfe).mono ?_
        rintro e w' ⟨rfl, hw'⟩
        obtain ⟨H1, g1, g2, g3, g4⟩ := dB b ((l.map (Value.int .i64)).drop k) (off + (k + vs.length)) w.drew
        obtain ⟨c1, g5, g6⟩ := g4 c el fz q2
        obtain ⟨W1, hW1⟩ : ∃ W1, W1 = w.drew.setCells b (off + (k + vs.length)) ((l.map (Value.int .i64)).drop k) := ⟨_, rfl⟩
        rw [<- hW1] at hw' g1
        obtain ⟨H, f1, f2, f3, f4⟩ := dB b (vs.map (Value.int .i64)) (off + k) W1
        obtain ⟨c', f5, f6⟩ := f4 c1 el fz (by rw [g1]; exact g5)
        have hsp1 : ∀ j, j < cap -> (W1.cell? ⟨b, off + j, none⟩).isSome = true := fun j hj => by
          rw [hW1]
          exact isSome_setCells b _ _ _ (fun i hi => by rw [hdl] at hi; rw [JX]; exact hsp _ (by omega)) _ (hsp j hj)
        have hcell : ∀ j (hj : j < (l.take k ++ vs ++ l.drop k).length), w'.cell? ⟨b, off + j, none⟩ = some (.int .i64 (l.take k ++ vs ++ l.drop k)[j]) := by
          intro j hj
          rw [hw']
          have hj' : j < l.length + vs.length := by omega
          by_cases hjk : j < k
          · rw [World.cell?_setCells_out _ _ _ _ _ (fun _ _ => by show off + j < off + k \/ _; omega), hW1, World.cell?_setCells_out _ _ _ _ _ (fun _ _ => by show off + j < off + (k + vs.length) \/ _; omega)]
            refine hcl' j _ ?_
            rw [KS, A1 (by omega)]
            rw [JJ (by simp; omega), JJ (by simp; omega), LD]
            rfl
          · by_cases hjv : j < k + vs.length
            · have := World.cell?_setCells_in b (vs.map (Value.int .i64)) (off + k) W1 (fun i hi => by rw [JX]; exact hsp1 _ (by rw [hvl] at hi; omega)) (j - k) (by rw [hvl]; omega)
              rw [show off + k + (j - k) = off + j by omega] at this
              rw [this, JJ (by simp; omega), JL (by simp; omega)]
              simp [Lj hi]
            · rw [World.cell?_setCells_out _ _ _ _ _ (fun _ _ => by show _ \/ off + k + (vs.map (Value.int .i64)).length <= off + j; rw [hvl]; omega), hW1]
              have := World.cell?_setCells_in b ((l.map (Value.int .i64)).drop k) (off + (k + vs.length)) w.drew (fun i hi => by rw [hdl] at hi; rw [JX]; exact hsp _ (by omega)) (j - (k + vs.length)) (by rw [hdl]; omega)
              rw [show off + (k + vs.length) + (j - (k + vs.length)) = off + j by omega] at this
              rw [this, JL (by simp; omega)]
              simp [Lj hi]
        refine ⟨_, rfl, ?_⟩
        rw [show l.length + vs.length = (l.take k ++ vs ++ l.drop k).length from hRl.symm]
        exact tj (H := H) hp rfl hcap (by rw [hw', f1, g1]; rfl) (by rw [hw', f1, g1]; rfl) (by rw [hw', f1, g1]; rfl) (by rw [hw', f1]; show H.size = _; rw [f2, g1]; exact g2) (fun j hj => by rw [hw', f1]; show H[j]? = _; rw [f3 j hj, g1]; exact g3 j hj) (by rw [hw', f1]; exact f5) (by rw [f6, g6]; exact q3) (by omega) (by omega) h2 hcell hRb
    · have hbig : (l.length + vs.length) * 8 <= 140737488355328 := by omega
      by_cases he2 : k = l.length
      · subst he2
        refine (Any2.slices_Insert_int_end_grow L ad l.length cap vb voff vs.length cap3 (l.map (Value.int .i64)) (vs.map (Value.int .i64)) w hm h1 (by omega) hbig hcl hvl (fun ha => ?_) (fun a ha j v hj => ?_) hcv h1v).mono ?_
        · by_cases hcap : cap = 0
          · omega
          · obtain ⟨b, off, c, el, fz, rfl, _⟩ := h3 hcap
            cases ha
        · have hcap : cap ≠ 0 := by
            rintro rfl
            have : l.length = 0 := by omega
            rw [List.length_eq_zero_iff.1 this] at hj
            cases hj
          obtain ⟨b, off, c, el, fz, rfl, q2, q3, q4, q5⟩ := h3 hcap
          cases ha
          rw [Addr.add_lit]
          exact jq q2 q3 (by simpa [Ty.size] using q4) h1 (by simpa [Ty.size] using q5) j v hj
        rintro e w' ⟨rfl, hw'⟩
        obtain ⟨G, hG⟩ : ∃ G, G = grownCap w (l.length + vs.length) cap (ρ.t 3) := ⟨_, rfl⟩
        rw [<- hG] at hw' hgl hgg ⊢
        obtain ⟨ROW, hROW⟩ : ∃ ROW : Array Value, ROW = (l.map (Value.int .i64) ++ vs.map (Value.int .i64)).toArray ++ Builtin.zeroCells (Value.int .i64 0).cells (G - (l.length + vs.length)) := ⟨_, rfl⟩
        rw [<- hROW] at hw'
        have hsz : ROW.size = G := by
          rw [hROW]
          simp [Builtin.zeroCells, Value.cells]
          omega
        have hnew : w'.heap[w.heap.size]? = some (.cells ROW (ρ.t 3)) := by rw [hw']; exact b0 w.drew _
        refine ⟨_, rfl, ?_⟩
        rw [show l.length + vs.length = (l.take l.length ++ vs ++ l.drop l.length).length from hRl.symm]
        refine wZ hp rfl (by rw [hw']; rfl) (by rw [hw']; rfl) (by rw [hw']; rfl) (by rw [hw']; simp) (fun j hj => by rw [hw']; exact i8 w.drew _ hj) hnew (.inl (B2 _)) (by omega) (by omega) hgl (fun j hj => ?_) hRb
        have hj' : j < l.length + vs.length := by omega
        rw [cC hnew, JP, hROW, K2 (by simp; omega)]
        simp only [List.take_length, List.drop_length, List.append_nil]
        rw [<- List.map_append]
        have hj2 : j < (l ++ vs).length := by simp; omega
        simp [hj2, List.getElem?_append, Lr]
        split
        · rename_i h; simp
        · rename_i h; rw [A1 (by omega)]; simp
      · have hk : k < l.length := by omega
        have hcap : cap ≠ 0 := by omega
        obtain ⟨b, off, c, el, fz, rfl, q2, q3, q4, q5⟩ := h3 hcap
        have hcl' := jq q2 q3 (by simpa [Ty.size] using q4) h1 (by simpa [Ty.size] using q5)
        have hdl : ((l.map (Value.int .i64)).drop k).length = l.length - k := by rw [JU, hcl]
        refine (Any2.slices_Insert_int_grow L b off l.length cap k vb voff vs.length cap3 (l.map (Value.int .i64)) (vs.map (Value.int .i64)) w hk hm h1 (by omega) hbig hcl hvl hcl' hcv h1c h1v).mono ?_
        rintro e w' ⟨rfl, hw'⟩
        obtain ⟨G, hG⟩ : ∃ G, G = grownCap w (l.length + vs.length) cap (ρ.t 3) := ⟨_, rfl⟩
        rw [<- hG] at hw' hgl hgg ⊢
        obtain ⟨ROW, hROW⟩ : ∃ ROW : Array Value, ROW = ((l.map (Value.int .i64)).take k).toArray ++ Builtin.zeroCells (Value.int .i64 0).cells (l.length + vs.length - k) ++ Builtin.zeroCells (Value.int .i64 0).cells (G - (l.length + vs.length)) := ⟨_, rfl⟩
        rw [<- hROW] at hw'
        have hsz : ROW.size = G := by
          rw [hROW]
          simp [Builtin.zeroCells, Value.cells]
          omega
        obtain ⟨W0, hW0⟩ : ∃ W0, W0 = (w.alloc (.cells ROW (ρ.t 3))).drew := ⟨_, rfl⟩
        rw [<- hW0] at hw'
        have hn0 : W0.heap[w.heap.size]? = some (.cells ROW (ρ.t 3)) := by rw [hW0]; exact b0 w _
        have ho0 : ∀ j, j < w.heap.size -> W0.heap[j]? = w.heap[j]? := fun j hj => by rw [hW0]; exact i8 w _ hj
        have hs0 : W0.heap.size = w.heap.size + 1 := by rw [hW0]; show (w.heap.push _).size = _; simp
        obtain ⟨H1, g1, g2, g3, g4⟩ := dB w.heap.size (vs.map (Value.int .i64)) k W0
        obtain ⟨c1, g5, g6⟩ := g4 ROW _ _ hn0
        obtain ⟨W1, hW1⟩ : ∃ W1, W1 = (W0.setCells w.heap.size k (vs.map (Value.int .i64))).drew := ⟨_, rfl⟩
        have hw1h : W1.heap = H1 := by rw [hW1, g1]; rfl
        have hc1 : ∀ x, W1.cell? x = (W0.setCells w.heap.size k (vs.map (Value.int .i64))).cell? x := fun x => by rw [hW1]; rfl
        rw [<- hW1] at hw'
        obtain ⟨H, f1, f2, f3, f4⟩ := dB w.heap.size ((l.map (Value.int .i64)).drop k) (k + vs.length) W1
        obtain ⟨c', f5, f6⟩ := f4 c1 _ _ (by rw [hw1h]; exact g5)
        have hsp0 : ∀ j, j < G -> (W0.cell? ⟨w.heap.size, j, none⟩).isSome = true := fun j hj => by
          rw [cC hn0, Kt (by omega)]; rfl
        have hsp1 : ∀ j, j < G -> (W1.cell? ⟨w.heap.size, j, none⟩).isSome = true := fun j hj => by
          rw [hc1]
          exact isSome_setCells _ _ _ _ (fun i hi => by rw [hvl] at hi; exact hsp0 _ (by omega)) _ (hsp0 j hj)
        have hcell : ∀ j (hj : j < (l.take k ++ vs ++ l.drop k).length), w'.cell? ⟨w.heap.size, 0 + j, none⟩ = some (.int .i64 (l.take k ++ vs ++ l.drop k)[j]) := by
          intro j hj
          rw [hw', JP]
          have hj' : j < l.length + vs.length := by omega
          by_cases hjk : j < k
          · rw [World.cell?_setCells_out _ _ _ _ _ (fun _ _ => by show j < k + vs.length \/ _; omega), hc1, World.cell?_setCells_out _ _ _ _ _ (fun _ _ => by show j < k \/ _; omega), cC hn0, hROW]
            rw [K2 (by simp [Builtin.zeroCells, Value.cells]; omega), K2 (by simp; omega)]
            rw [JJ (by simp; omega), JJ (by simp; omega), LD]
            have hjl : j < l.length := by omega
            simp [List.getElem?_take, hjk, hjl]
          · by_cases hjv : j < k + vs.length
            · rw [World.cell?_setCells_out _ _ _ _ _ (fun _ _ => by show j < k + vs.length \/ _; omega), hc1]
              have := World.cell?_setCells_in w.heap.size (vs.map (Value.int .i64)) k W0 (fun i hi => hsp0 _ (by rw [hvl] at hi; omega)) (j - k) (by rw [hvl]; omega)
              rw [show k + (j - k) = j by omega] at this
              rw [this, JJ (by simp; omega), JL (by simp; omega)]
              simp [Lj hi]
            · have := World.cell?_setCells_in w.heap.size ((l.map (Value.int .i64)).drop k) (k + vs.length) W1 (fun i hi => by rw [hdl] at hi; exact hsp1 _ (by omega)) (j - (k + vs.length)) (by rw [hdl]; omega)
              rw [show k + vs.length + (j - (k + vs.length)) = j by omega] at this
              rw [this, JL (by simp; omega)]
              simp [Lj hi]
        refine ⟨_, rfl, ?_⟩
        rw [show l.length + vs.length = (l.take k ++ vs ++ l.drop k).length from hRl.symm]
        refine wZ (c' := c') (el := ρ.t 3) (fz := (0, 0)) hp rfl (by rw [hw', f1, hW1, g1, hW0]; rfl) (by rw [hw', f1, hW1, g1, hW0]; rfl) (by rw [hw', f1, hW1, g1, hW0]; rfl) ?_ (fun j hj => ?_) ?_ (.inl (B2 _)) (by rw [f6, g6]; omega) (by omega) hgl hcell hRb
        · rw [hw', f1]; show H.size = _; rw [f2, hw1h, g2, hs0]
        · rw [hw', f1]; show H[j]? = _; rw [f3 j (by omega), hw1h, g3 j (by omega), ho0 j hj]
        · rw [hw', f1]; exact f5
end Go.Vm

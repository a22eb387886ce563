/-
  A machine on typed values, small enough to be reckoned by the kernel, and the proof that it goes with the model: part 2 of 3. What it computes for a function is that function's contract. No condition of its own.
-/
import Derived.Test.YtkedmhafnkafdaaDoorVmA
import Derived.WalkSpells
import Derived.Laws.StructEq
import Derived.Laws.Cover3
import Derived.LoopN
set_option linter.unusedVariables false
set_option linter.unusedSimpArgs false
/-
  The machine's operations against the model's: append, joined.
-/
namespace Go.Vm
section
variable {P : Program} {C : Ctx} {w0 : World} {M : Own} {o : Oper} {a : Act} {m : Mem} {s s' : St}

theorem news_first {e : Ty} {xs : List e.den} {ad : Option Addr} {cap : Nat} {news : List Value} (h1 : Cells m.w m.F e news xs)
    (h2 : xs ≠ [] → ∃ b off c el fz, ad = some ⟨b, off, none⟩ ∧ m.w.heap[b]? = some (.cells c el fz) ∧ off + news.length ≤ c.size ∧ news = seg c off news.length) {w : World} (hw : w.heap = m.w.heap) :
    (Builtin.firstCells e.size xs.length (.slice ad xs.length cap)).run P w = .ok news.toArray w := by
  by_cases hne : xs = []
  · subst hne
    have : news = [] := List.eq_nil_of_length_eq_zero (by rw [h1.1]; simp)
    subst this
    cases ad <;> simp [Builtin.firstCells, loadCells, loadCellsFrom]
  · obtain ⟨b, off, c, el, fz, rfl, q2, q3, q4⟩ := h2 hne
    refine run_firstCells_some (P := P) w e.size xs.length _ _ _ news h1.1 (fun j v hj => ?_)
    have hjl : j < news.length := (List.getElem?_eq_some_iff.1 hj).1
    rw [add_off, cell_at (by rw [hw]; exact q2), ← seg_getElem? c off news.length j hjl, ← q4]
    exact hj

theorem Hdr.mono_F {m m1 : Mem} (h : m1.w = m.w) (hF : ∀ b, m.F b → m1.F b) {e : Ty} {cs : List Value} {l : List e.den} (hc : Cells m.w m.F e cs l) : Cells m1.w m1.F e cs l :=
  ⟨hc.1, fun i hi => (hc.2 i hi).mono fun b hb => ⟨hF b hb, by rw [h]⟩⟩

/-- append to a part whose capacity ends with it: a new slice. -/
theorem op_append_cut {t : TypeId} {x y : Operand} {e : Ty} {l xs : List e.den} {r : List e.den} (hT : tabOK P C.tab = true) (hi : Inv C w0 M m) (hG : m.G = s.G) (hS : ∀ x, RelSV m (a.eval x) (evalSV C s.env x))
    (ho : o.op = .call { callee := .builtin .append, args := #[x, y], argTypes := #[t, t] }) (ht : C.tab.get t = some (.slice e))
    (hcut : cutOf s e (evalSV C s.env x) = some l) (hsv : svVal s.G (.slice e) (evalSV C s.env y) = some xs) (hk : xs ≠ []) (hr : app l xs = some r)
    (h : withNew s (o.dst.getD 0) (.arr e r) (fun i s2 => some (putEnv o.dst (.av (.own i)) s2)) = some s') : Does P o a m.w (Res C w0 M m s s' o.dst) := by
  unfold app at hr
  split at hr
  · rename_i hlim
    simp only [Option.some.injEq] at hr
    subst hr
    have hlimv : lim = 68719476736 := rfl
    rw [hlimv] at hlim
    obtain ⟨i, hfree, h⟩ := withNew_some h
    simp only [Option.some.injEq] at h
    obtain ⟨et, hu, hck⟩ := slice_of (chk_of_tab hT ht)
    obtain ⟨inf, z, r1, r2, r3, r4, r5, r6, r7⟩ := info_of hck
    have hx := hS x
    generalize hvx : evalSV C s.env x = vx at hcut hx
    unfold cutOf at hcut
    split at hcut
    · rename_i id off len
      obtain ⟨_, ob, hob, hxv⟩ := (relSV_at (m := m) (a := .cut id off len) (by intros; simp)).1 hx
      rw [hG] at hob
      split at hcut
      · rename_i σ l0 hg
        rw [hg] at hob
        simp only [Option.some.injEq] at hob
        subst hob
        split at hcut
        · rename_i l1 hl1
          simp only [Option.some.injEq] at hcut
          subst hcut
          obtain ⟨he, hl1⟩ := castTo_some hl1
          cases he
          subst hl1
          simp only at hxv
          obtain ⟨k1, k2, b, o', n', cap', v1, v2⟩ := hxv
          obtain ⟨b', o'', cap, c, el, fz, q1, q2, q3, q4, q5, q6, q7, q8, q9⟩ := arr_at hi (hG ▸ hg) (j := off) (by omega)
          rw [v1] at q1
          simp only [Value.slice.injEq, Option.some.injEq, Addr.mk.injEq, and_true] at q1
          obtain ⟨⟨rfl, rfl⟩, rfl, rfl⟩ := q1
          have hlen : ((l0.drop off).take len).length = len := by simp; omega
          obtain ⟨xd, xcap, news, hxv, x2, x3, x4⟩ := slice_cells hi (hG ▸ hsv) (hS y)
          have hone := cells_one x2
          have hfresh : Heap.get m.G i = none := by rw [hG]; exact hfree
          have hkl : 0 < xs.length := List.length_pos_iff.2 hk
          obtain ⟨xb, xoff, xc, xel, xfz, rfl, y2, y3, y4⟩ := x4 hk
          obtain ⟨z0, ez, hz0, _⟩ := zero_rel (m := m) r5
          rw [List.append_nil] at ez
          have hzs : z.cells.size = e.size := by rw [← Array.length_toList, ez]; exact hz0.len
          have hnews : ∀ j v, news[j]? = some v → m.w.cell? ((⟨xb, xoff, none⟩ : Addr).add j) = some v := by
            intro j v hj
            have hjl : j < news.length := (List.getElem?_eq_some_iff.1 hj).1
            rw [add_off, cell_at y2, ← seg_getElem? xc xoff news.length j hjl, ← y4]
            exact hj
          rw [hlen] at hlim
          have hge := grownCap_ge m.w (len + xs.length) len et
          have hcm : grownCap m.w (len + xs.length) len et ≤ maxLen := grownCap_le_maxLen _ _ _ _ (by unfold maxLen; omega)
          have hfits : Builtin.nextslicecap (len + xs.length) len * inf.bytes ≤ 281474976710656 := growslice_fits (by omega) (by
            have h1 : (len + xs.length) * inf.bytes ≤ 68719476736 * 2048 := Nat.mul_le_mul hlim r3
            omega)
          have hle : off * e.size + len * e.size ≤ l0.length * e.size := by rw [← Nat.add_mul]; exact Nat.mul_le_mul_right _ k1
          have hle2 : l0.length * e.size ≤ cap' * e.size := Nat.mul_le_mul_right _ q2
          have hsl : (seg c (o' + off * e.size) (len * e.size)).length = len * e.size := seg_length _ _ _ (by omega)
          have kc : Cells m.w m.F e (seg c (o' + off * e.size) (len * e.size)) ((l0.drop off).take len) := by
            have := seg_cells (w := m.w) (F := m.F) (e := e) (c := c) (off := o' + off * e.size) (l := (l0.drop off).take len) (by rw [hlen]; omega) (fun i hi' => by
              rw [hlen] at hi'
              have := q8 (off + i) (by omega)
              rw [show o' + off * e.size + i * e.size = o' + (off + i) * e.size by rw [Nat.add_mul]; omega]
              simpa using this)
            rw [hlen] at this
            exact this
          have hrun : (Builtin.append_ #[t, t] o.type #[.slice (some ⟨b, o' + off * e.size, none⟩) len len, .slice (some ⟨xb, xoff, none⟩) xs.length xcap]).run P m.w =
              .ok (.slice (some ⟨m.w.heap.size, 0, none⟩) (len + xs.length) (grownCap m.w (len + xs.length) len et))
                (m.w.drew.alloc (.cells ((seg c (o' + off * e.size) (len * e.size)).toArray ++ news.toArray ++ Builtin.zeroCells z.cells (grownCap m.w (len + xs.length) len et - (len + xs.length))) et)) :=
            run_append_grow (P := P) m.w t o.type et inf z hu r1 r4 ⟨b, o' + off * e.size, none⟩ len len _ (by rw [r2]; exact hsl) (fun j v hj => by
              have hjl : j < len * e.size := by rw [← hsl]; exact (List.getElem?_eq_some_iff.1 hj).1
              rw [add_off, cell_at q4, ← seg_getElem? c (o' + off * e.size) _ j hjl]
              exact hj) ⟨xb, xoff, none⟩ xs.length xcap news (by rw [r2]; exact x2.1) hnews (by omega) (by omega) hfits
          have hsz : ((seg c (o' + off * e.size) (len * e.size)).toArray ++ news.toArray ++ Builtin.zeroCells z.cells (grownCap m.w (len + xs.length) len et - (len + xs.length))).size = grownCap m.w (len + xs.length) len et * e.size := by
            simp only [Array.size_append, List.size_toArray, size_zeroCells, hzs, hsl, x2.1, ← Nat.add_mul]
            congr 1
            omega
          obtain ⟨m', p1, p2, p3, p4, p5⟩ := new_arr (τ := e) (l := (l0.drop off).take len ++ xs) (cap := grownCap m.w (len + xs.length) len et) (fz := (0, 0)) hi (i := i) hfresh
            (w1 := m.w.drew.alloc (.cells ((seg c (o' + off * e.size) (len * e.size)).toArray ++ news.toArray ++ Builtin.zeroCells z.cells (grownCap m.w (len + xs.length) len et - (len + xs.length))) et)) (kept_alloc_drew m.w _)
            (alloc_new m.w.drew _) (.inl (Nat.le_refl _)) (by rw [List.length_append, hlen]; exact hge) hcm (by rw [hsz]; exact Nat.le_refl _) (fun j hj => by
              have := cells_append (rest := (Builtin.zeroCells z.cells (grownCap m.w (len + xs.length) len et - (len + xs.length))).toList) kc x2 j hj
              unfold seg at this ⊢
              simpa using this)
          refine Does.value (w' := m'.w) (v := .slice (some ⟨m.w.heap.size, 0, none⟩) (len + xs.length) (grownCap m.w (len + xs.length) len et)) ?_ ⟨m', .av (.own i), rfl, ?_, p3, p4, by rw [List.length_append, hlen] at p5; exact p5⟩
          · simp [execOp, ho, resolve, invoke, builtin, v2, hxv, hrun, p1]
          · rw [← h, p2, hG]
        · simp at hcut
      · simp at hcut
    · simp at hcut
  · simp at hr

theorem op_append {args : Array Operand} {ats : Array TypeId} (hT : tabOK P C.tab = true) (hi : Inv C w0 M m) (hG : m.G = s.G) (hS : ∀ x, RelSV m (a.eval x) (evalSV C s.env x))
    (ho : o.op = .call { callee := .builtin .append, args, argTypes := ats })
    (h : runOp C o s some = some s') : Does P o a m.w (Res C w0 M m s s' o.dst) := by
  simp only [runOp, ho] at h
  split at h
  · rename_i t t' x y hat har
    have ha1 : args = #[x, y] := by rw [← Array.toArray_toList (xs := args), har]
    have ha2 : ats = #[t, t'] := by rw [← Array.toArray_toList (xs := ats), hat]
    subst ha1
    subst ha2
    split at h
    · rename_i e ht
      cases htt : Nat.beq t t' with
      | false => rw [htt] at h; simp at h
      | true =>
        rw [htt] at h
        simp only [cond_true] at h
        have htt := Nat.eq_of_beq_eq_true htt
        subst htt
        split at h
        · rename_i l y0 xs hcut hsv
          obtain ⟨r, hr, h⟩ := Option.bind_eq_some_iff.1 h
          exact op_append_cut hT hi hG hS ho ht hcut hsv (by simp) hr h
        · simp at h
        rename_i hcut
        split at h
        · rename_i l ids xs hbase hsv
          obtain ⟨r, hr, h⟩ := Option.bind_eq_some_iff.1 h
          unfold app at hr
          split at hr
          · rename_i hlim
            simp only [Option.some.injEq] at hr
            subst hr
            have hlimv : lim = 68719476736 := rfl
            rw [hlimv] at hlim
            obtain ⟨i, hfree, h⟩ := withNew_some h
            simp only [Option.some.injEq] at h
            obtain ⟨et, hu, hck⟩ := slice_of (chk_of_tab hT ht)
            obtain ⟨inf, z, r1, r2, r3, r4, r5, r6, r7⟩ := info_of hck
            obtain ⟨hH, hids⟩ := base_rel hi hG hbase (hS x)
            obtain ⟨ad, cap, hbv, b2, b3, b4⟩ := hH
            obtain ⟨xd, xcap, news, hxv, x2, x3, x4⟩ := slice_cells hi (hG ▸ hsv) (hS y)
            have hfc : ∀ w : World, w.heap = m.w.heap → (Builtin.firstCells e.size xs.length (.slice xd xs.length xcap)).run P w = .ok news.toArray w := fun w hw => news_first x2 x4 hw
            have hone := cells_one x2
            have hfresh : Heap.get (killIds ids m.G) i = none := by rw [hG]; exact hfree
            by_cases hfit : l.length + xs.length ≤ cap
            · by_cases hc0 : cap = 0
              · subst hc0
                have hl0 : l.length = 0 := by omega
                have hx0 : xs.length = 0 := by omega
                have hl0' : l = [] := List.eq_nil_of_length_eq_zero hl0
                have hx0' : xs = [] := List.eq_nil_of_length_eq_zero hx0
                subst hl0'
                subst hx0'
                have hn0 : news = [] := List.eq_nil_of_length_eq_zero (by rw [x2.1]; simp)
                subst hn0
                obtain ⟨m1, a1, a2, a3, a4, a5, a6⟩ := step_kills ids hi
                obtain ⟨m', q1, q2, q3, q4, q5⟩ := new_none (τ := e) a4 (i := i) (by rw [a3]; exact hfresh) (Kept.refl m1.w _) ad
                have hrun : (Builtin.append_ #[t, t] o.type #[.slice ad 0 0, .slice xd 0 xcap]).run P m.w = .ok (.slice ad 0 0) m.w := by
                  have := hfc m.w rfl
                  simp only [List.length_nil] at this
                  cases ad <;> simp [Builtin.append_, run_underlying hu, sizeOf, typeInfo, r1, r2, Builtin.lenOf, this, storeCells]
                refine Does.value (w' := m'.w) (v := .slice ad 0 0) ?_ ⟨m', .av (.own i), rfl, ?_, q3, a5.trans q4, q5⟩
                · simp only [List.length_nil] at hbv hxv
                  simp [execOp, ho, resolve, invoke, builtin, hbv, hxv, hrun, q1, a1]
                · rw [← h, q2, a3, hG]; rfl
              · obtain ⟨b, off, c, el, fz, rfl, c2, c3, c4, c5⟩ := b4 hc0
                have hmul : l.length * e.size + xs.length * e.size ≤ cap * e.size := by rw [← Nat.add_mul]; exact Nat.mul_le_mul_right _ hfit
                have hnl : news.length = xs.length * e.size := x2.1
                have hin : off + l.length * e.size + news.length ≤ c.size := by omega
                have hst := run_storeCells' (P := P) b (off + l.length * e.size) el fz news 0 c m.w c2 c3 (by omega) hone
                simp only [Nat.add_zero] at hst
                have hst : (storeCells ⟨b, off + l.length * e.size, none⟩ news).run P m.w = .ok () (m.w.setRow b (splice c (off + l.length * e.size) news)) := hst
                have hrun : (Builtin.append_ #[t, t] o.type #[.slice (some ⟨b, off, none⟩) l.length cap, .slice xd xs.length xcap]).run P m.w = .ok (.slice (some ⟨b, off, none⟩) (l.length + xs.length) cap) (m.w.setRow b (splice c (off + l.length * e.size) news)) := by
                  simp [Builtin.append_, run_underlying hu, sizeOf, typeInfo, r1, r2, Builtin.lenOf, hfc m.w rfl, hfit, add_off, hst]
                rcases hids with ⟨_, ad0, h0⟩ | ⟨id, ob, rfl, hg, hob, hblk⟩
                · rw [h0] at hbv
                  simp only [Value.slice.injEq] at hbv
                  omega
                · have hblk : hdrBlk (m.ι id) = some b := by
                    rcases hblk with hblk | ⟨ad0, n0, h0⟩
                    · rw [← hblk, hbv]; simp [hdrBlk, hc0]
                    · rw [h0] at hbv
                      simp only [Value.slice.injEq] at hbv
                      omega
                  have hheap : (m.w.setRow b (splice c (off + l.length * e.size) news)).heap[b]? = some (.cells (splice c (off + l.length * e.size) news) el fz) := setRow_heap m.w b c _ el fz c2
                  obtain ⟨g1, g2⟩ := step_move hi hg hob hblk (i := i) hfresh (o' := .arr e (l ++ xs)) (wrote_setRow m.w b (splice c (off + l.length * e.size) news)) (h := .slice (some ⟨b, off, none⟩) (l.length + xs.length) cap) (by simp [hdrBlk, hc0]) (fun he => by
                    refine ⟨some ⟨b, off, none⟩, cap, by simp, by simpa using hfit, b3, fun _ => ⟨b, off, _, el, fz, rfl, hheap, by rw [splice_size _ _ _ hin]; exact c3, by rw [splice_size _ _ _ hin]; exact c4, fun j hj => ?_⟩⟩
                    refine Rd.mono he.fro ?_
                    rw [List.length_append] at hj
                    by_cases hjl : j < l.length
                    · have hle : j * e.size + e.size ≤ l.length * e.size := by
                        have := Nat.mul_le_mul_right e.size (show j + 1 ≤ l.length from hjl)
                        rw [Nat.add_mul] at this; omega
                      rw [List.getElem_append_left hjl, seg_splice_apart _ _ _ hin _ _ (.inl (by omega))]
                      exact c5 j hjl
                    · have hjx : j - l.length < xs.length := by omega
                      have hle : (j - l.length) * e.size + e.size ≤ xs.length * e.size := by
                        have := Nat.mul_le_mul_right e.size (show j - l.length + 1 ≤ xs.length from hjx)
                        rw [Nat.add_mul] at this; omega
                      have hmj : j * e.size = l.length * e.size + (j - l.length) * e.size := by rw [← Nat.add_mul]; congr 1; omega
                      rw [List.getElem_append_right (by omega), show off + j * e.size = off + l.length * e.size + (j - l.length) * e.size by omega, seg_splice_in _ _ _ hin _ _ (by omega)]
                      exact x2.2 _ hjx)
                  refine Does.value (w' := m.w.setRow b (splice c (off + l.length * e.size) news)) (v := .slice (some ⟨b, off, none⟩) (l.length + xs.length) cap) ?_ ⟨_, .av (.own i), rfl, ?_, g1, g2, ?_⟩
                  · simp [execOp, ho, resolve, invoke, builtin, hbv, hxv, hrun]
                  · rw [← h, ← hG]; rfl
                  · exact (relSV_at (a := .own i) (by intros; simp)).2 ⟨rfl, .arr e (l ++ xs), by show Heap.get ((i, .arr e (l ++ xs)) :: _) i = _; rw [Heap.get_cons, if_pos rfl], fun _ => by simp⟩
            · have hk : xs ≠ [] := by intro e0; subst e0; simp only [List.length_nil] at hfit; omega
              have hkl : 0 < xs.length := List.length_pos_iff.2 hk
              obtain ⟨xb, xoff, xc, xel, xfz, rfl, y2, y3, y4⟩ := x4 hk
              obtain ⟨z0, ez, hz0, _⟩ := zero_rel (m := m) r5
              rw [List.append_nil] at ez
              have hzs : z.cells.size = e.size := by rw [← Array.length_toList, ez]; exact hz0.len
              have hnews : ∀ j v, news[j]? = some v → m.w.cell? ((⟨xb, xoff, none⟩ : Addr).add j) = some v := by
                intro j v hj
                have hjl : j < news.length := (List.getElem?_eq_some_iff.1 hj).1
                rw [add_off, cell_at y2, ← seg_getElem? xc xoff news.length j hjl, ← y4]
                exact hj
              have hge := grownCap_ge m.w (l.length + xs.length) cap et
              have hcm : grownCap m.w (l.length + xs.length) cap et ≤ maxLen := grownCap_le_maxLen _ _ _ _ (by unfold maxLen; omega)
              have hfits : Builtin.nextslicecap (l.length + xs.length) cap * inf.bytes ≤ 281474976710656 := growslice_fits (by omega) (by
                have h1 : (l.length + xs.length) * inf.bytes ≤ 68719476736 * 2048 := Nat.mul_le_mul hlim r3
                omega)
              have key : ∃ olds, Cells m.w m.F e olds l ∧ (Builtin.append_ #[t, t] o.type #[.slice ad l.length cap, .slice (some ⟨xb, xoff, none⟩) xs.length xcap]).run P m.w =
                  .ok (.slice (some ⟨m.w.heap.size, 0, none⟩) (l.length + xs.length) (grownCap m.w (l.length + xs.length) cap et))
                    (m.w.drew.alloc (.cells (olds.toArray ++ news.toArray ++ Builtin.zeroCells z.cells (grownCap m.w (l.length + xs.length) cap et - (l.length + xs.length))) et)) := by
                by_cases hc0 : cap = 0
                · have hl0 : l = [] := List.eq_nil_of_length_eq_zero (by omega)
                  subst hl0
                  subst hc0
                  refine ⟨[], ⟨by simp, by intro i hi; simp at hi⟩, ?_⟩
                  cases ad with
                  | some ad => exact run_append_grow (P := P) m.w t o.type et inf z hu r1 r4 ad 0 0 [] (by simp) (by intro j v hj; simp at hj) ⟨xb, xoff, none⟩ xs.length xcap news (by rw [r2]; exact x2.1) hnews (by omega) (by simp only [List.length_nil] at hlim; omega) (by simpa using hfits)
                  | none =>
                    have hn0 : Builtin.nextslicecap xs.length 0 = xs.length := nextslicecap_zero hkl
                    have := run_append_nil (P := P) m.w t o.type et inf z hu r1 r4 ⟨xb, xoff, none⟩ xs.length xcap news (by rw [r2]; exact x2.1) hnews hkl (by simp only [List.length_nil] at hlim; omega) (by simp only [List.length_nil, Nat.zero_add, hn0] at hfits; exact hfits)
                    simpa using this
                · obtain ⟨b, off, c, el, fz, rfl, c2, c3, c4, c5⟩ := b4 hc0
                  have hmul : l.length * e.size ≤ cap * e.size := Nat.mul_le_mul_right _ b2
                  refine ⟨seg c off (l.length * e.size), seg_cells (by omega) c5, ?_⟩
                  have hsl : (seg c off (l.length * e.size)).length = l.length * e.size := seg_length _ _ _ (by omega)
                  exact run_append_grow (P := P) m.w t o.type et inf z hu r1 r4 ⟨b, off, none⟩ l.length cap _ (by rw [r2]; exact hsl) (fun j v hj => by
                    have hjl : j < l.length * e.size := by rw [← hsl]; exact (List.getElem?_eq_some_iff.1 hj).1
                    rw [add_off, cell_at c2, ← seg_getElem? c off _ j hjl]
                    exact hj) ⟨xb, xoff, none⟩ xs.length xcap news (by rw [r2]; exact x2.1) hnews (by omega) (by omega) hfits
              obtain ⟨olds, k1, hrun⟩ := key
              obtain ⟨m1, a1, a2, a3, a4, a5, a6⟩ := step_kills ids hi
              have mono : ∀ {cs : List Value} {l : List e.den}, Cells m.w m.F e cs l → Cells m1.w m1.F e cs l := fun hc => ⟨hc.1, fun i hi => (hc.2 i hi).mono a5.fro⟩
              have hsz : (olds.toArray ++ news.toArray ++ Builtin.zeroCells z.cells (grownCap m.w (l.length + xs.length) cap et - (l.length + xs.length))).size = grownCap m.w (l.length + xs.length) cap et * e.size := by
                simp only [Array.size_append, List.size_toArray, size_zeroCells, hzs, k1.1, x2.1, ← Nat.add_mul]
                congr 1
                omega
              obtain ⟨m', q1, q2, q3, q4, q5⟩ := new_arr (τ := e) (l := l ++ xs) (cap := grownCap m.w (l.length + xs.length) cap et) (fz := (0, 0)) a4 (i := i) (by rw [a3]; exact hfresh)
                (w1 := m.w.drew.alloc (.cells (olds.toArray ++ news.toArray ++ Builtin.zeroCells z.cells (grownCap m.w (l.length + xs.length) cap et - (l.length + xs.length))) et)) (by rw [a1]; exact kept_alloc_drew m.w _)
                (by rw [a1]; exact alloc_new m.w.drew _) (.inl (Nat.le_refl _)) (by rw [List.length_append]; exact hge) hcm (by rw [hsz]; exact Nat.le_refl _) (fun j hj => by
                  have := cells_append (rest := (Builtin.zeroCells z.cells (grownCap m.w (l.length + xs.length) cap et - (l.length + xs.length))).toList) (mono k1) (mono x2) j hj
                  unfold seg
                  simpa using this)
              refine Does.value (w' := m'.w) (v := .slice (some ⟨m.w.heap.size, 0, none⟩) (l.length + xs.length) (grownCap m.w (l.length + xs.length) cap et)) ?_ ⟨m', .av (.own i), rfl, ?_, q3, a5.trans q4, by rw [List.length_append, a1] at q5; exact q5⟩
              · simp [execOp, ho, resolve, invoke, builtin, hbv, hxv, hrun, q1]
              · rw [← h, q2, a3, hG]
          · simp at hr
        · simp at h
    · simp at h
  · simp at h
end
end Go.Vm

/-
  The machine's operations against the model's: clear.
-/
namespace Go.Vm
section
variable {P : Program} {C : Ctx} {w0 : World} {M : Own} {o : Oper} {a : Act} {m : Mem} {s s' : St}

theorem op_clear {args : Array Operand} {ats : Array TypeId} (hT : tabOK P C.tab = true) (hi : Inv C w0 M m) (hG : m.G = s.G) (hS : ∀ x, RelSV m (a.eval x) (evalSV C s.env x))
    (ho : o.op = .call { callee := .builtin .clear, args, argTypes := ats })
    (h : runOp C o s some = some s') : Does P o a m.w (Res C w0 M m s s' o.dst) := by
  simp only [runOp, ho] at h
  split at h
  · rename_i t x hat har
    have ha1 : args = #[x] := by rw [← Array.toArray_toList (xs := args), har]
    have ha2 : ats = #[t] := by rw [← Array.toArray_toList (xs := ats), hat]
    subst ha1
    subst ha2
    have hx := hS x
    split at h
    · rename_i e id off len ht hv
      rw [hv] at hx
      obtain ⟨_, ob, hob, hxv⟩ := (relSV_at (m := m) (a := .view id off len) (by intros; simp)).1 hx
      rw [hG] at hob
      split at h
      · rename_i σ l hg
        rw [hg] at hob
        simp only [Option.some.injEq] at hob
        subst hob
        cases hc : (decide (e = σ) && Nat.ble (off + len) l.length && Nat.ble 1 len) with
        | false => rw [hc] at h; simp at h
        | true =>
          rw [hc] at h
          simp only [cond_true, Option.some.injEq] at h
          simp only [Bool.and_eq_true, decide_eq_true_eq] at hc
          obtain ⟨⟨rfl, c2⟩, c3⟩ := hc
          have c2 := Nat.le_of_ble_eq_true c2
          have c3 := Nat.le_of_ble_eq_true c3
          obtain ⟨et, hu, hck⟩ := slice_of (chk_of_tab hT ht)
          obtain ⟨inf, z, r1, r2, r3, r4, r5, r6, r7⟩ := info_of hck
          obtain ⟨z0, ez, hz0, _⟩ := zero_rel (m := m) r5
          rw [List.append_nil] at ez
          have hzs : z.cells.size = e.size := by rw [← Array.length_toList, ez]; exact hz0.len
          obtain ⟨b, o', cap, c, el, fz, q1, q2, q3, q4, q5, q6, q7, q8, q9⟩ := arr_at hi (hG ▸ hg) (j := off) (by omega)
          simp only at hxv
          obtain ⟨_, ad1, n1, cap1, ad2, k1, k2, k3⟩ := hxv
          rw [q1] at k1
          simp only [Value.slice.injEq] at k1
          obtain ⟨rfl, rfl, rfl⟩ := k1
          have k3 := k3 (by omega)
          simp only [Option.map_some, add_off] at k3
          subst k3
          have hle : off * e.size + len * e.size ≤ l.length * e.size := by rw [← Nat.add_mul]; exact Nat.mul_le_mul_right _ c2
          have hle2 : l.length * e.size ≤ cap * e.size := Nat.mul_le_mul_right _ q2
          obtain ⟨vs, hvs⟩ : ∃ vs, vs = (Builtin.zeroCells z.cells len).toList := ⟨_, rfl⟩
          have hvl : vs.length = len * e.size := by rw [hvs, Array.length_toList, size_zeroCells, hzs]
          have hseg : ∀ i, i < len → (vs.drop (i * e.size)).take e.size = z0 := by
            intro i hi'
            by_cases hz : e.size = 0
            · have : z0 = [] := by have := hz0.len; rw [hz] at this; exact List.eq_nil_of_length_eq_zero this
              rw [this, hz]; simp
            · have := rep_seg z.cells (by omega) len i hi'
              rw [hzs] at this
              rw [hvs]
              unfold Builtin.zeroCells
              rw [hzs]
              unfold seg at this
              rw [this, ez]
          have hone : ∀ v ∈ vs, v.oneCell' = true := by
            intro v hv
            obtain ⟨j, hj⟩ := List.mem_iff_getElem?.1 hv
            have hjl : j < vs.length := (List.getElem?_eq_some_iff.1 hj).1
            have hs : 0 < e.size := by
              rcases Nat.eq_zero_or_pos e.size with h0 | h0
              · rw [hvl, h0, Nat.mul_zero] at hjl; omega
              · exact h0
            have hd : j / e.size < len := by rw [Nat.div_lt_iff_lt_mul hs]; omega
            have := hseg (j / e.size) hd
            refine hz0.one v ?_
            rw [← this, List.mem_iff_getElem?]
            refine ⟨j % e.size, ?_⟩
            rw [List.getElem?_take, if_pos (Nat.mod_lt _ hs), List.getElem?_drop, Nat.mul_comm, Nat.div_add_mod]
            exact hj
          have hin : o' + off * e.size + vs.length ≤ c.size := by omega
          have hst := run_storeCells' (P := P) b (o' + off * e.size) el fz vs 0 c m.w q4 q5 (by omega) hone
          simp only [Nat.add_zero] at hst
          have hst : (storeCells ⟨b, o' + off * e.size, none⟩ vs).run P m.w = .ok () (m.w.setRow b (splice c (o' + off * e.size) vs)) := hst
          have hzv : (zeroValue et).run P m.w = .ok z m.w := by simp [zeroValue, typeInfo, r1, r4]
          obtain ⟨n, rfl⟩ : ∃ n, len = n + 1 := ⟨len - 1, by omega⟩
          have hrun : (Builtin.clear_ #[t] o.type #[.slice (some ⟨b, o' + off * e.size, none⟩) (n + 1) (cap - off)]).run P m.w = .ok (.tuple #[]) (m.w.setRow b (splice c (o' + off * e.size) vs)) := by
            simp [Builtin.clear_, run_underlying hu, hzv, ← hvs, hst]
          have hheap : (m.w.setRow b (splice c (o' + off * e.size) vs)).heap[b]? = some (.cells (splice c (o' + off * e.size) vs) el fz) := setRow_heap m.w b c _ el fz q4
          have hblk : hdrBlk (m.ι id) = some b := by rw [q1]; simp [hdrBlk, q3]
          have hcl : (clearL e l off (n + 1)).length = l.length := by unfold clearL; simp; omega
          obtain ⟨g1, g2⟩ := step_write hi (hG ▸ hg : m.G.get id = some (.arr e l)) rfl hblk (o' := .arr e (clearL e l off (n + 1))) ⟨rfl, hcl.symm⟩ (wrote_setRow m.w b (splice c (o' + off * e.size) vs)) (fun he => by
            refine ⟨some ⟨b, o', none⟩, cap, by rw [hcl]; exact q1, by rw [hcl]; exact q2, q9, fun _ => ⟨b, o', _, el, fz, rfl, hheap, by rw [splice_size _ _ _ hin]; exact q5, by rw [splice_size _ _ _ hin]; exact q6, fun i hi' => ?_⟩⟩
            refine Rd.mono he.fro ?_
            rw [hcl] at hi'
            by_cases h1 : i < off
            · have hm : i * e.size + e.size ≤ off * e.size := by
                have := Nat.mul_le_mul_right e.size (show i + 1 ≤ off from h1)
                rw [Nat.add_mul] at this; omega
              rw [seg_splice_apart _ _ _ hin _ _ (.inl (by omega))]
              have e1 : (clearL e l off (n + 1))[i]'(by rw [hcl]; exact hi') = l[i] := by
                unfold clearL
                rw [List.getElem_append_left (by simp; omega), List.getElem_take]
              rw [e1]
              exact q8 i hi'
            · by_cases h2 : i < off + (n + 1)
              · have e1 : (clearL e l off (n + 1))[i]'(by rw [hcl]; exact hi') = zeroVal e := by
                  unfold clearL
                  rw [List.getElem_append_right (by simp; omega), List.getElem_append_left (by simp; omega), List.getElem_replicate]
                have hd : i - off < n + 1 := by omega
                have hmi : i * e.size = off * e.size + (i - off) * e.size := by rw [← Nat.add_mul]; congr 1; omega
                have hme : (i - off) * e.size + e.size ≤ (n + 1) * e.size := by
                  have := Nat.mul_le_mul_right e.size (show i - off + 1 ≤ n + 1 from hd)
                  rw [Nat.add_mul (i - off) 1] at this; omega
                rw [e1, hmi, ← Nat.add_assoc, seg_splice_in _ _ _ hin _ _ (by omega), hseg _ hd]
                exact hz0
              · have hm : off * e.size + (n + 1) * e.size ≤ i * e.size := by rw [← Nat.add_mul]; exact Nat.mul_le_mul_right _ (by omega)
                rw [seg_splice_apart _ _ _ hin _ _ (.inr (by omega))]
                have e1 : (clearL e l off (n + 1))[i]'(by rw [hcl]; exact hi') = l[i] := by
                  unfold clearL
                  rw [List.getElem_append_right (by simp; omega), List.getElem_append_right (by simp; omega), List.getElem_drop]
                  congr 1
                  simp
                  omega
                rw [e1]
                exact q8 i hi')
          refine Does.value (w' := m.w.setRow b (splice c (o' + off * e.size) vs)) (v := .tuple #[]) ?_ ⟨_, .tup [], rfl, ?_, g1, g2, ⟨[], rfl, trivial⟩⟩
          · simp [execOp, ho, resolve, invoke, builtin, k2, hrun]
          · rw [← h]
            unfold setObj
            rw [← hG]
      · simp at h
    · simp at h
  · simp at h
end
end Go.Vm

/-
  The machine's operations against the model's: operators on two values; what a step comes to, by any continuation.
-/
namespace Go.Vm

/-- Values of the types of the list are equal in the model as they are here. -/
def EqOK (P : Program) (C : Ctx) : Prop := ∀ t τ, C.tab.get t = some τ → τ.isAgg = true → (C.eqs.any fun e => Nat.beq e t) = true →
  ∀ (w : World) (F : Nat → Prop) (cs cs' : List Value) (x y : τ.den) (r : Bool), eqT τ x y = some r → Rd w F τ cs x → Rd w F τ cs' y →
    (∀ w, (Op.equal t (toV τ cs) (toV τ cs')).run P w = .ok r w) ∧ ∀ op p q w, (eqGuard op t p q (toV τ cs) (toV τ cs')).run P w = .ok () w

section
variable {P : Program} {C : Ctx} {w0 : World} {M : Own} {o : Oper} {a : Act} {m : Mem} {s : St} {R : Type} {r : R} {K : St → Option R}

/-- What is left behind, before what goes on. -/
def ResK (C : Ctx) (w0 : World) (M : Own) (m : Mem) (s : St) (dst : Option Nat) {R : Type} (K : St → Option R) (r : R) (v : Value) (w' : World) : Prop :=
  ∃ s', K s' = some r ∧ Res C w0 M m s s' dst v w'

theorem does_pureK (hi : Inv C w0 M m) (hG : m.G = s.G) {v : Value} {sv : SV} (hrun : (execOp a.eval o).run P m.w = .ok (.value v) m.w) (hv : RelSV m v sv)
    (hs : K (putEnv o.dst sv s) = some r) : Does P o a m.w (ResK C w0 M m s o.dst K r) :=
  Does.value hrun ⟨_, hs, m, sv, rfl, by rw [hG], hi, Evo.refl m, hv⟩

theorem both_some {α : Type} {x y : Option α} {z : α} (h : both x y = some z) : x = some z ∧ y = some z := by
  unfold both at h
  split at h
  · rename_i e; exact ⟨h, e ▸ h⟩
  · simp at h

theorem op_binOp {op : BinOp} {xt yt : TypeId} {x y : Operand} (hT : tabOK P C.tab = true) (hE : EqOK P C) (hi : Inv C w0 M m) (hG : m.G = s.G) (hS : ∀ x, RelSV m (a.eval x) (evalSV C s.env x)) (ho : o.op = .binOp op xt x y yt)
    (h : runOp C o s K = some r) : Does P o a m.w (ResK C w0 M m s o.dst K r) := by
  simp only [runOp, ho] at h
  have hx := hS x
  have hy := hS y
  have exec (v : Value) (hg : (eqGuard op xt x y (a.eval x) (a.eval y)).run P m.w = .ok () m.w) (hb : (binOp op xt (a.eval x) (a.eval y)).run P m.w = .ok v m.w) :
      (execOp a.eval o).run P m.w = .ok (.value v) m.w := by
    simp [execOp, ho, hg, hb]
  split at h
  · rename_i k p k' q hp hq
    rw [hp] at hx
    rw [hq] at hy
    obtain ⟨hx, hx1, hx2⟩ := rel_int hx
    obtain ⟨hy, _, _⟩ := rel_int hy
    cases hk : decide (k = k') with
    | false => rw [hk] at h; simp at h
    | true =>
      have hk' : k = k' := by simpa using hk
      subst hk'
      rw [hk] at h
      simp only [cond_true] at h
      have hg := run_eqGuard_int (P := P) op xt x y (u := a.eval x) (v := a.eval y) (.inl ⟨k, p, hx⟩) m.w
      split at h
      · cases hz : eqI q 0 with
        | true => rw [hz] at h; simp at h
        | false =>
          rw [hz] at h
          simp only [cond_false] at h
          have hq0 : q ≠ 0 := by intro e; subst e; simp [eqI] at hz
          exact does_pureK hi hG (v := .int k (quoI k p q)) (exec _ hg (by rw [hx, hy]; simp [binOp, Op.intDiv, hq0, quoI])) (mk_int (wrap_within k _)) h
      · cases hz : eqI q 0 with
        | true => rw [hz] at h; simp at h
        | false =>
          rw [hz] at h
          simp only [cond_false] at h
          have hq0 : q ≠ 0 := by intro e; subst e; simp [eqI] at hz
          exact does_pureK hi hG (v := .int k (remI p q)) (exec _ hg (by rw [hx, hy]; simp [binOp, Op.intDiv, hq0, remI])) (mk_int (rem_within hx1 hx2)) h
      · split at h
        · rename_i r hr
          obtain ⟨v, hv, hrel⟩ := op_int (m := m) (P := P) op xt k p q hr m.w
          exact does_pureK hi hG (v := v) (exec _ hg (by rw [hx, hy]; exact hv)) hrel h
        · simp at h
  · rename_i p q hp hq
    rw [hp] at hx
    rw [hq] at hy
    obtain ⟨hx, hx1⟩ := rel_str hx
    obtain ⟨hy, hy1⟩ := rel_str hy
    have hg := run_eqGuard_int (P := P) op xt x y (u := a.eval x) (v := a.eval y) (.inr (.inr (.inl ⟨p, hx⟩))) m.w
    split at h
    · unfold catS at h
      split at h
      · rename_i hle
        simp only [Option.bind_some] at h
        have hlim : lim ≤ 68719476736 := by unfold lim; omega
        have h63 : ¬ (((p.size + q.size : Nat) : Int) > IntKind.i64.max) := by simp [IntKind.max, IntKind.signed, IntKind.bits]; omega
        exact does_pureK hi hG (v := .string (p ++ q)) (exec _ hg (by rw [hx, hy]; simp only [binOp, Op.stringOp]; rw [if_neg h63]; rfl)) (mk_str (by rw [size_append]; unfold maxLen; omega)) h
      · simp at h
    · cases op <;> simp only [strOp] at h <;> try (simp at h; done)
      · exact does_pureK hi hG (v := .bool (eqS p q)) (exec _ hg (by rw [hx, hy]; simp [binOp, Op.stringOp, eqS])) mk_bool h
      · exact does_pureK hi hG (v := .bool (neS p q)) (exec _ hg (by rw [hx, hy]; simp [binOp, Op.stringOp, neS])) mk_bool h
  · rename_i p q hp hq
    rw [hp] at hx
    rw [hq] at hy
    have hx := rel_bool hx
    have hy := rel_bool hy
    have hg := run_eqGuard_int (P := P) op xt x y (u := a.eval x) (v := a.eval y) (.inr (.inl ⟨p, hx⟩)) m.w
    cases hb : isBoolTy (C.tab.get xt) with
    | false => rw [hb] at h; simp at h
    | true =>
      rw [hb] at h
      simp only [cond_true] at h
      unfold isBoolTy at hb
      split at hb
      · rename_i ht
        have hu := bool_of (chk_of_tab hT ht)
        split at h
        · exact does_pureK hi hG (v := .bool (eqB p q)) (exec _ hg (by rw [hx, hy]; exact run_eql_bool (P := P) m.w xt p q hu)) mk_bool h
        · refine does_pureK hi hG (v := .bool (neB p q)) (exec _ hg (by
            rw [hx, hy]
            simp only [binOp]
            simp [run_equal_bool m.w xt p q hu, neB])) mk_bool h
        · simp at h
      · simp at hb
  · rename_i e l hp hq
    rw [hp] at hx
    cases hb : (isConst y && isSliceTy (C.tab.get xt)) with
    | false => rw [hb] at h; simp at h
    | true =>
      rw [hb] at h
      simp only [cond_true] at h
      simp only [Bool.and_eq_true] at hb
      obtain ⟨hb1, hb2⟩ := hb
      have hyv : a.eval y = .slice none 0 0 := by
        cases y with
        | const v =>
          simp only [evalSV, SV.av.injEq] at hq
          simp only [Act.eval]
          unfold constAtom at hq
          split at hq
          · rename_i k n
            cases hz : (decide (k.min ≤ n) && decide (n ≤ k.max)) <;> rw [hz] at hq <;> simp at hq
          · simp at hq
          · rename_i b
            cases hz : Nat.ble b.size 1000000 <;> rw [hz] at hq <;> simp at hq
          · rfl
          · simp at hq
        | _ => simp [isConst] at hb1
      unfold isSliceTy at hb2
      split at hb2
      · rename_i e' ht
        obtain ⟨et, hu, _⟩ := slice_of (chk_of_tab hT ht)
        obtain ⟨ad, cap, hx, r1, r2, r3⟩ := rel_slice hx
        have hg := run_eqGuard_int (P := P) op xt x y (u := a.eval x) (v := a.eval y) (.inr (.inr (.inr ⟨_, _, _, hx⟩))) m.w
        have hsome : l.isEmpty = false → ad.isNone = false := by
          intro hl
          obtain ⟨b, off, c, el, fz, rfl, _⟩ := r3 (by intro e0; rw [e0] at hl; simp at hl)
          rfl
        split at h
        · have hrun : (execOp a.eval o).run P m.w = .ok (.value (.bool ad.isNone)) m.w := exec _ hg (by rw [hx, hyv]; simp only [binOp]; simp [run_equal_slice_nil m.w xt et ad _ cap hu])
          refine does_pureK hi hG hrun mk_bool ?_
          cases hl : l.isEmpty with
          | true =>
            rw [hl] at h
            obtain ⟨k1, k2⟩ := both_some h
            cases ad.isNone <;> assumption
          | false => rw [hl] at h; rw [hsome hl]; exact h
        · have hrun : (execOp a.eval o).run P m.w = .ok (.value (.bool (!ad.isNone))) m.w := exec _ hg (by rw [hx, hyv]; exact run_neq_slice_nil (P := P) m.w xt et ad _ cap hu)
          refine does_pureK hi hG hrun mk_bool ?_
          cases hl : l.isEmpty with
          | true =>
            rw [hl] at h
            obtain ⟨k1, k2⟩ := both_some h
            cases ad.isNone <;> assumption
          | false => rw [hl] at h; rw [hsome hl]; exact h
        · simp at h
      · simp at hb2
  · split at h
    · rename_i τ ht
      cases hb : (τ.isAgg && C.eqs.any fun e => Nat.beq e xt) with
      | false => rw [hb] at h; simp at h
      | true =>
        rw [hb] at h
        simp only [cond_true] at h
        simp only [Bool.and_eq_true] at hb
        obtain ⟨hb1, hb2⟩ := hb
        split at h
        · rename_i p q hp hq
          obtain ⟨cs, e1, d1⟩ := svVal_rd hi (hG ▸ hp) hx
          obtain ⟨cs', e2, d2⟩ := svVal_rd hi (hG ▸ hq) hy
          split at h
          · rename_i res hres
            have d1' : Rd m.w (fun _ => True) τ cs p := d1.mono (fun b _ => ⟨trivial, rfl⟩)
            have d2' : Rd m.w (fun _ => True) τ cs' q := d2.mono (fun b _ => ⟨trivial, rfl⟩)
            obtain ⟨k1, k2⟩ := hE xt τ ht hb1 hb2 m.w (fun _ => True) cs cs' p q res hres d1' d2'
            have hg := k2 op x y m.w
            have k1 := k1 m.w
            rw [← e1, ← e2] at hg k1
            have v1 : a.eval x = .agg cs.toArray := by rw [e1]; simp [toV, hb1]
            have v2 : a.eval y = .agg cs'.toArray := by rw [e2]; simp [toV, hb1]
            split at h
            · exact does_pureK hi hG (v := .bool res) (exec _ hg (by rw [v1, v2] at k1 ⊢; simp only [binOp]; simp [k1])) mk_bool h
            · exact does_pureK hi hG (v := .bool (!res)) (exec _ hg (by rw [v1, v2] at k1 ⊢; simp only [binOp]; simp [k1])) mk_bool h
            · simp at h
          · simp at h
        · simp at h
    · simp at h
end
end Go.Vm

/-
  What an operation comes to does not hang on what goes on behind it.
-/
namespace Go.Vm
section
variable {C : Ctx} {s : St} {R S : Type} {K : S → Option R}

theorem cond_nat {x y : Option R} {x0 y0 : Option S} {b : Bool} (h1 : x = x0.bind K) (h2 : y = y0.bind K) : cond b x y = (cond b x0 y0).bind K := by
  cases b <;> assumption
theorem ite_nat {c : Prop} [Decidable c] {x y : Option R} {x0 y0 : Option S} (h1 : x = x0.bind K) (h2 : y = y0.bind K) : (if c then x else y) = (if c then x0 else y0).bind K := by
  split <;> assumption
theorem bind_nat {α : Type} {x : Option α} {F : α → Option R} {F0 : α → Option S} (h : ∀ a, F a = (F0 a).bind K) : x.bind F = (x.bind F0).bind K := by
  cases x with
  | none => rfl
  | some a => exact h a
theorem withNew_nat {site : Nat} {ob : Obj} {F : Nat → St → Option R} {F0 : Nat → St → Option S} (h : ∀ i s, F i s = (F0 i s).bind K) : withNew s site ob F = (withNew s site ob F0).bind K :=
  cond_nat rfl (h _ _)
theorem asI_nat {v : SV} {F : Int → Option R} {F0 : Int → Option S} (h : ∀ n, F n = (F0 n).bind K) : asI v F = (asI v F0).bind K := by
  unfold asI; split
  · exact h _
  · rfl
theorem asI64_nat {v : SV} {F : Int → Option R} {F0 : Int → Option S} (h : ∀ n, F n = (F0 n).bind K) : asI64 v F = (asI64 v F0).bind K := by
  unfold asI64; split
  · exact h _
  · rfl
theorem optI_nat {e : Env} {d : Int} {x : Option Operand} {F : Int → Option R} {F0 : Int → Option S} (h : ∀ n, F n = (F0 n).bind K) : optI C e d x F = (optI C e d x F0).bind K := by
  cases x with
  | none => exact h _
  | some x => exact asI_nat h
theorem indexAt_nat {t : Nat} {x : SV} {i : Int} {F : Atom → Option R} {F0 : Atom → Option S} (h : ∀ n, F n = (F0 n).bind K) : indexAt C s t x i F = (indexAt C s t x i F0).bind K := by
  unfold indexAt; split
  · exact bind_nat fun _ => h _
  · split
    · exact bind_nat fun _ => h _
    · rfl
  · split
    · exact bind_nat fun _ => h _
    · rfl
  · split
    · exact bind_nat fun _ => h _
    · rfl
  · exact bind_nat fun _ => h _
  · split
    · exact ite_nat (h _) rfl
    · rfl
  · rfl
theorem loadAt_nat {τ : Ty} {p : Atom} {F : SV → Option R} {F0 : SV → Option S} (h : ∀ n, F n = (F0 n).bind K) : loadAt s τ p F = (loadAt s τ p F0).bind K := by
  unfold loadAt; split
  · split
    · split
      · exact h _
      · rfl
    · rfl
  · split
    · refine bind_nat fun _ => ?_
      split
      · split
        · exact h _
        · rfl
      · rfl
    · rfl
  · split
    · exact h _
    · rfl
  · rfl
theorem storeAt_nat {τ : Ty} {p : Atom} {v : SV} {F : St → Option R} {F0 : St → Option S} (h : ∀ n, F n = (F0 n).bind K) : storeAt s τ p v F = (storeAt s τ p v F0).bind K := by
  unfold storeAt; split
  · split
    · split
      · refine cond_nat ?_ rfl
        split
        · exact h _
        · rfl
      · rfl
    · rfl
  · split
    · split
      · refine bind_nat fun _ => ?_
        split
        · exact cond_nat rfl (h _)
        · rfl
      · rfl
    · rfl
  · rfl
theorem lenOf_nat {v : SV} {F : Int → Option R} {F0 : Int → Option S} (h : ∀ n, F n = (F0 n).bind K) : lenOf s v F = (lenOf s v F0).bind K := by
  unfold lenOf; split
  · exact h _
  · exact h _
  · exact h _
  · split
    · exact h _
    · rfl
  · split
    · exact h _
    · rfl
  · split
    · exact h _
    · rfl
  · rfl
theorem minMax_nat {mx : Bool} {F : Int → Option R} {F0 : Int → Option S} (h : ∀ n, F n = (F0 n).bind K) : ∀ (l : List SV) (a : Int), minMax mx a l F = (minMax mx a l F0).bind K
  | [], a => h a
  | v :: l, a => asI64_nat fun b => minMax_nat h l _
theorem sliceOp_nat {x : SV} {lo : Int} {hi mx : Option Int} {F : SV → Option R} {F0 : SV → Option S} (h : ∀ n, F n = (F0 n).bind K) : sliceOp s x lo hi mx F = (sliceOp s x lo hi mx F0).bind K := by
  unfold sliceOp; split
  · exact bind_nat fun _ => h _
  · exact bind_nat fun _ => h _
  · exact ite_nat (h _) rfl
  · exact ite_nat (h _) rfl
  · split
    · exact bind_nat fun _ => h _
    · rfl
  · exact bind_nat fun _ => h _
  · split
    · exact bind_nat fun _ => ite_nat (h _) rfl
    · rfl
  · rfl
theorem callAt_nat {site f : Nat} {vs : List SV} {F : SV → St → Option R} {F0 : SV → St → Option S} (h : ∀ v s, F v s = (F0 v s).bind K) : callAt C s site f vs F = (callAt C s site f vs F0).bind K := by
  unfold callAt; split
  · split
    · refine bind_nat fun _ => cond_nat ?_ rfl
      split
      · split
        · exact h _ _
        · rfl
      · rfl
    · rfl
  · rfl
end

section
variable {C : Ctx} {s : St} {R : Type} {K : St → Option R} {o : Oper}

theorem runOp_nat (hb : ∀ op xt x y yt, o.op ≠ .binOp op xt x y yt) : runOp C o s K = (runOp C o s some).bind K := by
  obtain ⟨oo, hoo⟩ : ∃ oo, oo = o.op := ⟨_, rfl⟩
  unfold runOp
  dsimp only
  rw [← hoo] at hb ⊢
  clear hoo
  split
  · rfl
  · rfl
  · split
    · exact cond_nat rfl rfl
    · rfl
  · split
    · exact withNew_nat fun _ _ => rfl
    · rfl
  · split
    · split
      · exact withNew_nat fun _ _ => rfl
      · rfl
    · rfl
  · split
    · refine cond_nat ?_ rfl
      split
      · rfl
      · rfl
    · rfl
  · split
    · refine cond_nat ?_ rfl
      split
      · exact withNew_nat fun _ _ => rfl
      · rfl
    · rfl
  · split
    · exact loadAt_nat fun _ => rfl
    · rfl
  · split
    · exact storeAt_nat fun _ => rfl
    · rfl
  · split
    · split
      · rfl
      · rfl
    · split
      · rfl
      · rfl
    · rfl
    · rfl
    · rfl
    · rfl
  · exact absurd rfl (hb _ _ _ _ _)
  · split
    · rfl
    · rfl
    · rfl
  · split
    · rfl
    · exact withNew_nat fun _ _ => rfl
    · split
      · rfl
      · rfl
    · rfl
    · rfl
  · split
    · exact asI_nat fun _ => asI_nat fun _ => bind_nat fun _ => withNew_nat fun _ _ => rfl
    · rfl
  · refine optI_nat fun _ => cond_nat rfl ?_
    split
    · exact sliceOp_nat fun _ => rfl
    · exact asI_nat fun _ => sliceOp_nat fun _ => rfl
    · exact asI_nat fun _ => asI_nat fun _ => sliceOp_nat fun _ => rfl
    · rfl
  · split
    · split
      · split
        · exact cond_nat rfl rfl
        · rfl
      · rfl
    · split
      · split
        · refine cond_nat ?_ rfl
          split
          · exact cond_nat rfl rfl
          · rfl
        · rfl
      · rfl
    · split
      · refine cond_nat ?_ rfl
        split
        · exact cond_nat rfl rfl
        · rfl
      · rfl
    · rfl
  · split
    · split
      · split
        · split
          · rfl
          · rfl
        · rfl
      · rfl
    · split
      · refine cond_nat ?_ rfl
        split
        · rfl
        · rfl
      · rfl
    · rfl
  · exact asI_nat fun _ => cond_nat (indexAt_nat fun _ => rfl) rfl
  · refine asI_nat fun _ => ?_
    split
    · exact bind_nat fun _ => rfl
    · rfl
  · split
    · split
      · rfl
      · rfl
      · rfl
    · rfl
  · split
    · rfl
    · rfl
  · split
    · exact cond_nat (lenOf_nat fun _ => rfl) rfl
    · rfl
  · split
    · exact asI64_nat fun _ => by refine minMax_nat ?_ _ _; intro n; rfl
    · rfl
  · split
    · exact asI64_nat fun _ => by refine minMax_nat ?_ _ _; intro n; rfl
    · rfl
  · split
    · split
      · refine cond_nat ?_ rfl
        split
        · exact bind_nat fun _ => withNew_nat fun _ _ => rfl
        · rfl
        · split
          · exact bind_nat fun _ => withNew_nat fun _ _ => rfl
          · rfl
      · rfl
    · rfl
  · split
    · split
      · split
        · exact cond_nat rfl rfl
        · rfl
      · rfl
    · rfl
  · split
    · exact callAt_nat fun _ _ => rfl
    · split
      · exact callAt_nat fun _ _ => rfl
      · rfl
    · rfl
  · rfl
end
end Go.Vm

/-
  What a call asks and what it gives, in terms of memory.
-/
namespace Go.Vm

def HdrW (w : World) (F : Nat → Prop) (u : Value) (e : Ty) (l : List e.den) : Prop :=
  ∃ ad cap, u = .slice ad l.length cap ∧ l.length ≤ cap ∧ cap ≤ maxLen ∧
    (cap ≠ 0 → ∃ b off c el fz, ad = some ⟨b, off, none⟩ ∧ w.heap[b]? = some (.cells c el fz) ∧ Clear c.size fz ∧ off + cap * e.size ≤ c.size ∧
      ∀ i (h : i < l.length), Rd w F e (seg c (off + i * e.size) e.size) l[i])

def ArgRd (w : World) (F : Nat → Prop) : Mode → (τ : Ty) → Value → τ.den → Prop
  | .rd, τ, u, x => ∃ cs, u = toV τ cs ∧ Rd w F τ cs x
  | .upd, .slice e, u, x => HdrW w F u e x
  | .take, .slice e, u, x => HdrW w F u e x
  | _, _, _, _ => False

def ArgsRd (w : World) (F : Nat → Prop) : (ins : List (Mode × Ty)) → List Value → (tupTy (ins.map (·.2))).den → Prop
  | [], [], _ => True
  | p :: r, u :: us, x => ArgRd w F p.1 p.2 u x.1 ∧ ArgsRd w F r us x.2
  | _, _, _ => False

/-- The headers of what is written in its place or taken. -/
def argHdrs : List (Mode × Ty) → List Value → List Value
  | (.rd, _) :: r, _ :: us => argHdrs r us
  | (_, _) :: r, u :: us => u :: argHdrs r us
  | _, _ => []
def mutHdrs : List (Mode × Ty) → List Value → List Value
  | (.upd, _) :: r, u :: us => u :: mutHdrs r us
  | (_, _) :: r, _ :: us => mutHdrs r us
  | _, _ => []

def Apart (l : List Value) : Prop := l.Pairwise fun u v => ∀ b, hdrBlk u = some b → hdrBlk v = some b → False

structure Pre (glob : List (Nat × (Σ t : Ty, t.den))) (w : World) (F : Nat → Prop) (ins : List (Mode × Ty)) (us : List Value) (x : (tupTy (ins.map (·.2))).den) : Prop where
  args : ArgsRd w F ins us x
  own : ∀ u ∈ argHdrs ins us, ∀ b, hdrBlk u = some b → ¬ F b ∧ b < w.heap.size
  apart : Apart (argHdrs ins us)
  fro : ∀ b, F b → b < w.heap.size
  glob : ∀ g τ x, globGet glob g = some ⟨τ, x⟩ → Rd w F (.ptr τ) [.pointer (some ⟨g, 0, none⟩)] x

def OwnRd (w : World) (F : Nat → Prop) : (τ : Ty) → List Value → τ.den → Prop
  | .prod a b, cs, x => ∃ c1 c2, cs = c1 ++ c2 ∧ OwnRd w F a c1 x.1 ∧ OwnRd w F b c2 x.2
  | .unit, cs, _ => cs = []
  | .slice e, cs, x => ∃ u, cs = [u] ∧ HdrW w F u e x
  | .int k, cs, x => Rd w F (.int k) cs x
  | .bool, cs, x => Rd w F .bool cs x
  | .str, cs, x => Rd w F .str cs x
  | _, _, _ => False

def ownHdrs : (τ : Ty) → List Value → List Value
  | .prod a b, cs => ownHdrs a (cs.take a.size) ++ ownHdrs b (cs.drop a.size)
  | .slice _, cs => cs
  | _, _ => []

def OutsRd (w : World) (F : Nat → Prop) : (outs : List (Bool × Ty)) → List (List Value) → (tupTy (outs.map (·.2))).den → Prop
  | [], [], _ => True
  | p :: r, cs :: css, x => cond p.1 (OwnRd w F p.2 cs x.1) (Rd w F p.2 cs x.1) ∧ OutsRd w F r css x.2
  | _, _, _ => False

def outHdrs : List (Bool × Ty) → List (List Value) → List Value
  | p :: r, cs :: css => cond p.1 (ownHdrs p.2 cs) [] ++ outHdrs r css
  | _, _ => []

def outVals : List (Bool × Ty) → List (List Value) → List Value
  | p :: r, cs :: css => toV p.2 cs :: outVals r css
  | _, _ => []

def outVal : List Value → Value
  | [u] => u
  | us => .tuple us.toArray

def MutsRd (w : World) (F : Nat → Prop) : (ins : List (Mode × Ty)) → List Value → (tupTy (mutTys ins)).den → Prop
  | [], _, _ => True
  | (.rd, _) :: r, _ :: us, y => MutsRd w F r us y
  | (.take, _) :: r, _ :: us, y => MutsRd w F r us y
  | (.upd, .slice e) :: r, u :: us, y => HdrW w F u e y.1 ∧ MutsRd w F r us y.2
  | _, _, _ => False

def Among (l : List Value) (b : Nat) : Prop := ∃ u ∈ l, hdrBlk u = some b

structure Post (w : World) (F : Nat → Prop) (ins : List (Mode × Ty)) (us : List Value) (outs : List (Bool × Ty)) (r : (tupTy (outs.map (·.2) ++ mutTys ins)).den) (v : Value) (w' : World) (F2 : Nat → Prop) (css : List (List Value)) : Prop where
  kept : Kept w (Among (argHdrs ins us)) w'
  fro : ∀ b, F b → F2 b
  f2 : ∀ b, F2 b → b < w'.heap.size ∧ (F b ∨ Among (argHdrs ins us) b ∨ w.heap.size ≤ b)
  val : v = outVal (outVals outs css)
  res : OutsRd w' F2 outs css (outsPart (outs.map (·.2)) (mutTys ins) r).1
  muts : MutsRd w' F2 ins us (outsPart (outs.map (·.2)) (mutTys ins) r).2
  apart : Apart (outHdrs outs css ++ mutHdrs ins us)
  own : ∀ u ∈ outHdrs outs css ++ mutHdrs ins us, ∀ b, hdrBlk u = some b → (w.heap.size ≤ b ∨ Among (argHdrs ins us) b) ∧ ¬ F2 b ∧ b < w'.heap.size

/-- The function comes to a value, whether it has a body or is the model's own. -/
def Goes (P : Program) (f : FuncId) (vs : Array Value) (w : World) (R : Value → World → Prop) : Prop :=
  ((callFunc f vs).run P w = .ok (.enter f vs) w ∧ Calls P f vs w fun e w' => ∃ v, e = .returned v ∧ R v w') ∨ ∃ v w', (callFunc f vs).run P w = .ok (.value v) w' ∧ R v w'

def Con.Holds (P : Program) (glob : List (Nat × (Σ t : Ty, t.den))) (f : FuncId) (c : Con) : Prop :=
  ∀ (w : World) (F : Nat → Prop) (us : List Value) (x : (tupTy (c.ins.map (·.2))).den) (r : (tupTy (c.outs.map (·.2) ++ mutTys c.ins)).den), Pre glob w F c.ins us x → c.fn x = some r →
    Goes P f us.toArray w fun v w' => ∃ F2 css, Post w F c.ins us c.outs r v w' F2 css

section
variable {P : Program} {C : Ctx} {w0 : World} {M : Own} {o : Oper} {a : Act} {m : Mem} {s s' : St}

theorem Rd.flat {w : World} {F : Nat → Prop} : ∀ {τ : Ty} {cs : List Value} {x : τ.den}, τ.flat = true → Rd w F τ cs x → ∀ (w' : World) (F' : Nat → Prop), Rd w' F' τ cs x
  | .int _, _, _, _, h, _, _ => h
  | .bool, _, _, _, h, _, _ => h
  | .str, _, _, _, h, _, _ => h
  | .prod a b, _, _, hf, h, _, _ => by
    simp only [Ty.flat, Bool.and_eq_true] at hf
    obtain ⟨c1, c2, h1, h2, h3⟩ := h
    exact ⟨c1, c2, h1, Rd.flat hf.1 h2 _ _, Rd.flat hf.2 h3 _ _⟩
  | .unit, _, _, _, h, _, _ => h
  | .arr n e, _, _, hf, h, _, _ => by
    obtain ⟨h1, h2, h3⟩ := h
    exact ⟨h1, h2, fun i hi => Rd.flat (by simpa [Ty.flat] using hf) (h3 i hi) _ _⟩
  | .slice _, _, _, hf, _, _, _ => by simp [Ty.flat] at hf
  | .ptr _, _, _, hf, _, _, _ => by simp [Ty.flat] at hf
  | .clo _ _, _, _, hf, _, _, _ => by simp [Ty.flat] at hf

theorem HdrW.flat {w : World} {F F' : Nat → Prop} {u : Value} {e : Ty} {l : List e.den} (hf : e.flat = true) (h : HdrW w F u e l) : HdrW w F' u e l := by
  obtain ⟨ad, cap, h1, h2, h3, h4⟩ := h
  refine ⟨ad, cap, h1, h2, h3, fun hc => ?_⟩
  obtain ⟨b, off, c, el, fz, q1, q2, q3, q4, q5⟩ := h4 hc
  exact ⟨b, off, c, el, fz, q1, q2, q3, q4, fun i hi => (q5 i hi).flat hf _ _⟩

theorem HdrW.mono {w w' : World} {F F' : Nat → Prop} {u : Value} {e : Ty} {l : List e.den} (hF : ∀ b, F b → F' b ∧ w'.heap[b]? = w.heap[b]?) (hu : ∀ b, hdrBlk u = some b → w'.heap[b]? = w.heap[b]?) (h : HdrW w F u e l) : HdrW w' F' u e l := by
  obtain ⟨ad, cap, h1, h2, h3, h4⟩ := h
  refine ⟨ad, cap, h1, h2, h3, fun hc => ?_⟩
  obtain ⟨b, off, c, el, fz, q1, q2, q3, q4, q5⟩ := h4 hc
  exact ⟨b, off, c, el, fz, q1, by rw [hu b (by rw [h1, q1]; simp [hdrBlk, hc])]; exact q2, q3, q4, fun i hi => (q5 i hi).mono hF⟩

theorem ArgRd.mono {w : World} {F F' : Nat → Prop} (hF : ∀ b, F b → F' b) {md : Mode} {τ : Ty} {u : Value} {x : τ.den} (h : ArgRd w F md τ u x) : ArgRd w F' md τ u x := by
  cases md with
  | rd => obtain ⟨cs, h1, h2⟩ := h; exact ⟨cs, h1, h2.mono fun b hb => ⟨hF b hb, rfl⟩⟩
  | upd => cases τ <;> first | exact HdrW.mono (fun b hb => ⟨hF b hb, rfl⟩) (fun _ _ => rfl) h | exact h.elim
  | take => cases τ <;> first | exact HdrW.mono (fun b hb => ⟨hF b hb, rfl⟩) (fun _ _ => rfl) h | exact h.elim

/-! ### The arguments -/

theorem argIds_cons_rd {G : Heap} {τ : Ty} {r : List (Mode × Ty)} {v : SV} {vs : List SV} : argIds G ((.rd, τ) :: r) (v :: vs) = (deepIds G v ++ (argIds G r vs).1, (argIds G r vs).2) := rfl
theorem argIds_cons_mut {G : Heap} {τ : Ty} {r : List (Mode × Ty)} {v : SV} {vs : List SV} : argIds G ((.upd, τ) :: r) (v :: vs) = ((argIds G r vs).1, svIds v ++ (argIds G r vs).2) := rfl
theorem argIds_cons_take {G : Heap} {τ : Ty} {r : List (Mode × Ty)} {v : SV} {vs : List SV} : argIds G ((.take, τ) :: r) (v :: vs) = ((argIds G r vs).1, svIds v ++ (argIds G r vs).2) := rfl

/-- A header that is given away, and whose object it is. -/
def HasId (m : Mem) (v : SV) (u : Value) : Prop := ∀ b, hdrBlk u = some b → ∃ id o, svIds v = [id] ∧ m.G.get id = some o ∧ isObj o = true ∧ hdrBlk (m.ι id) = some b

/-- What is given away. -/
theorem give_rel (hi : Inv C w0 M m) {τ : Ty} {v : SV} {x : τ.den} {u : Value} (hv : svVal m.G τ v = some x) (hr : RelSV m u v) (hk : v = .av .nils ∨ (∃ id, v = .av (.own id)) ∨ ∃ id o n, v = .av (.view id o n)) :
    ArgRd m.w m.F .take τ u x ∧ HasId m v u ∧ (svIds v = [] ∨ ∃ id o, svIds v = [id] ∧ m.G.get id = some o ∧ isObj o = true) := by
  cases τ with
  | slice e =>
    have key : baseOf ⟨[], m.G⟩ e v = some (x, svIds v) := by
      rcases hk with rfl | ⟨id, rfl⟩ | ⟨id, off, n, rfl⟩
      · simp only [svVal, Ty.isAgg, cond_false, atomVal, Option.some.injEq] at hv
        subst hv
        rfl
      · simp only [svVal, Ty.isAgg, cond_false, atomVal] at hv
        cases hg : m.G.get id with
        | none => rw [hg] at hv; simp at hv
        | some ob =>
          cases ob with
          | arr σ l =>
            rw [hg] at hv
            obtain ⟨he, hx⟩ := castTo_some hv
            cases he
            subst hx
            simp [baseOf, hg, castTo, svIds, atomIds]
          | box _ => rw [hg] at hv; simp at hv
          | dead => rw [hg] at hv; simp at hv
      · simp only [svVal, Ty.isAgg, cond_false, atomVal] at hv
        cases hg : m.G.get id with
        | none => rw [hg] at hv; simp at hv
        | some ob =>
          cases ob with
          | arr σ l =>
            rw [hg] at hv
            obtain ⟨he, hx⟩ := castTo_some hv
            cases he
            subst hx
            simp [baseOf, hg, castTo, svIds, atomIds]
          | box _ => rw [hg] at hv; simp at hv
          | dead => rw [hg] at hv; simp at hv
    obtain ⟨h1, h2⟩ := base_rel (s := ⟨[], m.G⟩) hi rfl key hr
    refine ⟨h1, ?_, ?_⟩
    · intro b hbl
      rcases h2 with ⟨_, ad, rfl⟩ | ⟨id, ob, h2, h3, h4, h5⟩
      · cases ad <;> simp [hdrBlk] at hbl
      · refine ⟨id, ob, h2, h3, h4, ?_⟩
        rcases h5 with h5 | ⟨ad, n, rfl⟩
        · rw [← h5]; exact hbl
        · cases ad <;> simp [hdrBlk] at hbl
    · rcases h2 with ⟨h2, _⟩ | ⟨id, ob, h2, h3, h4, h5⟩
      · exact .inl h2
      · exact .inr ⟨id, ob, h2, h3, h4⟩
  | _ =>
    exfalso
    rcases hk with rfl | ⟨id, rfl⟩ | ⟨id, off, n, rfl⟩ <;> simp [svVal, Ty.isAgg, atomVal] at hv

theorem argsAfter_take {τ : Ty} {r : List (Mode × Ty)} {v : SV} {vs : List SV} {x : (tupTy (mutTys ((.take, τ) :: r))).den} {G G' : Heap} (h : argsAfter ((.take, τ) :: r) (v :: vs) x G = some G') :
    (v = .av .nils ∨ (∃ id, v = .av (.own id)) ∨ ∃ id o n, v = .av (.view id o n)) ∧ argsAfter r vs x (killIds (svIds v) G) = some G' := by
  simp only [argsAfter] at h
  split at h
  · exact ⟨.inl rfl, h⟩
  · exact ⟨.inr (.inl ⟨_, rfl⟩), h⟩
  · exact ⟨.inr (.inr ⟨_, _, _, rfl⟩), h⟩
  · simp at h

theorem argsAfter_mut {e : Ty} {r : List (Mode × Ty)} {v : SV} {vs : List SV} {x : (tupTy (mutTys ((.upd, .slice e) :: r))).den} {G G' : Heap} (h : argsAfter ((.upd, .slice e) :: r) (v :: vs) x G = some G') :
    (v = .av .nils ∧ argsAfter r vs x.2 G = some G') ∨ ∃ id, v = .av (.own id) ∧ argsAfter r vs x.2 ((id, .arr e x.1) :: G) = some G' := by
  simp only [argsAfter] at h
  split at h
  · exact .inl ⟨rfl, h⟩
  · exact .inr ⟨_, rfl, h⟩
  · simp at h

theorem nodupB_cons {i : Nat} {l : List Nat} (h : nodupB (i :: l) = true) : i ∉ l ∧ nodupB l = true := by
  simp only [nodupB, Bool.and_eq_true, Bool.not_eq_true', List.any_eq_false] at h
  exact ⟨fun hi => h.1 i hi (Nat.beq_refl i), h.2⟩

theorem apart_cons {l : List Value} {u : Value} {ids : List Nat} (hi : Inv C w0 M m) {v : SV} (h1 : HasId m v u) (h2 : ∀ b, Among l b → ∃ id o, id ∈ ids ∧ m.G.get id = some o ∧ isObj o = true ∧ hdrBlk (m.ι id) = some b)
    (hn : nodupB (svIds v ++ ids) = true) (h3 : nodupB ids = true → Apart l) (hs : svIds v = [] ∨ ∃ id o, svIds v = [id] ∧ m.G.get id = some o ∧ isObj o = true) : Apart (u :: l) := by
  rcases hs with hs | ⟨id, ob, hs, hg, hob⟩
  · rw [hs] at hn
    refine List.Pairwise.cons ?_ (h3 hn)
    intro u' hu' b hb hb'
    obtain ⟨id, ob, k1, _⟩ := h1 b hb
    rw [hs] at k1
    cases k1
  · rw [hs] at hn
    obtain ⟨n1, n2⟩ := nodupB_cons hn
    refine List.Pairwise.cons ?_ (h3 n2)
    intro u' hu' b hb hb'
    obtain ⟨id', ob', k1, k2, k3, k4⟩ := h1 b hb
    rw [hs] at k1
    simp only [List.cons.injEq, and_true] at k1
    subst k1
    obtain ⟨id2, ob2, j1, j2, j3, j4⟩ := h2 b ⟨u', hu', hb'⟩
    have := hi.inj _ _ _ _ b k2 k3 j2 j3 k4 j4
    subst this
    exact n1 j1

theorem args_rel (hi : Inv C w0 M m) : ∀ {ins : List (Mode × Ty)} {vs : List SV} {us : List Value} {x : (tupTy (ins.map (·.2))).den} {y : (tupTy (mutTys ins)).den} {G G' : Heap} {F : Nat → Prop},
    argsVal m.G ins vs = some x → Rel2 (RelSV m) us vs → argsAfter ins vs y G = some G' → (∀ b, Thru m (argIds m.G ins vs).1 b → F b) →
    ArgsRd m.w F ins us x ∧ (∀ b, Among (argHdrs ins us) b → ∃ id o, id ∈ (argIds m.G ins vs).2 ∧ m.G.get id = some o ∧ isObj o = true ∧ hdrBlk (m.ι id) = some b) ∧
    (nodupB (argIds m.G ins vs).2 = true → Apart (argHdrs ins us)) ∧ us.length = ins.length
  | [], [], [], x, y, G, G', F, h, hr, ha, hF => ⟨trivial, by rintro b ⟨u, hu, _⟩; simp [argHdrs] at hu, fun _ => List.Pairwise.nil, rfl⟩
  | [], _ :: _, _, _, _, _, _, _, h, _, _, _ => by simp [argsVal] at h
  | _ :: _, [], _, _, _, _, _, _, h, _, _, _ => by simp [argsVal] at h
  | _ :: _, _ :: _, [], _, _, _, _, _, _, h, _, _ => h.elim
  | [], [], _ :: _, _, _, _, _, _, _, h, _, _ => h.elim
  | (md, τ) :: r, v :: vs, u :: us, x, y, G, G', F, h, hr, ha, hF => by
    unfold argsVal at h
    split at h
    · rename_i x1 hx1
      split at h
      · rename_i x2 hx2
        have h := Option.some.inj h
        subst h
        dsimp only at hx1
        obtain ⟨hr1, hr2⟩ := hr
        cases md with
        | rd =>
          have ha' : argsAfter r vs y G = some G' := ha
          obtain ⟨q1, q2, q3, q4⟩ := args_rel hi (F := F) hx2 hr2 ha' (fun b hb => hF b (Thru.mono (fun i hi => by rw [argIds_cons_rd]; simp [hi]) hb))
          obtain ⟨cs, c1, c2⟩ := svVal_rd hi hx1 hr1
          exact ⟨⟨⟨cs, c1, c2.mono fun b hb => ⟨hF b (Thru.mono (fun i hi => by rw [argIds_cons_rd]; simp [hi]) hb), rfl⟩⟩, q1⟩, q2, q3, by simp [q4]⟩
        | take =>
          obtain ⟨hk, ha'⟩ := argsAfter_take ha
          obtain ⟨q1, q2, q3, q4⟩ := args_rel hi (F := F) hx2 hr2 ha' (fun b hb => hF b hb)
          obtain ⟨g1, g2, g3⟩ := give_rel hi hx1 hr1 hk
          refine ⟨⟨ArgRd.mono (fun b hb => hF b (.inl hb)) g1, q1⟩, ?_, fun hnd => apart_cons hi g2 q2 hnd q3 g3, by simp [q4]⟩
          rintro b ⟨u', hu', hb⟩
          rcases List.mem_cons.1 hu' with rfl | hu'
          · obtain ⟨id, ob, k1, k2, k3, k4⟩ := g2 b hb
            exact ⟨id, ob, by rw [argIds_cons_take]; simp [k1], k2, k3, k4⟩
          · obtain ⟨id, ob, k1, k2⟩ := q2 b ⟨u', hu', hb⟩
            exact ⟨id, ob, by rw [argIds_cons_take]; simp [k1], k2⟩
        | upd =>
          cases τ with
          | slice e =>
            have hk : (v = .av .nils ∨ (∃ id, v = .av (.own id)) ∨ ∃ id o n, v = .av (.view id o n)) ∧ ∃ G1 y', argsAfter r vs y' G1 = some G' := by
              rcases argsAfter_mut ha with ⟨rfl, h1⟩ | ⟨id, rfl, h1⟩
              · exact ⟨.inl rfl, _, _, h1⟩
              · exact ⟨.inr (.inl ⟨_, rfl⟩), _, _, h1⟩
            obtain ⟨hk, G1, y', ha'⟩ := hk
            obtain ⟨q1, q2, q3, q4⟩ := args_rel hi (F := F) hx2 hr2 ha' (fun b hb => hF b hb)
            obtain ⟨g1, g2, g3⟩ := give_rel hi hx1 hr1 hk
            have g1' := ArgRd.mono (fun b hb => hF b (.inl hb)) g1
            refine ⟨⟨g1', q1⟩, ?_, fun hnd => apart_cons hi g2 q2 hnd q3 g3, by simp [q4]⟩
            rintro b ⟨u', hu', hb⟩
            rcases List.mem_cons.1 hu' with rfl | hu'
            · obtain ⟨id, ob, k1, k2, k3, k4⟩ := g2 b hb
              exact ⟨id, ob, by rw [argIds_cons_mut]; simp [k1], k2, k3, k4⟩
            · obtain ⟨id, ob, k1, k2⟩ := q2 b ⟨u', hu', hb⟩
              exact ⟨id, ob, by rw [argIds_cons_mut]; simp [k1], k2⟩
          | _ => simp [argsAfter] at ha
      · simp at h
    · simp at h
end
end Go.Vm

/-
  The machine's operations against the model's: what a call leaves behind.
-/
namespace Go.Vm
section
variable {P : Program} {C : Ctx} {w0 : World} {M : Own} {o : Oper} {a : Act} {m : Mem} {s s' : St}

structure Aft (m : Mem) (w' : World) (F1 : Nat → Prop) (H : List Value) (G : Heap) (S : List Nat) : Prop where
  old : ∀ id o, G.get id = some o → isObj o = true → (id ∉ S ∧ m.G.get id = some o) ∨ ∃ e l y, o = .arr e y ∧ m.G.get id = some (.arr e l) ∧ l.length = y.length ∧ HdrW w' F1 (m.ι id) e y ∧ m.ι id ∈ H
  get : ∀ id o, m.G.get id = some o → ∃ o', G.get id = some o' ∧ (o' = .dead ∨ Alike o o')

theorem Aft.kill {w' : World} {F1 : Nat → Prop} {H : List Value} {S : List Nat} (i : Nat) {G : Heap} (h : Aft m w' F1 H G S) : Aft m w' F1 H ((i, .dead) :: G) (S ++ [i]) := by
  refine ⟨fun id o ho hob => ?_, fun id o ho => ?_⟩
  · rw [Heap.get_cons] at ho
    split at ho
    · simp only [Option.some.injEq] at ho
      subst ho
      simp [isObj] at hob
    · rename_i hne
      rcases h.old id o ho hob with ⟨h1, h2⟩ | h1
      · exact .inl ⟨by simp [h1, Ne.symm hne], h2⟩
      · exact .inr h1
  · by_cases e : i = id
    · exact ⟨.dead, by rw [Heap.get_cons, if_pos e], .inl rfl⟩
    · obtain ⟨o', h1, h2⟩ := h.get id o ho
      exact ⟨o', by rw [Heap.get_cons, if_neg e]; exact h1, h2⟩

theorem Aft.kills {w' : World} {F1 : Nat → Prop} {H : List Value} : ∀ (ids : List Nat) {S : List Nat} {G : Heap}, Aft m w' F1 H G S → Aft m w' F1 H (killIds ids G) (S ++ ids)
  | [], S, G, h => by rw [List.append_nil]; exact h
  | i :: r, S, G, h => by
    have := Aft.kills r (h.kill i)
    rw [List.append_assoc] at this
    exact this

theorem Aft.put {w' : World} {F1 : Nat → Prop} {H : List Value} {S : List Nat} {i : Nat} {G : Heap} {e : Ty} {l y : List e.den} (hg : m.G.get i = some (.arr e l)) (hl : l.length = y.length) (hh : HdrW w' F1 (m.ι i) e y) (hm : m.ι i ∈ H)
    (h : Aft m w' F1 H G S) : Aft m w' F1 H ((i, .arr e y) :: G) (S ++ [i]) := by
  refine ⟨fun id o ho hob => ?_, fun id o ho => ?_⟩
  · rw [Heap.get_cons] at ho
    split at ho
    · rename_i e0
      subst e0
      simp only [Option.some.injEq] at ho
      subst ho
      exact .inr ⟨e, l, y, rfl, hg, hl, hh, hm⟩
    · rename_i hne
      rcases h.old id o ho hob with ⟨h1, h2⟩ | h1
      · exact .inl ⟨by simp [h1, Ne.symm hne], h2⟩
      · exact .inr h1
  · by_cases e0 : i = id
    · subst e0
      rw [hg] at ho
      simp only [Option.some.injEq] at ho
      subst ho
      exact ⟨.arr e y, by rw [Heap.get_cons, if_pos rfl], .inr (show Alike (.arr e l) (.arr e y) from ⟨rfl, hl⟩)⟩
    · obtain ⟨o', h1, h2⟩ := h.get id o ho
      exact ⟨o', by rw [Heap.get_cons, if_neg e0]; exact h1, h2⟩

theorem after_rel (hi : Inv C w0 M m) {w' : World} {F1 : Nat → Prop} {H : List Value} : ∀ {ins : List (Mode × Ty)} {vs : List SV} {us : List Value} {x : (tupTy (ins.map (·.2))).den} {y : (tupTy (mutTys ins)).den} {G G' : Heap} {S : List Nat},
    argsVal m.G ins vs = some x → Rel2 (RelSV m) us vs → MutsRd w' F1 ins us y → (∀ u ∈ mutHdrs ins us, u ∈ H) → argsAfter ins vs y G = some G' → Aft m w' F1 H G S → Aft m w' F1 H G' (S ++ (argIds m.G ins vs).2)
  | [], [], [], x, y, G, G', S, h, hr, hm, hH, ha, hA => by
    simp only [argsAfter, Option.some.injEq] at ha
    subst ha
    simpa [argIds] using hA
  | [], _ :: _, _, _, _, _, _, _, h, _, _, _, _, _ => by simp [argsVal] at h
  | _ :: _, [], _, _, _, _, _, _, h, _, _, _, _, _ => by simp [argsVal] at h
  | _ :: _, _ :: _, [], _, _, _, _, _, _, h, _, _, _, _ => h.elim
  | [], [], _ :: _, _, _, _, _, _, _, h, _, _, _, _ => h.elim
  | (md, τ) :: r, v :: vs, u :: us, x, y, G, G', S, h, hr, hm, hH, ha, hA => by
    unfold argsVal at h
    split at h
    · rename_i x1 hx1
      split at h
      · rename_i x2 hx2
        dsimp only at hx1
        obtain ⟨hr1, hr2⟩ := hr
        cases md with
        | rd =>
          have ha' : argsAfter r vs y G = some G' := ha
          have hm' : MutsRd w' F1 r us y := hm
          have := after_rel hi hx2 hr2 hm' hH ha' hA
          exact this
        | take =>
          obtain ⟨hk, ha'⟩ := argsAfter_take ha
          have hm' : MutsRd w' F1 r us y := hm
          have := after_rel hi hx2 hr2 hm' hH ha' (hA.kills (svIds v))
          rw [List.append_assoc] at this
          exact this
        | upd =>
          cases τ with
          | slice e =>
            obtain ⟨hm1, hm2⟩ := hm
            have hH' : ∀ u ∈ mutHdrs r us, u ∈ H := fun u' hu' => hH u' (by simp [mutHdrs, hu'])
            rcases argsAfter_mut ha with ⟨rfl, ha'⟩ | ⟨id, rfl, ha'⟩
            · have := after_rel hi hx2 hr2 hm2 hH' ha' hA
              exact this
            · simp only [svVal, Ty.isAgg, cond_false, atomVal] at hx1
              cases hg : m.G.get id with
              | none => rw [hg] at hx1; simp at hx1
              | some ob =>
                cases ob with
                | box _ => rw [hg] at hx1; simp at hx1
                | dead => rw [hg] at hx1; simp at hx1
                | arr σ l =>
                  rw [hg] at hx1
                  obtain ⟨he, hx⟩ := castTo_some hx1
                  cases he
                  subst hx
                  obtain ⟨_, ob, hob, hv⟩ := hr1
                  rw [hg] at hob
                  simp only [Option.some.injEq] at hob
                  subst hob
                  have hv := hv rfl
                  subst hv
                  obtain ⟨ad, cap, r1, r2, r3, r4⟩ := hi.objs id _ hg
                  have hlen : l.length = y.1.length := by
                    obtain ⟨ad', cap', k1, _⟩ := hm1
                    rw [r1] at k1
                    simp only [Value.slice.injEq] at k1
                    exact k1.2.1
                  have := after_rel hi hx2 hr2 hm2 hH' ha' (hA.put hg hlen hm1 (hH _ (by simp [mutHdrs])))
                  rw [List.append_assoc] at this
                  exact this
          | _ => simp [argsAfter] at ha
      · simp at h
    · simp at h

/-- An object is taken in. -/
theorem adopt (hi : Inv C w0 M m) {i : Nat} (hn : m.G.get i = none) {u : Value} {e : Ty} {l : List e.den} (hu : HdrW m.w m.F u e l)
    (hb : ∀ b, hdrBlk u = some b → (w0.heap.size ≤ b ∨ M b) ∧ ¬ m.F b ∧ b < m.w.heap.size ∧ ∀ id o, m.G.get id = some o → isObj o = true → hdrBlk (m.ι id) ≠ some b) :
    ∃ m', m'.w = m.w ∧ m'.F = m.F ∧ m'.G = (i, .arr e l) :: m.G ∧ m'.ι = (fun k => if k = i then u else m.ι k) ∧ Inv C w0 M m' ∧ Evo m m' ∧ RelAtom m' u (.own i) := by
  have he : Evo m ⟨m.w, m.F, fun k => if k = i then u else m.ι k, (i, .arr e l) :: m.G⟩ := by
    refine ⟨fun b hF => ⟨hF, rfl⟩, fun id p hp => ?_⟩
    have hne : i ≠ id := fun e => by subst e; rw [hn] at hp; cases hp
    exact ⟨p, by rw [Heap.get_cons, if_neg hne]; exact hp, .inr ⟨by simp [Ne.symm hne], Alike.refl p⟩⟩
  refine ⟨⟨m.w, m.F, fun k => if k = i then u else m.ι k, (i, .arr e l) :: m.G⟩, rfl, rfl, rfl, rfl, ⟨hi.kept, ?_, ?_, ?_, hi.fro, fun g τ x hg => hi.glob g τ x hg, hi.bnd, fun i v h => pin_evo he (hi.pin i v h)⟩, he, ?_⟩
  · intro id p hp
    rw [Heap.get_cons] at hp
    split at hp
    · rename_i e0
      subst e0
      simp only [Option.some.injEq] at hp
      subst hp
      obtain ⟨ad, cap, h1, h2, h3, h4⟩ := hu
      exact ⟨ad, cap, by simp [h1], h2, h3, h4⟩
    · rename_i hne
      exact evo_obj he (by simp [Ne.symm hne]) (fun _ _ => rfl) (hi.objs id p hp)
  · intro id p b hp hop hbl
    rw [Heap.get_cons] at hp
    split at hp
    · rename_i e0
      subst e0
      obtain ⟨h1, h2, h3, _⟩ := hb b (by simpa using hbl)
      exact ⟨h1, h2, h3⟩
    · rename_i hne
      exact hi.own id p b hp hop (by simpa [Ne.symm hne] using hbl)
  · intro j k p q b hp hop hq hoq hj hk
    rw [Heap.get_cons] at hp hq
    split at hp <;> split at hq
    · omega
    · rename_i e0 hne; subst e0
      exact absurd (by simpa [Ne.symm hne] using hk) ((hb b (by simpa using hj)).2.2.2 k q hq hoq)
    · rename_i hne e0; subst e0
      exact absurd (by simpa [Ne.symm hne] using hj) ((hb b (by simpa using hk)).2.2.2 j p hp hop)
    · rename_i n1 n2
      exact hi.inj j k p q b hp hop hq hoq (by simpa [Ne.symm n1] using hj) (by simpa [Ne.symm n2] using hk)
  · obtain ⟨ad, cap, h1, _⟩ := hu
    exact ⟨by rw [h1]; rfl, .arr e l, by rw [Heap.get_cons, if_pos rfl], fun _ => by simp⟩

def Free (w0 : World) (M : Own) (m : Mem) (u : Value) : Prop :=
  ∀ b, hdrBlk u = some b → (w0.heap.size ≤ b ∨ M b) ∧ ¬ m.F b ∧ b < m.w.heap.size ∧ ∀ id o, m.G.get id = some o → isObj o = true → hdrBlk (m.ι id) ≠ some b

theorem OwnRd.len {w : World} {F : Nat → Prop} : ∀ {τ : Ty} {cs : List Value} {x : τ.den}, OwnRd w F τ cs x → cs.length = τ.size
  | .prod a b, _, _, h => by obtain ⟨c1, c2, rfl, h1, h2⟩ := h; simp [Ty.size, h1.len, h2.len]
  | .unit, _, _, h => by unfold OwnRd at h; subst h; rfl
  | .slice _, _, _, h => by obtain ⟨u, rfl, _⟩ := h; rfl
  | .int _, _, _, h => Rd.len h
  | .bool, _, _, h => Rd.len h
  | .str, _, _, h => Rd.len h
  | .arr _ _, _, _, h => h.elim
  | .ptr _, _, _, h => h.elim
  | .clo _ _, _, _, h => h.elim

theorem OwnRd.one {w : World} {F : Nat → Prop} : ∀ {τ : Ty} {cs : List Value} {x : τ.den}, OwnRd w F τ cs x → ∀ u ∈ cs, u.oneCell' = true
  | .prod a b, _, _, h => by
    obtain ⟨c1, c2, rfl, h1, h2⟩ := h
    intro u hu
    rcases List.mem_append.1 hu with hu | hu
    · exact h1.one u hu
    · exact h2.one u hu
  | .unit, _, _, h => by unfold OwnRd at h; subst h; simp
  | .slice _, _, _, h => by
    obtain ⟨u, rfl, ad, cap, rfl, _⟩ := h
    intro u hu
    simp at hu
    subst hu
    rfl
  | .int _, _, _, h => Rd.one h
  | .bool, _, _, h => Rd.one h
  | .str, _, _, h => Rd.one h
  | .arr _ _, _, _, h => h.elim
  | .ptr _, _, _, h => h.elim
  | .clo _ _, _, _, h => h.elim

theorem OwnRd.mono {w w' : World} {F F' : Nat → Prop} (hF : ∀ b, F b → F' b ∧ w'.heap[b]? = w.heap[b]?) : ∀ {τ : Ty} {cs : List Value} {x : τ.den}, (∀ u ∈ ownHdrs τ cs, ∀ b, hdrBlk u = some b → w'.heap[b]? = w.heap[b]?) → OwnRd w F τ cs x → OwnRd w' F' τ cs x
  | .prod a b, _, _, hu, h => by
    obtain ⟨c1, c2, rfl, h1, h2⟩ := h
    simp only [ownHdrs, ← h1.len, List.take_left, List.drop_left] at hu
    exact ⟨c1, c2, rfl, h1.mono hF fun u hu' => hu u (by simp [hu']), h2.mono hF fun u hu' => hu u (by simp [hu'])⟩
  | .unit, _, _, _, h => h
  | .slice _, _, _, hu, h => by
    obtain ⟨u, rfl, h⟩ := h
    exact ⟨u, rfl, h.mono hF (hu u (by simp [ownHdrs]))⟩
  | .int _, _, _, _, h => Rd.mono hF h
  | .bool, _, _, _, h => Rd.mono hF h
  | .str, _, _, _, h => Rd.mono hF h
  | .arr _ _, _, _, _, h => h.elim
  | .ptr _, _, _, _, h => h.elim
  | .clo _ _, _, _, _, h => h.elim

theorem free_cons {u u' : Value} {m' : Mem} {i : Nat} {e : Ty} {l : List e.den} (h1 : m'.w = m.w) (h2 : m'.F = m.F) (h3 : m'.G = (i, .arr e l) :: m.G) (h4 : m'.ι = (fun k => if k = i then u else m.ι k)) (hf : Free w0 M m u')
    (ha : ∀ b, hdrBlk u' = some b → hdrBlk u ≠ some b) : Free w0 M m' u' := by
  intro b hb
  obtain ⟨k1, k2, k3, k4⟩ := hf b hb
  refine ⟨k1, by rw [h2]; exact k2, by rw [h1]; exact k3, fun id o ho hob => ?_⟩
  rw [h3, Heap.get_cons] at ho
  rw [h4]
  dsimp only
  split at ho
  · rename_i e0
    rw [if_pos e0.symm]
    exact ha b hb
  · rename_i hne
    rw [if_neg (Ne.symm hne)]
    exact k4 id o ho hob

theorem fresh_rel : ∀ {τ : Ty} {x : τ.den} {site : Nat} {c : List Atom} {cs : List Value} {m : Mem} {G' : Heap}, Inv C w0 M m → freshCells τ x site m.G = some (c, G') → OwnRd m.w m.F τ cs x →
    Apart (ownHdrs τ cs) → (∀ u ∈ ownHdrs τ cs, Free w0 M m u) →
    ∃ m', m'.w = m.w ∧ m'.F = m.F ∧ m'.G = G' ∧ Inv C w0 M m' ∧ Evo m m' ∧ Rel2 (RelAtom m') cs c ∧ ∀ u', Free w0 M m u' → (∀ b, hdrBlk u' = some b → ¬ Among (ownHdrs τ cs) b) → Free w0 M m' u'
  | .prod a b, x, site, c, cs, m, G', hi, h, hr, hp, hf => by
    obtain ⟨c1, c2, rfl, h1, h2⟩ := hr
    simp only [ownHdrs, ← h1.len, List.take_left, List.drop_left] at hp hf ⊢
    obtain ⟨hp1, hp2, hp3⟩ := List.pairwise_append.1 hp
    simp only [freshCells] at h
    split at h
    · rename_i p hp0
      split at h
      · rename_i q hq0
        simp only [Option.some.injEq, Prod.mk.injEq] at h
        obtain ⟨rfl, rfl⟩ := h
        obtain ⟨m1, a1, a2, a3, a4, a5, a6, a7⟩ := fresh_rel (G' := p.2) hi hp0 h1 hp1 (fun u hu => hf u (by simp [hu]))
        have free2 : ∀ u ∈ ownHdrs b c2, Free w0 M m1 u := fun u hu => a7 u (hf u (by simp [hu])) (by
          rintro bl hbl ⟨u', hu', hbl'⟩
          exact hp3 u' hu' u hu bl hbl' hbl)
        obtain ⟨m2, b1, b2, b3, b4, b5, b6, b7⟩ := fresh_rel (G' := q.2) a4 (by rw [a3]; exact hq0) (by rw [a1, a2]; exact h2) hp2 free2
        refine ⟨m2, b1.trans a1, b2.trans a2, b3, b4, a5.trans b5, (evo_atoms b5 a6).append b6, fun u' hu' hn => b7 u' (a7 u' hu' ?_) ?_⟩
        · rintro bl hbl ⟨u, hu, hbl'⟩
          exact hn bl hbl ⟨u, by simp [hu], hbl'⟩
        · rintro bl hbl ⟨u, hu, hbl'⟩
          exact hn bl hbl ⟨u, by simp [hu], hbl'⟩
      · simp at h
    · simp at h
  | .unit, x, site, c, cs, m, G', hi, h, hr, hp, hf => by
    simp only [freshCells, Option.some.injEq, Prod.mk.injEq] at h
    obtain ⟨rfl, rfl⟩ := h
    unfold OwnRd at hr
    subst hr
    exact ⟨m, rfl, rfl, rfl, hi, Evo.refl m, trivial, fun _ h _ => h⟩
  | .slice e, x, site, c, cs, m, G', hi, h, hr, hp, hf => by
    simp only [freshCells] at h
    cases hh : m.G.has (freshFrom 8 m.G site) with
    | true => rw [hh] at h; simp at h
    | false =>
      rw [hh] at h
      simp only [cond_false, Option.some.injEq, Prod.mk.injEq] at h
      obtain ⟨rfl, rfl⟩ := h
      obtain ⟨u, rfl, hu⟩ := hr
      obtain ⟨m', a1, a2, a3, a4, a5, a6, a7⟩ := adopt hi (has_false hh) hu (hf u (by simp [ownHdrs]))
      exact ⟨m', a1, a2, a3, a5, a6, ⟨a7, trivial⟩, fun u' hu' hn => free_cons a1 a2 a3 a4 hu' (fun b hb hb' => hn b hb ⟨u, by simp [ownHdrs], hb'⟩)⟩
  | .int k, x, site, c, cs, m, G', hi, h, hr, hp, hf => by
    simp only [freshCells, Option.some.injEq, Prod.mk.injEq] at h
    obtain ⟨rfl, rfl⟩ := h
    exact ⟨m, rfl, rfl, rfl, hi, Evo.refl m, valCells_rel (τ := .int k) hr, fun _ h _ => h⟩
  | .bool, x, site, c, cs, m, G', hi, h, hr, hp, hf => by
    simp only [freshCells, Option.some.injEq, Prod.mk.injEq] at h
    obtain ⟨rfl, rfl⟩ := h
    exact ⟨m, rfl, rfl, rfl, hi, Evo.refl m, valCells_rel (τ := .bool) hr, fun _ h _ => h⟩
  | .str, x, site, c, cs, m, G', hi, h, hr, hp, hf => by
    simp only [freshCells, Option.some.injEq, Prod.mk.injEq] at h
    obtain ⟨rfl, rfl⟩ := h
    exact ⟨m, rfl, rfl, rfl, hi, Evo.refl m, valCells_rel (τ := .str) hr, fun _ h _ => h⟩
  | .arr _ _, _, _, _, _, _, _, _, _, h, _, _ => h.elim
  | .ptr _, _, _, _, _, _, _, _, _, h, _, _ => h.elim
  | .clo _ _, _, _, _, _, _, _, _, _, h, _, _ => h.elim

theorem relRes_mk {τ : Ty} {cs : List Value} {c : List Atom} {v : Value} (hl : cs.length = τ.size) (h1 : ∀ u ∈ cs, u.oneCell' = true) (hr : Rel2 (RelAtom m) cs c) (hv : v = toV τ cs) : RelRes m v (τ.isAgg, c) := by
  subst hv
  unfold RelRes
  cases ha : τ.isAgg with
  | true => exact ⟨cs, by simp [toV, ha], h1, hr⟩
  | false =>
    have hs := size_one ha
    rw [hs] at hl
    obtain ⟨u, rfl⟩ := List.length_eq_one_iff.1 hl
    have hc := hr.length
    obtain ⟨b, rfl⟩ := List.length_eq_one_iff.1 (hc.symm.trans rfl)
    exact ⟨b, rfl, by simpa [toV, ha] using hr.1⟩

theorem freshOuts_rel : ∀ {outs : List (Bool × Ty)} {x : (tupTy (outs.map (·.2))).den} {site : Nat} {q : List (Bool × List Atom)} {css : List (List Value)} {m : Mem} {G' : Heap}, Inv C w0 M m → freshOuts outs x site m.G = some (q, G') → OutsRd m.w m.F outs css x →
    Apart (outHdrs outs css) → (∀ u ∈ outHdrs outs css, Free w0 M m u) →
    ∃ m', m'.w = m.w ∧ m'.F = m.F ∧ m'.G = G' ∧ Inv C w0 M m' ∧ Evo m m' ∧ Rel2 (RelRes m') (outVals outs css) q
  | [], x, site, q, css, m, G', hi, h, hr, hp, hf => by
    simp only [freshOuts, Option.some.injEq, Prod.mk.injEq] at h
    obtain ⟨rfl, rfl⟩ := h
    exact ⟨m, rfl, rfl, rfl, hi, Evo.refl m, by cases css <;> trivial⟩
  | _ :: _, _, _, _, [], _, _, _, _, h, _, _ => h.elim
  | (b, τ) :: r, x, site, q, cs :: css, m, G', hi, h, hr, hp, hf => by
    obtain ⟨hr1, hr2⟩ := hr
    simp only [freshOuts] at h
    simp only [outHdrs] at hp hf
    obtain ⟨hp1, hp2, hp3⟩ := List.pairwise_append.1 hp
    have fin {m1 : Mem} {c : List Atom} (a1 : m1.w = m.w) (a2 : m1.F = m.F) (a4 : Inv C w0 M m1) (a5 : Evo m m1) (a6 : Rel2 (RelAtom m1) cs c) (hone : ∀ u ∈ cs, u.oneCell' = true) (hlen : cs.length = τ.size)
        (a7 : ∀ u ∈ outHdrs r css, Free w0 M m1 u) {q2 : List (Bool × List Atom) × Heap} (hq : freshOuts r x.2 site m1.G = some q2) (hqq : q = (τ.isAgg, c) :: q2.1) (hG : G' = q2.2) :
        ∃ m', m'.w = m.w ∧ m'.F = m.F ∧ m'.G = G' ∧ Inv C w0 M m' ∧ Evo m m' ∧ Rel2 (RelRes m') (outVals ((b, τ) :: r) (cs :: css)) q := by
      subst hqq
      subst hG
      obtain ⟨m2, b1, b2, b3, b4, b5, b6⟩ := freshOuts_rel (G' := q2.2) (q := q2.1) a4 hq (by rw [a1, a2]; exact hr2) hp2 a7
      exact ⟨m2, b1.trans a1, b2.trans a2, b3, b4, a5.trans b5, relRes_mk hlen hone (evo_atoms b5 a6) rfl, b6⟩
    cases b with
    | true =>
      simp only [cond_true] at h hr1 hp1 hp3 hf
      split at h
      · rename_i c hc
        split at h
        · rename_i q2 hq2
          simp only [Option.some.injEq, Prod.mk.injEq] at h
          obtain ⟨rfl, rfl⟩ := h
          obtain ⟨m1, a1, a2, a3, a4, a5, a6, a7⟩ := fresh_rel (G' := c.2) hi hc hr1 hp1 (fun u hu => hf u (by simp [hu]))
          refine fin a1 a2 a4 a5 a6 hr1.one hr1.len (fun u hu => a7 u (hf u (by simp [hu])) ?_) (by rw [a3]; exact hq2) rfl rfl
          rintro bl hbl ⟨u', hu', hbl'⟩
          exact hp3 u' hu' u hu bl hbl' hbl
        · simp at h
      · simp at h
    | false =>
      simp only [cond_false] at h hr1 hf
      split at h
      · rename_i q2 hq2
        simp only [Option.some.injEq, Prod.mk.injEq] at h
        obtain ⟨rfl, rfl⟩ := h
        exact fin rfl rfl hi (Evo.refl m) (valCells_rel hr1) hr1.one hr1.len (fun u hu => hf u (by simp [hu])) hq2 rfl rfl
      · simp at h

theorem outs_sv : ∀ {us : List Value} {q : List (Bool × List Atom)} (h : Rel2 (RelRes m) us q), RelSV m (outVal us) (outSV q)
  | [], [], h => ⟨[], rfl, trivial⟩
  | [], _ :: _, h => h.elim
  | _ :: _, [], h => h.elim
  | [_], _ :: _ :: _, h => h.2.elim
  | _ :: _ :: _, [_], h => h.2.elim
  | u1 :: u2 :: us, q1 :: q2 :: q, h => by
    have e : outSV (q1 :: q2 :: q) = .tup (q1 :: q2 :: q) := by
      unfold outSV; split
      · rename_i e; cases e
      · rename_i e; cases e
      · rfl
    rw [e]
    exact ⟨u1 :: u2 :: us, rfl, h⟩
  | [u], [(true, c)], h => by
    have := h.1
    simp only [RelRes, cond_true] at this
    exact this
  | [u], [(false, l)], h => by
    have := h.1
    simp only [RelRes, cond_false] at this
    obtain ⟨a, h1, h2⟩ := this
    subst h1
    exact RelSV.of_atom h2
end
end Go.Vm

/-
  The machine's operations against the model's: a call.
-/
namespace Go.Vm
section
variable {P : Program} {C : Ctx} {w0 : World} {M : Own} {o : Oper} {a : Act} {m : Mem} {s s' : St}

theorem call_inv (hi : Inv C w0 M m) {w' : World} {F1 Mc : Nat → Prop} {H : List Value} {G1 : Heap} {S : List Nat} (hA : Aft m w' F1 H G1 S) (hk : Kept m.w Mc w')
    (hMc : ∀ b, Mc b → ∃ id o, id ∈ S ∧ m.G.get id = some o ∧ isObj o = true ∧ hdrBlk (m.ι id) = some b) (hF : ∀ b, m.F b → F1 b) (hFlt : ∀ b, F1 b → b < w'.heap.size)
    (hnF : ∀ id o b, G1.get id = some o → isObj o = true → hdrBlk (m.ι id) = some b → ¬ F1 b) (hbnd : ∀ b, F1 b → M.rd b ∨ M.wr b ∨ w0.heap.size ≤ b) :
    Inv C w0 M ⟨w', F1, m.ι, G1⟩ ∧ Evo m ⟨w', F1, m.ι, G1⟩ := by
  have hMF : ∀ b, m.F b → ¬ Mc b := by
    intro b hb hm
    obtain ⟨id, o, _, h1, h2, h3⟩ := hMc b hm
    exact (hi.own id o b h1 h2 h3).2.1 hb
  have he : Evo m ⟨w', F1, m.ι, G1⟩ := by
    refine ⟨fun b hb => ⟨hF b hb, hk.block b (hi.fro b hb) (hMF b hb)⟩, fun id o ho => ?_⟩
    obtain ⟨o', h1, h2⟩ := hA.get id o ho
    refine ⟨o', h1, ?_⟩
    rcases h2 with h2 | h2
    · exact .inl h2
    · exact .inr ⟨rfl, h2⟩
  have alive : ∀ id o, G1.get id = some o → isObj o = true → ∃ o', m.G.get id = some o' ∧ isObj o' = true := by
    intro id o ho hob
    rcases hA.old id o ho hob with ⟨_, h⟩ | ⟨e, l, y, _, h, _⟩
    · exact ⟨o, h, hob⟩
    · exact ⟨_, h, rfl⟩
  refine ⟨⟨?_, ?_, ?_, ?_, hFlt, fun g τ x hg => (hi.glob g τ x hg).mono he.fro, hbnd, fun i v h => pin_evo he (hi.pin i v h)⟩, he⟩
  · refine ⟨hk.os.trans hi.kept.os, hk.tape.trans hi.kept.tape, hk.output.trans hi.kept.output, Nat.le_trans hi.kept.size hk.size, fun b hb hM => ?_⟩
    have := hi.kept.size
    refine (hk.block b (by omega) ?_).trans (hi.kept.block b hb hM)
    intro hm
    obtain ⟨id, o, _, h1, h2, h3⟩ := hMc b hm
    rcases (hi.own id o b h1 h2 h3).1 with h | h
    · omega
    · exact hM h
  · intro id o ho
    by_cases hob : isObj o = true
    · rcases hA.old id o ho hob with ⟨h1, h2⟩ | ⟨e, l, y, rfl, h1, h2, h3, _⟩
      · refine evo_obj he rfl (fun b hb => hk.block b (hi.own id o b h2 hob hb).2.2 ?_) (hi.objs id o h2)
        intro hm
        obtain ⟨id', o', k1, k2, k3, k4⟩ := hMc b hm
        have := hi.inj id id' o o' b h2 hob k2 k3 hb k4
        subst this
        exact h1 k1
      · exact h3
    · cases o <;> simp_all [isObj, RelObj]
  · intro id o b ho hob hb
    obtain ⟨o', h1, h2⟩ := alive id o ho hob
    obtain ⟨k1, k2, k3⟩ := hi.own id o' b h1 h2 hb
    exact ⟨k1, hnF id o b ho hob hb, Nat.lt_of_lt_of_le k3 hk.size⟩
  · intro i j p q b hp hop hq hoq h1 h2
    obtain ⟨p', p1, p2⟩ := alive i p hp hop
    obtain ⟨q', q1, q2⟩ := alive j q hq hoq
    exact hi.inj i j p' q' b p1 p2 q1 q2 h1 h2

theorem OwnRd.flat {w : World} {F F' : Nat → Prop} : ∀ {τ : Ty} {cs : List Value} {x : τ.den}, τ.shallow = true → OwnRd w F τ cs x → OwnRd w F' τ cs x
  | .prod a b, _, _, hf, h => by
    simp only [Ty.shallow, Bool.and_eq_true] at hf
    obtain ⟨c1, c2, rfl, h1, h2⟩ := h
    exact ⟨c1, c2, rfl, h1.flat hf.1, h2.flat hf.2⟩
  | .unit, _, _, _, h => h
  | .slice _, _, _, hf, h => by
    obtain ⟨u, rfl, h⟩ := h
    exact ⟨u, rfl, h.flat hf⟩
  | .int _, _, _, _, h => h
  | .bool, _, _, _, h => h
  | .str, _, _, _, h => h
  | .arr _ _, _, _, _, h => h.elim
  | .ptr _, _, _, _, h => h.elim
  | .clo _ _, _, _, _, h => h.elim

theorem OutsRd.flat {w : World} {F F' : Nat → Prop} : ∀ {outs : List (Bool × Ty)} {css : List (List Value)} {x : (tupTy (outs.map (·.2))).den}, (outs.all fun p => p.1 && p.2.shallow) = true → OutsRd w F outs css x → OutsRd w F' outs css x
  | [], [], _, _, _ => trivial
  | [], _ :: _, _, _, h => h.elim
  | _ :: _, [], _, _, h => h.elim
  | (b, τ) :: r, cs :: css, x, hf, h => by
    simp only [List.all_cons, Bool.and_eq_true] at hf
    obtain ⟨⟨hb, hs⟩, hf2⟩ := hf
    subst hb
    exact ⟨OwnRd.flat hs h.1, OutsRd.flat hf2 h.2⟩

theorem MutsRd.flat {w : World} {F F' : Nat → Prop} : ∀ {ins : List (Mode × Ty)} {us : List Value} {y : (tupTy (mutTys ins)).den}, ((mutTys ins).all fun t => t.shallow) = true → MutsRd w F ins us y → MutsRd w F' ins us y
  | [], _, _, _, _ => trivial
  | (.rd, _) :: _, [], _, _, h => h.elim
  | (.take, _) :: _, [], _, _, h => h.elim
  | (.upd, .slice _) :: _, [], _, _, h => h.elim
  | (.rd, _) :: r, _ :: us, y, hf, h => MutsRd.flat (ins := r) (us := us) (y := y) hf h
  | (.take, _) :: r, _ :: us, y, hf, h => MutsRd.flat (ins := r) (us := us) (y := y) hf h
  | (.upd, .slice e) :: r, u :: us, y, hf, h => by
    simp only [mutTys, List.all_cons, Bool.and_eq_true] at hf
    exact ⟨HdrW.flat hf.1 h.1, MutsRd.flat hf.2 h.2⟩
  | (.upd, .int _) :: _, _, _, _, h => by simp [MutsRd] at h
  | (.upd, .bool) :: _, _, _, _, h => by simp [MutsRd] at h
  | (.upd, .str) :: _, _, _, _, h => by simp [MutsRd] at h
  | (.upd, .prod _ _) :: _, _, _, _, h => by simp [MutsRd] at h
  | (.upd, .unit) :: _, _, _, _, h => by simp [MutsRd] at h
  | (.upd, .arr _ _) :: _, _, _, _, h => by simp [MutsRd] at h
  | (.upd, .ptr _) :: _, _, _, _, h => by simp [MutsRd] at h
  | (.upd, .clo _ _) :: _, _, _, _, h => by simp [MutsRd] at h

theorem apartB_not {l r : List Nat} (h : apartB l r = true) {i : Nat} (h1 : i ∈ l) (h2 : i ∈ r) : False := by
  simp only [apartB, Bool.not_eq_true', List.any_eq_false] at h
  have := h i h1
  rw [List.any_eq_true] at this
  exact this ⟨i, h2, Nat.beq_refl i⟩

theorem Goes.mono {f : FuncId} {vs : Array Value} {w : World} {R R' : Value → World → Prop} (h : Goes P f vs w R) (hr : ∀ v w', R v w' → R' v w') : Goes P f vs w R' := by
  rcases h with ⟨h1, h2⟩ | ⟨v, w', h1, h2⟩
  · exact .inl ⟨h1, Calls.mono h2 fun e w' ⟨v, he, hR⟩ => ⟨v, he, hr v w' hR⟩⟩
  · exact .inr ⟨v, w', h1, hr v w' h2⟩

theorem call_rel (hi : Inv C w0 M m) (hC : ∀ f site c, C.con f site = some c → c.Holds P C.glob f) {site f : Nat} {vs : List SV} {us : List Value} {dst : Option Nat} (hr : Rel2 (RelSV m) us vs) (hG : m.G = s.G)
    (h : callAt C s site f vs (fun v s' => some (putEnv dst v s')) = some s') : Goes P f us.toArray m.w (Res C w0 M m s s' dst) := by
  unfold callAt at h
  rw [← hG] at h
  split at h
  · rename_i c hc
    split at h
    · rename_i x hx
      obtain ⟨r, hfn, h⟩ := Option.bind_eq_some_iff.1 h
      cases hchk : (nodupB (argIds m.G c.ins vs).2 && apartB (argIds m.G c.ins vs).1 (argIds m.G c.ins vs).2) with
      | false => rw [hchk] at h; simp at h
      | true =>
        rw [hchk] at h
        simp only [cond_true] at h
        simp only [Bool.and_eq_true] at hchk
        obtain ⟨hnd, hap⟩ := hchk
        split at h
        · rename_i G' hG'
          split at h
          · rename_i q hq
            simp only [Option.some.injEq] at h
            obtain ⟨r1, r2, r3, r4⟩ := args_rel hi (F := Thru m (argIds m.G c.ins vs).1) hx hr hG' (fun b hb => hb)
            have blkF : ∀ id o b, m.G.get id = some o → isObj o = true → hdrBlk (m.ι id) = some b → id ∉ (argIds m.G c.ins vs).1 → ¬ Thru m (argIds m.G c.ins vs).1 b := by
              rintro id o b h1 h2 h3 hn (hb | ⟨id', hid', o', k1, k2, k3⟩)
              · exact (hi.own id o b h1 h2 h3).2.1 hb
              · have := hi.inj id id' o o' b h1 h2 k1 k2 h3 k3
                subst this
                exact hn hid'
            have hpre : Pre C.glob m.w (Thru m (argIds m.G c.ins vs).1) c.ins us x := by
              refine ⟨r1, ?_, r3 hnd, ?_, fun g τ x hg => (hi.glob g τ x hg).mono fun b hb => ⟨.inl hb, rfl⟩⟩
              · intro u hu b hb
                obtain ⟨id, o, k1, k2, k3, k4⟩ := r2 b ⟨u, hu, hb⟩
                exact ⟨blkF id o b k2 k3 k4 (fun hn => apartB_not hap hn k1), (hi.own id o b k2 k3 k4).2.2⟩
              · rintro b (hb | ⟨id', hid', o', k1, k2, k3⟩)
                · exact hi.fro b hb
                · exact (hi.own id' o' b k1 k2 k3).2.2
            refine Goes.mono (hC f site c hc m.w _ us x r hpre hfn) ?_
            rintro v w' ⟨F2, css, hp⟩
            obtain ⟨F1, G1, S, hA, hF, hFlt, hnF, hS2, hres, hF12, hG1, hbnd⟩ : ∃ (F1 : Nat → Prop) (G1 : Heap) (S : List Nat), Aft m w' F1 (mutHdrs c.ins us) G1 S ∧ (∀ b, m.F b → F1 b) ∧ (∀ b, F1 b → b < w'.heap.size) ∧
                (∀ id o b, G1.get id = some o → isObj o = true → hdrBlk (m.ι id) = some b → ¬ F1 b) ∧ (∀ i ∈ (argIds m.G c.ins vs).2, i ∈ S) ∧ OutsRd w' F1 c.outs css (outsPart (c.outs.map (·.2)) (mutTys c.ins) r).1 ∧ (∀ b, F1 b → F2 b) ∧
                G1 = cond (conFlat c) G' (killIds (argIds m.G c.ins vs).1 G') ∧ (∀ b, F1 b → M.rd b ∨ M.wr b ∨ w0.heap.size ≤ b) := by
              have hA0 : ∀ F1, Aft m w' F1 (mutHdrs c.ins us) m.G [] := fun F1 => ⟨fun id o h1 h2 => .inl ⟨by simp, h1⟩, fun id o h1 => ⟨o, h1, .inr (Alike.refl o)⟩⟩
              cases hfl : conFlat c with
              | true =>
                have hfl' := hfl
                simp only [conFlat, Bool.and_eq_true] at hfl'
                have hA := after_rel hi hx hr (hp.muts.flat (F' := m.F) hfl'.2) (fun u hu => hu) hG' (hA0 m.F)
                rw [List.nil_append] at hA
                refine ⟨m.F, G', _, hA, fun b hb => hb, fun b hb => Nat.lt_of_lt_of_le (hi.fro b hb) hp.kept.size, ?_, fun i hi => hi, hp.res.flat hfl'.1, fun b hb => hp.fro b (.inl hb), rfl, hi.bnd⟩
                intro id o b h1 h2 h3
                rcases hA.old id o h1 h2 with ⟨_, k⟩ | ⟨e, l, y, _, k, _⟩
                · exact (hi.own id o b k h2 h3).2.1
                · exact (hi.own id _ b k rfl h3).2.1
              | false =>
                have hA := (after_rel hi hx hr hp.muts (fun u hu => hu) hG' (hA0 F2)).kills (argIds m.G c.ins vs).1
                rw [List.nil_append] at hA
                refine ⟨F2, _, _, hA, fun b hb => hp.fro b (.inl hb), fun b hb => (hp.f2 b hb).1, ?_, fun i hi => by simp [hi], hp.res, fun b hb => hb, rfl, ?_⟩
                rotate_left
                · have ofOwn {b : Nat} (h : w0.heap.size ≤ b ∨ M b) : M.rd b ∨ M.wr b ∨ w0.heap.size ≤ b := by
                    rcases h with h | h
                    · exact .inr (.inr h)
                    · exact .inr (.inl h)
                  intro b hb
                  rcases (hp.f2 b hb).2 with (h | ⟨id, _, o, j1, j2, j3⟩) | h | h
                  · exact hi.bnd b h
                  · exact ofOwn (hi.own id o b j1 j2 j3).1
                  · obtain ⟨id, o, j1, j2, j3, j4⟩ := r2 b h
                    exact ofOwn (hi.own id o b j2 j3 j4).1
                  · have := hi.kept.size
                    exact .inr (.inr (by omega))
                intro id o b h1 h2 h3 hF2
                rcases hA.old id o h1 h2 with ⟨k0, k⟩ | ⟨e, l, y, _, k, _, _, k2⟩
                · simp only [List.mem_append, not_or] at k0
                  rcases (hp.f2 b hF2).2 with hb | hb | hb
                  · exact blkF id o b k h2 h3 k0.2 hb
                  · obtain ⟨id', o', j1, j2, j3, j4⟩ := r2 b hb
                    have := hi.inj id id' o o' b k h2 j2 j3 h3 j4
                    subst this
                    exact k0.1 j1
                  · have := (hi.own id o b k h2 h3).2.2
                    omega
                · exact (hp.own _ (by simp [k2]) b h3).2.1 hF2
            have hMc : ∀ b, Among (argHdrs c.ins us) b → ∃ id o, id ∈ S ∧ m.G.get id = some o ∧ isObj o = true ∧ hdrBlk (m.ι id) = some b := by
              intro b hb
              obtain ⟨id, o, k1, k2⟩ := r2 b hb
              exact ⟨id, o, hS2 id k1, k2⟩
            obtain ⟨i1, i2⟩ := call_inv hi hA hp.kept hMc hF hFlt hnF hbnd
            obtain ⟨ap1, ap2, ap3⟩ := List.pairwise_append.1 hp.apart
            have hfree : ∀ u ∈ outHdrs c.outs css, Free w0 M ⟨w', F1, m.ι, G1⟩ u := by
              intro u hu b hb
              obtain ⟨k1, k2, k3⟩ := hp.own u (by simp [hu]) b hb
              refine ⟨?_, fun hb' => k2 (hF12 b hb'), k3, fun id o ho hob hbl => ?_⟩
              · rcases k1 with k1 | k1
                · have := hi.kept.size
                  exact .inl (by omega)
                · obtain ⟨id, o, j1, j2, j3, j4⟩ := r2 b k1
                  exact (hi.own id o b j2 j3 j4).1
              · rcases hA.old id o ho hob with ⟨j0, j⟩ | ⟨e, l, y, _, j, _, _, j2⟩
                · rcases k1 with k1 | k1
                  · have := (hi.own id o b j hob hbl).2.2
                    omega
                  · obtain ⟨id', o', l1, l2, l3, l4⟩ := hMc b k1
                    have := hi.inj id id' o o' b j hob l2 l3 hbl l4
                    subst this
                    exact j0 l1
                · exact ap3 u hu _ j2 b hb hbl
            obtain ⟨m', a1, a2, a3, a4, a5, a6⟩ := freshOuts_rel (m := ⟨w', F1, m.ι, G1⟩) (q := q.1) (G' := q.2) i1 (by rw [show Mem.G ⟨w', F1, m.ι, G1⟩ = G1 from rfl, hG1]; exact hq) hres ap1 hfree
            refine ⟨m', outSV q.1, a1, by rw [← h, a3], a4, i2.trans a5, ?_⟩
            rw [hp.val]
            exact outs_sv a6
          · simp at h
        · simp at h
    · simp at h
  · simp at h
end
end Go.Vm

/-
  The machine's operations against the model's: every operation.
-/
namespace Go.Vm
section
variable {P : Program} {C : Ctx} {w0 : World} {M : Own} {o : Oper} {a : Act} {m : Mem} {s s' : St}

theorem Rel2.map_left {α β γ : Type} {r : β → γ → Prop} {f : α → β} {g : α → γ} : ∀ (l : List α), (∀ x, r (f x) (g x)) → Rel2 r (l.map f) (l.map g)
  | [], _ => trivial
  | x :: l, h => ⟨h x, Rel2.map_left l h⟩

theorem argsVal_mem {G : Heap} : ∀ {ins : List (Mode × Ty)} {vs : List SV} {x : (tupTy (ins.map (·.2))).den}, argsVal G ins vs = some x → ∀ v ∈ vs, ∃ τ, ∃ y : τ.den, svVal G τ v = some y
  | [], [], _, _ => by simp
  | [], _ :: _, _, h => by simp [argsVal] at h
  | _ :: _, [], _, h => by simp [argsVal] at h
  | p :: r, v :: vs, x, h => by
    unfold argsVal at h
    split at h
    · rename_i x1 hx1
      split at h
      · rename_i x2 hx2
        intro v' hv'
        rcases List.mem_cons.1 hv' with rfl | hv'
        · exact ⟨p.2, x1, hx1⟩
        · exact argsVal_mem hx2 v' hv'
      · simp at h
    · simp at h

theorem caps_sv : ∀ {us : List Value} {caps : List Nat}, Rel2 (fun u c => ∃ o, m.G.get c = some o ∧ (match o with
        | .box _ => ∃ b, m.ι c = .pointer (some ⟨b, 0, none⟩) ∧ u = .pointer (some ⟨b, 0, none⟩)
        | .arr _ _ => False
        | .dead => True)) us caps → (∀ i ∈ caps, ∃ l, m.G.get i = some (.box l)) → Rel2 (RelSV m) us (caps.map fun i => .av (.ptr i 0))
  | [], [], _, _ => trivial
  | [], _ :: _, h, _ => h.elim
  | _ :: _, [], h, _ => h.elim
  | u :: us, c :: caps, h, hb => by
    obtain ⟨l, hl⟩ := hb c (by simp)
    obtain ⟨ob, ho, hv⟩ := h.1
    rw [hl] at ho
    simp only [Option.some.injEq] at ho
    subst ho
    obtain ⟨b, h1, rfl⟩ := hv
    exact ⟨(relSV_at (a := .ptr c 0) (by intros; simp)).2 ⟨rfl, _, hl, b, h1, rfl⟩, caps_sv h.2 fun i hi => hb i (by simp [hi])⟩

theorem capList_sv : ∀ {τ : Ty} {y : τ.den} {us : List Value} {l : List SV}, Rd m.w m.F τ us y → capList τ y = some l → Rel2 (RelSV m) us l
  | .prod (.ptr a) b, y, us, l, h, hl => by
    simp only [capList] at hl
    split at hl
    · rename_i l' hl'
      simp only [Option.some.injEq] at hl
      subst hl
      obtain ⟨c1, c2, rfl, h1, h2⟩ := h
      have h1' := h1
      obtain ⟨bb, off, c, el, fz, rfl, _⟩ := h1
      exact ⟨⟨_, rfl, h1'⟩, capList_sv h2 hl'⟩
    · simp at hl
  | .unit, _, us, l, h, hl => by
    simp only [capList, Option.some.injEq] at hl
    subst hl
    unfold Rd at h
    subst h
    trivial
  | .prod (.int _) _, _, _, _, _, hl => by simp [capList] at hl
  | .prod .bool _, _, _, _, _, hl => by simp [capList] at hl
  | .prod .str _, _, _, _, _, hl => by simp [capList] at hl
  | .prod (.slice _) _, _, _, _, _, hl => by simp [capList] at hl
  | .prod (.prod _ _) _, _, _, _, _, hl => by simp [capList] at hl
  | .prod .unit _, _, _, _, _, hl => by simp [capList] at hl
  | .prod (.arr _ _) _, _, _, _, _, hl => by simp [capList] at hl
  | .prod (.clo _ _) _, _, _, _, _, hl => by simp [capList] at hl
  | .int _, _, _, _, _, hl => by simp [capList] at hl
  | .bool, _, _, _, _, hl => by simp [capList] at hl
  | .str, _, _, _, _, hl => by simp [capList] at hl
  | .slice _, _, _, _, _, hl => by simp [capList] at hl
  | .arr _ _, _, _, _, _, hl => by simp [capList] at hl
  | .ptr _, _, _, _, _, hl => by simp [capList] at hl
  | .clo _ _, _, _, _, _, hl => by simp [capList] at hl

theorem callAt_boxes {site f : Nat} {vs : List SV} {K : SV → St → Option St} (h : callAt C s site f vs K = some s') : ∀ i j, SV.av (.ptr i j) ∈ vs → ∃ l, s.G.get i = some (.box l) := by
  intro i j hij
  unfold callAt at h
  split at h
  · split at h
    · rename_i x hx
      obtain ⟨τ, y, hy⟩ := argsVal_mem hx _ hij
      cases τ <;> simp only [svVal] at hy <;> try (simp at hy; done)
      unfold boxVal at hy
      split at hy
      · rename_i l hl
        exact ⟨l, hl⟩
      · simp at hy
    · simp at h
  · simp at h

theorem does_goes {g : Operand} {args : Array Operand} {ats : Array TypeId} {f : FuncId} {vs : List Value} {R : Value → World → Prop} (ho : o.op = .call { callee := .value g, args, argTypes := ats }) (hg : a.eval g = .func (.func f) #[] vs.toArray)
    (h : Goes P f (args.toList.map a.eval ++ vs).toArray m.w R) : Does P o a m.w R := by
  have e : (args.toList.map a.eval ++ vs).toArray = (#[] ++ Array.map a.eval args) ++ vs.toArray := by
    apply Array.ext'; simp
  rw [e] at h
  have hx : (execOp a.eval o).run P m.w = (callFunc f ((#[] ++ Array.map a.eval args) ++ vs.toArray)).run P m.w := by
    simp [execOp, ho, resolve, hg, Deferred.ofValue, invoke]
  rcases h with ⟨h1, h2⟩ | ⟨v, w', h1, h2⟩
  · exact Does.call (by rw [hx, h1]) h2
  · exact Does.value (by rw [hx, h1]) h2

theorem op_callV {g : Operand} {args : Array Operand} {ats : Array TypeId} (hC : ∀ f site c, C.con f site = some c → c.Holds P C.glob f) (hi : Inv C w0 M m) (hG : m.G = s.G) (hS : ∀ x, RelSV m (a.eval x) (evalSV C s.env x))
    (ho : o.op = .call { callee := .value g, args, argTypes := ats }) (h : runOp C o s some = some s') : Does P o a m.w (Res C w0 M m s s' o.dst) := by
  simp only [runOp, ho] at h
  have hg := hS g
  have hargs : Rel2 (RelSV m) (args.toList.map a.eval) (args.toList.map (evalSV C s.env)) := Rel2.map_left _ hS
  split at h
  · rename_i f caps hq
    rw [hq] at hg
    obtain ⟨vs, hgv, hc⟩ := hg
    have hb := callAt_boxes h
    refine does_goes ho hgv (call_rel hi hC (hargs.append (caps_sv hc fun i hi' => ?_)) hG h)
    rw [hG]
    exact hb i 0 (by simp only [List.mem_append, List.mem_map]; exact .inr ⟨i, hi', rfl⟩)
  · rename_i f τ y hq
    rw [hq] at hg
    split at h
    · rename_i l hl
      obtain ⟨cs, hgv, vs, rfl, hrd⟩ := hg
      exact does_goes ho hgv (call_rel hi hC (hargs.append (capList_sv hrd hl)) hG h)
    · simp at h
  · simp at h

/-- Every operation. -/
theorem op_all {R : Type} {r : R} {K : St → Option R} (hT : tabOK P C.tab = true) (hE : EqOK P C) (hC : ∀ f site c, C.con f site = some c → c.Holds P C.glob f) (hi : Inv C w0 M m) (hG : m.G = s.G) (hS : ∀ x, RelSV m (a.eval x) (evalSV C s.env x))
    (h : runOp C o s K = some r) : Does P o a m.w (ResK C w0 M m s o.dst K r) := by
  by_cases hb : ∀ op xt x y yt, o.op ≠ .binOp op xt x y yt
  · rw [runOp_nat hb] at h
    obtain ⟨s', h, hK⟩ := Option.bind_eq_some_iff.1 h
    have wrap : Does P o a m.w (Res C w0 M m s s' o.dst) → Does P o a m.w (ResK C w0 M m s o.dst K r) := fun hd K' Q hK' => hd K' Q fun v w' hv => hK' v w' ⟨s', hK, hv⟩
    refine wrap ?_
    cases ho : o.op with
    | move x => exact op_move hi hG hS (.inl ho) h
    | assign x => exact op_move hi hG hS (.inr ho) h
    | pick c x y => exact op_pick hi hG hS ho h
    | alloc t => exact op_alloc hT hi hG ho h
    | box t x => exact op_box hi hG hS ho h
    | build t ps => exact op_build hT hi hG hS ho h
    | buildSlice t n ps => exact op_buildSlice hT hi hG hS ho h
    | load t x => exact op_load hT hi hG hS ho h
    | store t x y => exact op_store hT hi hG hS ho h
    | nilCheck x => exact op_nilCheck hi hG hS ho h
    | binOp op xt x y yt => exact absurd ho (hb _ _ _ _ _)
    | unOp op t x => exact op_unOp hi hG hS ho h
    | convert t u x => exact op_convert hT hi hG hS ho h
    | makeSlice t n c => exact op_makeSlice hT hi hG hS ho h
    | slice t x lo hi' mx => exact op_slice hT hi hG hS ho h
    | fieldAddr t x f => exact op_fieldAddr hT hi hG hS ho h
    | field t x f => exact op_field hT hi hG hS ho h
    | indexAddr t x i => exact op_indexAddr hT hi hG hS ho h
    | index t x i => exact op_index hT hi hG hS ho h
    | extract x i => exact op_extract hi hG hS ho h
    | makeFunc fn first caps => exact op_makeFunc hi hG hS ho h
    | call c =>
      obtain ⟨callee, args, ats⟩ := c
      cases callee with
      | value g => exact op_callV hC hi hG hS ho h
      | builtin b =>
        cases b with
        | len => exact op_len (t := ⟨.builtin .len, args, ats⟩) hT hi hG hS ho h
        | min => exact op_min hi hG hS ho h
        | max => exact op_max hi hG hS ho h
        | append => exact op_append hT hi hG hS ho h
        | clear => exact op_clear hT hi hG hS ho h
        | _ => simp [runOp, ho] at h
      | invoke _ _ => simp [runOp, ho] at h
    | _ => simp [runOp, ho] at h
  · simp only [Classical.not_forall, Classical.not_not] at hb
    obtain ⟨op, xt, x, y, yt, ho⟩ := hb
    exact op_binOp hT hE hi hG hS ho h
end
end Go.Vm

/-
  The machine's steps against the model's, in a frame: a step, what is given up, a region.
-/
namespace Go.Vm
section
variable {P : Program} {C : Ctx} {w0 : World} {M : Own} {N : Nat} {o : Oper} {a : Act} {m : Mem} {s : St}

theorem getD_put (a : Act) (dst : Option Nat) (v : Value) (hd : ∀ d, dst = some d → d < a.tmps.size) (t : Nat) : (a.put dst v).tmps.getD t undef = if dst = some t then v else a.tmps.getD t undef := by
  cases dst with
  | none => simp [Act.put]
  | some d =>
    have h := hd d rfl
    by_cases e : d = t
    · subst e; simp [Act.put, h]
    · have : ¬ (some d = some t) := by simpa using e
      rw [if_neg this]
      simp [Act.put, Array.getD_eq_getD_getElem?, Array.getElem?_setIfInBounds, e]

theorem get_putEnv (dst : Option Nat) (sv : SV) (s : St) (t : Nat) : (putEnv dst sv s).env.get t = if dst = some t then sv else s.env.get t := by
  cases dst with
  | none => simp [putEnv]
  | some d =>
    simp only [putEnv]
    rw [Env.get_cons]
    by_cases e : d = t
    · simp [e]
    · simp [e]

theorem sim_put {e : Env} {m' : Mem} {v : Value} {sv : SV} {dst : Option Nat} {G : Heap} (hs : Sim C w0 M N a m e) (hi : Inv C w0 M m') (he : Evo m m') (hv : RelSV m' v sv) (hd : ∀ d, dst = some d → d < N) :
    Sim C w0 M N (a.put dst v) m' (putEnv dst sv ⟨e, G⟩).env := by
  refine ⟨hi, by cases dst <;> exact hs.defers, by cases dst <;> simp [Act.put, hs.size], fun t => ?_⟩
  rw [getD_put a dst v (fun d h => Nat.lt_of_lt_of_le (hd d h) hs.size), get_putEnv]
  split
  · exact hv
  · exact evo_sv he (hs.env t)

/-! ### What is given up -/

theorem Heap.get_map (f : Obj → Obj) : ∀ (G : Heap) (i : Nat), Heap.get (G.map fun p => (p.1, f p.2)) i = (G.get i).map f
  | [], _ => rfl
  | (k, v) :: r, i => by
    simp only [List.map_cons, Heap.get]
    cases Nat.beq k i with
    | true => rfl
    | false => exact Heap.get_map f r i

theorem Env.get_map (f : SV → SV) (hf : f (.av .u) = .av .u) : ∀ (e : Env) (i : Nat), Env.get (e.map fun p => (p.1, f p.2)) i = f (e.get i)
  | [], _ => hf.symm
  | (k, v) :: r, i => by
    simp only [List.map_cons, Env.get]
    cases Nat.beq k i with
    | true => rfl
    | false => exact Env.get_map f hf r i

theorem killIds_dead : ∀ (ids : List Nat) (G : Heap) (i : Nat), i ∈ ids → (killIds ids G).get i = some .dead
  | j :: r, G, i, h => by
    show (killIds r ((j, .dead) :: G)).get i = _
    by_cases hr : i ∈ r
    · exact killIds_dead r _ i hr
    · rcases List.mem_cons.1 h with h | h
      · subst h; rw [killIds_get r _ i hr, Heap.get_cons, if_pos rfl]
      · exact absurd h hr

theorem any_beq {ids : List Nat} {i : Nat} : (ids.any fun j => Nat.beq i j) = true ↔ i ∈ ids := by
  rw [List.any_eq_true]
  constructor
  · rintro ⟨j, hj, h⟩
    rw [Nat.eq_of_beq_eq_true h]; exact hj
  · intro h; exact ⟨i, h, Nat.beq_refl i⟩

theorem frz_atom (hi : Inv C w0 M m) {ids : List Nat} {m1 : Mem} (hw : m1.w = m.w) (he : Evo m m1) (hF : ∀ b, Thru m ids b → m1.F b) {u : Value} {at' : Atom} (h : RelAtom m u at') : RelAtom m1 u (frzAtom m.G ids at') := by
  have thru {i : Nat} (hin : i ∈ ids) {b : Nat} (hb : Thru m [i] b) : m1.F b := hF b (Thru.mono (fun k hk => by simp at hk; subst hk; exact hin) hb)
  cases at' with
  | own i =>
    simp only [frzAtom]
    cases hin : (ids.any fun j => Nat.beq i j) with
    | false => exact evo_atom he h
    | true =>
      have hin := any_beq.1 hin
      simp only [cond_true]
      cases hg : m.G.get i with
      | none => exact evo_atom he h
      | some ob =>
        cases ob with
        | arr τ l =>
          obtain ⟨_, ob, hob, hv⟩ := h
          rw [hg] at hob
          simp only [Option.some.injEq] at hob
          subst hob
          have hv := hv rfl
          subst hv
          exact ⟨(own_rd hi hg).mono fun b hb => ⟨thru hin hb, by rw [hw]⟩, rfl⟩
        | _ => exact evo_atom he h
  | view i off len =>
    simp only [frzAtom]
    cases hin : (ids.any fun j => Nat.beq i j) with
    | false => exact evo_atom he h
    | true =>
      have hin := any_beq.1 hin
      simp only [cond_true]
      cases hg : m.G.get i with
      | none => exact evo_atom he h
      | some ob =>
        cases ob with
        | arr τ l =>
          have hr : atomVal m.G (.slice τ) (.view i off len) = some ((l.drop off).take len) := by simp [atomVal, hg, castTo]
          have := atomVal_rd hi hr h
          exact ⟨this.mono fun b hb => ⟨thru hin hb, by rw [hw]⟩, rfl⟩
        | _ => exact evo_atom he h
  | u => trivial
  | undef => exact h
  | nils => exact h
  | val _ _ => exact evo_atom he h
  | ptr _ _ => exact evo_atom he h
  | aptr _ _ _ => exact evo_atom he h
  | cut _ _ _ => exact evo_atom he h
  | clo _ _ => exact evo_atom he h

theorem Rel2.map_right {α β : Type} {r s : α → β → Prop} {f : β → β} (h : ∀ x y, r x y → s x (f y)) : ∀ {l : List α} {k : List β}, Rel2 r l k → Rel2 s l (k.map f)
  | [], [], _ => trivial
  | [], _ :: _, h => h.elim
  | _ :: _, [], h => h.elim
  | _ :: _, _ :: _, hh => ⟨h _ _ hh.1, Rel2.map_right h hh.2⟩

theorem frz_sv (hi : Inv C w0 M m) {ids : List Nat} {m1 : Mem} (hw : m1.w = m.w) (he : Evo m m1) (hF : ∀ b, Thru m ids b → m1.F b) {u : Value} {sv : SV} (h : RelSV m u sv) : RelSV m1 u (frzSV m.G ids sv) := by
  cases sv with
  | av at' =>
    cases at' with
    | val τ x => exact evo_sv he h
    | _ => exact RelSV.of_atom (frz_atom hi hw he hF ((relSV_at (by intros; simp)).1 h))
  | agg l =>
    obtain ⟨us, h1, h2, h3⟩ := h
    exact ⟨us, h1, h2, Rel2.map_right (f := frzAtom m.G ids) (fun _ _ h => frz_atom hi hw he hF h) h3⟩
  | tup l =>
    obtain ⟨us, h1, h2⟩ := h
    refine ⟨us, h1, Rel2.map_right ?_ h2⟩
    rintro v ⟨b, l⟩ hv
    cases b with
    | true => obtain ⟨us, h1, h0, h2⟩ := hv; exact ⟨us, h1, h0, Rel2.map_right (f := frzAtom m.G ids) (fun _ _ h => frz_atom hi hw he hF h) h2⟩
    | false =>
      obtain ⟨a, h1, h2⟩ := hv
      simp only at h1
      subst h1
      exact ⟨_, rfl, frz_atom hi hw he hF h2⟩

theorem freeze_sim (ids : List Nat) (hs : Sim C w0 M N a m s.env) (hG : m.G = s.G) : ∃ m', m'.w = m.w ∧ m'.G = (freeze ids s).G ∧ Sim C w0 M N a m' (freeze ids s).env := by
  obtain ⟨m1, a1, a2, a3, a4, a5, a6⟩ := step_kills ids hs.inv
  have hget : ∀ id o, Heap.get (killIds ids (m.G.map fun p => (p.1, frzObj m.G ids p.2))) id = some o → o = .dead ∨ (id ∉ ids ∧ ∃ o0, m.G.get id = some o0 ∧ o = frzObj m.G ids o0) := by
    intro id o ho
    by_cases hin : id ∈ ids
    · rw [killIds_dead ids _ id hin] at ho
      simp only [Option.some.injEq] at ho
      exact .inl ho.symm
    · rw [killIds_get ids _ id hin, Heap.get_map] at ho
      obtain ⟨o0, h1, h2⟩ := Option.map_eq_some_iff.1 ho
      exact .inr ⟨hin, o0, h1, h2.symm⟩
  have halike : ∀ o0, Alike o0 (frzObj m.G ids o0) := by
    intro o0; cases o0 <;> first | exact ⟨rfl, rfl⟩ | trivial
  have hobj : ∀ o0, isObj (frzObj m.G ids o0) = isObj o0 := by intro o0; cases o0 <;> rfl
  let m2 : Mem := ⟨m1.w, m1.F, m1.ι, killIds ids (m.G.map fun p => (p.1, frzObj m.G ids p.2))⟩
  have he2 : Evo m m2 := by
    refine ⟨a5.fro, fun id o ho => ?_⟩
    by_cases hin : id ∈ ids
    · exact ⟨.dead, killIds_dead ids _ id hin, .inl rfl⟩
    · refine ⟨frzObj m.G ids o, ?_, .inr ⟨by show m1.ι id = _; rw [a2], halike o⟩⟩
      show Heap.get (killIds ids _) id = _
      rw [killIds_get ids _ id hin, Heap.get_map, ho]; rfl
  have hi2 : Inv C w0 M m2 := by
    refine ⟨a4.kept, ?_, ?_, ?_, a4.fro, fun g τ x hg => a4.glob g τ x hg, a4.bnd, fun i v h => pin_evo he2 (hs.inv.pin i v h)⟩
    · intro id o ho
      rcases hget id o ho with rfl | ⟨hin, o0, h0, rfl⟩
      · trivial
      · have hr := hs.inv.objs id o0 h0
        cases o0 with
        | dead => trivial
        | arr τ l => exact evo_obj he2 (by show m1.ι id = _; rw [a2]) (fun b _ => by show m1.w.heap[b]? = _; rw [a1]) hr
        | box l =>
          obtain ⟨b, c, el, h1, h2, h3, h4⟩ := hr
          exact ⟨b, c, el, by show m1.ι id = _; rw [a2]; exact h1, by show m1.w.heap[b]? = _; rw [a1]; exact h2, h3, Rel2.map_right (f := frzAtom m.G ids) (fun _ _ h => frz_atom (m1 := m2) hs.inv a1 he2 a6 h) h4⟩
    · intro id o b ho hob hb
      rcases hget id o ho with rfl | ⟨hin, o0, h0, rfl⟩
      · simp [isObj] at hob
      · exact a4.own id o0 b (by rw [a3, killIds_get ids _ id hin]; exact h0) (by rw [← hobj o0]; exact hob) hb
    · intro i j p q b hp hop hq hoq h1 h2
      rcases hget i p hp with rfl | ⟨hin, o0, h0, rfl⟩
      · simp [isObj] at hop
      · rcases hget j q hq with rfl | ⟨hin', o1, h0', rfl⟩
        · simp [isObj] at hoq
        · exact a4.inj i j o0 o1 b (by rw [a3, killIds_get ids _ i hin]; exact h0) (by rw [← hobj o0]; exact hop) (by rw [a3, killIds_get ids _ j hin']; exact h0') (by rw [← hobj o1]; exact hoq) h1 h2
  refine ⟨m2, a1, by show killIds ids _ = killIds ids _; rw [hG], hi2, hs.defers, hs.size, fun t => ?_⟩
  show RelSV m2 _ (Env.get (s.env.map fun p => (p.1, frzSV s.G ids p.2)) t)
  rw [Env.get_map _ (by rfl), ← hG]
  exact frz_sv (m1 := m2) hs.inv a1 he2 a6 (hs.env t)

/-! ### A step -/

/-- All that the operations ask of the context. -/
structure CtxOK (P : Program) (C : Ctx) : Prop where
  tab : tabOK P C.tab = true
  eqs : EqOK P C
  con : ∀ f site c, C.con f site = some c → c.Holds P C.glob f

theorem op_step {R : Type} {r : R} {K : St → Option R} (hC : CtxOK P C) (hs : Sim C w0 M N a m s.env) (hG : m.G = s.G) (hd : ∀ d, o.dst = some d → d < N) (h : runOp C o s K = some r)
    {Kc : Act → World → Prop} {Q : Exit → Act → World → Prop} (hK : ∀ s' a' m', K s' = some r → m'.G = s'.G → Sim C w0 M N a' m' s'.env → Kc a' m'.w) : o.wp P a m.w Kc Q := by
  refine op_all hC.tab hC.eqs hC.con hs.inv hG (rel_eval hs.inv hs.env) h Kc Q ?_
  rintro v w' ⟨s', hK', m', sv, rfl, rfl, h1, h2, h3⟩
  exact hK _ _ m' hK' (by cases o.dst <;> rfl) (sim_put hs h1 h2 h3 hd)

theorem frzFor_sim (hs : Sim C w0 M N a m s.env) (hG : m.G = s.G) (o : Oper) : ∃ m', m'.w = m.w ∧ m'.G = (frzFor C o s).G ∧ Sim C w0 M N a m' (frzFor C o s).env := by
  unfold frzFor
  split
  · exact ⟨m, rfl, hG, hs⟩
  · exact freeze_sim _ hs hG

theorem sim_lit {d : Nat} {sv : SV} (hs : Sim C w0 M N a m s.env) (h : s.env.get d = sv) : Sim C w0 M N a m ((d, sv) :: s.env) := by
  refine ⟨hs.inv, hs.defers, hs.size, fun t => ?_⟩
  rw [Env.get_cons]
  split
  · rename_i e; subst e; rw [← h]; exact hs.env d
  · exact hs.env t

theorem yielded_bool {ops : Array Oper} {j d : Nat} {b : Bool} (hs : Sim C w0 M N a m s.env) (hj : slotOf ops.toList j = some d) (h : s.env.get d = .av (.val .bool b)) : yielded ops a.tmps j = some b := by
  have hv := hs.env d
  rw [h] at hv
  have hv := rel_bool hv
  have hd : (ops[j]?).bind (·.dst) = some d := by
    unfold slotOf at hj
    rw [Array.getElem?_toList] at hj
    split at hj
    · rename_i o ho; simp [ho, hj]
    · simp at hj
  unfold yielded
  rw [hd]
  have : a.tmps[d]? = some (.bool b) := by
    rw [Array.getD_eq_getD_getElem?] at hv
    cases hg : a.tmps[d]? with
    | none => rw [hg] at hv; simp [undef] at hv
    | some v => rw [hg] at hv; simpa using hv
  simp [this]

theorem yielded_undef {ops : Array Oper} {j d : Nat} (hs : Sim C w0 M N a m s.env) (hj : slotOf ops.toList j = some d) (h : s.env.get d = .av .undef) : yielded ops a.tmps j = none := by
  have hv := hs.env d
  rw [h] at hv
  have hv : a.tmps.getD d undef = undef := hv
  have hd : (ops[j]?).bind (·.dst) = some d := by
    unfold slotOf at hj
    rw [Array.getElem?_toList] at hj
    split at hj
    · rename_i o ho; simp [ho, hj]
    · simp at hj
  unfold yielded
  rw [hd]
  rw [Array.getD_eq_getD_getElem?] at hv
  cases hg : a.tmps[d]? with
  | none => simp [hg]
  | some v => rw [hg] at hv; simp at hv; subst hv; simp [hg, undef]

theorem runOps_ok {R : Type} {res : R} {K : St → Option R} (hC : CtxOK P C) {ops : Array Oper} {Q : Exit → Act → World → Prop}
    (hK : ∀ s' a' m', K s' = some res → m'.G = s'.G → Sim C w0 M N a' m' s'.env → Q .normal a' m'.w) (hd : ∀ o ∈ ops.toList, ∀ d, o.dst = some d → d < N) :
    ∀ (l : List Oper) (k : Nat) {s : St} {a : Act} {m : Mem}, (∀ j, l[j]? = ops[k + j]?) → runOps C ops.toList l s K = some res → m.G = s.G → Sim C w0 M N a m s.env → wpOps P ops Q (List.range' k l.length) a m.w
  | [], k, s, a, m, _, h, hG, hs => hK s a m h hG hs
  | o :: r, k, s, a, m, hl, h, hG, hs => by
    have h0 : ops[k]? = some o := by simpa using (hl 0).symm
    have hmem : o ∈ ops.toList := by rw [Array.mem_toList_iff]; exact Array.mem_of_getElem? h0
    have hl' : ∀ j, r[j]? = ops[k + 1 + j]? := fun j => by have := hl (j + 1); simpa [Nat.add_assoc, Nat.add_comm 1 j] using this
    rw [List.length_cons, List.range'_succ]
    simp only [wpOps, h0]
    have go {s : St} {m : Mem} (hG : m.G = s.G) (hs : Sim C w0 M N a m s.env) (h : runOp C o (frzFor C o s) (fun s' => runOps C ops.toList r s' K) = some res) : o.wp P a m.w (wpOps P ops Q (List.range' (k + 1) r.length)) Q := by
      obtain ⟨m', e1, e2, e3⟩ := frzFor_sim hs hG o
      rw [← e1]
      exact op_step hC e3 e2 (hd o hmem) h fun s' a' m' h1 h2 h3 => runOps_ok hC hK hd r (k + 1) hl' h1 h2 h3
    have skip {s : St} {m : Mem} (hG : m.G = s.G) (hs : Sim C w0 M N a m s.env) (h : runOps C ops.toList r (putEnv o.dst (.av .undef) s) K = some res) : wpOps P ops Q (List.range' (k + 1) r.length) (a.put o.dst undef) m.w :=
      runOps_ok hC hK hd r (k + 1) hl' h (by rw [hG]; cases o.dst <;> rfl) (sim_put hs hs.inv (Evo.refl m) (show RelSV m undef (.av .undef) from rfl) (hd o hmem))
    unfold runOps at h
    split at h
    · rename_i hg
      have hw : Region.wanted o (yielded ops a.tmps) = true := by simp [Region.wanted, hg]
      rw [if_pos hw]
      exact .inl (go hG hs h)
    · rename_i j want hg
      split at h
      · simp at h
      · rename_i d hdd
        split at h
        · rename_i b hb
          have hy := yielded_bool hs hdd hb
          have hw : Region.wanted o (yielded ops a.tmps) = (b == want) := by simp [Region.wanted, hg, hy]
          rw [hw]
          cases b with
          | true =>
            simp only [cond_true] at h
            cases want with
            | true => exact .inl (go (s := ⟨(d, .av (.val .bool true)) :: s.env, s.G⟩) hG (sim_lit hs hb) h)
            | false => exact skip (s := ⟨(d, .av (.val .bool true)) :: s.env, s.G⟩) hG (sim_lit hs hb) h
          | false =>
            simp only [cond_false] at h
            cases want with
            | true => exact skip (s := ⟨(d, .av (.val .bool false)) :: s.env, s.G⟩) hG (sim_lit hs hb) h
            | false => exact .inl (go (s := ⟨(d, .av (.val .bool false)) :: s.env, s.G⟩) hG (sim_lit hs hb) h)
        · rename_i hb
          have hy := yielded_undef hs hdd hb
          have hw : Region.wanted o (yielded ops a.tmps) = false := by simp [Region.wanted, hg, hy]
          rw [hw]
          exact skip hG hs h
        · simp at h

theorem region_ok {R : Type} {res : R} {K : St → Option R} (hC : CtxOK P C) {id : Nat} {ops : Array Oper} {Q : Exit → Act → World → Prop}
    (hK : ∀ s' a' m', K s' = some res → m'.G = s'.G → Sim C w0 M N a' m' s'.env → Q .normal a' m'.w) (hd : ∀ o ∈ ops.toList, ∀ d, o.dst = some d → d < N)
    (h : runOps C ops.toList ops.toList s K = some res) (hG : m.G = s.G) (hs : Sim C w0 M N a m s.env) : (Code.region id ops false).wp P Q a m.w := by
  refine wp_region ?_
  have := runOps_ok hC hK hd ops.toList 0 (fun j => by simp) h hG hs
  rw [List.range_eq_range']
  simpa using this
end
end Go.Vm

/-
  A state laid into a shape.
-/
namespace Go.Vm
section
variable {P : Program} {C : Ctx} {w0 : World} {M : Own} {N : Nat} {a : Act} {m : Mem} {s : St}

def Alive (m : Mem) (j : Nat) : Prop := ∃ o, m.G.get j = some o ∧ isObj o = true

def Real (m : Mem) : Src → Value → Prop
  | .nil, v => ∃ ad, v = .slice ad 0 0
  | .own j, v => Alive m j → v = m.ι j
  | .view j o n, v => RelAtom m v (.view j o n)

def RenOK (m : Mem) (R : Ren) (ρ : Nat → Value) : Prop := ∀ i src, R.get i = some src → Real m src (ρ i)

def Ext (R : Ren) (ρ : Nat → Value) (R' : Ren) (ρ' : Nat → Value) : Prop := ∀ i src, R.get i = some src → R'.get i = some src ∧ ρ' i = ρ i

theorem Ext.refl (R : Ren) (ρ : Nat → Value) : Ext R ρ R ρ := fun _ _ h => ⟨h, rfl⟩
theorem Ext.trans {R R' R'' : Ren} {ρ ρ' ρ'' : Nat → Value} (h : Ext R ρ R' ρ') (h' : Ext R' ρ' R'' ρ'') : Ext R ρ R'' ρ'' := fun i src hi => by
  obtain ⟨h1, h2⟩ := h i src hi
  obtain ⟨h3, h4⟩ := h' i src h1
  exact ⟨h3, h4.trans h2⟩

def AtomR (m : Mem) (R : Ren) (ρ : Nat → Value) (u : Value) : SpA → Prop
  | .own i => u.oneCell' = true ∧ ∃ src, R.get i = some src ∧ (u = ρ i ∨ ∃ j, src = .own j ∧ ¬ Alive m j)
  | .ptr i o => ∃ j, R.get i = some (.own j) ∧ RelAtom m u (.ptr j o)
  | .clo _ c => ∀ i ∈ c, R.get i = some (.own i)
  | _ => True

theorem AtomR.ext {R R' : Ren} {ρ ρ' : Nat → Value} (he : Ext R ρ R' ρ') {u : Value} {x : SpA} (h : AtomR m R ρ u x) : AtomR m R' ρ' u x := by
  cases x with
  | own i =>
    obtain ⟨h1, src, h2, h3⟩ := h
    obtain ⟨e1, e2⟩ := he i src h2
    exact ⟨h1, src, e1, h3.imp (fun h => by rw [e2]; exact h) id⟩
  | ptr i o => obtain ⟨j, h1, h2⟩ := h; exact ⟨j, (he i _ h1).1, h2⟩
  | clo f c => exact fun i hi => (he i _ (h i hi)).1
  | _ => trivial

theorem ren_add {R R' : Ren} {i : Nat} {src : Src} (h : R.add i src = some R') : (R.get i = none ∧ R' = (i, src) :: R) ∨ (∃ j, src = .own j ∧ R.get i = some (.own j) ∧ R' = R) := by
  unfold Ren.add at h
  split at h
  · rename_i hg; simp at h; exact .inl ⟨hg, h.symm⟩
  · rename_i s' hg
    cases hs : s'.same src with
    | false => rw [hs] at h; simp at h
    | true =>
      rw [hs] at h
      simp at h
      unfold Src.same at hs
      split at hs
      · rename_i i' j'
        have := Nat.eq_of_beq_eq_true hs
        subst this
        exact .inr ⟨i', rfl, hg, h.symm⟩
      · simp at hs

theorem Ren.get_cons (i : Nat) (v : Src) (R : Ren) (j : Nat) : Ren.get ((i, v) :: R) j = if i = j then some v else R.get j := by
  simp only [Ren.get]
  cases h : Nat.beq i j with
  | true => simp [Nat.eq_of_beq_eq_true h]
  | false => simp [Nat.ne_of_beq_eq_false h]

/-- One more is named. -/
theorem ren_new {R : Ren} {ρ : Nat → Value} (hR : RenOK m R ρ) {i : Nat} {src : Src} {v : Value} (hn : R.get i = none) (hv : Real m src v) :
    RenOK m ((i, src) :: R) (fun k => if k = i then v else ρ k) ∧ Ext R ρ ((i, src) :: R) (fun k => if k = i then v else ρ k) := by
  refine ⟨fun k s' hk => ?_, fun k s' hk => ?_⟩
  · rw [Ren.get_cons] at hk
    split at hk
    · rename_i e; subst e; simp at hk; subst hk; simpa using hv
    · rename_i e; simp [Ne.symm e]; exact hR k s' hk
  · have e : i ≠ k := by intro e; subst e; rw [hn] at hk; cases hk
    exact ⟨by rw [Ren.get_cons, if_neg e]; exact hk, by simp [Ne.symm e]⟩

theorem ren_caps : ∀ (c : List Nat) {R R' : Ren} {ρ : Nat → Value}, Ren.addCaps c R = some R' → RenOK m R ρ → ∃ ρ', RenOK m R' ρ' ∧ Ext R ρ R' ρ' ∧ ∀ i ∈ c, R'.get i = some (.own i)
  | [], R, R', ρ, h, hR => by
    simp only [Ren.addCaps, Option.some.injEq] at h
    subst h
    exact ⟨ρ, hR, Ext.refl _ _, by simp⟩
  | i :: r, R, R', ρ, h, hR => by
    simp only [Ren.addCaps] at h
    split at h
    · rename_i R1 h1
      have one : ∃ ρ1, RenOK m R1 ρ1 ∧ Ext R ρ R1 ρ1 ∧ R1.get i = some (.own i) := by
        rcases ren_add h1 with ⟨hn, rfl⟩ | ⟨j, hj, hg, rfl⟩
        · obtain ⟨k1, k2⟩ := ren_new hR (src := .own i) (v := m.ι i) hn (fun _ => rfl)
          exact ⟨_, k1, k2, by rw [Ren.get_cons, if_pos rfl]⟩
        · cases hj; exact ⟨ρ, hR, Ext.refl _ _, hg⟩
      obtain ⟨ρ1, a1, a2, a3⟩ := one
      obtain ⟨ρ2, b1, b2, b3⟩ := ren_caps r h a1
      refine ⟨ρ2, b1, a2.trans b2, ?_⟩
      intro k hk
      rcases List.mem_cons.1 hk with rfl | hk
      · exact (b2 k _ a3).1
      · exact b3 k hk
    · simp at h

theorem ren_atom {R R' : Ren} {ρ : Nat → Value} {x : SpA} {b : Atom} {u : Value} (h : x.ren b R = some R') (hr : RelAtom m u b) (hR : RenOK m R ρ) : ∃ ρ', RenOK m R' ρ' ∧ Ext R ρ R' ρ' ∧ AtomR m R' ρ' u x := by
  have own {i : Nat} {src : Src} (h : R.add i src = some R') (hv : Real m src u) (h1 : u.oneCell' = true) : ∃ ρ', RenOK m R' ρ' ∧ Ext R ρ R' ρ' ∧ AtomR m R' ρ' u (.own i) := by
    rcases ren_add h with ⟨hn, rfl⟩ | ⟨j, rfl, hg, rfl⟩
    · obtain ⟨k1, k2⟩ := ren_new hR hn hv
      exact ⟨_, k1, k2, h1, src, by rw [Ren.get_cons, if_pos rfl], .inl (by simp)⟩
    · refine ⟨ρ, hR, Ext.refl _ _, h1, .own j, hg, ?_⟩
      by_cases hal : Alive m j
      · exact .inl ((hv hal).trans (hR i _ hg hal).symm)
      · exact .inr ⟨j, rfl, hal⟩
  cases x with
  | own i =>
    cases b with
    | own j =>
      simp only [SpA.ren] at h
      obtain ⟨h1, o, h2, h3⟩ := hr
      refine own h ?_ h1
      rintro ⟨o', h4, h5⟩
      rw [h2] at h4
      simp only [Option.some.injEq] at h4
      subst h4
      exact h3 h5
    | nils =>
      simp only [SpA.ren] at h
      obtain ⟨ad, rfl⟩ := hr
      exact own h ⟨ad, rfl⟩ rfl
    | view j o n =>
      simp only [SpA.ren] at h
      exact own h hr hr.1
    | _ => simp [SpA.ren] at h
  | ptr i o =>
    cases b with
    | ptr j o' =>
      simp only [SpA.ren] at h
      cases ho : Nat.beq o o' with
      | false => rw [ho] at h; simp at h
      | true =>
        rw [ho] at h
        simp only [cond_true] at h
        have := Nat.eq_of_beq_eq_true ho
        subst this
        rcases ren_add h with ⟨hn, rfl⟩ | ⟨j', hj, hg, rfl⟩
        · obtain ⟨k1, k2⟩ := ren_new hR (src := .own j) (v := m.ι j) hn (fun _ => rfl)
          exact ⟨_, k1, k2, j, by rw [Ren.get_cons, if_pos rfl], hr⟩
        · cases hj; exact ⟨ρ, hR, Ext.refl _ _, j, hg, hr⟩
    | _ => simp [SpA.ren] at h
  | clo f c =>
    have h : Ren.addCaps c R = some R' := by cases b <;> exact h
    obtain ⟨ρ', k1, k2, k3⟩ := ren_caps c h hR
    exact ⟨ρ', k1, k2, k3⟩
  | u =>
    simp only [SpA.ren, Option.some.injEq] at h
    subst h
    exact ⟨ρ, hR, Ext.refl _ _, trivial⟩
  | undef =>
    simp only [SpA.ren, Option.some.injEq] at h
    subst h
    exact ⟨ρ, hR, Ext.refl _ _, trivial⟩
  | nils =>
    simp only [SpA.ren, Option.some.injEq] at h
    subst h
    exact ⟨ρ, hR, Ext.refl _ _, trivial⟩
  | val τ =>
    simp only [SpA.ren, Option.some.injEq] at h
    subst h
    exact ⟨ρ, hR, Ext.refl _ _, trivial⟩

theorem ren_atoms : ∀ {l : List SpA} {bs : List Atom} {us : List Value} {R R' : Ren} {ρ : Nat → Value}, SpA.renL l bs R = some R' → Rel2 (RelAtom m) us bs → RenOK m R ρ →
    ∃ ρ', RenOK m R' ρ' ∧ Ext R ρ R' ρ' ∧ Rel2 (AtomR m R' ρ') us l
  | [], [], [], R, R', ρ, h, _, hR => by
    simp only [SpA.renL, Option.some.injEq] at h
    subst h
    exact ⟨ρ, hR, Ext.refl _ _, trivial⟩
  | [], _ :: _, _, _, _, _, h, _, _ => by simp [SpA.renL] at h
  | _ :: _, [], _, _, _, _, h, _, _ => by simp [SpA.renL] at h
  | _, _ :: _, [], _, _, _, _, h, _ => h.elim
  | _, [], _ :: _, _, _, _, _, h, _ => h.elim
  | x :: l, b :: bs, u :: us, R, R', ρ, h, hr, hR => by
    simp only [SpA.renL] at h
    split at h
    · rename_i R1 h1
      obtain ⟨ρ1, a1, a2, a3⟩ := ren_atom h1 hr.1 hR
      obtain ⟨ρ2, b1, b2, b3⟩ := ren_atoms h hr.2 a1
      exact ⟨ρ2, b1, a2.trans b2, a3.ext b2, b3⟩
    · simp at h

def SvR (m : Mem) (R : Ren) (ρ : Nat → Value) (u : Value) : SpS → Prop
  | .av (.val _) => True
  | .av x => AtomR m R ρ u x
  | .agg l => ∃ us : List Value, u = .agg us.toArray ∧ (∀ v ∈ us, v.oneCell' = true) ∧ Rel2 (AtomR m R ρ) us l

theorem SvR.ext {R R' : Ren} {ρ ρ' : Nat → Value} (he : Ext R ρ R' ρ') {u : Value} {x : SpS} (h : SvR m R ρ u x) : SvR m R' ρ' u x := by
  cases x with
  | av x =>
    cases x with
    | val _ => trivial
    | u => trivial
    | undef => trivial
    | nils => trivial
    | own i => exact AtomR.ext (x := .own i) he h
    | ptr i o => exact AtomR.ext (x := .ptr i o) he h
    | clo f c => exact AtomR.ext (m := m) (u := u) (x := .clo f c) he h
  | agg l => obtain ⟨us, h1, h2, h3⟩ := h; exact ⟨us, h1, h2, h3.mono fun _ _ => AtomR.ext he⟩

theorem ren_sv {R R' : Ren} {ρ : Nat → Value} {x : SpS} {b : SV} {u : Value} (h : x.ren b R = some R') (hr : RelSV m u b) (hR : RenOK m R ρ) : ∃ ρ', RenOK m R' ρ' ∧ Ext R ρ R' ρ' ∧ SvR m R' ρ' u x := by
  unfold SpS.ren at h
  split at h
  · rename_i x b
    cases x with
    | val τ =>
      have : R' = R := by
        unfold SpA.ren at h
        split at h <;> first | cases ‹SpA.val _ = _› | (simp only [Option.some.injEq] at h; exact h.symm)
      subst this
      exact ⟨ρ, hR, Ext.refl _ _, trivial⟩
    | u =>
      have : R' = R := by
        unfold SpA.ren at h
        split at h <;> first | cases ‹SpA.u = _› | (simp only [Option.some.injEq] at h; exact h.symm)
      subst this
      exact ⟨ρ, hR, Ext.refl _ _, trivial⟩
    | undef =>
      have : R' = R := by
        unfold SpA.ren at h
        split at h <;> first | cases ‹SpA.undef = _› | (simp only [Option.some.injEq] at h; exact h.symm)
      subst this
      exact ⟨ρ, hR, Ext.refl _ _, trivial⟩
    | nils =>
      have : R' = R := by
        unfold SpA.ren at h
        split at h <;> first | cases ‹SpA.nils = _› | (simp only [Option.some.injEq] at h; exact h.symm)
      subst this
      exact ⟨ρ, hR, Ext.refl _ _, trivial⟩
    | own i =>
      cases b with
      | val τ y => simp [SpA.ren] at h
      | _ => obtain ⟨ρ', k1, k2, k3⟩ := ren_atom h ((relSV_at (by intros; simp)).1 hr) hR; exact ⟨ρ', k1, k2, k3⟩
    | ptr i o =>
      cases b with
      | val τ y => simp [SpA.ren] at h
      | _ => obtain ⟨ρ', k1, k2, k3⟩ := ren_atom h ((relSV_at (by intros; simp)).1 hr) hR; exact ⟨ρ', k1, k2, k3⟩
    | clo f c =>
      have h : Ren.addCaps c R = some R' := by cases b <;> exact h
      obtain ⟨ρ', k1, k2, k3⟩ := ren_caps c h hR
      exact ⟨ρ', k1, k2, k3⟩
  · rename_i l r
    obtain ⟨us, h1, h2, h3⟩ := hr
    obtain ⟨ρ', k1, k2, k3⟩ := ren_atoms h h3 hR
    exact ⟨ρ', k1, k2, us, h1, h2, k3⟩
  · simp only [Option.some.injEq] at h; subst h; exact ⟨ρ, hR, Ext.refl _ _, trivial⟩
  · simp only [Option.some.injEq] at h; subst h; exact ⟨ρ, hR, Ext.refl _ _, trivial⟩
  · simp at h

theorem ren_env {e : Env} {t : Nat → Value} (ht : ∀ i, RelSV m (t i) (e.get i)) : ∀ {l : List (Nat × SpS)} {R R' : Ren} {ρ : Nat → Value}, renEnv e l R = some R' → RenOK m R ρ →
    ∃ ρ', RenOK m R' ρ' ∧ Ext R ρ R' ρ' ∧ ∀ p ∈ l, SvR m R' ρ' (t p.1) p.2
  | [], R, R', ρ, h, hR => by simp only [renEnv, Option.some.injEq] at h; subst h; exact ⟨ρ, hR, Ext.refl _ _, by simp⟩
  | p :: l, R, R', ρ, h, hR => by
    simp only [renEnv] at h
    split at h
    · rename_i R1 h1
      obtain ⟨ρ1, a1, a2, a3⟩ := ren_sv h1 (ht p.1) hR
      obtain ⟨ρ2, b1, b2, b3⟩ := ren_env ht h a1
      refine ⟨ρ2, b1, a2.trans b2, ?_⟩
      intro q hq
      rcases List.mem_cons.1 hq with rfl | hq
      · exact a3.ext b2
      · exact b3 q hq
    · simp at h

/-- The cells of a variable. -/
def BoxR (m : Mem) (R : Ren) (ρ : Nat → Value) (i : Nat) (sp : List SpA) : Prop :=
  ∃ j b, R.get i = some (.own j) ∧ m.G.get j = some (.box b) ∧ ∀ bl c el, m.ι j = .pointer (some ⟨bl, 0, none⟩) → m.w.heap[bl]? = some (.cells c el (0, 0)) → Rel2 (AtomR m R ρ) c.toList sp

theorem ren_objs (hi : Inv C w0 M m) : ∀ {l : List (Nat × SpO)} {R R' : Ren} {ρ : Nat → Value}, renObjs m.G l R = some R' → RenOK m R ρ →
    ∃ ρ', RenOK m R' ρ' ∧ Ext R ρ R' ρ' ∧ ∀ p ∈ l, ∀ sp, p.2 = .box sp → BoxR m R' ρ' p.1 sp
  | [], R, R', ρ, h, hR => by simp only [renObjs, Option.some.injEq] at h; subst h; exact ⟨ρ, hR, Ext.refl _ _, by simp⟩
  | (i, .arr τ) :: l, R, R', ρ, h, hR => by
    obtain ⟨ρ', k1, k2, k3⟩ := ren_objs hi (l := l) h hR
    refine ⟨ρ', k1, k2, ?_⟩
    intro p hp sp he
    rcases List.mem_cons.1 hp with rfl | hp
    · cases he
    · exact k3 p hp sp he
  | (i, .box s) :: l, R, R', ρ, h, hR => by
    simp only [renObjs] at h
    split at h
    · rename_i j hj
      split at h
      · rename_i c hc
        split at h
        · rename_i R1 h1
          obtain ⟨b, cc, el, q1, q2, q3, q4⟩ := hi.objs j _ hc
          obtain ⟨ρ1, a1, a2, a3⟩ := ren_atoms h1 q4 hR
          obtain ⟨ρ2, b1, b2, b3⟩ := ren_objs hi h a1
          refine ⟨ρ2, b1, a2.trans b2, ?_⟩
          intro p hp sp he
          rcases List.mem_cons.1 hp with rfl | hp
          · cases he
            refine ⟨j, c, ((a2.trans b2) i _ hj).1, hc, fun bl c' el' e1 e2 => ?_⟩
            rw [q1] at e1
            simp only [Value.pointer.injEq, Option.some.injEq, Addr.mk.injEq, and_true] at e1
            subst e1
            rw [q2] at e2
            simp only [Option.some.injEq, Go.Obj.cells.injEq] at e2
            obtain ⟨rfl, _⟩ := e2
            exact a3.mono fun _ _ => AtomR.ext b2
          · exact b3 p hp sp he
        · simp at h
      · simp at h
    · simp at h
end
end Go.Vm

/-
  A state laid into a shape: the leaves.
-/
namespace Go.Vm
section
variable {P : Program} {C : Ctx} {w0 : World} {M : Own} {N : Nat} {a : Act} {m : Mem} {s : St}

def Leaf (G : Heap) (sp : SpA) (b a' : Atom) : Prop := match sp with
  | .val τ => ∃ x, a' = .val τ x ∧ atomVal G τ b = some x
  | .u => a' = .u
  | .undef => a' = .undef ∧ b = .undef
  | .nils => a' = .nils ∧ b = .nils
  | .own i => a' = .own i
  | .ptr i o => a' = .ptr i o
  | .clo f c => a' = .clo f c ∧ b = .clo f c

def LeafL (G : Heap) : List SpA → List Atom → List Atom → Prop
  | [], _, as => as = []
  | x :: l, b :: bs, y :: as => Leaf G x b y ∧ LeafL G l bs as
  | _, _, _ => False

theorem ext_atom {G : Heap} {sp : SpA} {b : Atom} {r : Ty} {k : Option r.den} {y : (sp.tys r).den} (h : sp.ext G b r k = some y) : k = some (sp.inj r y).2 ∧ Leaf G sp b (sp.inj r y).1 := by
  cases sp with
  | val τ =>
    simp only [SpA.ext] at h
    split at h
    · rename_i x z hx
      have := Option.some.inj h
      subst this
      exact ⟨rfl, x, rfl, hx⟩
    · simp at h
  | u => exact ⟨h, rfl⟩
  | undef =>
    cases b <;> simp only [SpA.ext] at h <;> first | exact ⟨h, rfl, rfl⟩ | simp at h
  | nils =>
    cases b <;> simp only [SpA.ext] at h <;> first | exact ⟨h, rfl, rfl⟩ | simp at h
  | own i => exact ⟨h, rfl⟩
  | ptr i o => exact ⟨h, rfl⟩
  | clo f c =>
    cases b <;> simp only [SpA.ext] at h <;> try (simp at h; done)
    rename_i f' c'
    cases hc : (Nat.beq f f' && decide (c = c')) with
    | false => rw [hc] at h; simp at h
    | true =>
      rw [hc] at h
      simp only [Bool.and_eq_true, decide_eq_true_eq] at hc
      have := Nat.eq_of_beq_eq_true hc.1
      subst this
      obtain ⟨_, rfl⟩ := hc
      exact ⟨h, rfl, rfl⟩

theorem ext_atoms {G : Heap} : ∀ {l : List SpA} {bs : List Atom} {r : Ty} {k : Option r.den} {y : (SpA.tysL l r).den}, SpA.extL G l bs r k = some y → k = some (SpA.injL l r y).2 ∧ LeafL G l bs (SpA.injL l r y).1
  | [], _, _, _, _, h => ⟨h, rfl⟩
  | _ :: _, [], _, _, _, h => by simp [SpA.extL] at h
  | x :: l, b :: bs, r, k, y, h => by
    simp only [SpA.extL] at h
    obtain ⟨h1, h2⟩ := ext_atom h
    obtain ⟨h3, h4⟩ := ext_atoms h1
    exact ⟨h3, h2, h4⟩

def LeafS (G : Heap) (sp : SpS) (b v : SV) : Prop := match sp with
  | .av (.val τ) => ∃ x, v = .av (.val τ x) ∧ svVal G τ b = some x
  | .av .u => v = .av .u
  | .av x => ∃ b' a', b = .av b' ∧ v = .av a' ∧ Leaf G x b' a'
  | .agg l => ∃ bs as, b = .agg bs ∧ v = .agg as ∧ LeafL G l bs as

theorem ext_sv {G : Heap} {sp : SpS} {b : SV} {r : Ty} {k : Option r.den} {y : (sp.tys r).den} (h : sp.ext G b r k = some y) : k = some (sp.inj r y).2 ∧ LeafS G sp b (sp.inj r y).1 := by
  have atom {x : SpA} (hx : ∀ τ, x ≠ .val τ) (hu : x ≠ .u) {y : ((SpS.av x).tys r).den} (h : (SpS.av x).ext G b r k = some y) : ∃ b', b = .av b' ∧ x.ext G b' r k = some y := by
    cases x with
    | val τ => exact absurd rfl (hx τ)
    | u => exact absurd rfl hu
    | _ =>
      cases b with
      | av b' => exact ⟨b', rfl, h⟩
      | agg _ => simp [SpS.ext] at h
      | tup _ => simp [SpS.ext] at h
  cases sp with
  | av x =>
    cases x with
    | val τ =>
      unfold SpS.ext at h
      dsimp only at h
      split at h
      · rename_i z q hz
        have := Option.some.inj h
        subst this
        exact ⟨rfl, z, rfl, hz⟩
      · simp at h
    | u =>
      have h : k = some y := by cases b <;> exact h
      exact ⟨h, rfl⟩
    | undef => obtain ⟨b', rfl, h⟩ := atom (by simp) (by simp) h; obtain ⟨h1, h2⟩ := ext_atom (sp := .undef) h; exact ⟨h1, b', _, rfl, rfl, h2⟩
    | nils => obtain ⟨b', rfl, h⟩ := atom (by simp) (by simp) h; obtain ⟨h1, h2⟩ := ext_atom (sp := .nils) h; exact ⟨h1, b', _, rfl, rfl, h2⟩
    | own i => obtain ⟨b', rfl, h⟩ := atom (by simp) (by simp) h; obtain ⟨h1, h2⟩ := ext_atom (sp := .own i) h; exact ⟨h1, b', _, rfl, rfl, h2⟩
    | ptr i o => obtain ⟨b', rfl, h⟩ := atom (by simp) (by simp) h; obtain ⟨h1, h2⟩ := ext_atom (sp := .ptr i o) h; exact ⟨h1, b', _, rfl, rfl, h2⟩
    | clo f c => obtain ⟨b', rfl, h⟩ := atom (by simp) (by simp) h; obtain ⟨h1, h2⟩ := ext_atom (sp := .clo f c) h; exact ⟨h1, b', _, rfl, rfl, h2⟩
  | agg l =>
    cases b with
    | agg bs => obtain ⟨h1, h2⟩ := ext_atoms (l := l) h; exact ⟨h1, bs, _, rfl, rfl, h2⟩
    | av _ => simp [SpS.ext] at h
    | tup _ => simp [SpS.ext] at h

theorem ext_env {G : Heap} {e : Env} : ∀ {l : List (Nat × SpS)} {y : (envTys l).den}, extEnv G e l = some y → Rel2 (fun p q => p.1 = q.1 ∧ LeafS G p.2 (e.get p.1) q.2) l (injEnv l y)
  | [], _, _ => trivial
  | p :: l, y, h => by
    simp only [extEnv] at h
    obtain ⟨h1, h2⟩ := ext_sv h
    exact ⟨⟨rfl, h2⟩, ext_env h1⟩

def ObjR (G : Heap) (R : Ren) (i : Nat) (sp : SpO) (o : Obj) : Prop := match sp with
  | .arr τ => ∃ x, o = .arr τ x ∧ srcList G τ (R.get i) = some x
  | .box l => ∃ j c as, o = .box as ∧ R.get i = some (.own j) ∧ G.get j = some (.box c) ∧ LeafL G l c as

theorem ext_obj {G : Heap} {R : Ren} {i : Nat} {sp : SpO} {r : Ty} {k : Option r.den} {y : (sp.tys r).den} (h : sp.ext G R i r k = some y) : k = some (sp.inj r y).2 ∧ ObjR G R i sp (sp.inj r y).1 := by
  cases sp with
  | arr τ =>
    unfold SpO.ext at h
    dsimp only at h
    split at h
    · rename_i z q hz
      have := Option.some.inj h
      subst this
      exact ⟨rfl, z, rfl, hz⟩
    · simp at h
  | box l =>
    unfold SpO.ext at h
    dsimp only at h
    split at h
    · rename_i j hj
      split at h
      · rename_i c hc
        obtain ⟨h1, h2⟩ := ext_atoms (l := l) h
        exact ⟨h1, j, c, _, rfl, hj, hc, h2⟩
      · simp at h
    · simp at h

theorem ext_objs {G : Heap} {R : Ren} : ∀ {l : List (Nat × SpO)} {r : Ty} {k : Option r.den} {y : (objTys l r).den}, extObjs G R l r k = some y → k = some (injObjs l r y).2 ∧ Rel2 (fun p q => p.1 = q.1 ∧ ObjR G R p.1 p.2 q.2) l (injObjs l r y).1
  | [], _, _, _, h => ⟨h, trivial⟩
  | p :: l, r, k, y, h => by
    simp only [extObjs] at h
    obtain ⟨h1, h2⟩ := ext_obj h
    obtain ⟨h3, h4⟩ := ext_objs h1
    exact ⟨h3, ⟨rfl, h2⟩, h4⟩

theorem rel_get {l : List (Nat × SpO)} {G : Heap} {r : Nat → SpO → Obj → Prop} (h : Rel2 (fun p q => p.1 = q.1 ∧ r p.1 p.2 q.2) l G) : ∀ {i : Nat} {o : Obj}, G.get i = some o → ∃ sp, (i, sp) ∈ l ∧ r i sp o := by
  induction l generalizing G with
  | nil => cases G with
    | nil => intro i o h; simp [Heap.get] at h
    | cons _ _ => exact h.elim
  | cons p l ih => cases G with
    | nil => exact h.elim
    | cons q G =>
      obtain ⟨k, v⟩ := q
      obtain ⟨⟨h1, h2⟩, h3⟩ := h
      intro i o hg
      rw [Heap.get_cons] at hg
      split at hg
      · rename_i e
        simp only [Option.some.injEq] at hg
        subst hg
        subst e
        simp only at h1
        exact ⟨p.2, by simp [← h1], h1 ▸ h2⟩
      · obtain ⟨sp, a1, a2⟩ := ih h3 hg
        exact ⟨sp, by simp [a1], a2⟩

theorem rel_has {l : List (Nat × SpO)} {G : Heap} {r : Nat → SpO → Obj → Prop} (h : Rel2 (fun p q => p.1 = q.1 ∧ r p.1 p.2 q.2) l G) (hn : nodupB (l.map (·.1)) = true) : ∀ {i : Nat} {sp : SpO}, (i, sp) ∈ l → ∃ o, G.get i = some o ∧ r i sp o := by
  induction l generalizing G with
  | nil => intro i sp h; simp at h
  | cons p l ih => cases G with
    | nil => exact h.elim
    | cons q G =>
      obtain ⟨k, v⟩ := q
      obtain ⟨⟨h1, h2⟩, h3⟩ := h
      simp only [List.map_cons] at hn
      obtain ⟨n1, n2⟩ := nodupB_cons hn
      intro i sp hm
      rcases List.mem_cons.1 hm with e | hm
      · subst e
        simp only at h1 h2
        exact ⟨v, by rw [Heap.get_cons, if_pos h1.symm], h2⟩
      · obtain ⟨o, a1, a2⟩ := ih h3 n2 hm
        refine ⟨o, ?_, a2⟩
        rw [Heap.get_cons, if_neg]
        · exact a1
        · intro e
          simp only at h1
          rw [← h1] at e
          exact n1 (by rw [e]; exact List.mem_map.2 ⟨_, hm, rfl⟩)

theorem rel_env {l : List (Nat × SpS)} {e : Env} {r : Nat → SpS → SV → Prop} (h : Rel2 (fun p q => p.1 = q.1 ∧ r p.1 p.2 q.2) l e) (t : Nat) : e.get t = .av .u ∨ ∃ sp, (t, sp) ∈ l ∧ r t sp (e.get t) := by
  induction l generalizing e with
  | nil => cases e with
    | nil => exact .inl rfl
    | cons _ _ => exact h.elim
  | cons p l ih => cases e with
    | nil => exact h.elim
    | cons q e =>
      obtain ⟨k, v⟩ := q
      obtain ⟨⟨h1, h2⟩, h3⟩ := h
      rw [Env.get_cons]
      split
      · rename_i ek
        subst ek
        simp only at h1
        exact .inr ⟨p.2, by simp [← h1], h1 ▸ h2⟩
      · rcases ih h3 with h | ⟨sp, a1, a2⟩
        · exact .inl h
        · exact .inr ⟨sp, by simp [a1], a2⟩

theorem Rel2.mono_mem {α β : Type} {r s : α → β → Prop} : ∀ {l : List α} {k : List β}, (∀ a b, b ∈ k → r a b → s a b) → Rel2 r l k → Rel2 s l k
  | [], [], _, _ => trivial
  | [], _ :: _, _, h => h.elim
  | _ :: _, [], _, h => h.elim
  | _ :: _, _ :: _, hr, h => ⟨hr _ _ (by simp) h.1, Rel2.mono_mem (fun a b hb => hr a b (by simp [hb])) h.2⟩

/-- What is known of the new memory. -/
structure Laid (m m' : Mem) (R : Ren) (ρ : Nat → Value) (objs : List (Nat × SpO)) : Prop where
  w : m'.w = m.w
  F : ∀ b, m.F b → m'.F b
  thru : ∀ id b, id ∉ R.ids → Blk m id b → m'.F b
  ren : RenOK m R ρ
  ι : ∀ i, m'.ι i = match R.get i with | some (.own j) => m.ι j | _ => ρ i
  has : ∀ i sp, (i, sp) ∈ objs → ∃ o, m'.G.get i = some o ∧ ObjR m.G R i sp o

theorem spHas_mem {box : Bool} {i : Nat} {l : List (Nat × SpO)} (h : spHas box i l = true) : ∃ sp, (i, sp) ∈ l ∧ sp.isBox = box := by
  unfold spHas at h
  rw [List.any_eq_true] at h
  obtain ⟨p, hp, hh⟩ := h
  simp only [Bool.and_eq_true, beq_iff_eq] at hh
  have := Nat.eq_of_beq_eq_true hh.1
  subst this
  exact ⟨p.2, hp, hh.2⟩

variable {m' : Mem} {R : Ren} {ρ : Nat → Value} {objs : List (Nat × SpO)}

theorem Laid.arr (h : Laid m m' R ρ objs) {i : Nat} (hw : spHas false i objs = true) : ∃ τ x, m'.G.get i = some (.arr τ x) ∧ srcList m.G τ (R.get i) = some x := by
  obtain ⟨sp, h1, h2⟩ := spHas_mem hw
  obtain ⟨o, h3, h4⟩ := h.has i sp h1
  cases sp with
  | arr τ => obtain ⟨x, rfl, h5⟩ := h4; exact ⟨τ, x, h3, h5⟩
  | box _ => simp [SpO.isBox] at h2

theorem Laid.box (h : Laid m m' R ρ objs) {i : Nat} (hw : spHas true i objs = true) : ∃ as j c, m'.G.get i = some (.box as) ∧ R.get i = some (.own j) ∧ m.G.get j = some (.box c) := by
  obtain ⟨sp, h1, h2⟩ := spHas_mem hw
  obtain ⟨o, h3, h4⟩ := h.has i sp h1
  cases sp with
  | arr τ => simp [SpO.isBox] at h2
  | box l => obtain ⟨j, c, as, rfl, h5, h6, _⟩ := h4; exact ⟨as, j, c, h3, h5, h6⟩

theorem Laid.thruIds (h : Laid m m' R ρ objs) {ids : List Nat} (hn : ∀ i ∈ ids, i ∉ R.ids) {b : Nat} (hb : Thru m ids b) : m'.F b := by
  rcases hb with hb | ⟨id, hid, hb⟩
  · exact h.F b hb
  · exact h.thru id b (hn id hid) hb

theorem leaf_rel (hi : Inv C w0 M m) (h : Laid m m' R ρ objs) {u : Value} {b a' : Atom} {sp : SpA} (hl : Leaf m.G sp b a') (hr : RelAtom m u b) (hA : AtomR m R ρ u sp) (hw : sp.wf objs = true) (hf : ∀ i ∈ sp.froz b, i ∉ R.ids) : RelAtom m' u a' := by
  cases sp with
  | val τ =>
    obtain ⟨x, rfl, hx⟩ := hl
    refine ⟨(atomVal_rd hi hx hr).mono fun bl hb => ⟨h.thruIds hf hb, by rw [h.w]⟩, ?_⟩
    simpa [SpA.wf] using hw
  | u => obtain rfl := hl; trivial
  | undef => obtain ⟨rfl, rfl⟩ := hl; exact hr
  | nils => obtain ⟨rfl, rfl⟩ := hl; exact hr
  | own i =>
    obtain rfl := hl
    obtain ⟨τ, x, h1, h2⟩ := h.arr hw
    obtain ⟨h3, src, h4, h5⟩ := hA
    refine ⟨h3, _, h1, fun _ => ?_⟩
    rw [h.ι i, h4]
    rw [h4] at h2
    have hreal := h.ren i src h4
    cases src with
    | nil =>
      rcases h5 with h5 | ⟨j, h5, _⟩
      · exact h5
      · cases h5
    | own j =>
      have hal : Alive m j := by
        simp only [srcList] at h2
        split at h2
        · rename_i σ l hg; exact ⟨_, hg, rfl⟩
        · simp at h2
      rcases h5 with h5 | ⟨j', h5, h6⟩
      · rw [h5]; exact hreal hal
      · cases h5; exact absurd hal h6
    | view j o n =>
      rcases h5 with h5 | ⟨j', h5, _⟩
      · exact h5
      · cases h5
  | ptr i o =>
    obtain rfl := hl
    obtain ⟨as, j, c, h1, h2, h3⟩ := h.box hw
    obtain ⟨j', h4, h5, o', h6, h7⟩ := hA
    rw [h2] at h4
    simp only [Option.some.injEq, Src.own.injEq] at h4
    subst h4
    rw [h3] at h6
    simp only [Option.some.injEq] at h6
    subst h6
    refine ⟨h5, _, h1, ?_⟩
    rw [h.ι i, h2]
    exact h7
  | clo f c =>
    obtain ⟨rfl, rfl⟩ := hl
    obtain ⟨vs, h1, h2⟩ := hr
    refine ⟨vs, h1, Rel2.mono_mem ?_ h2⟩
    rintro v i hic ⟨o, h3, h4⟩
    have hwi : spHas true i objs = true := by
      simp only [SpA.wf, List.all_eq_true] at hw
      exact hw i hic
    obtain ⟨as, j, c', k1, k2, k3⟩ := h.box hwi
    have hRi := hA i hic
    rw [k2] at hRi
    simp only [Option.some.injEq, Src.own.injEq] at hRi
    subst hRi
    rw [k3] at h3
    simp only [Option.some.injEq] at h3
    subst h3
    refine ⟨_, k1, ?_⟩
    rw [h.ι, k2]
    exact h4

theorem leafs_rel (hi : Inv C w0 M m) (h : Laid m m' R ρ objs) : ∀ {us : List Value} {bs as : List Atom} {l : List SpA}, LeafL m.G l bs as → Rel2 (RelAtom m) us bs → Rel2 (AtomR m R ρ) us l → (l.all fun x => x.wf objs) = true → (∀ i ∈ SpA.frozL l bs, i ∉ R.ids) → Rel2 (RelAtom m') us as
  | [], bs, as, [], hl, _, _, _, _ => by unfold LeafL at hl; subst hl; trivial
  | [], _, _, _ :: _, _, _, h, _, _ => h.elim
  | _ :: _, _, _, [], _, _, h, _, _ => h.elim
  | _ :: _, [], _, _ :: _, _, h, _, _, _ => h.elim
  | _ :: _, _ :: _, [], _ :: _, h, _, _, _, _ => h.elim
  | u :: us, b :: bs, y :: as, x :: l, hl, hr, hA, hw, hf => by
    simp only [List.all_cons, Bool.and_eq_true] at hw
    exact ⟨leaf_rel hi h hl.1 hr.1 hA.1 hw.1 (fun i hi' => hf i (by simp [SpA.frozL, hi'])), leafs_rel hi h hl.2 hr.2 hA.2 hw.2 (fun i hi' => hf i (by simp [SpA.frozL, hi']))⟩

theorem leafS_rel (hi : Inv C w0 M m) (h : Laid m m' R ρ objs) {u : Value} {b v : SV} {sp : SpS} (hl : LeafS m.G sp b v) (hr : RelSV m u b) (hA : SvR m R ρ u sp) (hw : sp.wf objs = true) (hf : ∀ i ∈ sp.froz m.G b, i ∉ R.ids) : RelSV m' u v := by
  have atom {x : SpA} {b' a' : Atom} (hv : ∀ τ, x ≠ .val τ) (hl : Leaf m.G x b' a') (hr : RelSV m u (.av b')) (hA : AtomR m R ρ u x) (hw : x.wf objs = true) : RelSV m' u (.av a') := by
    have hnv : x ≠ .u → ∀ τ y, b' = .val τ y → ∃ i, x = .own i ∨ ∃ o, x = .ptr i o := by
      intro hu τ y e
      subst e
      cases x with
      | val τ => exact absurd rfl (hv τ)
      | u => exact absurd rfl hu
      | undef => obtain ⟨_, h⟩ := hl; cases h
      | nils => obtain ⟨_, h⟩ := hl; cases h
      | own i => exact ⟨i, .inl rfl⟩
      | ptr i o => exact ⟨i, .inr ⟨o, rfl⟩⟩
      | clo f c => obtain ⟨_, h⟩ := hl; cases h
    refine RelSV.of_atom ?_
    have hfz : ∀ b' : Atom, ∀ i ∈ x.froz b', i ∉ R.ids := by
      intro b' i hi'
      cases x with
      | val τ => exact absurd rfl (hv τ)
      | _ => simp [SpA.froz] at hi'
    by_cases hval : ∃ τ y, b' = .val τ y
    · obtain ⟨τ, y, rfl⟩ := hval
      cases x with
      | val τ => exact absurd rfl (hv τ)
      | u => obtain rfl := hl; trivial
      | undef => obtain ⟨_, h⟩ := hl; cases h
      | nils => obtain ⟨_, h⟩ := hl; cases h
      | clo f c => obtain ⟨_, h⟩ := hl; cases h
      | own i => exact leaf_rel hi h (b := .u) hl trivial hA hw (hfz _)
      | ptr i o => exact leaf_rel hi h (b := .u) hl trivial hA hw (hfz _)
    · exact leaf_rel hi h hl ((relSV_at (fun τ y e => hval ⟨τ, y, e⟩)).1 hr) hA hw (hfz _)
  cases sp with
  | av x =>
    cases x with
    | val τ =>
      obtain ⟨x, rfl, hx⟩ := hl
      obtain ⟨cs, h1, h2⟩ := svVal_rd hi hx hr
      exact ⟨cs, h1, h2.mono fun bl hb => ⟨h.thruIds hf hb, by rw [h.w]⟩⟩
    | u => obtain rfl := hl; trivial
    | undef => obtain ⟨b', a', rfl, rfl, hl⟩ := hl; exact atom (x := .undef) (by simp) hl hr hA hw
    | nils => obtain ⟨b', a', rfl, rfl, hl⟩ := hl; exact atom (x := .nils) (by simp) hl hr hA hw
    | own i => obtain ⟨b', a', rfl, rfl, hl⟩ := hl; exact atom (x := .own i) (by simp) hl hr hA hw
    | ptr i o => obtain ⟨b', a', rfl, rfl, hl⟩ := hl; exact atom (x := .ptr i o) (by simp) hl hr hA hw
    | clo f c => obtain ⟨b', a', rfl, rfl, hl⟩ := hl; exact atom (x := .clo f c) (by simp) hl hr hA hw
  | agg l =>
    obtain ⟨bs, as, rfl, rfl, hl⟩ := hl
    obtain ⟨us, h1, h2, h3⟩ := hr
    obtain ⟨us', h1', h2', h3'⟩ := hA
    have : us = us' := by
      rw [h1] at h1'
      simpa using h1'
    subst this
    exact ⟨us, h1, h2, leafs_rel hi h hl h3 h3' hw hf⟩
end
end Go.Vm

/-
  A state laid into a shape: the whole.
-/
namespace Go.Vm
section
variable {P : Program} {C : Ctx} {w0 : World} {M : Own} {N : Nat} {a : Act} {m : Mem} {s : St}

theorem froz_env {G : Heap} {e : Env} {l : List (Nat × SpS)} {p : Nat × SpS} (hp : p ∈ l) : ∀ i ∈ p.2.froz G (e.get p.1), i ∈ frozEnv G e l := by
  induction l with
  | nil => cases hp
  | cons q l ih =>
    intro i hi
    simp only [frozEnv, List.mem_append]
    rcases List.mem_cons.1 hp with rfl | hp
    · exact .inl hi
    · exact .inr (ih hp i hi)

theorem froz_objs {G : Heap} {R : Ren} {l : List (Nat × SpO)} {i j : Nat} {sl : List SpA} {c : List Atom} (hp : (i, SpO.box sl) ∈ l) (hj : R.get i = some (.own j)) (hc : G.get j = some (.box c)) : ∀ k ∈ SpA.frozL sl c, k ∈ frozObjs G R l := by
  induction l with
  | nil => cases hp
  | cons q l ih =>
    intro k hk
    rcases List.mem_cons.1 hp with rfl | hp'
    · simp only [frozObjs, hj, hc, List.mem_append]
      exact .inl hk
    · obtain ⟨i', sp⟩ := q
      cases sp with
      | arr τ => exact ih hp' k hk
      | box s => simp only [frozObjs, List.mem_append]; exact .inr (ih hp' k hk)

theorem Heap.key_of_get {G : Heap} : ∀ {i : Nat} {o : Obj}, G.get i = some o → i ∈ G.map (·.1) := by
  induction G with
  | nil => intro i o h; simp [Heap.get] at h
  | cons p r ih =>
    intro i o h
    obtain ⟨k, v⟩ := p
    rw [Heap.get_cons] at h
    split at h
    · rename_i e; simp [e]
    · simp only [List.map_cons, List.mem_cons]; exact .inr (ih h)

theorem Ren.mem_of_get {R : Ren} : ∀ {i : Nat} {src : Src}, R.get i = some src → (i, src) ∈ R := by
  induction R with
  | nil => intro i src h; simp [Ren.get] at h
  | cons p r ih =>
    intro i src h
    obtain ⟨k, v⟩ := p
    rw [Ren.get_cons] at h
    split at h
    · rename_i e; simp only [Option.some.injEq] at h; subst h; subst e; simp
    · simp [ih h]

theorem ids_of_get {R : Ren} {i j : Nat} {src : Src} (h : R.get i = some src) (hj : j ∈ src.ids) : j ∈ R.ids := by
  unfold Ren.ids
  rw [List.mem_flatMap]
  exact ⟨_, Ren.mem_of_get h, hj⟩

theorem ids_inj {R : Ren} (hn : nodupB R.ids = true) : ∀ {i i' j : Nat} {src src' : Src}, R.get i = some src → R.get i' = some src' → j ∈ src.ids → j ∈ src'.ids → i = i' := by
  induction R with
  | nil => intro i i' j src src' h; simp [Ren.get] at h
  | cons p r ih =>
    intro i i' j src src' h h' hj hj'
    obtain ⟨k, v⟩ := p
    have hn' : nodupB (Ren.ids r) = true ∧ ∀ x ∈ v.ids, x ∉ Ren.ids r := by
      have e : Ren.ids ((k, v) :: r) = v.ids ++ Ren.ids r := rfl
      rw [e] at hn
      cases v with
      | nil => exact ⟨hn, by simp [Src.ids]⟩
      | own q => obtain ⟨n1, n2⟩ := nodupB_cons hn; exact ⟨n2, by intro x hx; simp [Src.ids] at hx; subst hx; exact n1⟩
      | view q _ _ => obtain ⟨n1, n2⟩ := nodupB_cons hn; exact ⟨n2, by intro x hx; simp [Src.ids] at hx; subst hx; exact n1⟩
    rw [Ren.get_cons] at h h'
    split at h <;> split at h'
    · omega
    · simp only [Option.some.injEq] at h
      subst h
      exact absurd (ids_of_get h' hj') (hn'.2 j hj)
    · simp only [Option.some.injEq] at h'
      subst h'
      exact absurd (ids_of_get h hj) (hn'.2 j hj')
    · exact ih hn'.1 h h' hj hj'

theorem ext_sim (hs : Sim C w0 M N a m s.env) (hG : m.G = s.G) {sh : Shape} {x : sh.ty.den} (hp : ∀ i v, M.pin i = some v → i ∈ sh.pins) (h : sh.ext s = some x) : ∃ m', m'.w = m.w ∧ m'.G = (sh.inj x).G ∧ Sim C w0 M N a m' (sh.inj x).env := by
  unfold Shape.ext at h
  split at h
  · simp at h
  · rename_i R0 hR0
    split at h
    · simp at h
    · rename_i R hR
      cases hc : (sh.wf && pinned R sh.pins && nodupB R.ids && !(R.ids.any fun i => ((frozEnv s.G s.env sh.env) ++ (frozObjs s.G R sh.objs)).any fun j => Nat.beq i j) && (sh.objs.all fun p => (R.get p.1).isSome)) with
      | false => rw [hc] at h; simp at h
      | true =>
        rw [hc] at h
        simp only [cond_true] at h
        simp only [Bool.and_eq_true, Bool.not_eq_true'] at hc
        obtain ⟨⟨⟨⟨hwf, hpin⟩, hnd⟩, hfz⟩, hall⟩ := hc
        simp only [Shape.wf, Bool.and_eq_true] at hwf
        obtain ⟨⟨⟨wf0, wf1⟩, wf2⟩, wf3⟩ := hwf
        have hfz' : ∀ i, i ∈ frozEnv s.G s.env sh.env ++ frozObjs s.G R sh.objs → i ∉ R.ids := by
          intro i hi hi'
          rw [List.any_eq_false] at hfz
          have := hfz i hi'
          exact this (any_beq.2 hi)
        obtain ⟨ρ0, b1, b2, b3⟩ := ren_env (m := m) (e := s.env) (t := fun i => a.tmps.getD i undef) hs.env (R := []) (ρ := fun _ => undef) hR0 (by intro i src hi; simp [Ren.get] at hi)
        rw [← hG] at hR
        obtain ⟨ρ, c1, c2, c3⟩ := ren_objs hs.inv hR b1
        obtain ⟨k, hk⟩ : ∃ k, k = (injObjs sh.objs (envTys sh.env) x) := ⟨_, rfl⟩
        obtain ⟨e1, e2⟩ := ext_objs h
        have e3 := ext_env e1
        rw [← hk] at e1 e2 e3
        rw [← hG] at e1 e2 e3
        -- what is not kept is given up
        obtain ⟨others, hoth⟩ : ∃ others, others = (m.G.map (·.1)).filter fun i => !(R.ids.any fun j => Nat.beq i j) := ⟨_, rfl⟩
        obtain ⟨m1, d1, d2, d3, d4, d5, d6⟩ := step_kills others hs.inv
        have hother : ∀ i, Alive m i → i ∉ R.ids → i ∈ others := by
          rintro i ⟨o, ho, _⟩ hi
          rw [hoth, List.mem_filter]
          refine ⟨Heap.key_of_get ho, ?_⟩
          simp only [Bool.not_eq_true']
          cases hb : (R.ids.any fun j => Nat.beq i j) with
          | false => rfl
          | true => exact absurd (any_beq.1 hb) hi
        have hnot : ∀ i ∈ R.ids, i ∉ others := by
          intro i hi hi'
          rw [hoth, List.mem_filter] at hi'
          have := hi'.2
          rw [any_beq.2 hi] at this
          simp at this
        let m' : Mem := ⟨m.w, m1.F, fun i => match R.get i with | some (.own j) => m.ι j | _ => ρ i, k.1⟩
        have hL : Laid m m' R ρ sh.objs := by
          refine ⟨rfl, fun b hb => d6 b (.inl hb), fun id b hid hb => d6 b (.inr ⟨id, hother id ?_ hid, hb⟩), c1, fun i => rfl, fun i sp hm => ?_⟩
          · obtain ⟨o, h1, h2, _⟩ := hb; exact ⟨o, h1, h2⟩
          · exact rel_has (r := fun i sp o => ObjR m.G R i sp o) e2 wf3 hm
        -- where an object's block comes from
        have hsrc : ∀ i o, k.1.get i = some o → isObj o = true → ∀ b, hdrBlk (m'.ι i) = some b → ∃ src j o', R.get i = some src ∧ j ∈ src.ids ∧ m.G.get j = some o' ∧ isObj o' = true ∧ hdrBlk (m.ι j) = some b := by
          intro i o ho hob b hb
          obtain ⟨sp, hm, hobj⟩ := rel_get (r := fun i sp o => ObjR m.G R i sp o) e2 ho
          cases sp with
          | box l =>
            obtain ⟨j, c, as, rfl, h1, h2, _⟩ := hobj
            have e : m'.ι i = m.ι j := by show (match R.get i with | some (.own j) => m.ι j | _ => ρ i) = _; rw [h1]
            exact ⟨_, j, _, h1, by simp [Src.ids], h2, rfl, by rw [← e]; exact hb⟩
          | arr τ =>
            obtain ⟨y, rfl, h1⟩ := hobj
            cases hsr : R.get i with
            | none => rw [hsr] at h1; simp [srcList] at h1
            | some src =>
              rw [hsr] at h1
              have hreal := c1 i src hsr
              cases src with
              | nil =>
                have e : m'.ι i = ρ i := by show (match R.get i with | some (.own j) => m.ι j | _ => ρ i) = _; rw [hsr]
                obtain ⟨ad, hr⟩ := hreal
                rw [e, hr] at hb
                cases ad <;> simp [hdrBlk] at hb
              | own j =>
                have e : m'.ι i = m.ι j := by show (match R.get i with | some (.own j) => m.ι j | _ => ρ i) = _; rw [hsr]
                simp only [srcList] at h1
                split at h1
                · rename_i σ l hg
                  exact ⟨_, j, _, rfl, by simp [Src.ids], hg, rfl, by rw [← e]; exact hb⟩
                · simp at h1
              | view j o n =>
                have e : m'.ι i = ρ i := by show (match R.get i with | some (.own j) => m.ι j | _ => ρ i) = _; rw [hsr]
                have hbase : baseOf ⟨[], m.G⟩ τ (.av (.view j o n)) = some (y, [j]) := by
                  simp only [srcList] at h1
                  split at h1
                  · rename_i σ l hg
                    obtain ⟨he, hx⟩ := castTo_some h1
                    cases he
                    subst hx
                    simp [baseOf, hg, castTo]
                  · simp at h1
                obtain ⟨_, h3⟩ := base_rel (s := ⟨[], m.G⟩) hs.inv rfl hbase (show RelSV m (ρ i) (.av (.view j o n)) from hreal)
                rcases h3 with ⟨h3, _⟩ | ⟨id, o', h3, h4, h5, h6⟩
                · cases h3
                · simp only [List.cons.injEq, and_true] at h3
                  subst h3
                  rw [e] at hb
                  refine ⟨_, j, o', rfl, by simp [Src.ids], h4, h5, ?_⟩
                  rcases h6 with h6 | ⟨ad, n', h6⟩
                  · rw [← h6]; exact hb
                  · rw [h6] at hb; cases ad <;> simp [hdrBlk] at hb
        have hF : ∀ b, m.F b → m'.F b ∧ m'.w.heap[b]? = m.w.heap[b]? := fun b hb => ⟨hL.F b hb, rfl⟩
        have hinv : Inv C w0 M m' := by
          refine ⟨hs.inv.kept, ?_, ?_, ?_, ?_, fun g τ x hg => (hs.inv.glob g τ x hg).mono hF, d4.bnd, fun i v hv => ?_⟩
          · intro i o ho
            obtain ⟨sp, hm, hobj⟩ := rel_get (r := fun i sp o => ObjR m.G R i sp o) e2 ho
            cases sp with
            | box l =>
              obtain ⟨j, c, as, rfl, h1, h2, h3⟩ := hobj
              obtain ⟨bl, cc, el, q1, q2, q3, q4⟩ := hs.inv.objs j _ h2
              obtain ⟨j', b', r1, r2, r3⟩ := c3 _ hm l rfl
              simp only at r1
              rw [h1] at r1
              simp only [Option.some.injEq, Src.own.injEq] at r1
              subst r1
              have hwl : (l.all fun y => y.wf sh.objs) = true := by
                rw [List.all_eq_true] at wf2
                exact wf2 _ hm
              have e : m'.ι i = m.ι j := by show (match R.get i with | some (.own j) => m.ι j | _ => ρ i) = _; rw [h1]
              refine ⟨bl, cc, el, by rw [e, q1], q2, q3, leafs_rel hs.inv hL h3 q4 (r3 bl cc el q1 q2) hwl (fun z hz => hfz' z ?_)⟩
              rw [List.mem_append]
              rw [← hG]
              exact .inr (froz_objs hm h1 h2 z hz)
            | arr τ =>
              obtain ⟨y, rfl, h1⟩ := hobj
              cases hsr : R.get i with
              | none => rw [hsr] at h1; simp [srcList] at h1
              | some src =>
                rw [hsr] at h1
                have hreal := c1 i src hsr
                cases src with
                | nil =>
                  have e : m'.ι i = ρ i := by show (match R.get i with | some (.own j) => m.ι j | _ => ρ i) = _; rw [hsr]
                  obtain ⟨ad, hr⟩ := hreal
                  simp only [srcList, Option.some.injEq] at h1
                  subst h1
                  exact ⟨ad, 0, by rw [e, hr]; rfl, by simp, by unfold maxLen; omega, fun h => absurd rfl h⟩
                | own j =>
                  have e : m'.ι i = m.ι j := by show (match R.get i with | some (.own j) => m.ι j | _ => ρ i) = _; rw [hsr]
                  simp only [srcList] at h1
                  split at h1
                  · rename_i σ l hg
                    obtain ⟨he, hx⟩ := castTo_some h1
                    cases he
                    subst hx
                    obtain ⟨ad, cap, q1, q2, q3, q4⟩ := hs.inv.objs j _ hg
                    refine ⟨ad, cap, by rw [e, q1], q2, q3, fun hc => ?_⟩
                    obtain ⟨b, off, c, el, fz, p1, p2, p3, p4, p5⟩ := q4 hc
                    exact ⟨b, off, c, el, fz, p1, p2, p3, p4, fun z hz => (p5 z hz).mono hF⟩
                  · simp at h1
                | view j o n =>
                  have e : m'.ι i = ρ i := by show (match R.get i with | some (.own j) => m.ι j | _ => ρ i) = _; rw [hsr]
                  have hbase : baseOf ⟨[], m.G⟩ τ (.av (.view j o n)) = some (y, [j]) := by
                    simp only [srcList] at h1
                    split at h1
                    · rename_i σ l hg
                      obtain ⟨he, hx⟩ := castTo_some h1
                      cases he
                      subst hx
                      simp [baseOf, hg, castTo]
                    · simp at h1
                  obtain ⟨⟨ad, cap, q1, q2, q3, q4⟩, _⟩ := base_rel (s := ⟨[], m.G⟩) hs.inv rfl hbase (show RelSV m (ρ i) (.av (.view j o n)) from hreal)
                  refine ⟨ad, cap, by rw [e, q1], q2, q3, fun hc => ?_⟩
                  obtain ⟨b, off, c, el, fz, p1, p2, p3, p4, p5⟩ := q4 hc
                  exact ⟨b, off, c, el, fz, p1, p2, p3, p4, fun z hz => (p5 z hz).mono hF⟩
          · intro i o b ho hob hb
            obtain ⟨src, j, o', h1, h2, h3, h4, h5⟩ := hsrc i o ho hob b hb
            obtain ⟨k1, k2, k3⟩ := hs.inv.own j o' b h3 h4 h5
            have hj := hnot j (ids_of_get h1 h2)
            have := d4.own j o' b (by rw [d3, killIds_get others _ j hj]; exact h3) h4 (by rw [d2]; exact h5)
            exact ⟨k1, this.2.1, k3⟩
          · intro i i' p q b hp hop hq hoq h1 h2
            obtain ⟨src, j, o1, r1, r2, r3, r4, r5⟩ := hsrc i p hp hop b h1
            obtain ⟨src', j', o2, s1, s2, s3, s4, s5⟩ := hsrc i' q hq hoq b h2
            have := hs.inv.inj j j' o1 o2 b r3 r4 s3 s4 r5 s5
            subst this
            exact ids_inj hnd r1 s1 r2 s2
          · intro b hb
            have := d4.fro b hb
            rw [d1] at this
            exact this
          · have hip := hp i v hv
            rw [List.all_eq_true] at wf0
            obtain ⟨τ, y, k1, _⟩ := hL.arr (wf0 i hip)
            refine ⟨_, k1, fun _ => ?_⟩
            unfold pinned at hpin
            rw [List.all_eq_true] at hpin
            have hq := hpin i hip
            split at hq
            · rename_i j hj
              have := Nat.eq_of_beq_eq_true hq
              subst this
              have e : m'.ι i = m.ι i := by show (match R.get i with | some (.own j) => m.ι j | _ => ρ i) = _; rw [hj]
              rw [e]
              obtain ⟨o, h1, h2⟩ := hs.inv.pin i v hv
              refine h2 ?_
              obtain ⟨τ, y, _, h4⟩ := hL.arr (wf0 i hip)
              rw [hj] at h4
              simp only [srcList] at h4
              rw [h1] at h4
              cases o <;> first | rfl | simp at h4
            · simp at hq
        refine ⟨m', rfl, by show k.1 = _; rw [hk]; rfl, hinv, hs.defers, hs.size, fun t => ?_⟩
        have henv : (sh.inj x).env = injEnv sh.env k.2 := by rw [hk]; rfl
        rw [henv]
        rcases rel_env (r := fun i sp v => LeafS m.G sp (s.env.get i) v) e3 t with h0 | ⟨sp, hm, hl⟩
        · rw [h0]; trivial
        · have hwl : sp.wf sh.objs = true := by
            rw [List.all_eq_true] at wf1
            exact wf1 _ hm
          refine leafS_rel hs.inv hL hl (hs.env t) ((b3 _ hm).ext c2) hwl (fun z hz => hfz' z ?_)
          rw [List.mem_append]
          rw [← hG]
          exact .inl (froz_env hm z hz)
end
end Go.Vm

/-
  A body of code.
-/
namespace Go.Vm

def loopsIn : Code → List Code
  | .seq a b => loopsIn a ++ loopsIn b
  | .cond _ a b => loopsIn a ++ loopsIn b
  | .block _ c => loopsIn c
  | .loop c => c :: loopsIn c
  | _ => []

def regionDst (N : Nat) (ops : List Oper) : Bool := ops.all fun o => match o.dst with | some d => Nat.blt d N | none => true
def dstOK (N : Nat) : Code → Bool
  | .region _ ops _ => regionDst N ops.toList
  | .seq a b => dstOK N a && dstOK N b
  | .cond _ a b => dstOK N a && dstOK N b
  | .block _ c => dstOK N c
  | .loop c => dstOK N c
  | _ => true

def LoopsOK (C : Ctx) (A : Anns) (l : List Code) : Prop := ∀ c ∈ l, ∀ ann, A.get (loopKey c) = some ann → ∀ x y, ann.fn x = some y → Rounds (round C A ann c) x y

def exitOf : Ex → Exit
  | .normal => .normal
  | .exit i => .exit i
  | .ret => .ret

/-- What is said of a region whose operations stand in no fixed order. -/
def DrawOK (P : Program) : Prop := ∀ (C : Ctx) (w0 : World) (M : Own) (N : Nat) (a : Act) (m : Mem) (s : St) (R : Type) (res : R) (K : St → Option R) (id : Nat) (ops : Array Oper) (Q : Exit → Act → World → Prop),
  CtxOK P C → Sim C w0 M N a m s.env → m.G = s.G → regionDst N ops.toList = true → runDraw C ops.toList s K = some res →
  (∀ s' a' m', K s' = some res → m'.G = s'.G → Sim C w0 M N a' m' s'.env → Q .normal a' m'.w) → (Code.region id ops true).wp P Q a m.w

section
variable {P : Program} {C : Ctx} {w0 : World} {M : Own} {N : Nat} {A : Anns}

theorem same_eq {e e' : Ex} (h : Ex.same e e' = true) : e = e' := by
  unfold Ex.same at h
  split at h
  · rfl
  · rw [Nat.eq_of_beq_eq_true h]
  · rfl
  · simp at h

theorem findExit_some : ∀ {l : List (Ex × Shape)} {e : Ex} {s : St} {y : exitTy l}, findExit l e s = some y → ∃ (sh : Shape) (z : sh.ty.den), (∃ e', (e', sh) ∈ l) ∧ sh.ext s = some z ∧ ∀ {R : Type} (K : Ex → St → Option R), goExits K l y = K e (sh.inj z)
  | [], _, _, _, h => by simp [findExit] at h
  | p :: l, e, s, y, h => by
    simp only [findExit] at h
    cases hs : Ex.same p.1 e with
    | true =>
      rw [hs] at h
      simp only [cond_true] at h
      obtain ⟨z, hz, h⟩ := Option.bind_eq_some_iff.1 h
      simp only [Option.some.injEq] at h
      subst h
      exact ⟨p.2, z, ⟨p.1, by simp⟩, hz, fun K => by simp [goExits, same_eq hs]⟩
    | false =>
      rw [hs] at h
      simp only [cond_false] at h
      obtain ⟨z, hz, h⟩ := Option.bind_eq_some_iff.1 h
      simp only [Option.some.injEq] at h
      subst h
      obtain ⟨sh, z', ⟨e', h0⟩, h1, h2⟩ := findExit_some hz
      exact ⟨sh, z', ⟨e', by simp [h0]⟩, h1, fun K => by simp only [goExits, Sum.elim_inr]; exact h2 K⟩

theorem region_dst {ops : Array Oper} (h : regionDst N ops.toList = true) : ∀ o ∈ ops.toList, ∀ d, o.dst = some d → d < N := by
  intro o ho d hd
  unfold regionDst at h
  rw [List.all_eq_true] at h
  have := h o ho
  rw [hd] at this
  exact Nat.le_of_ble_eq_true this

/-- The objects that keep their numbers stand in every shape. -/
def PinOK (M : Own) (A : Anns) : Prop := ∀ key ann, A.get key = some ann → (∀ i v, M.pin i = some v → i ∈ ann.head.pins) ∧ ∀ e sh, (e, sh) ∈ ann.exits → ∀ i v, M.pin i = some v → i ∈ sh.pins

theorem exec_ok (hC : CtxOK P C) (hD : DrawOK P) (hPin : PinOK M A) : ∀ (c : Code), LoopsOK C A (loopsIn c) → dstOK N c = true → ∀ {R : Type} {res : R} {K : Ex → St → Option R} {Q : Exit → Act → World → Prop} {s : St} {a : Act} {m : Mem},
    Sim C w0 M N a m s.env → m.G = s.G → exec C (loopsOf A) c K s = some res →
    (∀ e s' a' m', K e s' = some res → m'.G = s'.G → Sim C w0 M N a' m' s'.env → Q (exitOf e) a' m'.w) → c.wp P Q a m.w := by
  intro c
  induction c with
  | skip => intro _ _ R res K Q s a m hs hG h hQ; exact wp_skip (hQ .normal s a m h hG hs)
  | region id ops d =>
    intro _ hd R res K Q s a m hs hG h hQ
    simp only [exec] at h
    cases d with
    | false => exact region_ok hC (hQ .normal) (region_dst hd) h hG hs
    | true =>
      simp only [cond_true] at h
      have hf : ∃ m', m'.w = m.w ∧ m'.G = (frzReg C id s).G ∧ Sim C w0 M N a m' (frzReg C id s).env := by
        unfold frzReg
        cases C.frz.any fun i => Nat.beq i id with
        | false => exact ⟨m, rfl, hG, hs⟩
        | true => exact freeze_sim _ hs hG
      obtain ⟨m', e1, e2, e3⟩ := hf
      rw [← e1]
      exact hD C w0 M N a m' _ R res _ id ops Q hC e3 e2 hd h (hQ .normal)
  | seq x y ihx ihy =>
    intro hL hd R res K Q s a m hs hG h hQ
    simp only [dstOK, Bool.and_eq_true] at hd
    simp only [exec] at h
    refine wp_seq (ihx (fun c hc => hL c (by simp [loopsIn, hc])) hd.1 hs hG h ?_)
    intro e s' a' m' h1 h2 h3
    cases e with
    | normal => exact ihy (fun c hc => hL c (by simp [loopsIn, hc])) hd.2 h3 h2 h1 hQ
    | exit i => exact hQ (.exit i) s' a' m' h1 h2 h3
    | ret => exact hQ .ret s' a' m' h1 h2 h3
  | cond x y z ihy ihz =>
    intro hL hd R res K Q s a m hs hG h hQ
    simp only [dstOK, Bool.and_eq_true] at hd
    simp only [exec] at h
    split at h
    · rename_i b hb
      have hv := rel_eval hs.inv hs.env x
      rw [hb] at hv
      refine wp_cond (rel_bool hv) ?_
      cases b with
      | true => exact ihy (fun c hc => hL c (by simp [loopsIn, hc])) hd.1 hs hG h hQ
      | false => exact ihz (fun c hc => hL c (by simp [loopsIn, hc])) hd.2 hs hG h hQ
    · simp at h
  | block id x ih =>
    intro hL hd R res K Q s a m hs hG h hQ
    simp only [exec] at h
    refine wp_block (ih hL hd hs hG h ?_)
    intro e s' a' m' h1 h2 h3
    cases e with
    | normal => exact hQ .normal s' a' m' h1 h2 h3
    | exit i =>
      simp only [exitOf, Exit.inBlock]
      dsimp only at h1
      cases hi : Nat.beq i id with
      | true =>
        rw [hi] at h1
        rw [if_pos (Nat.eq_of_beq_eq_true hi)]
        exact hQ .normal s' a' m' h1 h2 h3
      | false =>
        rw [hi] at h1
        rw [if_neg (Nat.ne_of_beq_eq_false hi)]
        exact hQ (.exit i) s' a' m' h1 h2 h3
    | ret => exact hQ .ret s' a' m' h1 h2 h3
  | loop x ih =>
    intro hL hd R res K Q s a m hs hG h hQ
    simp only [exec, loopsOf] at h
    split at h
    · simp at h
    · rename_i ann hann
      split at h
      · simp at h
      · rename_i x0 hx0
        obtain ⟨y, hy, h⟩ := Option.bind_eq_some_iff.1 h
        have hr := hL x (by simp [loopsIn]) ann hann x0 y hy
        obtain ⟨pin1, pin2⟩ := hPin _ ann hann
        obtain ⟨m1, e1, e2, e3⟩ := ext_sim hs hG pin1 hx0
        rw [← e1]
        have key : ∀ {x0 y}, Rounds (round C A ann x) x0 y → goExits K ann.exits y = some res → ∃ n, ∀ (a : Act) (m : Mem), m.G = (ann.head.inj x0).G → Sim C w0 M N a m (ann.head.inj x0).env → Code.rounds P x Q n a m.w := by
          intro x0 y hr
          induction hr with
          | last h1 =>
            intro hg
            refine ⟨1, fun a m hG hs => ?_⟩
            show x.wp P (Exit.then (Code.rounds P x Q 0) Q) a m.w
            refine ih (fun c hc => hL c (by simp [loopsIn, hc])) hd hs hG h1 ?_
            intro e s' a' m' k1 k2 k3
            cases e with
            | normal => obtain ⟨z, _, k1⟩ := Option.bind_eq_some_iff.1 k1; simp at k1
            | exit i =>
              obtain ⟨z, hz, k1⟩ := Option.bind_eq_some_iff.1 k1
              simp only [Option.some.injEq, Sum.inr.injEq] at k1
              subst k1
              obtain ⟨sh, z', ⟨e', f0⟩, f1, f2⟩ := findExit_some hz
              rw [f2] at hg
              obtain ⟨m2, g1, g2, g3⟩ := ext_sim k3 k2 (pin2 e' sh f0) f1
              rw [← g1]
              exact hQ (.exit i) _ a' m2 hg g2 g3
            | ret =>
              obtain ⟨z, hz, k1⟩ := Option.bind_eq_some_iff.1 k1
              simp only [Option.some.injEq, Sum.inr.injEq] at k1
              subst k1
              obtain ⟨sh, z', ⟨e', f0⟩, f1, f2⟩ := findExit_some hz
              rw [f2] at hg
              obtain ⟨m2, g1, g2, g3⟩ := ext_sim k3 k2 (pin2 e' sh f0) f1
              rw [← g1]
              exact hQ .ret _ a' m2 hg g2 g3
          | more h1 _ ih2 =>
            intro hg
            obtain ⟨n, hn⟩ := ih2 hg
            refine ⟨n + 1, fun a m hG hs => ?_⟩
            show x.wp P (Exit.then (Code.rounds P x Q n) Q) a m.w
            refine ih (fun c hc => hL c (by simp [loopsIn, hc])) hd hs hG h1 ?_
            intro e s' a' m' k1 k2 k3
            cases e with
            | normal =>
              obtain ⟨z, hz, k1⟩ := Option.bind_eq_some_iff.1 k1
              simp only [Option.some.injEq, Sum.inl.injEq] at k1
              subst k1
              obtain ⟨m2, g1, g2, g3⟩ := ext_sim k3 k2 pin1 hz
              rw [← g1]
              exact hn a' m2 g2 g3
            | exit i => obtain ⟨z, hz, k1⟩ := Option.bind_eq_some_iff.1 k1; simp at k1
            | ret => obtain ⟨z, hz, k1⟩ := Option.bind_eq_some_iff.1 k1; simp at k1
        obtain ⟨n, hn⟩ := key hr h
        exact wp_loop_rounds n (hn a m1 e2 e3)
  | exit id => intro _ _ R res K Q s a m hs hG h hQ; exact wp_exit (hQ (.exit id) s a m h hG hs)
  | ret => intro _ _ R res K Q s a m hs hG h hQ; exact wp_ret (hQ .ret s a m h hG hs)
  | _ => intro _ _ R res K Q s a m hs hG h hQ; simp [exec] at h
end
end Go.Vm

/-
  A function's contract, from its body.
-/
namespace Go.Vm
section
variable {P : Program} {C : Ctx} {w0 : World} {M : Own} {N : Nat} {A : Anns} {a : Act} {m : Mem} {s : St}

/-! ### The end -/

def ResR (m : Mem) (s : St) : (outs : Outs) → List Value → (tupTy ((outs.map (·.2)).map (·.2))).den → Prop
  | [], [], _ => True
  | p :: r, u :: us, x => (∃ sv, resultSV s p.1 p.2.2 = some sv ∧ RelSV m u sv ∧ svVal s.G p.2.2 sv = some x.1) ∧ ResR m s r us x.2
  | _, _, _ => False

def resChk (P : Program) (v : ResultVar) (τ : Ty) : Bool := match v with
  | .cell _ t => chk P τ none t
  | .tmp _ => true
def resOK (P : Program) (outs : Outs) : Bool := outs.all fun p => resChk P p.1 p.2.2

def resF (a : Act) : ResultVar → Sem Value
  | .tmp t => pure (a.tmps.getD t undef)
  | .cell x t => do loadVar t (← asAddr (a.tmps.getD x undef))

theorem result_one (hs : Sim C w0 M N a m s.env) (hG : m.G = s.G) {v : ResultVar} {τ : Ty} {sv : SV} (h : resultSV s v τ = some sv) (hk : resChk P v τ = true) :
    ∃ u, (resF a v).run P m.w = .ok u m.w ∧ RelSV m u sv := by
  cases v with
  | tmp t =>
    simp only [resultSV, Option.some.injEq] at h
    subst h
    exact ⟨_, by simp [resF], hs.env t⟩
  | cell x t =>
    simp only [resultSV] at h
    have hx := hs.env x
    split at h
    · rename_i id off hq
      rw [hq] at hx
      split at h
      · rename_i l hl
        split at h
        · rename_i c hc
          simp only [Option.some.injEq] at h
          subst h
          obtain ⟨rfl, hle⟩ := takeN_some hc
          obtain ⟨_, ob, hob, hv⟩ := (relSV_at (a := .ptr id off) (by intros; simp)).1 hx
          rw [hG, hl] at hob
          simp only [Option.some.injEq] at hob
          subst hob
          obtain ⟨b, h1, h2⟩ := hv
          obtain ⟨b', cc, el, q1, q2, q3, q4⟩ := hs.inv.objs id _ (hG ▸ hl)
          rw [h1] at q1
          simp only [Value.pointer.injEq, Option.some.injEq, Addr.mk.injEq, and_true] at q1
          subst q1
          have hlen := q4.length
          rw [Array.length_toList] at hlen
          rw [List.length_drop] at hle
          have hsz : off + τ.size ≤ cc.size ∨ τ.size = 0 := by omega
          have hrel : Rel2 (RelAtom m) (seg cc off τ.size) ((l.drop off).take τ.size) := (q4.drop off).take τ.size
          have hone : ∀ u ∈ seg cc off τ.size, u.oneCell' = true := fun u hu => q3 u (List.mem_of_mem_drop (List.mem_of_mem_take hu))
          have hrun : (loadVar t ⟨b, off, none⟩).run P m.w = .ok (toV τ (seg cc off τ.size)) m.w := by
            rcases hsz with hsz | hsz
            · exact run_loadVar' hk q2 hsz
            · have ha : τ.isAgg = true := by
                cases ha : τ.isAgg with
                | true => rfl
                | false => have := size_one ha; omega
              have hz : seg cc off τ.size = [] := by unfold seg; rw [hsz]; simp
              rw [hz]
              simp [loadVar, run_isAgg' hk, ha, run_sizeOf' hk, hsz, loadCells, loadCellsFrom, toV]
          refine ⟨toV τ (seg cc off τ.size), ?_, cellsSV_rel hone hrel⟩
          simp [resF, h2, asAddr, hrun]
        · simp at h
      · simp at h
    · simp at h

theorem results_run (hs : Sim C w0 M N a m s.env) (hG : m.G = s.G) : ∀ {outs : Outs} {x : (tupTy ((outs.map (·.2)).map (·.2))).den}, results s outs = some x → resOK P outs = true →
    ∃ us, ((outs.map (·.1)).mapM (resF a)).run P m.w = .ok us m.w ∧ ResR m s outs us x
  | [], x, _, _ => ⟨[], by simp, trivial⟩
  | p :: r, x, h, hk => by
    simp only [resOK, List.all_cons, Bool.and_eq_true] at hk
    obtain ⟨hk1, hk2⟩ := hk
    unfold results at h
    split at h
    · rename_i sv hsv
      split at h
      · rename_i x1 hx1
        split at h
        · rename_i x2 hx2
          have := Option.some.inj h
          subst this
          obtain ⟨u, h1, h2⟩ := result_one (P := P) hs hG hsv hk1
          obtain ⟨us, h3, h4⟩ := results_run hs hG hx2 hk2
          refine ⟨u :: us, ?_, ⟨sv, hsv, h2, hx1⟩, h4⟩
          simp only [List.map_cons, List.mapM_cons, Sem.run_bind, h1, Result.andThen_ok, h3, Sem.run_pure]
        · simp at h
      · simp at h
    · simp at h

theorem nodupB_append : ∀ {l r : List Nat}, nodupB (l ++ r) = true → nodupB l = true ∧ nodupB r = true ∧ ∀ i ∈ l, i ∉ r
  | [], r, h => ⟨rfl, h, by simp⟩
  | a :: l, r, h => by
    obtain ⟨h1, h2⟩ := nodupB_cons (l := l ++ r) h
    obtain ⟨h3, h4, h5⟩ := nodupB_append h2
    refine ⟨?_, h4, ?_⟩
    · simp only [nodupB, Bool.and_eq_true, Bool.not_eq_true']
      refine ⟨?_, h3⟩
      rw [List.any_eq_false]
      intro b hb hab
      have := Nat.eq_of_beq_eq_true hab
      subst this
      exact h1 (by simp [hb])
    · intro i hi
      rcases List.mem_cons.1 hi with rfl | hi
      · intro hr; exact h1 (by simp [hr])
      · exact h5 i hi

/-- A number, a truth value or a string. -/
theorem plain_cells (hi : Inv C w0 M m) {τ : Ty} {us : List Value} {l rest rest' : List Atom} {x : τ.den} (hr : Rel2 (RelAtom m) us l) (hc : cellsVal m.G τ l = some (x, rest)) (hk : ∀ l, ownAtoms τ l = (match l with | _ :: r => (true, r) | [] => (false, []))) (hτ : (∃ k, τ = .int k) ∨ τ = .bool ∨ τ = .str)
    (ho : ownAtoms τ l = (true, rest')) : ∃ c us' lc, us = c ++ us' ∧ l = lc ++ rest ∧ rest' = rest ∧ OwnRd m.w m.F τ c x ∧ Rel2 (RelAtom m) us' rest := by
  rw [hk] at ho
  cases l with
  | nil => simp at ho
  | cons at' l =>
    cases us with
    | nil => exact hr.elim
    | cons u us =>
      simp only [Prod.mk.injEq, true_and] at ho
      subst ho
      have key : ∀ {τ : Ty}, τ.flat = true → ∀ y : τ.den, atomVal m.G τ at' = some y → Rd m.w m.F τ [u] y := fun hf y hy => (atomVal_rd hi hy hr.1).flat hf _ _
      cases τ with
      | int k =>
        simp only [cellsVal] at hc
        split at hc
        · rename_i y hy
          have hc := Option.some.inj hc
          simp only [Prod.mk.injEq] at hc
          obtain ⟨rfl, rfl⟩ := hc
          exact ⟨[u], us, [at'], rfl, rfl, rfl, key (τ := .int k) rfl y hy, hr.2⟩
        · simp at hc
      | bool =>
        simp only [cellsVal] at hc
        split at hc
        · rename_i y hy
          have hc := Option.some.inj hc
          simp only [Prod.mk.injEq] at hc
          obtain ⟨rfl, rfl⟩ := hc
          exact ⟨[u], us, [at'], rfl, rfl, rfl, key (τ := .bool) rfl y hy, hr.2⟩
        · simp at hc
      | str =>
        simp only [cellsVal] at hc
        split at hc
        · rename_i y hy
          have hc := Option.some.inj hc
          simp only [Prod.mk.injEq] at hc
          obtain ⟨rfl, rfl⟩ := hc
          exact ⟨[u], us, [at'], rfl, rfl, rfl, key (τ := .str) rfl y hy, hr.2⟩
        · simp at hc
      | _ => simp at hτ

/-- The results that are the call's own. -/
theorem own_cells (hi : Inv C w0 M m) : ∀ {τ : Ty} {us : List Value} {l rest rest' : List Atom} {x : τ.den}, Rel2 (RelAtom m) us l → cellsVal m.G τ l = some (x, rest) → ownAtoms τ l = (true, rest') →
    ∃ c us' lc, us = c ++ us' ∧ l = lc ++ rest ∧ rest' = rest ∧ OwnRd m.w m.F τ c x ∧ Rel2 (RelAtom m) us' rest ∧
      (∀ b, Among (ownHdrs τ c) b → ∃ id o, id ∈ lc.flatMap atomIds ∧ m.G.get id = some o ∧ isObj o = true ∧ hdrBlk (m.ι id) = some b) ∧
      (nodupB (lc.flatMap atomIds) = true → Apart (ownHdrs τ c))
  | .prod a b, us, l, rest, rest', x, hr, hc, ho => by
    simp only [cellsVal] at hc
    split at hc
    · rename_i x1 r1 h1
      split at hc
      · rename_i x2 r2 h2
        have hc := Option.some.inj hc
        simp only [Prod.mk.injEq] at hc
        obtain ⟨rfl, rfl⟩ := hc
        simp only [ownAtoms, Prod.mk.injEq, Bool.and_eq_true] at ho
        obtain ⟨⟨o1, o2⟩, o3⟩ := ho
        obtain ⟨c1, us1, lc1, a1, a2, a3, a4, a5, a6, a7⟩ := own_cells hi (rest' := (ownAtoms a l).2) hr h1 (by rw [← o1])
        rw [a3] at o2 o3
        obtain ⟨c2, us2, lc2, b1, b2, b3, b4, b5, b6, b7⟩ := own_cells hi (rest' := (ownAtoms b r1).2) a5 h2 (by rw [← o2])
        subst a1
        subst b1
        subst a2
        subst b2
        have hh : ownHdrs (.prod a b) (c1 ++ c2) = ownHdrs a c1 ++ ownHdrs b c2 := by
          simp only [ownHdrs, ← a4.len, List.take_left, List.drop_left]
        refine ⟨c1 ++ c2, us2, lc1 ++ lc2, by simp, by simp, by rw [← o3, b3], ⟨c1, c2, rfl, a4, b4⟩, b5, ?_, ?_⟩
        · rw [hh]
          rintro bl ⟨u, hu, hb⟩
          rcases List.mem_append.1 hu with hu | hu
          · obtain ⟨id, o, k1, k2⟩ := a6 bl ⟨u, hu, hb⟩
            exact ⟨id, o, by simp only [List.flatMap_append, List.mem_append]; exact .inl k1, k2⟩
          · obtain ⟨id, o, k1, k2⟩ := b6 bl ⟨u, hu, hb⟩
            exact ⟨id, o, by simp only [List.flatMap_append, List.mem_append]; exact .inr k1, k2⟩
        · rw [hh, List.flatMap_append]
          intro hn
          obtain ⟨n1, n2, n3⟩ := nodupB_append hn
          refine List.pairwise_append.2 ⟨a7 n1, b7 n2, ?_⟩
          intro u hu v hv bl hb hb'
          obtain ⟨id, o, k1, k2, k3, k4⟩ := a6 bl ⟨u, hu, hb⟩
          obtain ⟨id', o', j1, j2, j3, j4⟩ := b6 bl ⟨v, hv, hb'⟩
          have := hi.inj id id' o o' bl k2 k3 j2 j3 k4 j4
          subst this
          exact n3 id k1 j1
      · simp at hc
    · simp at hc
  | .unit, us, l, rest, rest', x, hr, hc, ho => by
    simp only [cellsVal, Option.some.injEq, Prod.mk.injEq] at hc
    simp only [ownAtoms, Prod.mk.injEq, true_and] at ho
    obtain ⟨_, rfl⟩ := hc
    subst ho
    exact ⟨[], us, [], rfl, rfl, rfl, rfl, hr, by rintro b ⟨u, hu, _⟩; simp [ownHdrs] at hu, fun _ => List.Pairwise.nil⟩
  | .slice e, us, l, rest, rest', x, hr, hc, ho => by
    cases l with
    | nil => simp [cellsVal] at hc
    | cons at' l =>
      cases us with
      | nil => exact hr.elim
      | cons u us =>
        simp only [cellsVal] at hc
        split at hc
        · rename_i y hy
          have hc := Option.some.inj hc
          simp only [Prod.mk.injEq] at hc
          obtain ⟨rfl, rfl⟩ := hc
          simp only [ownAtoms, Prod.mk.injEq] at ho
          obtain ⟨o1, rfl⟩ := ho
          have hk : SV.av at' = .av .nils ∨ (∃ id, SV.av at' = .av (.own id)) ∨ ∃ id o n, SV.av at' = .av (.view id o n) := by
            cases at' <;> simp at o1 ⊢
          have hnv : ∀ τ x, at' ≠ .val τ x := by intro τ x e; subst e; simp at o1
          have hsv : svVal m.G (.slice e) (.av at') = some y := by
            cases at' <;> simp at o1 <;> exact hy
          obtain ⟨g1, g2, g3⟩ := give_rel hi hsv ((relSV_at hnv).2 hr.1) hk
          refine ⟨[u], us, [at'], rfl, rfl, rfl, ⟨u, rfl, g1⟩, hr.2, ?_, fun _ => by simp [ownHdrs, Apart]⟩
          rintro b ⟨u', hu', hb⟩
          simp only [ownHdrs, List.mem_singleton] at hu'
          subst hu'
          obtain ⟨id, o, k1, k2, k3, k4⟩ := g2 b hb
          refine ⟨id, o, ?_, k2, k3, k4⟩
          simp only [List.flatMap_cons, List.flatMap_nil, List.append_nil]
          have : atomIds at' = [id] := k1
          rw [this]; simp
        · simp at hc
  | .int k, us, l, rest, rest', x, hr, hc, ho => by
    obtain ⟨c, us', h1, h2, h3, h4, h5, h6⟩ := plain_cells hi (τ := .int k) hr hc (by intro l; cases l <;> rfl) (by simp) ho
    exact ⟨c, us', h1, h2, h3, h4, h5, h6, by rintro b ⟨u, hu, _⟩; simp [ownHdrs] at hu, fun _ => List.Pairwise.nil⟩
  | .bool, us, l, rest, rest', x, hr, hc, ho => by
    obtain ⟨c, us', h1, h2, h3, h4, h5, h6⟩ := plain_cells hi (τ := .bool) hr hc (by intro l; cases l <;> rfl) (by simp) ho
    exact ⟨c, us', h1, h2, h3, h4, h5, h6, by rintro b ⟨u, hu, _⟩; simp [ownHdrs] at hu, fun _ => List.Pairwise.nil⟩
  | .str, us, l, rest, rest', x, hr, hc, ho => by
    obtain ⟨c, us', h1, h2, h3, h4, h5, h6⟩ := plain_cells hi (τ := .str) hr hc (by intro l; cases l <;> rfl) (by simp) ho
    exact ⟨c, us', h1, h2, h3, h4, h5, h6, by rintro b ⟨u, hu, _⟩; simp [ownHdrs] at hu, fun _ => List.Pairwise.nil⟩
  | .arr _ _, _, _, _, _, _, _, _, ho => by simp [ownAtoms] at ho
  | .ptr _, _, _, _, _, _, _, _, ho => by simp [ownAtoms] at ho
  | .clo _ _, _, _, _, _, _, _, _, ho => by simp [ownAtoms] at ho
end
end Go.Vm

/-
  A function's contract, from its body: the beginning.
-/
namespace Go.Vm
section
variable {P : Program} {C : Ctx} {w : World} {F : Nat → Prop}

theorem getElem?_sub {α : Type} {u : α} {us : List α} {i k : Nat} (h : k + 1 ≤ i) : (u :: us)[i - k]? = us[i - (k + 1)]? := by
  have : i - k = (i - (k + 1)) + 1 := by omega
  rw [this]; rfl

theorem hdr_one {u : Value} {e : Ty} {l : List e.den} (h : HdrW w F u e l) : u.oneCell' = true := by
  obtain ⟨ad, cap, rfl, _⟩ := h; rfl

theorem init_heap : ∀ {ins : List (Mode × Ty)} {us : List Value} {x : (tupTy (ins.map (·.2))).den} (k : Nat), ArgsRd w F ins us x → ∀ i o, (argHeap ins k x).get i = some o →
    k ≤ i ∧ ∃ e l u, us[i - k]? = some u ∧ o = .arr e l ∧ HdrW w F u e l ∧ u ∈ argHdrs ins us
  | [], [], _, _, _, i, o, h => by simp [argHeap, Heap.get] at h
  | [], _ :: _, _, _, h, _, _, _ => h.elim
  | _ :: _, [], _, _, h, _, _, _ => h.elim
  | (.rd, τ) :: r, u :: us, x, k, h, i, o, hg => by
    obtain ⟨h1, e, l, v, h2, h3, h4, h5⟩ := init_heap (ins := r) (us := us) (x := x.2) (k + 1) h.2 i o hg
    exact ⟨by omega, e, l, v, by rw [getElem?_sub h1]; exact h2, h3, h4, h5⟩
  | (.upd, τ) :: r, u :: us, x, k, h, i, o, hg => by
    cases τ with
    | slice e =>
      simp only [argHeap] at hg
      rw [Heap.get_cons] at hg
      split at hg
      · rename_i e0
        subst e0
        simp only [Option.some.injEq] at hg
        subst hg
        exact ⟨Nat.le_refl _, e, x.1, u, by simp, rfl, h.1, by simp [argHdrs]⟩
      · obtain ⟨h1, e', l, v, h2, h3, h4, h5⟩ := init_heap (ins := r) (us := us) (x := x.2) (k + 1) h.2 i o hg
        exact ⟨by omega, e', l, v, by rw [getElem?_sub h1]; exact h2, h3, h4, by simp [argHdrs, h5]⟩
    | _ => exact (h.1).elim
  | (.take, τ) :: r, u :: us, x, k, h, i, o, hg => by
    cases τ with
    | slice e =>
      simp only [argHeap] at hg
      rw [Heap.get_cons] at hg
      split at hg
      · rename_i e0
        subst e0
        simp only [Option.some.injEq] at hg
        subst hg
        exact ⟨Nat.le_refl _, e, x.1, u, by simp, rfl, h.1, by simp [argHdrs]⟩
      · obtain ⟨h1, e', l, v, h2, h3, h4, h5⟩ := init_heap (ins := r) (us := us) (x := x.2) (k + 1) h.2 i o hg
        exact ⟨by omega, e', l, v, by rw [getElem?_sub h1]; exact h2, h3, h4, by simp [argHdrs, h5]⟩
    | _ => exact (h.1).elim

theorem init_apart : ∀ {ins : List (Mode × Ty)} {us : List Value} {x : (tupTy (ins.map (·.2))).den} (k : Nat), ArgsRd w F ins us x → Apart (argHdrs ins us) → ∀ i j o p b u v, (argHeap ins k x).get i = some o → (argHeap ins k x).get j = some p →
    us[i - k]? = some u → us[j - k]? = some v → hdrBlk u = some b → hdrBlk v = some b → i = j
  | [], [], _, _, _, _, i, _, o, _, _, _, _, h, _, _, _, _, _ => by simp [argHeap, Heap.get] at h
  | [], _ :: _, _, _, h, _, _, _, _, _, _, _, _, _, _, _, _, _, _ => h.elim
  | _ :: _, [], _, _, h, _, _, _, _, _, _, _, _, _, _, _, _, _, _ => h.elim
  | (.rd, τ) :: r, u0 :: us, x, k, h, ha, i, j, o, p, b, u, v, hi, hj, hu, hv, hb, hb' => by
    obtain ⟨h1, _⟩ := init_heap (ins := r) (us := us) (x := x.2) (k + 1) h.2 i o hi
    obtain ⟨h2, _⟩ := init_heap (ins := r) (us := us) (x := x.2) (k + 1) h.2 j p hj
    rw [getElem?_sub h1] at hu
    rw [getElem?_sub h2] at hv
    exact init_apart (ins := r) (us := us) (x := x.2) (k + 1) h.2 ha i j o p b u v hi hj hu hv hb hb'
  | (.upd, τ) :: r, u0 :: us, x, k, h, ha, i, j, o, p, b, u, v, hi, hj, hu, hv, hb, hb' => by
    cases τ with
    | slice e =>
      obtain ⟨ha1, ha2⟩ := List.pairwise_cons.1 (show List.Pairwise _ (u0 :: argHdrs r us) from ha)
      simp only [argHeap] at hi hj
      rw [Heap.get_cons] at hi hj
      split at hi <;> split at hj
      · omega
      · rename_i e0 _
        subst e0
        obtain ⟨h2, e', l, v', h3, _, _, h4⟩ := init_heap (ins := r) (us := us) (x := x.2) (k + 1) h.2 j p hj
        rw [getElem?_sub h2, h3] at hv
        simp only [Option.some.injEq] at hv
        subst hv
        simp at hu
        subst hu
        exact (ha1 _ h4 b hb hb').elim
      · rename_i _ e0
        subst e0
        obtain ⟨h2, e', l, v', h3, _, _, h4⟩ := init_heap (ins := r) (us := us) (x := x.2) (k + 1) h.2 i o hi
        rw [getElem?_sub h2, h3] at hu
        simp only [Option.some.injEq] at hu
        subst hu
        simp at hv
        subst hv
        exact (ha1 _ h4 b hb' hb).elim
      · obtain ⟨h1, _⟩ := init_heap (ins := r) (us := us) (x := x.2) (k + 1) h.2 i o hi
        obtain ⟨h2, _⟩ := init_heap (ins := r) (us := us) (x := x.2) (k + 1) h.2 j p hj
        rw [getElem?_sub h1] at hu
        rw [getElem?_sub h2] at hv
        exact init_apart (ins := r) (us := us) (x := x.2) (k + 1) h.2 ha2 i j o p b u v hi hj hu hv hb hb'
    | _ => exact (h.1).elim
  | (.take, τ) :: r, u0 :: us, x, k, h, ha, i, j, o, p, b, u, v, hi, hj, hu, hv, hb, hb' => by
    cases τ with
    | slice e =>
      obtain ⟨ha1, ha2⟩ := List.pairwise_cons.1 (show List.Pairwise _ (u0 :: argHdrs r us) from ha)
      simp only [argHeap] at hi hj
      rw [Heap.get_cons] at hi hj
      split at hi <;> split at hj
      · omega
      · rename_i e0 _
        subst e0
        obtain ⟨h2, e', l, v', h3, _, _, h4⟩ := init_heap (ins := r) (us := us) (x := x.2) (k + 1) h.2 j p hj
        rw [getElem?_sub h2, h3] at hv
        simp only [Option.some.injEq] at hv
        subst hv
        simp at hu
        subst hu
        exact (ha1 _ h4 b hb hb').elim
      · rename_i _ e0
        subst e0
        obtain ⟨h2, e', l, v', h3, _, _, h4⟩ := init_heap (ins := r) (us := us) (x := x.2) (k + 1) h.2 i o hi
        rw [getElem?_sub h2, h3] at hu
        simp only [Option.some.injEq] at hu
        subst hu
        simp at hv
        subst hv
        exact (ha1 _ h4 b hb' hb).elim
      · obtain ⟨h1, _⟩ := init_heap (ins := r) (us := us) (x := x.2) (k + 1) h.2 i o hi
        obtain ⟨h2, _⟩ := init_heap (ins := r) (us := us) (x := x.2) (k + 1) h.2 j p hj
        rw [getElem?_sub h1] at hu
        rw [getElem?_sub h2] at hv
        exact init_apart (ins := r) (us := us) (x := x.2) (k + 1) h.2 ha2 i j o p b u v hi hj hu hv hb hb'
    | _ => exact (h.1).elim

theorem init_env : ∀ {ins : List (Mode × Ty)} {us : List Value} {x : (tupTy (ins.map (·.2))).den} (k : Nat), ArgsRd w F ins us x → ∀ t, (argEnv ins k x).get t = .av .u ∨
    ∃ u, k ≤ t ∧ us[t - k]? = some u ∧ ((∃ τ, ∃ y : τ.den, ∃ cs, (argEnv ins k x).get t = .av (.val τ y) ∧ u = toV τ cs ∧ Rd w F τ cs y) ∨ ((argEnv ins k x).get t = .av (.own t) ∧ u.oneCell' = true ∧ ∃ o, (argHeap ins k x).get t = some o))
  | [], [], _, _, _, t => .inl rfl
  | [], _ :: _, _, _, h, _ => h.elim
  | _ :: _, [], _, _, h, _ => h.elim
  | (.rd, τ) :: r, u :: us, x, k, h, t => by
    simp only [argEnv]
    rw [Env.get_cons]
    split
    · rename_i e
      subst e
      obtain ⟨cs, h1, h2⟩ := h.1
      exact .inr ⟨u, Nat.le_refl _, by simp, .inl ⟨τ, x.1, cs, rfl, h1, h2⟩⟩
    · rcases init_env (ins := r) (us := us) (x := x.2) (k + 1) h.2 t with h0 | ⟨v, h1, h2, h3⟩
      · exact .inl h0
      · exact .inr ⟨v, by omega, by rw [getElem?_sub h1]; exact h2, h3⟩
  | (.upd, τ) :: r, u :: us, x, k, h, t => by
    cases τ with
    | slice e =>
      simp only [argEnv, argHeap]
      rw [Env.get_cons, Heap.get_cons]
      split
      · rename_i e0
        subst e0
        exact .inr ⟨u, Nat.le_refl _, by simp, .inr ⟨rfl, hdr_one h.1, _, rfl⟩⟩
      · rcases init_env (ins := r) (us := us) (x := x.2) (k + 1) h.2 t with h0 | ⟨v, h1, h2, h3⟩
        · exact .inl h0
        · exact .inr ⟨v, by omega, by rw [getElem?_sub h1]; exact h2, h3⟩
    | _ => exact (h.1).elim
  | (.take, τ) :: r, u :: us, x, k, h, t => by
    cases τ with
    | slice e =>
      simp only [argEnv, argHeap]
      rw [Env.get_cons, Heap.get_cons]
      split
      · rename_i e0
        subst e0
        exact .inr ⟨u, Nat.le_refl _, by simp, .inr ⟨rfl, hdr_one h.1, _, rfl⟩⟩
      · rcases init_env (ins := r) (us := us) (x := x.2) (k + 1) h.2 t with h0 | ⟨v, h1, h2, h3⟩
        · exact .inl h0
        · exact .inr ⟨v, by omega, by rw [getElem?_sub h1]; exact h2, h3⟩
    | _ => exact (h.1).elim
end
end Go.Vm

/-
  A function's contract, from its body: the end.
-/
namespace Go.Vm
section
variable {P : Program} {C : Ctx} {w0 : World} {M : Own} {N : Nat} {A : Anns} {a : Act} {m : Mem} {s : St}

def HdrsOf (m : Mem) (L : List Value) (I : List Nat) : Prop :=
  (∀ b, Among L b → ∃ id o, id ∈ I ∧ m.G.get id = some o ∧ isObj o = true ∧ hdrBlk (m.ι id) = some b) ∧ (nodupB I = true → Apart L)

theorem HdrsOf.nil (m : Mem) (I : List Nat) : HdrsOf m [] I := ⟨by rintro b ⟨u, hu, _⟩; simp at hu, fun _ => List.Pairwise.nil⟩

theorem HdrsOf.append (hi : Inv C w0 M m) {L1 L2 : List Value} {I1 I2 : List Nat} (h1 : HdrsOf m L1 I1) (h2 : HdrsOf m L2 I2) : HdrsOf m (L1 ++ L2) (I1 ++ I2) := by
  refine ⟨?_, fun hn => ?_⟩
  · rintro b ⟨u, hu, hb⟩
    rcases List.mem_append.1 hu with hu | hu
    · obtain ⟨id, o, k1, k2⟩ := h1.1 b ⟨u, hu, hb⟩
      exact ⟨id, o, by simp [k1], k2⟩
    · obtain ⟨id, o, k1, k2⟩ := h2.1 b ⟨u, hu, hb⟩
      exact ⟨id, o, by simp [k1], k2⟩
  · obtain ⟨n1, n2, n3⟩ := nodupB_append hn
    refine List.pairwise_append.2 ⟨h1.2 n1, h2.2 n2, ?_⟩
    intro u hu v hv b hb hb'
    obtain ⟨id, o, k1, k2, k3, k4⟩ := h1.1 b ⟨u, hu, hb⟩
    obtain ⟨id', o', j1, j2, j3, j4⟩ := h2.1 b ⟨v, hv, hb'⟩
    have := hi.inj id id' o o' b k2 k3 j2 j3 k4 j4
    subst this
    exact n3 id k1 j1

theorem plain_hdrs : ∀ {τ : Ty}, τ.plain = true → ∀ cs, ownHdrs τ cs = []
  | .prod a b, h, cs => by
    simp only [Ty.plain, Bool.and_eq_true] at h
    simp [ownHdrs, plain_hdrs h.1, plain_hdrs h.2]
  | .int _, _, _ => rfl
  | .bool, _, _ => rfl
  | .str, _, _ => rfl
  | .unit, _, _ => rfl
  | .slice _, h, _ => by simp [Ty.plain] at h
  | .arr _ _, _, _ => rfl
  | .ptr _, _, _ => rfl
  | .clo _ _, _, _ => rfl

theorem plain_own {w : World} {F F' : Nat → Prop} : ∀ {τ : Ty} {cs : List Value} {x : τ.den}, τ.plain = true → Rd w F τ cs x → OwnRd w F' τ cs x
  | .prod a b, _, _, hf, h => by
    simp only [Ty.plain, Bool.and_eq_true] at hf
    obtain ⟨c1, c2, h1, h2, h3⟩ := h
    exact ⟨c1, c2, h1, plain_own hf.1 h2, plain_own hf.2 h3⟩
  | .int _, _, _, _, h => h
  | .bool, _, _, _, h => h
  | .str, _, _, _, h => h
  | .unit, _, _, _, h => h
  | .slice _, _, _, hf, _ => by simp [Ty.plain] at hf
  | .arr _ _, _, _, hf, _ => by simp [Ty.plain] at hf
  | .ptr _, _, _, hf, _ => by simp [Ty.plain] at hf
  | .clo _ _, _, _, hf, _ => by simp [Ty.plain] at hf

/-- A result of the call's own. -/
theorem own_one (hi : Inv C w0 M m) {τ : Ty} {sv : SV} {u : Value} {x : τ.den} (hr : RelSV m u sv) (hx : svVal m.G τ sv = some x) (ho : ownSV τ sv = true) :
    ∃ cs, u = toV τ cs ∧ OwnRd m.w m.F τ cs x ∧ HdrsOf m (ownHdrs τ cs) (deepIds m.G sv) := by
  have cells {us : List Value} {l : List Atom} (h1 : Rel2 (RelAtom m) us l) (h2 : cellsVal m.G τ l = some (x, [])) (h3 : (ownAtoms τ l).1 = true) : OwnRd m.w m.F τ us x ∧ HdrsOf m (ownHdrs τ us) (l.flatMap atomIds) := by
    obtain ⟨c, us', lc, a1, a2, a3, a4, a5, a6, a7⟩ := own_cells hi (rest' := (ownAtoms τ l).2) h1 h2 (by rw [← h3])
    match us', a5 with
    | [], _ =>
      rw [List.append_nil] at a1 a2
      subst a1
      subst a2
      exact ⟨a4, a6, a7⟩
  cases sv with
  | tup l => simp [svVal] at hx
  | agg l =>
    obtain ⟨us, h1, h2, h3⟩ := hr
    simp only [svVal] at hx
    cases ha : τ.isAgg with
    | false => rw [ha] at hx; simp at hx
    | true =>
      rw [ha] at hx
      simp only [cond_true] at hx
      split at hx
      · rename_i y hc
        have hx := Option.some.inj hx
        subst hx
        obtain ⟨k1, k2⟩ := cells h3 hc ho
        exact ⟨us, by rw [h1]; simp [toV, ha], k1, k2⟩
      · simp at hx
  | av at' =>
    cases at' with
    | val σ y =>
      obtain ⟨e, hy⟩ := castTo_some hx
      subst e
      subst hy
      obtain ⟨cs, h1, h2⟩ := hr
      have hp : σ.plain = true := ho
      exact ⟨cs, h1, plain_own hp h2, by rw [plain_hdrs hp]; exact HdrsOf.nil _ _⟩
    | ptr i o =>
      cases τ <;> simp only [svVal] at hx <;> try (simp at hx; done)
      simp [ownSV, ownAtoms] at ho
    | clo f c =>
      cases τ <;> simp only [svVal] at hx <;> try (simp at hx; done)
      simp [ownSV, ownAtoms] at ho
    | _ =>
      have hr' := (relSV_at (m := m) (v := u) (by intros; simp)).1 hr
      simp only [svVal] at hx
      cases ha : τ.isAgg with
      | true => rw [ha] at hx; simp at hx
      | false =>
        rw [ha] at hx
        simp only [cond_false] at hx
        have hc : ∀ a', atomVal m.G τ a' = some x → (ownAtoms τ [a']).1 = true → cellsVal m.G τ [a'] = some (x, []) := by
          intro a' h1 h2
          cases τ <;> simp only [ownAtoms] at h2 <;> try (simp at h2; done)
          all_goals first
            | (simp only [cellsVal, h1]; done)
            | simp [Ty.isAgg] at ha
        obtain ⟨k1, k2⟩ := cells (us := [u]) (l := [_]) ⟨hr', trivial⟩ (hc _ hx ho) ho
        refine ⟨[u], (toV_single ha u).symm, k1, ?_⟩
        simpa [deepIds, svIds] using k2

theorem outs_own (hi : Inv C w0 M m) (hG : m.G = s.G) {m2 : Mem} (hw : m2.w = m.w) (hF : ∀ b, m.F b → m2.F b) : ∀ {outs : Outs} {us : List Value} {x : (tupTy ((outs.map (·.2)).map (·.2))).den}, ResR m s outs us x → resultsOwn s outs = true →
    (∀ b, Thru m (resultIds s false outs) b → m2.F b) →
    ∃ css, us = outVals (outs.map (·.2)) css ∧ OutsRd m2.w m2.F (outs.map (·.2)) css x ∧ HdrsOf m (outHdrs (outs.map (·.2)) css) (resultIds s true outs)
  | [], [], _, _, _, _ => ⟨[], rfl, trivial, HdrsOf.nil _ _⟩
  | [], _ :: _, _, h, _, _ => h.elim
  | _ :: _, [], _, h, _, _ => h.elim
  | (v, b, τ) :: r, u :: us, x, h, ho, hT => by
    obtain ⟨⟨sv, h1, h2, h3⟩, h4⟩ := h
    simp only [resultsOwn, Bool.and_eq_true] at ho
    obtain ⟨ho1, ho2⟩ := ho
    have hFF : ∀ b, m.F b → m2.F b ∧ m2.w.heap[b]? = m.w.heap[b]? := fun b hb => ⟨hF b hb, by rw [hw]⟩
    obtain ⟨css, k1, k2, k3⟩ := outs_own hi hG hw hF h4 ho2 (fun bl hb => hT bl (Thru.mono (fun i hi => by simp [resultIds, hi]) hb))
    cases b with
    | true =>
      simp only [cond_true, h1] at ho1
      obtain ⟨cs, c1, c2, c3⟩ := own_one hi h2 (hG ▸ h3) ho1
      refine ⟨cs :: css, by simp only [List.map_cons, outVals]; rw [← c1, ← k1], ⟨c2.mono hFF (fun _ _ _ _ => by rw [hw]), k2⟩, ?_⟩
      have e : resultIds s true ((v, true, τ) :: r) = deepIds m.G sv ++ resultIds s true r := by simp [resultIds, h1, hG]
      rw [e]
      exact c3.append hi k3
    | false =>
      obtain ⟨cs, c1, c2⟩ := svVal_rd hi (hG ▸ h3) h2
      refine ⟨cs :: css, by simp only [List.map_cons, outVals]; rw [← c1, ← k1], ⟨c2.mono fun bl hb => ⟨hT bl (Thru.mono (fun i hi => by simp [resultIds, h1]; exact .inl (hG ▸ hi)) hb), by rw [hw]⟩, k2⟩, ?_⟩
      have e : resultIds s true ((v, false, τ) :: r) = resultIds s true r := by simp [resultIds, h1]
      rw [e]
      simpa [outHdrs] using k3
end
end Go.Vm

/-
  A function's contract, from its body.
-/
namespace Go.Vm
section
variable {P : Program} {C : Ctx} {w0 : World} {M : Own} {N : Nat} {A : Anns} {a : Act} {m : Mem} {s : St}

def pinOf (ins : List (Mode × Ty)) (us : List Value) (i : Nat) : Option Value := match ins[i]? with
  | some (.upd, _) => us[i]?
  | _ => none

theorem muts_end (hi : Inv C w0 M m) (hG : m.G = s.G) {m2 : Mem} (hw : m2.w = m.w) (hF : ∀ b, m.F b → m2.F b) : ∀ {ins : List (Mode × Ty)} {us : List Value} {y : (tupTy (mutTys ins)).den} (k : Nat), us.length = ins.length → mutsEnd s ins k = some y →
    (∀ j u, (∃ τ, ins[j]? = some (.upd, τ)) → us[j]? = some u → ∀ o, m.G.get (k + j) = some o → isObj o = true → m.ι (k + j) = u) →
    MutsRd m2.w m2.F ins us y ∧ (∀ b, Among (mutHdrs ins us) b → ∃ id o, id ∈ mutIds ins k ∧ m.G.get id = some o ∧ isObj o = true ∧ hdrBlk (m.ι id) = some b) ∧ (Apart (mutHdrs ins us)) ∧ (∀ id ∈ mutIds ins k, k ≤ id)
  | [], [], y, k, _, _, _ => ⟨trivial, by rintro b ⟨u, hu, _⟩; simp [mutHdrs] at hu, List.Pairwise.nil, by simp [mutIds]⟩
  | [], _ :: _, _, _, h, _, _ => by simp at h
  | _ :: _, [], _, _, h, _, _ => by simp at h
  | (.rd, τ) :: r, u :: us, y, k, hl, h, hp => by
    obtain ⟨h1, h2, h3, h4⟩ := muts_end hi hG hw hF (ins := r) (us := us) (y := y) (k + 1) (by simpa using hl) h (fun j u hj hu o ho hob => by have := hp (j + 1) u (by simpa using hj) (by simpa using hu) o (by rw [show k + (j + 1) = k + 1 + j by omega]; exact ho) hob; rw [show k + (j + 1) = k + 1 + j by omega] at this; exact this)
    exact ⟨h1, h2, h3, fun id hid => by have := h4 id hid; omega⟩
  | (.take, τ) :: r, u :: us, y, k, hl, h, hp => by
    obtain ⟨h1, h2, h3, h4⟩ := muts_end hi hG hw hF (ins := r) (us := us) (y := y) (k + 1) (by simpa using hl) h (fun j u hj hu o ho hob => by have := hp (j + 1) u (by simpa using hj) (by simpa using hu) o (by rw [show k + (j + 1) = k + 1 + j by omega]; exact ho) hob; rw [show k + (j + 1) = k + 1 + j by omega] at this; exact this)
    exact ⟨h1, h2, h3, fun id hid => by have := h4 id hid; omega⟩
  | (.upd, τ) :: r, u :: us, y, k, hl, h, hp => by
    cases τ with
    | slice e =>
     cases hg : s.G.get k with
     | none => simp [mutsEnd, hg] at h
     | some ob =>
      cases ob with
      | box _ => simp [mutsEnd, hg] at h
      | dead => simp [mutsEnd, hg] at h
      | arr σ l =>
      unfold mutsEnd at h
      rw [hg] at h
      dsimp only at h
      split at h
      · rename_i x hx
        split at h
        · rename_i z hz
          have h := Option.some.inj h
          subst h
          obtain ⟨he, hx⟩ := castTo_some hx
          cases he
          subst hx
          obtain ⟨h1, h2, h3, h4⟩ := muts_end hi hG hw hF (ins := r) (us := us) (y := z) (k + 1) (by simpa using hl) hz (fun j u hj hu o ho hob => by have := hp (j + 1) u (by simpa using hj) (by simpa using hu) o (by rw [show k + (j + 1) = k + 1 + j by omega]; exact ho) hob; rw [show k + (j + 1) = k + 1 + j by omega] at this; exact this)
          have hι := hp 0 u ⟨_, rfl⟩ rfl _ (by rw [Nat.add_zero, hG]; exact hg) rfl
          rw [Nat.add_zero] at hι
          have hobj : HdrW m.w m.F u e l := by
            have := hi.objs k _ (hG ▸ hg)
            rw [← hι]; exact this
          refine ⟨⟨hobj.mono (fun b hb => ⟨hF b hb, by rw [hw]⟩) (fun _ _ => by rw [hw]), h1⟩, ?_, ?_, ?_⟩
          · rintro b ⟨u', hu', hb⟩
            simp only [mutHdrs] at hu'
            rcases List.mem_cons.1 hu' with rfl | hu'
            · exact ⟨k, _, by simp [mutIds], hG ▸ hg, rfl, by rw [hι]; exact hb⟩
            · obtain ⟨id, o, k1, k2⟩ := h2 b ⟨u', hu', hb⟩
              exact ⟨id, o, by simp [mutIds, k1], k2⟩
          · refine List.Pairwise.cons ?_ h3
            intro v hv b hb hb'
            obtain ⟨id, o, k1, k2, k3, k4⟩ := h2 b ⟨v, hv, hb'⟩
            have := hi.inj k id _ o b (hG ▸ hg) rfl k2 k3 (by rw [hι]; exact hb) k4
            have := h4 id k1
            omega
          · intro id hid
            simp only [mutIds, List.mem_cons] at hid
            rcases hid with rfl | hid
            · exact Nat.le_refl _
            · have := h4 id hid; omega
        · simp at h
      · simp at h
    | _ => simp [mutsEnd] at h
end
end Go.Vm

/-
  A function's contract, from its body: the whole.
-/
namespace Go.Vm
section
variable {P : Program} {C : Ctx} {A : Anns}

theorem outsJoin_part : ∀ (outs m : List Ty) (x : (tupTy outs).den) (y : (tupTy m).den), outsPart outs m (outsJoin outs m x y) = (x, y)
  | [], _, _, _ => rfl
  | _ :: r, m, x, y => by
    show ((x.1, (outsPart r m (outsJoin r m x.2 y)).1), (outsPart r m (outsJoin r m x.2 y)).2) = (x, y)
    rw [outsJoin_part r m]
    rfl

/-- The shapes' pins and the parameters that are written. -/
def pinsOK (A : Anns) (ins : List (Mode × Ty)) : Bool := A.all fun p => (mutIds ins 0).all fun i => (p.2.head.pins.any fun j => Nat.beq i j) && p.2.exits.all fun e => e.2.pins.any fun j => Nat.beq i j

theorem Anns.mem_of_get {A : Anns} {key : Nat} {ann : Ann} (h : A.get key = some ann) : ∃ k, (k, ann) ∈ A := by
  induction A with
  | nil => simp [Anns.get] at h
  | cons p r ih =>
    obtain ⟨k, v⟩ := p
    simp only [Anns.get] at h
    cases hk : Nat.beq k key with
    | true => rw [hk] at h; simp at h; subst h; exact ⟨k, by simp⟩
    | false => rw [hk] at h; obtain ⟨k', hk'⟩ := ih h; exact ⟨k', by simp [hk']⟩

theorem pin_mut : ∀ {ins : List (Mode × Ty)} {us : List Value} {i : Nat} {v : Value} (k : Nat), pinOf ins us i = some v → k + i ∈ mutIds ins k
  | [], us, i, v, k, h => by simp [pinOf] at h
  | (md, τ) :: r, us, 0, v, k, h => by
    cases md <;> simp [pinOf] at h
    simp [mutIds]
  | (md, τ) :: r, [], i + 1, v, k, h => by
    unfold pinOf at h
    split at h <;> simp at h
  | (md, τ) :: r, u :: us, i + 1, v, k, h => by
    have h' : pinOf r us i = some v := by
      unfold pinOf at h ⊢
      simpa using h
    have := pin_mut (k + 1) h'
    have e : k + (i + 1) = k + 1 + i := by omega
    cases md <;> simp only [mutIds] <;> rw [e] <;> simp [this]

theorem heap_of_pin {w : World} {F : Nat → Prop} : ∀ {ins : List (Mode × Ty)} {us : List Value} {x : (tupTy (ins.map (·.2))).den} {i : Nat} {v : Value} (k : Nat), ArgsRd w F ins us x → pinOf ins us i = some v → ∃ o, (argHeap ins k x).get (k + i) = some o
  | [], us, x, i, v, k, _, h => by simp [pinOf] at h
  | _ :: _, [], _, _, _, _, h, _ => h.elim
  | (md, τ) :: r, u :: us, x, 0, v, k, ha, h => by
    cases md <;> simp [pinOf] at h
    cases τ with
    | slice e => exact ⟨_, by simp only [argHeap, Nat.add_zero]; rw [Heap.get_cons, if_pos rfl]⟩
    | _ => exact ha.1.elim
  | (md, τ) :: r, u :: us, x, i + 1, v, k, ha, h => by
    have h' : pinOf r us i = some v := by
      unfold pinOf at h ⊢
      simpa using h
    obtain ⟨o, ho⟩ := heap_of_pin (x := x.2) (k + 1) ha.2 h'
    have e : k + (i + 1) = k + 1 + i := by omega
    rw [e]
    cases md with
    | rd => exact ⟨o, ho⟩
    | upd =>
      cases τ with
      | slice e => refine ⟨o, ?_⟩; simp only [argHeap]; rw [Heap.get_cons, if_neg (by omega)]; exact ho
      | _ => exact ha.1.elim
    | take =>
      cases τ with
      | slice e => refine ⟨o, ?_⟩; simp only [argHeap]; rw [Heap.get_cons, if_neg (by omega)]; exact ho
      | _ => exact ha.1.elim

theorem ArgsRd.len {w : World} {F : Nat → Prop} : ∀ {ins : List (Mode × Ty)} {us : List Value} {x : (tupTy (ins.map (·.2))).den}, ArgsRd w F ins us x → us.length = ins.length
  | [], [], _, _ => rfl
  | [], _ :: _, _, h => h.elim
  | _ :: _, [], _, h => h.elim
  | _ :: _, _ :: _, _, h => by simp [ArgsRd.len h.2]

/-- The start. -/
theorem init_sim {w : World} {F : Nat → Prop} {ins : List (Mode × Ty)} {us : List Value} {x : (tupTy (ins.map (·.2))).den} (hp : Pre C.glob w F ins us x) (n : Nat) :
    Sim C w ⟨Among (argHdrs ins us), F, pinOf ins us⟩ n { tmps := us.toArray ++ Array.replicate (n - us.toArray.size) undef, defers := [] } ⟨w, F, fun i => us.getD i undef, argHeap ins 0 x⟩ (argEnv ins 0 x) := by
  have hι : ∀ i u, us[i - 0]? = some u → us.getD i undef = u := by intro i u h; simp at h; simp [h]
  refine ⟨⟨Kept.refl _ _, ?_, ?_, ?_, hp.fro, hp.glob, fun b hb => .inl hb, ?_⟩, rfl, by simp; omega, ?_⟩
  · intro i o ho
    obtain ⟨_, e, l, u, h1, rfl, h2, _⟩ := init_heap 0 hp.args i o ho
    show HdrW w F (us.getD i undef) e l
    rw [hι i u h1]; exact h2
  · intro i o b ho _ hb
    obtain ⟨_, e, l, u, h1, rfl, h2, h3⟩ := init_heap 0 hp.args i o ho
    change hdrBlk (us.getD i undef) = some b at hb
    rw [hι i u h1] at hb
    obtain ⟨k1, k2⟩ := hp.own u h3 b hb
    exact ⟨.inr ⟨u, h3, hb⟩, k1, k2⟩
  · intro i j o p b ho _ hq _ h1 h2
    obtain ⟨_, e, l, u, k1, _, _, _⟩ := init_heap 0 hp.args i o ho
    obtain ⟨_, e', l', v, k2, _, _, _⟩ := init_heap 0 hp.args j p hq
    change hdrBlk (us.getD i undef) = some b at h1
    change hdrBlk (us.getD j undef) = some b at h2
    rw [hι i u k1] at h1
    rw [hι j v k2] at h2
    exact init_apart 0 hp.args hp.apart i j o p b u v ho hq k1 k2 h1 h2
  · intro i v hv
    obtain ⟨o, ho⟩ := heap_of_pin 0 hp.args hv
    rw [Nat.zero_add] at ho
    refine ⟨o, ho, fun _ => ?_⟩
    show us.getD i undef = v
    have hv : pinOf ins us i = some v := hv
    unfold pinOf at hv
    split at hv
    · simp [hv]
    · simp at hv
  · intro t
    rcases init_env 0 hp.args t with h | ⟨u, _, h1, h2⟩
    · rw [h]; trivial
    · have ht : (us.toArray ++ Array.replicate (n - us.toArray.size) undef).getD t undef = u := by
        simp only [Nat.sub_zero] at h1
        have := (List.getElem?_eq_some_iff.1 h1).1
        rw [Array.getD_eq_getD_getElem?, Array.getElem?_append_left (by simpa using this)]
        simp [h1]
      rw [ht]
      rcases h2 with ⟨τ, y, cs, h3, h4, h5⟩ | ⟨h3, h4, o, h5⟩
      · rw [h3]; exact ⟨cs, h4, h5⟩
      · rw [h3]
        exact (relSV_at (a := .own t) (by intros; simp)).2 ⟨h4, o, h5, fun _ => (hι t u h1).symm⟩
end
end Go.Vm

/-
  A function's contract, from its body.
-/
namespace Go.Vm
section
variable {P : Program} {C : Ctx} {A : Anns}

/-- The end of a call. -/
theorem end_ok {w : World} {F : Nat → Prop} {ins : List (Mode × Ty)} {us : List Value} {x : (tupTy (ins.map (·.2))).den} (hp : Pre C.glob w F ins us x) {N : Nat} {a : Act} {m : Mem} {s : St}
    (hs : Sim C w ⟨Among (argHdrs ins us), F, pinOf ins us⟩ N a m s.env) (hG : m.G = s.G) {outs : Outs} {r : (tupTy ((outs.map (·.2)).map (·.2) ++ mutTys ins)).den} (h : endFn ins outs s = some r) (hk : resOK P outs = true) :
    ∃ vs : List Value, ((outs.map (·.1)).mapM (resF a)).run P m.w = .ok vs m.w ∧ ∃ F2 css, Post w F ins us (outs.map (·.2)) r (outVal vs) m.w F2 css := by
  unfold endFn at h
  cases hc : (resultsOwn s outs && nodupB (resultIds s true outs) && apartB (resultIds s true outs) (resultIds s false outs) && apartB (resultIds s true outs) (mutIds ins 0) && apartB (resultIds s false outs) (mutIds ins 0)) with
  | false => rw [hc] at h; simp at h
  | true =>
    rw [hc] at h
    simp only [cond_true] at h
    simp only [Bool.and_eq_true] at hc
    obtain ⟨⟨⟨⟨c1, c2⟩, c3⟩, c4⟩, c5⟩ := hc
    split at h
    · rename_i xr hxr
      split at h
      · rename_i y hy
        have h := Option.some.inj h
        subst h
        obtain ⟨vs, r1, r2⟩ := results_run (P := P) hs hG hxr hk
        obtain ⟨m2, a1, a2, a3, a4, a5, a6⟩ := step_kills (resultIds s false outs) hs.inv
        let m3 : Mem := ⟨m2.w, fun b => m2.F b ∨ F b, m2.ι, m2.G⟩
        have hF : ∀ b, m.F b → m3.F b := fun b hb => .inl (a5.fro b hb).1
        obtain ⟨css, k1, k2, k3⟩ := outs_own (m2 := m3) hs.inv hG a1 hF r2 c1 (fun b hb => .inl (a6 b hb))
        obtain ⟨e1, e2, e3, e4⟩ := muts_end (m2 := m3) hs.inv hG a1 hF (ins := ins) (us := us) 0 hp.args.len hy (fun j u hj hu o ho hob => by
          rw [Nat.zero_add] at ho ⊢
          obtain ⟨τ, hj⟩ := hj
          obtain ⟨o', q1, q2⟩ := hs.inv.pin j u (show pinOf ins us j = some u by simp [pinOf, hj, hu])
          rw [ho] at q1
          simp only [Option.some.injEq] at q1
          subst q1
          exact q2 hob)
        have hm : HdrsOf m (mutHdrs ins us) (mutIds ins 0) := ⟨e2, fun _ => e3⟩
        -- every such block is an object's that lives, and that no other result is read through
        have live : ∀ b, Among (outHdrs (outs.map (·.2)) css ++ mutHdrs ins us) b → ∃ id o, id ∉ resultIds s false outs ∧ m.G.get id = some o ∧ isObj o = true ∧ hdrBlk (m.ι id) = some b := by
          rintro b ⟨u, hu, hb⟩
          rcases List.mem_append.1 hu with hu | hu
          · obtain ⟨id, o, j1, j2⟩ := k3.1 b ⟨u, hu, hb⟩
            exact ⟨id, o, fun hn => apartB_not c3 j1 hn, j2⟩
          · obtain ⟨id, o, j1, j2⟩ := e2 b ⟨u, hu, hb⟩
            exact ⟨id, o, fun hn => apartB_not c5 hn j1, j2⟩
        refine ⟨vs, r1, m3.F, css, ?_, ?_, ?_, by rw [k1], ?_, ?_, ?_, ?_⟩
        · exact hs.inv.kept
        · intro b hb
          exact .inr hb
        · rintro b (hb | hb)
          · have q1 := a4.fro b hb
            rw [a1] at q1
            exact ⟨q1, a4.bnd b hb⟩
          · exact ⟨Nat.lt_of_lt_of_le (hp.fro b hb) hs.inv.kept.size, .inl hb⟩
        · rw [outsJoin_part, ← a1]; exact k2
        · rw [outsJoin_part, ← a1]; exact e1
        · refine List.pairwise_append.2 ⟨k3.2 c2, e3, ?_⟩
          intro u hu v hv b hb hb'
          obtain ⟨id, o, j1, j2, j3, j4⟩ := k3.1 b ⟨u, hu, hb⟩
          obtain ⟨id', o', l1, l2, l3, l4⟩ := e2 b ⟨v, hv, hb'⟩
          have := hs.inv.inj id id' o o' b j2 j3 l2 l3 j4 l4
          subst this
          exact apartB_not c4 j1 l1
        · intro u hu b hb
          obtain ⟨id, o, j1, j2, j3, j4⟩ := live b ⟨u, hu, hb⟩
          obtain ⟨q1, q2, q3⟩ := hs.inv.own id o b j2 j3 j4
          have := a4.own id o b (by rw [a3, killIds_get _ _ id j1]; exact j2) j3 (by rw [a2]; exact j4)
          refine ⟨q1, ?_, q3⟩
          rintro (hb' | hb')
          · exact this.2.1 hb'
          · rcases q1 with q1 | ⟨v, hv, hvb⟩
            · have := hp.fro b hb'
              omega
            · exact (hp.own v hv b hvb).1 hb'
      · simp at h
    · simp at h
end
end Go.Vm

/-
  A function's contract, from its body: the join.
-/
namespace Go.Vm
section
variable {P : Program} {C : Ctx} {A : Anns}

theorem con_holds {f : FuncId} {fn : Func} {body : Code} {ins : List (Mode × Ty)} {outs : Outs} {M : (tupTy (ins.map (·.2))).den → Option (tupTy ((outs.map (·.2)).map (·.2) ++ mutTys ins)).den}
    (hC : CtxOK P C) (hD : DrawOK P) (hf : P.funcs[f]? = some fn) (hb : fn.body = some body) (hn : (fn.name == "runtime.NumGoroutine") = false) (hL : LoopsOK C A (loopsIn body)) (hd : dstOK fn.ntmps body = true)
    (hpins : pinsOK A ins = true) (hres : fn.results = (outs.map (·.1)).toArray) (hk : resOK P outs = true) (heq : ∀ x, callFn C A body ins outs x = M x) :
    Con.Holds P C.glob f ⟨ins, outs.map (·.2), M⟩ := by
  intro w F us x r hp hM
  have hn' : ¬ fn.name = "runtime.NumGoroutine" := by simpa using hn
  refine .inl ⟨by simp [callFunc, hf, hn', hb], ?_⟩
  refine calls_of_wp hf hb ?_
  have hs := init_sim hp fn.ntmps
  have hx : callFn C A body ins outs x = some r := (heq x).trans hM
  unfold callFn at hx
  have hPin : PinOK ⟨Among (argHdrs ins us), F, pinOf ins us⟩ A := by
    intro key ann hann
    obtain ⟨k, hmem⟩ := Anns.mem_of_get hann
    unfold pinsOK at hpins
    rw [List.all_eq_true] at hpins
    have h1 := hpins _ hmem
    rw [List.all_eq_true] at h1
    have h2 : ∀ i v, pinOf ins us i = some v → i ∈ mutIds ins 0 := fun i v hv => by have := pin_mut 0 hv; rwa [Nat.zero_add] at this
    refine ⟨fun i v hv => ?_, fun e sh hsh i v hv => ?_⟩
    · have := h1 i (h2 i v hv)
      simp only [Bool.and_eq_true] at this
      exact any_beq.1 this.1
    · have := h1 i (h2 i v hv)
      simp only [Bool.and_eq_true] at this
      have h3 := this.2
      rw [List.all_eq_true] at h3
      exact any_beq.1 (h3 _ hsh)
  have fin {s' : St} {a' : Act} {m' : Mem} (h1 : endFn ins outs s' = some r) (h2 : m'.G = s'.G) (h3 : Sim C w ⟨Among (argHdrs ins us), F, pinOf ins us⟩ fn.ntmps a' m' s'.env) :
      a'.defers = [] ∧ ∃ v, (Go.results fn a'.tmps).run P m'.w = .ok v m'.w ∧ ∃ v', Ending.returned v = .returned v' ∧ ∃ F2 css, Post w F ins us (outs.map (·.2)) r v' m'.w F2 css := by
    obtain ⟨vs, e1, F2, css, e2⟩ := end_ok (P := P) hp h3 h2 h1 hk
    refine ⟨h3.defers, outVal vs, ?_, _, rfl, F2, css, e2⟩
    have hrun : (Go.results fn a'.tmps).run P m'.w = (((outs.map (·.1)).mapM (resF a')).run P m'.w).andThen fun vs w' => .ok (outVal vs) w' := by
      have hf' : Go.results fn a'.tmps = (do let vs ← fn.results.mapM (resF a'); pure (if h : vs.size = 1 then vs[0] else .tuple vs)) := by
        unfold Go.results
        congr 1
      rw [hf', hres]
      simp only [Array.mapM_eq_mapM_toList, Sem.run_bind, map_eq_pure_bind, bind_assoc, pure_bind, Sem.run_pure]
      congr 1
      funext l w'
      match l with
      | [] => rfl
      | [u] => rfl
      | _ :: _ :: _ => simp [outVal]
    rw [hrun, e1]
    rfl
  refine exec_ok (s := { env := argEnv ins 0 x, G := argHeap ins 0 x }) hC hD hPin body hL hd hs rfl hx ?_
  intro e s' a' m' h1 h2 h3
  cases e with
  | normal => exact fin h1 h2 h3
  | exit i => simp at h1
  | ret => exact fin h1 h2 h3
end
end Go.Vm

/-
  A part of the memory is taken out, something is done there, and it is laid back.
-/
namespace Go.Vm

theorem Heap.get_append (X G : Heap) (i : Nat) : Heap.get (X ++ G) i = (match X.get i with | some o => some o | none => G.get i) := by
  induction X with
  | nil => rfl
  | cons p r ih =>
    obtain ⟨k, v⟩ := p
    simp only [List.cons_append, Heap.get]
    cases Nat.beq k i with
    | true => rfl
    | false => exact ih

theorem Heap.get_of_has {G : Heap} : ∀ {i : Nat}, G.has i = true → ∃ o, G.get i = some o := by
  induction G with
  | nil => intro i h; simp [Heap.has] at h
  | cons p r ih =>
    intro i h
    obtain ⟨k, v⟩ := p
    simp only [Heap.has] at h
    simp only [Heap.get]
    cases hk : Nat.beq k i with
    | true => exact ⟨v, rfl⟩
    | false => rw [hk] at h; exact ih h

theorem Heap.has_none {G : Heap} {i : Nat} (h : G.get i = none) : G.has i = false := by
  cases hh : G.has i with
  | false => rfl
  | true => obtain ⟨o, ho⟩ := Heap.get_of_has hh; rw [h] at ho; cases ho

theorem Heap.mem_of_get {G : Heap} : ∀ {i : Nat} {o : Obj}, G.get i = some o → (i, o) ∈ G := by
  induction G with
  | nil => intro i o h; simp [Heap.get] at h
  | cons p r ih =>
    intro i o h
    obtain ⟨k, v⟩ := p
    simp only [Heap.get] at h
    cases hk : Nat.beq k i with
    | true => rw [hk] at h; simp at h; subst h; rw [← Nat.eq_of_beq_eq_true hk]; simp
    | false => rw [hk] at h; exact List.mem_cons_of_mem _ (ih h)

theorem Heap.has_of_mem {G : Heap} {i : Nat} {o : Obj} (h : (i, o) ∈ G) : G.has i = true := by
  induction G with
  | nil => simp at h
  | cons p r ih =>
    obtain ⟨k, v⟩ := p
    simp only [Heap.has]
    cases hk : Nat.beq k i with
    | true => rfl
    | false =>
      rcases List.mem_cons.1 h with h | h
      · simp only [Prod.mk.injEq] at h; rw [h.1, Nat.beq_refl] at hk; cases hk
      · exact ih h

section
variable {P : Program} {C : Ctx} {w0 : World} {M : Own} {m : Mem}

/-- The same memory, told by another list. -/
theorem inv_congr (hi : Inv C w0 M m) {G' : Heap} (h : ∀ id, G'.get id = m.G.get id) : Inv C w0 M ⟨m.w, m.F, m.ι, G'⟩ ∧ Evo m ⟨m.w, m.F, m.ι, G'⟩ := by
  have he : Evo m ⟨m.w, m.F, m.ι, G'⟩ := ⟨fun b hb => ⟨hb, rfl⟩, fun id o ho => ⟨o, by show G'.get id = _; rw [h]; exact ho, .inr ⟨rfl, Alike.refl o⟩⟩⟩
  refine ⟨⟨hi.kept, ?_, ?_, ?_, hi.fro, fun g τ x hg => (hi.glob g τ x hg).mono he.fro, hi.bnd, fun i v h => pin_evo he (hi.pin i v h)⟩, he⟩
  · intro id o ho
    exact evo_obj he rfl (fun _ _ => rfl) (hi.objs id o (by rw [← h]; exact ho))
  · intro id o b ho; exact hi.own id o b (by rw [← h]; exact ho)
  · intro i j o p b ho hoo hp; exact hi.inj i j o p b (by rw [← h]; exact ho) hoo (by rw [← h]; exact hp)

theorem relAtom_in {Gi : Heap} (hsub : ∀ id o, Gi.get id = some o → m.G.get id = some o) {v : Value} : ∀ {a : Atom}, RelAtom m v a → atomHas Gi a = true → RelAtom ⟨m.w, m.F, m.ι, Gi⟩ v a
  | .u, _, _ => trivial
  | .undef, h, _ => h
  | .nils, h, _ => h
  | .val _ _, h, _ => h
  | .own id, h, hh => by
    obtain ⟨h1, o, ho, hv⟩ := h
    obtain ⟨o', ho'⟩ := Heap.get_of_has hh
    have := hsub id o' ho'; rw [ho] at this; cases this
    exact ⟨h1, o, ho', hv⟩
  | .view id off len, h, hh => by
    obtain ⟨h1, o, ho, hv⟩ := h
    obtain ⟨o', ho'⟩ := Heap.get_of_has hh
    have := hsub id o' ho'; rw [ho] at this; cases this
    exact ⟨h1, o, ho', hv⟩
  | .ptr id off, h, hh => by
    obtain ⟨h1, o, ho, hv⟩ := h
    obtain ⟨o', ho'⟩ := Heap.get_of_has hh
    have := hsub id o' ho'; rw [ho] at this; cases this
    exact ⟨h1, o, ho', hv⟩
  | .aptr id j p, h, hh => by
    obtain ⟨h1, o, ho, hv⟩ := h
    obtain ⟨o', ho'⟩ := Heap.get_of_has hh
    have := hsub id o' ho'; rw [ho] at this; cases this
    exact ⟨h1, o, ho', hv⟩
  | .cut id j p, h, hh => by
    obtain ⟨h1, o, ho, hv⟩ := h
    obtain ⟨o', ho'⟩ := Heap.get_of_has hh
    have := hsub id o' ho'; rw [ho] at this; cases this
    exact ⟨h1, o, ho', hv⟩
  | .clo f caps, h, hh => by
    obtain ⟨vs, h1, h2⟩ := h
    refine ⟨vs, h1, ?_⟩
    simp only [atomHas, List.all_eq_true] at hh
    clear h1
    induction caps generalizing vs with
    | nil =>
      match vs, h2 with
      | [], _ => trivial
    | cons c caps ih =>
      match vs, h2 with
      | u :: vs, h2 =>
        obtain ⟨⟨o, ho, hv⟩, h3⟩ := h2
        obtain ⟨o', ho'⟩ := Heap.get_of_has (hh c (by simp))
        have := hsub c o' ho'; rw [ho] at this; cases this
        exact ⟨⟨o, ho', hv⟩, ih vs h3 fun x hx => hh x (by simp [hx])⟩

theorem relAtoms_in {Gi : Heap} (hsub : ∀ id o, Gi.get id = some o → m.G.get id = some o) : ∀ {us : List Value} {l : List Atom}, Rel2 (RelAtom m) us l → l.all (fun a => atomHas Gi a) = true → Rel2 (RelAtom ⟨m.w, m.F, m.ι, Gi⟩) us l
  | [], [], _, _ => trivial
  | _ :: _, [], h, _ => h.elim
  | [], _ :: _, h, _ => h.elim
  | _ :: _, _ :: _, h, hh => by
    simp only [List.all_cons, Bool.and_eq_true] at hh
    exact ⟨relAtom_in hsub h.1 hh.1, relAtoms_in hsub h.2 hh.2⟩

theorem relSV_in {Gi : Heap} (hsub : ∀ id o, Gi.get id = some o → m.G.get id = some o) {v : Value} : ∀ {sv : SV}, RelSV m v sv → svHas Gi sv = true → RelSV ⟨m.w, m.F, m.ι, Gi⟩ v sv
  | .av a, h, hh => by
    cases a with
    | val τ x => exact h
    | _ => exact (relSV_at (by intros; simp)).2 (relAtom_in hsub ((relSV_at (by intros; simp)).1 h) hh)
  | .agg l, h, hh => by
    obtain ⟨us, h1, h2, h3⟩ := h
    exact ⟨us, h1, h2, relAtoms_in hsub h3 hh⟩
  | .tup l, h, hh => by
    obtain ⟨us, h1, h2⟩ := h
    refine ⟨us, h1, ?_⟩
    clear h1
    induction l generalizing us with
    | nil =>
      match us, h2 with
      | [], _ => trivial
    | cons p l ih =>
      simp only [svHas, List.all_cons, Bool.and_eq_true] at hh
      match us, h2 with
      | u :: us, h2 =>
        refine ⟨?_, ih hh.2 us h2.2⟩
        have h3 := h2.1
        obtain ⟨b, c⟩ := p
        cases b with
        | true => obtain ⟨us, q1, q0, q2⟩ := h3; exact ⟨us, q1, q0, relAtoms_in hsub q2 hh.1⟩
        | false =>
          obtain ⟨a, q1, q2⟩ := h3
          simp only at q1
          subst q1
          refine ⟨a, rfl, relAtom_in hsub q2 ?_⟩
          have := hh.1
          simpa using this

/-- What stands in memory leads to objects of its own. -/
theorem relAtom_has {v : Value} : ∀ {a : Atom}, RelAtom m v a → atomHas m.G a = true
  | .u, _ => rfl
  | .undef, _ => rfl
  | .nils, _ => rfl
  | .val _ _, _ => rfl
  | .own _, h => by obtain ⟨_, o, ho, _⟩ := h; exact Heap.has_of_get ho
  | .view _ _ _, h => by obtain ⟨_, o, ho, _⟩ := h; exact Heap.has_of_get ho
  | .ptr _ _, h => by obtain ⟨_, o, ho, _⟩ := h; exact Heap.has_of_get ho
  | .aptr _ _ _, h => by obtain ⟨_, o, ho, _⟩ := h; exact Heap.has_of_get ho
  | .cut _ _ _, h => by obtain ⟨_, o, ho, _⟩ := h; exact Heap.has_of_get ho
  | .clo f caps, h => by
    obtain ⟨vs, h1, h2⟩ := h
    simp only [atomHas, List.all_eq_true]
    clear h1
    induction caps generalizing vs with
    | nil => simp
    | cons c caps ih =>
      match vs, h2 with
      | u :: vs, h2 =>
        obtain ⟨⟨o, ho, _⟩, h3⟩ := h2
        intro x hx
        rcases List.mem_cons.1 hx with rfl | hx
        · exact Heap.has_of_get ho
        · exact ih vs h3 x hx
theorem relAtoms_has : ∀ {us : List Value} {l : List Atom}, Rel2 (RelAtom m) us l → ∀ a ∈ l, atomHas m.G a = true
  | [], [], _ => by simp
  | _ :: _, [], h => h.elim
  | [], _ :: _, h => h.elim
  | _ :: _, _ :: _, h => by
    intro a ha
    rcases List.mem_cons.1 ha with rfl | ha
    · exact relAtom_has h.1
    · exact relAtoms_has h.2 a ha
theorem atomHas_mono {G G' : Heap} (h : ∀ i, G.has i = true → G'.has i = true) {a : Atom} (ha : atomHas G a = true) : atomHas G' a = true := by
  cases a with
  | clo f c => simp only [atomHas, List.all_eq_true] at ha ⊢; exact fun i hi => h i (ha i hi)
  | own _ => exact h _ ha
  | view _ _ _ => exact h _ ha
  | ptr _ _ => exact h _ ha
  | aptr _ _ _ => exact h _ ha
  | cut _ _ _ => exact h _ ha
  | _ => rfl

/-- What a part of memory may do: write its own blocks, read what may be read. -/
def partOwn (m : Mem) (Gi : Heap) : Own := ⟨fun b => ∃ id, Blk ⟨m.w, m.F, m.ι, Gi⟩ id b, m.F, fun _ => none⟩

theorem frame_in (hi : Inv C w0 M m) {Gi : Heap} (hsub : ∀ id o, Gi.get id = some o → m.G.get id = some o) (hbox : ∀ id l, Gi.get id = some (.box l) → l.all (fun a => atomHas Gi a) = true) :
    Inv C m.w (partOwn m Gi) ⟨m.w, m.F, m.ι, Gi⟩ := by
  refine ⟨Kept.refl _ _, ?_, ?_, ?_, hi.fro, fun g τ x hg => hi.glob g τ x hg, fun b hb => .inl hb, fun i v h => by simp [partOwn] at h⟩
  · intro id o ho
    have hr := hi.objs id o (hsub id o ho)
    cases o with
    | dead => trivial
    | arr τ l => exact hr
    | box l =>
      obtain ⟨b, c, el, h1, h2, h0, h3⟩ := hr
      exact ⟨b, c, el, h1, h2, h0, relAtoms_in hsub h3 (hbox id l ho)⟩
  · intro id o b ho hob hb
    obtain ⟨_, h2, h3⟩ := hi.own id o b (hsub id o ho) hob hb
    exact ⟨.inr ⟨id, o, ho, hob, hb⟩, h2, h3⟩
  · intro i j o p b ho hoo hp hop h1 h2
    exact hi.inj i j o p b (hsub i o ho) hoo (hsub j p hp) hop h1 h2

theorem frame_out (hi : Inv C w0 M m) {Gi X : Heap} {m' : Mem} (hsub : ∀ id o, Gi.get id = some o → m.G.get id = some o) (hi' : Inv C m.w (partOwn m Gi) m') (he : Evo ⟨m.w, m.F, m.ι, Gi⟩ m')
    (hG' : m'.G = X ++ Gi) (hX : ∀ id o, X.get id = some o → Gi.get id = none → m.G.get id = none) :
    ∃ m'', m''.w = m'.w ∧ m''.G = X ++ m.G ∧ Inv C w0 M m'' ∧ Evo m m'' ∧ ∀ v sv, RelSV m' v sv → RelSV m'' v sv := by
  let ι2 : Nat → Value := fun id => cond ((X ++ Gi).has id) (m'.ι id) (m.ι id)
  let m2 : Mem := ⟨m'.w, m'.F, ι2, X ++ m.G⟩
  have hcase : ∀ id o, (X ++ m.G).get id = some o → (m'.G.get id = some o ∧ ι2 id = m'.ι id) ∨ (Gi.get id = none ∧ m.G.get id = some o ∧ ι2 id = m.ι id) := by
    intro id o ho
    rw [Heap.get_append] at ho
    cases hx : X.get id with
    | some o1 =>
      rw [hx] at ho
      left
      have hg : (X ++ Gi).get id = some o1 := by rw [Heap.get_append, hx]
      refine ⟨by rw [hG', hg]; exact ho, ?_⟩
      show cond _ _ _ = _
      rw [Heap.has_of_get hg]; rfl
    | none =>
      rw [hx] at ho
      cases hgi : Gi.get id with
      | some o1 =>
        left
        have hg : (X ++ Gi).get id = some o1 := by rw [Heap.get_append, hx]; exact hgi
        have h1 := hsub id o1 hgi
        have ho : m.G.get id = some o := ho
        rw [h1] at ho
        refine ⟨by rw [hG', hg]; exact ho, ?_⟩
        show cond _ _ _ = _
        rw [Heap.has_of_get hg]; rfl
      | none =>
        right
        have hg : (X ++ Gi).get id = none := by rw [Heap.get_append, hx]; exact hgi
        refine ⟨rfl, ho, ?_⟩
        show cond _ _ _ = _
        rw [Heap.has_none hg]; rfl
  have hback : ∀ id o, m'.G.get id = some o → (X ++ m.G).get id = some o ∧ ι2 id = m'.ι id := by
    intro id o ho
    rw [hG'] at ho
    have hι : ι2 id = m'.ι id := by
      show cond _ _ _ = _
      rw [Heap.has_of_get ho]; rfl
    refine ⟨?_, hι⟩
    rw [Heap.get_append] at ho ⊢
    cases hx : X.get id with
    | some o1 => rw [hx] at ho; exact ho
    | none => rw [hx] at ho; exact hsub id o ho
  have hMb : ∀ id o b, m.G.get id = some o → isObj o = true → hdrBlk (m.ι id) = some b → Gi.get id = none → ¬ (partOwn m Gi) b := by
    rintro id o b ho hob hb hn ⟨id', o', ho', hob', hb'⟩
    have := hi.inj id id' o o' b ho hob (hsub id' o' ho') hob' hb hb'
    subst this
    have ho' : Gi.get id = some o' := ho'
    rw [hn] at ho'; cases ho'
  have hMw : ∀ b, (partOwn m Gi) b → (w0.heap.size ≤ b ∨ M b) ∧ b < m.w.heap.size := by
    rintro b ⟨id', o', ho', hob', hb'⟩
    have := hi.own id' o' b (hsub id' o' ho') hob' hb'
    exact ⟨this.1, this.2.2⟩
  have hks := hi.kept.size
  have hks' := hi'.kept.size
  have hother : ∀ id o b, m.G.get id = some o → isObj o = true → hdrBlk (m.ι id) = some b → Gi.get id = none → m'.w.heap[b]? = m.w.heap[b]? := by
    intro id o b ho hob hb hn
    exact hi'.kept.block b (hi.own id o b ho hob hb).2.2 (hMb id o b ho hob hb hn)
  have he1 : Evo m' m2 := ⟨fun b hb => ⟨hb, rfl⟩, fun id o ho => ⟨o, (hback id o ho).1, .inr ⟨(hback id o ho).2, Alike.refl o⟩⟩⟩
  have he2 : Evo m m2 := by
    refine ⟨he.fro, fun id o ho => ?_⟩
    cases hgi : Gi.get id with
    | some o1 =>
      have h1 := hsub id o1 hgi
      rw [ho] at h1; cases h1
      obtain ⟨o', h2, h3⟩ := he.get id o hgi
      obtain ⟨h4, h5⟩ := hback id o' h2
      refine ⟨o', h4, ?_⟩
      rcases h3 with h3 | ⟨h3, h6⟩
      · exact .inl h3
      · exact .inr ⟨h5.trans h3, h6⟩
    | none =>
      have hx : X.get id = none := by
        cases hx : X.get id with
        | none => rfl
        | some o1 => have := hX id o1 hx hgi; rw [ho] at this; cases this
      have hg : (X ++ m.G).get id = some o := by rw [Heap.get_append, hx]; exact ho
      have hn : (X ++ Gi).get id = none := by rw [Heap.get_append, hx]; exact hgi
      refine ⟨o, hg, .inr ⟨?_, Alike.refl o⟩⟩
      show cond _ _ _ = _
      rw [Heap.has_none hn]; rfl
  refine ⟨m2, rfl, rfl, ⟨?_, ?_, ?_, ?_, hi'.fro, fun g τ x hg => (hi'.glob g τ x hg), ?_, fun i v h => pin_evo he2 (hi.pin i v h)⟩, he2, fun v sv h => evo_sv he1 h⟩
  · refine ⟨hi'.kept.os.trans hi.kept.os, hi'.kept.tape.trans hi.kept.tape, hi'.kept.output.trans hi.kept.output, by show _ ≤ m'.w.heap.size; omega, fun b hb hM => ?_⟩
    refine (hi'.kept.block b (by omega) ?_).trans (hi.kept.block b hb hM)
    intro hMb'
    rcases (hMw b hMb').1 with h | h
    · omega
    · exact hM h
  · intro id o ho
    rcases hcase id o ho with ⟨h1, h2⟩ | ⟨h1, h2, h3⟩
    · exact evo_obj he1 h2 (fun _ _ => rfl) (hi'.objs id o h1)
    · by_cases hob : isObj o = true
      · exact evo_obj he2 h3 (fun b hb => hother id o b h2 hob hb h1) (hi.objs id o h2)
      · cases o <;> simp_all [isObj, RelObj]
  · intro id o b ho hob hb
    rcases hcase id o ho with ⟨h1, h2⟩ | ⟨h1, h2, h3⟩
    · have hb' : hdrBlk (m'.ι id) = some b := by rw [← h2]; exact hb
      obtain ⟨q1, q2, q3⟩ := hi'.own id o b h1 hob hb'
      refine ⟨?_, q2, q3⟩
      rcases q1 with q1 | q1
      · exact .inl (by omega)
      · exact (hMw b q1).1
    · have hb' : hdrBlk (m.ι id) = some b := by rw [← h3]; exact hb
      obtain ⟨q1, q2, q3⟩ := hi.own id o b h2 hob hb'
      refine ⟨q1, ?_, by show b < m'.w.heap.size; omega⟩
      intro hF
      rcases hi'.bnd b hF with h | h | h
      · exact q2 h
      · exact hMb id o b h2 hob hb' h1 h
      · omega
  · have cross : ∀ i j o p b, m'.G.get i = some o → ι2 i = m'.ι i → Gi.get j = none → m.G.get j = some p → ι2 j = m.ι j → isObj o = true → isObj p = true → hdrBlk (ι2 i) = some b → hdrBlk (ι2 j) = some b → False := by
      intro i j o p b a1 a2 b1 b2 b3 hoo hop h1 h2
      rw [a2] at h1; rw [b3] at h2
      have q := (hi'.own i o b a1 hoo h1).1
      have := (hi.own j p b b2 hop h2).2.2
      rcases q with q | q
      · omega
      · exact hMb j p b b2 hop h2 b1 q
    intro i j o p b ho hoo hp hop h1 h2
    rcases hcase i o ho with ⟨a1, a2⟩ | ⟨a1, a2, a3⟩
    · rcases hcase j p hp with ⟨b1, b2⟩ | ⟨b1, b2, b3⟩
      · exact hi'.inj i j o p b a1 hoo b1 hop (by rw [← a2]; exact h1) (by rw [← b2]; exact h2)
      · exact (cross i j o p b a1 a2 b1 b2 b3 hoo hop h1 h2).elim
    · rcases hcase j p hp with ⟨b1, b2⟩ | ⟨b1, b2, b3⟩
      · exact (cross j i p o b b1 b2 a1 a2 a3 hop hoo h2 h1).elim
      · exact hi.inj i j o p b a2 hoo b2 hop (by rw [← a3]; exact h1) (by rw [← b3]; exact h2)
  · intro b hF
    rcases hi'.bnd b hF with h | h | h
    · exact hi.bnd b h
    · rcases (hMw b h).1 with h | h
      · exact .inr (.inr h)
      · exact .inr (.inl h)
    · exact .inr (.inr (by omega))
end

/-! ### What an operation adds to memory -/

def Suf (G : Heap) (r : Option St) : Prop := ∀ s', r = some s' → ∃ X, s'.G = X ++ G
section
variable {C : Ctx} {s : St}
theorem suf_none {G : Heap} : Suf G none := fun _ h => by cases h
theorem suf_put {dst : Option Nat} {v : SV} {G : Heap} (h : ∃ X, s.G = X ++ G) : Suf G (some (putEnv dst v s)) := fun s' h' => by
  cases h'
  cases dst <;> exact h
theorem suf_self : ∃ X, s.G = X ++ s.G := ⟨[], rfl⟩
theorem suf_cond {G : Heap} {x y : Option St} {b : Bool} (h1 : Suf G x) (h2 : Suf G y) : Suf G (cond b x y) := by cases b <;> assumption
theorem suf_ite {G : Heap} {c : Prop} [Decidable c] {x y : Option St} (h1 : Suf G x) (h2 : Suf G y) : Suf G (if c then x else y) := by split <;> assumption
theorem suf_bind {G : Heap} {α : Type} {x : Option α} {F : α → Option St} (h : ∀ a, Suf G (F a)) : Suf G (x.bind F) := by
  cases x with
  | none => exact suf_none
  | some a => exact h a
theorem suf_withNew {G : Heap} {t : St} {site : Nat} {ob : Obj} {F : Nat → St → Option St} (ht : ∃ X, t.G = X ++ G) (h : ∀ i u, (∃ X, u.G = X ++ G) → Suf G (F i u)) : Suf G (withNew t site ob F) := by
  refine suf_cond suf_none (h _ _ ?_)
  obtain ⟨X, hX⟩ := ht
  exact ⟨_ :: X, by rw [hX]; rfl⟩
theorem suf_asI {G : Heap} {v : SV} {F : Int → Option St} (h : ∀ n, Suf G (F n)) : Suf G (asI v F) := by
  unfold asI; split
  · exact h _
  · exact suf_none
theorem suf_asI64 {G : Heap} {v : SV} {F : Int → Option St} (h : ∀ n, Suf G (F n)) : Suf G (asI64 v F) := by
  unfold asI64; split
  · exact h _
  · exact suf_none
theorem suf_optI {G : Heap} {e : Env} {d : Int} {x : Option Operand} {F : Int → Option St} (h : ∀ n, Suf G (F n)) : Suf G (optI C e d x F) := by
  cases x with
  | none => exact h _
  | some x => exact suf_asI h
theorem suf_indexAt {G : Heap} {t : Nat} {x : SV} {i : Int} {F : Atom → Option St} (h : ∀ n, Suf G (F n)) : Suf G (indexAt C s t x i F) := by
  unfold indexAt; split
  · exact suf_bind fun _ => h _
  · split
    · exact suf_bind fun _ => h _
    · exact suf_none
  · split
    · exact suf_bind fun _ => h _
    · exact suf_none
  · split
    · exact suf_bind fun _ => h _
    · exact suf_none
  · exact suf_bind fun _ => h _
  · split
    · exact suf_ite (h _) suf_none
    · exact suf_none
  · exact suf_none
theorem suf_loadAt {G : Heap} {τ : Ty} {p : Atom} {F : SV → Option St} (h : ∀ n, Suf G (F n)) : Suf G (loadAt s τ p F) := by
  unfold loadAt; split
  · split
    · split
      · exact h _
      · exact suf_none
    · exact suf_none
  · split
    · refine suf_bind fun _ => ?_
      split
      · split
        · exact h _
        · exact suf_none
      · exact suf_none
    · exact suf_none
  · split
    · exact h _
    · exact suf_none
  · exact suf_none
theorem killIds_suf : ∀ (ids : List Nat) (G : Heap), ∃ X, killIds ids G = X ++ G
  | [], G => ⟨[], rfl⟩
  | i :: r, G => by
    obtain ⟨X, hX⟩ := killIds_suf r ((i, .dead) :: G)
    exact ⟨X ++ [(i, .dead)], by simp [killIds, hX]⟩
theorem killIds_suf' {G G0 : Heap} (ids : List Nat) (h : ∃ X, G = X ++ G0) : ∃ X, killIds ids G = X ++ G0 := by
  obtain ⟨X, hX⟩ := killIds_suf ids G
  obtain ⟨Y, hY⟩ := h
  exact ⟨X ++ Y, by rw [hX, hY, List.append_assoc]⟩
theorem suf_storeAt {τ : Ty} {p : Atom} {v : SV} {F : St → Option St} (h : ∀ u, (∃ X, u.G = X ++ s.G) → Suf s.G (F u)) : Suf s.G (storeAt s τ p v F) := by
  unfold storeAt; split
  · split
    · split
      · refine suf_cond ?_ suf_none
        split
        · exact h _ ⟨[_], rfl⟩
        · exact suf_none
      · exact suf_none
    · exact suf_none
  · split
    · split
      · refine suf_bind fun _ => ?_
        split
        · refine suf_cond suf_none (h _ ?_)
          obtain ⟨X, hX⟩ := killIds_suf (svIds v) s.G
          exact ⟨(_, _) :: X, by show (_, _) :: killIds (svIds v) s.G = _; rw [hX]; rfl⟩
        · exact suf_none
      · exact suf_none
    · exact suf_none
  · exact suf_none
theorem suf_lenOf {G : Heap} {v : SV} {F : Int → Option St} (h : ∀ n, Suf G (F n)) : Suf G (lenOf s v F) := by
  unfold lenOf; split
  · exact h _
  · exact h _
  · exact h _
  · split
    · exact h _
    · exact suf_none
  · split
    · exact h _
    · exact suf_none
  · split
    · exact h _
    · exact suf_none
  · exact suf_none
theorem suf_minMax {G : Heap} {mx : Bool} {F : Int → Option St} (h : ∀ n, Suf G (F n)) : ∀ (l : List SV) (a : Int), Suf G (minMax mx a l F)
  | [], a => h a
  | v :: l, a => suf_asI64 fun b => suf_minMax h l _
theorem suf_sliceOp {G : Heap} {x : SV} {lo : Int} {hi mx : Option Int} {F : SV → Option St} (h : ∀ n, Suf G (F n)) : Suf G (sliceOp s x lo hi mx F) := by
  unfold sliceOp; split
  · exact suf_bind fun _ => h _
  · exact suf_bind fun _ => h _
  · exact suf_ite (h _) suf_none
  · exact suf_ite (h _) suf_none
  · split
    · exact suf_bind fun _ => h _
    · exact suf_none
  · exact suf_bind fun _ => h _
  · split
    · exact suf_bind fun _ => suf_ite (h _) suf_none
    · exact suf_none
  · exact suf_none
theorem freshCells_suf : ∀ {τ : Ty} {x : τ.den} {site : Nat} {G : Heap} {p : List Atom × Heap}, freshCells τ x site G = some p → ∃ X, p.2 = X ++ G
  | .prod a b, x, site, G, p, h => by
    simp only [freshCells] at h
    split at h
    · rename_i p1 h1
      split at h
      · rename_i p2 h2
        cases h
        obtain ⟨X, hX⟩ := freshCells_suf h1
        obtain ⟨Y, hY⟩ := freshCells_suf h2
        exact ⟨Y ++ X, by simp [hX, hY]⟩
      · cases h
    · cases h
  | .unit, _, _, _, p, h => by simp only [freshCells] at h; cases h; exact ⟨[], rfl⟩
  | .int _, _, _, _, p, h => by simp only [freshCells] at h; cases h; exact ⟨[], rfl⟩
  | .bool, _, _, _, p, h => by simp only [freshCells] at h; cases h; exact ⟨[], rfl⟩
  | .str, _, _, _, p, h => by simp only [freshCells] at h; cases h; exact ⟨[], rfl⟩
  | .slice e, x, site, G, p, h => by
    simp only [freshCells] at h
    cases hb : G.has (freshFrom 8 G site) with
    | true => rw [hb] at h; cases h
    | false => rw [hb] at h; cases h; exact ⟨[_], rfl⟩
  | .arr _ _, _, _, _, _, h => by simp [freshCells] at h
  | .ptr _, _, _, _, _, h => by simp [freshCells] at h
  | .clo _ _, _, _, _, _, h => by simp [freshCells] at h
theorem freshOuts_suf : ∀ {outs : List (Bool × Ty)} {x : (tupTy (outs.map (·.2))).den} {site : Nat} {G : Heap} {q : List (Bool × List Atom) × Heap}, freshOuts outs x site G = some q → ∃ X, q.2 = X ++ G
  | [], _, _, _, q, h => by simp only [freshOuts] at h; cases h; exact ⟨[], rfl⟩
  | p :: r, x, site, G, q, h => by
    unfold freshOuts at h
    split at h
    · rename_i c hc
      split at h
      · rename_i q2 h2
        cases h
        obtain ⟨Y, hY⟩ := freshOuts_suf h2
        have h1 : ∃ X, c.2 = X ++ G := by
          cases hp : p.1 with
          | true => rw [hp] at hc; exact freshCells_suf hc
          | false => rw [hp] at hc; cases hc; exact ⟨[], rfl⟩
        obtain ⟨X, hX⟩ := h1
        exact ⟨Y ++ X, by simp [hX, hY]⟩
      · cases h
    · cases h
theorem argsAfter_suf : ∀ {ins : List (Mode × Ty)} {vs : List SV} {x : (tupTy (mutTys ins)).den} {G G0 G' : Heap}, (∃ X, G = X ++ G0) → argsAfter ins vs x G = some G' → ∃ X, G' = X ++ G0
  | [], [], _, G, G0, G', hG, h => by simp only [argsAfter] at h; cases h; exact hG
  | [], _ :: _, _, _, _, _, _, h => by simp [argsAfter] at h
  | (.rd, _) :: r, [], _, _, _, _, _, h => by simp [argsAfter] at h
  | (.upd, _) :: r, [], _, _, _, _, _, h => by simp [argsAfter] at h
  | (.take, _) :: r, [], _, _, _, _, _, h => by simp [argsAfter] at h
  | (.rd, _) :: r, _ :: vs, x, G, G0, G', hG, h => by
    simp only [argsAfter] at h
    exact argsAfter_suf (ins := r) hG h
  | (.take, _) :: r, v :: vs, x, G, G0, G', hG, h => by
    simp only [argsAfter] at h
    have hc : ∀ k, ∃ X, ((k, Obj.dead) :: G) = X ++ G0 := fun k => by obtain ⟨X, hX⟩ := hG; exact ⟨_ :: X, by rw [hX]; rfl⟩
    split at h
    · exact argsAfter_suf (ins := r) hG h
    · exact argsAfter_suf (ins := r) (hc _) h
    · exact argsAfter_suf (ins := r) (hc _) h
    · cases h
  | (.upd, .slice e) :: r, v :: vs, x, G, G0, G', hG, h => by
    simp only [argsAfter] at h
    have hc : ∀ k (o : Obj), ∃ X, ((k, o) :: G) = X ++ G0 := fun k o => by obtain ⟨X, hX⟩ := hG; exact ⟨_ :: X, by rw [hX]; rfl⟩
    split at h
    · exact argsAfter_suf (ins := r) hG h
    · exact argsAfter_suf (ins := r) (hc _ _) h
    · cases h
  | (.upd, .int _) :: _, _ :: _, _, _, _, _, _, h => by simp [argsAfter] at h
  | (.upd, .bool) :: _, _ :: _, _, _, _, _, _, h => by simp [argsAfter] at h
  | (.upd, .str) :: _, _ :: _, _, _, _, _, _, h => by simp [argsAfter] at h
  | (.upd, .prod _ _) :: _, _ :: _, _, _, _, _, _, h => by simp [argsAfter] at h
  | (.upd, .unit) :: _, _ :: _, _, _, _, _, _, h => by simp [argsAfter] at h
  | (.upd, .arr _ _) :: _, _ :: _, _, _, _, _, _, h => by simp [argsAfter] at h
  | (.upd, .ptr _) :: _, _ :: _, _, _, _, _, _, h => by simp [argsAfter] at h
  | (.upd, .clo _ _) :: _, _ :: _, _, _, _, _, _, h => by simp [argsAfter] at h
theorem suf_callAt {site f : Nat} {vs : List SV} {F : SV → St → Option St} (h : ∀ v u, (∃ X, u.G = X ++ s.G) → Suf s.G (F v u)) : Suf s.G (callAt C s site f vs F) := by
  unfold callAt; split
  · split
    · refine suf_bind fun _ => suf_cond ?_ suf_none
      split
      · rename_i G' hG'
        have h1 := argsAfter_suf ⟨[], rfl⟩ hG'
        split
        · rename_i q hq
          obtain ⟨X, hX⟩ := freshOuts_suf hq
          refine h _ _ ?_
          have h2 : ∀ b l, ∃ Y, cond b G' (killIds l G') = Y ++ s.G := fun b l => by
            cases b with
            | true => exact h1
            | false => exact killIds_suf' l h1
          obtain ⟨Y, hY⟩ := h2 _ _
          exact ⟨X ++ Y, by show q.2 = _; rw [hX, hY, List.append_assoc]⟩
        · exact suf_none
      · exact suf_none
    · exact suf_none
  · exact suf_none
theorem suf_both {G : Heap} {x y : Option St} (h1 : Suf G x) : Suf G (both x y) := by
  unfold both; split
  · exact h1
  · exact suf_none

theorem runOp_suf (o : Oper) : Suf s.G (runOp C o s some) := by
  unfold runOp
  dsimp only
  have P0 : ∀ (v : SV), Suf s.G (some (putEnv o.dst v s)) := fun v => suf_put suf_self
  have N0 : ∀ (t : St) (ob : Obj) (v : Nat → SV), (∃ X, t.G = X ++ s.G) → Suf s.G (withNew t (o.dst.getD 0) ob fun i s2 => some (putEnv o.dst (v i) s2)) := fun t ob v ht => suf_withNew ht fun i u hu => suf_put hu
  split
  all_goals first | exact P0 _ | exact suf_none | skip
  all_goals repeat' first
    | exact suf_none
    | exact P0 _
    | exact N0 _ _ _ suf_self
    | (refine N0 _ _ _ ?_; exact killIds_suf _ _)
    | refine suf_cond ?_ ?_
    | refine suf_ite ?_ ?_
    | refine suf_bind fun _ => ?_
    | exact suf_both (P0 _)
    | exact suf_put ⟨[_], rfl⟩
    | exact suf_loadAt fun _ => P0 _
    | exact suf_storeAt fun u hu => suf_put hu
    | exact suf_lenOf fun _ => P0 _
    | exact suf_minMax (fun _ => P0 _) _ _
    | exact suf_sliceOp fun _ => P0 _
    | exact suf_indexAt fun _ => P0 _
    | exact suf_callAt fun v u hu => suf_put hu
    | refine suf_asI fun _ => ?_
    | refine suf_asI64 fun _ => ?_
    | refine suf_optI fun _ => ?_
    | split
end
end Go.Vm

/-
  What is run in a region whose operations stand in no fixed order: told step by step.
-/
namespace Go.Vm

section
variable {C : Ctx} {s : St} {R : Type} {K : St → Option R} {o : Oper}

theorem runOp_one (h1 : oneWay C o s.env = true) : runOp C o s K = (runOp C o s some).bind K := by
  by_cases hb : ∀ op xt x y yt, o.op ≠ .binOp op xt x y yt
  · exact runOp_nat hb
  · simp only [Classical.not_forall, Classical.not_not] at hb
    obtain ⟨op, xt, x, y, yt, ho⟩ := hb
    simp only [oneWay, ho] at h1
    simp only [runOp, ho]
    split
    · refine cond_nat ?_ rfl
      split
      · exact cond_nat rfl rfl
      · exact cond_nat rfl rfl
      · split
        · rfl
        · rfl
    · split
      · exact bind_nat fun _ => rfl
      · split
        · rfl
        · rfl
    · refine cond_nat ?_ rfl
      split
      · rfl
      · rfl
      · rfl
    · rename_i _ _ _ _ hy
      have hc : isConst y = false := by
        rw [hy] at h1
        simpa using h1
      rw [hc]; rfl
    · split
      · refine cond_nat ?_ rfl
        split
        · split
          · split
            · rfl
            · rfl
            · rfl
          · rfl
        · rfl
      · rfl

theorem runOp_free (hf : heapFree o = true) {e : Env} {G : Heap} {s' : St} (h : runOp C o ⟨e, G⟩ some = some s') : s'.G = G ∧ ∀ G', runOp C o ⟨e, G'⟩ some = some ⟨s'.env, G'⟩ := by
  have put : ∀ (v : SV) (G : Heap), (putEnv o.dst v ⟨e, G⟩).G = G ∧ ∀ G', putEnv o.dst v ⟨e, G'⟩ = ⟨(putEnv o.dst v ⟨e, G⟩).env, G'⟩ := fun v G => by
    cases o.dst <;> exact ⟨rfl, fun _ => rfl⟩
  have fin : ∀ (v : SV), some (putEnv o.dst v ⟨e, G⟩) = some s' → s'.G = G ∧ ∀ G', some (putEnv o.dst v ⟨e, G'⟩) = some (⟨s'.env, G'⟩ : St) := fun v hv => by
    cases hv
    exact ⟨(put v G).1, fun G' => by rw [(put v G).2]⟩
  unfold heapFree at hf
  split at hf
  · rename_i x ho
    simp only [runOp, ho] at h ⊢
    exact fin _ h
  · rename_i x ho
    simp only [runOp, ho] at h ⊢
    exact fin _ h
  · rename_i c x y ho
    simp only [runOp, ho] at h ⊢
    split at h
    · rename_i t ht
      cases t with
      | true => exact fin _ h
      | false => exact fin _ h
    · cases h
  · rename_i x i ho
    simp only [runOp, ho] at h ⊢
    split at h
    · rename_i l hl
      split at h
      · rename_i c hc
        have := fin _ h
        refine ⟨this.1, fun G' => ?_⟩
        exact this.2 G'
      · rename_i a ha
        have := fin _ h
        refine ⟨this.1, fun G' => ?_⟩
        exact this.2 G'
      · cases h
    · cases h
  · rename_i op t x ho
    simp only [runOp, ho] at h ⊢
    split at h
    · rename_i b hx
      have := fin _ h
      refine ⟨this.1, fun G' => ?_⟩
      exact this.2 G'
    · rename_i k n hx
      have := fin _ h
      refine ⟨this.1, fun G' => ?_⟩
      exact this.2 G'
    · cases h
  · cases hf
end

section
variable {C : Ctx} {R : Type} {res : R} {all : List Oper}

/-- Is the operation carried out, or passed by? -/
def Going (all : List Oper) (o : Oper) (e : Env) : Bool → Prop
  | true => o.guard = none ∨ ∃ j want d, o.guard = some (j, want) ∧ slotOf all j = some d ∧ e.get d = .av (.val .bool want)
  | false => ∃ j want d, o.guard = some (j, want) ∧ slotOf all j = some d ∧ (e.get d = .av .undef ∨ e.get d = .av (.val .bool (!want)))

theorem sees_congr {o : Oper} {e e' : Env} (h : ∀ t, e'.get t = e.get t) : sees all o e' = sees all o e := by
  unfold sees
  exact List.map_congr_left fun t _ => by rw [h t]
theorem sees_get {o : Oper} {e : Env} : ∀ t, (sees all o e).get t = e.get t ∧ t ∈ looks all o ∨ (sees all o e).get t = .av .u := by
  intro t
  unfold sees
  induction looks all o with
  | nil => exact .inr rfl
  | cons a l ih =>
    simp only [List.map_cons, Env.get]
    cases h : Nat.beq a t with
    | true => left; rw [Nat.eq_of_beq_eq_true h]; exact ⟨rfl, by simp⟩
    | false =>
      rcases ih with ⟨ih, hm⟩ | ih
      · left; exact ⟨ih, by simp [hm]⟩
      · right; exact ih
theorem lit_get {d : Nat} {b : Bool} {e : Env} (h : e.get d = .av (.val .bool b)) (t : Nat) : Env.get ((d, .av (.val .bool b)) :: e) t = e.get t := by
  rw [Env.get_cons]
  split
  · rename_i hh; subst hh; exact h.symm
  · rfl

/-- The ways through a guard. -/
theorem guard_ways {o : Oper} {e : Env} {run skip : Env → Option R}
    (h : (match o.guard with
      | none => run e
      | some (j, want) => match slotOf all j with
        | none => none
        | some d => match e.get d with
          | .av (.val .bool b) =>
            cond b
              (cond want (run ((d, .av (.val .bool true)) :: e)) (skip ((d, .av (.val .bool true)) :: e)))
              (cond want (skip ((d, .av (.val .bool false)) :: e)) (run ((d, .av (.val .bool false)) :: e)))
          | .av .undef => skip e
          | _ => none) = some res) :
    (Going all o e true ∧ ∃ e', (∀ t, e'.get t = e.get t) ∧ run e' = some res) ∨ (Going all o e false ∧ ∃ e', (∀ t, e'.get t = e.get t) ∧ skip e' = some res) := by
  split at h
  · rename_i hg
    exact .inl ⟨.inl hg, e, fun _ => rfl, h⟩
  · rename_i j want hg
    split at h
    · cases h
    · rename_i d hd
      split at h
      · rename_i b hb
        cases b with
        | true =>
          cases want with
          | true => exact .inl ⟨.inr ⟨j, true, d, hg, hd, hb⟩, _, lit_get hb, h⟩
          | false => exact .inr ⟨⟨j, false, d, hg, hd, .inr hb⟩, _, lit_get hb, h⟩
        | false =>
          cases want with
          | true => exact .inr ⟨⟨j, true, d, hg, hd, .inr hb⟩, _, lit_get hb, h⟩
          | false => exact .inl ⟨.inr ⟨j, false, d, hg, hd, hb⟩, _, lit_get hb, h⟩
      · rename_i hb
        exact .inr ⟨⟨j, want, d, hg, hd, .inl hb⟩, e, fun _ => rfl, h⟩
      · cases h

/-- A step of the first part. -/
def StepA (C : Ctx) (all : List Oper) (ms : List Nat) (B : Heap) (V : Nat → SV) (X : Nat → Heap) (E : Nat → Env) (L : Nat → List (Nat × Heap)) (j : Nat) (o : Oper) : Prop :=
  (∀ t, (E (j + 1)).get t = if o.dst.getD 0 = t then V j else (E j).get t) ∧
  ((Going all o (E j) true ∧ L (j + 1) = (j, X j) :: L j ∧ ((sees all o (E j)).all fun p => svHas (heapFor (ms.getD j 0) (L j) B) p.2) = true ∧
      ((L j).all fun p => !(bit (ms.getD j 0) p.1) || boxHas (heapFor (ms.getD j 0) (L j) B) p.2) = true ∧
      ∃ s', runOp C o ⟨sees all o (E j), heapFor (ms.getD j 0) (L j) B⟩ some = some s' ∧ V j = s'.env.get (o.dst.getD 0) ∧ s'.G = X j ++ heapFor (ms.getD j 0) (L j) B) ∨
   (Going all o (E j) false ∧ L (j + 1) = L j ∧ V j = .av .undef ∧ X j = []))

theorem upd_eq {α : Type} (f : Nat → α) (i : Nat) (a : α) : (fun j => if j = i then a else f j) i = a := by simp
theorem upd_ne {α : Type} (f : Nat → α) {i j : Nat} (a : α) (h : i < j) : (fun j => if j = i then a else f j) j = f j := by
  have : j ≠ i := by omega
  simp [this]

theorem runA_trace {ms : List Nat} {B : Heap} {K : Env → List (Nat × Heap) → Option R} : ∀ (r : List Oper) (i : Nat) (e : Env) (N : List (Nat × Heap)), (∀ j, j < r.length → r[j]? = all[i + j]?) →
    runA C all ms i r e N B K = some res →
    ∃ (V : Nat → SV) (X : Nat → Heap) (E : Nat → Env) (L : Nat → List (Nat × Heap)), E i = e ∧ L i = N ∧ K (E (i + r.length)) (L (i + r.length)) = some res ∧
      ∀ j o, i ≤ j → j < i + r.length → all[j]? = some o → StepA C all ms B V X E L j o
  | [], i, e, N, _, h => ⟨fun _ => .av .u, fun _ => [], fun _ => e, fun _ => N, rfl, rfl, h, fun j o h1 h2 => by simp at h2; omega⟩
  | o :: r, i, e, N, hl, h => by
    have hi : all[i]? = some o := by simpa using (hl 0 (by simp)).symm
    have hl' : ∀ j, j < r.length → r[j]? = all[i + 1 + j]? := fun j hj => by have := hl (j + 1) (by simp; omega); simpa [Nat.add_assoc, Nat.add_comm 1 j] using this
    unfold runA at h
    have key : ∀ (v : SV) (x : Heap) (e1 : Env) (N1 : List (Nat × Heap)), runA C all ms (i + 1) r e1 N1 B K = some res →
        (∀ (V : Nat → SV) (X : Nat → Heap) (E : Nat → Env) (L : Nat → List (Nat × Heap)), V i = v → X i = x → E i = e → E (i + 1) = e1 → L i = N → L (i + 1) = N1 → StepA C all ms B V X E L i o) →
        ∃ (V : Nat → SV) (X : Nat → Heap) (E : Nat → Env) (L : Nat → List (Nat × Heap)), E i = e ∧ L i = N ∧ K (E (i + (o :: r).length)) (L (i + (o :: r).length)) = some res ∧
          ∀ j o', i ≤ j → j < i + (o :: r).length → all[j]? = some o' → StepA C all ms B V X E L j o' := by
      intro v x e1 N1 h1 h2
      obtain ⟨V, X, E, L, q1, q2, q3, q4⟩ := runA_trace r (i + 1) e1 N1 hl' h1
      refine ⟨fun j => if j = i then v else V j, fun j => if j = i then x else X j, fun j => if j = i then e else E j, fun j => if j = i then N else L j, by simp, by simp, ?_, ?_⟩
      · rw [List.length_cons, show i + (r.length + 1) = i + 1 + r.length by omega, upd_ne E e (by omega : i < i + 1 + r.length), upd_ne L N (by omega : i < i + 1 + r.length)]
        exact q3
      · intro j o' hj1 hj2 ho'
        rcases Nat.eq_or_lt_of_le hj1 with rfl | hj1
        · rw [hi] at ho'; cases ho'
          exact h2 _ _ _ _ (by simp) (by simp) (by simp) (by simp [q1]) (by simp) (by simp [q2])
        · have := q4 j o' hj1 (by simp at hj2; omega) ho'
          unfold StepA at this ⊢
          rw [upd_ne V v hj1, upd_ne X x hj1, upd_ne E e hj1, upd_ne E e (by omega : i < j + 1), upd_ne L N hj1, upd_ne L N (by omega : i < j + 1)]
          exact this
    rcases guard_ways (all := all) (o := o) (e := e) (run := fun e' => cond (oneWay C o (sees all o e') && ((sees all o e').all fun p => svHas (heapFor (ms.getD i 0) N B) p.2) && N.all fun p => !(bit (ms.getD i 0) p.1) || boxHas (heapFor (ms.getD i 0) N B) p.2)
      (runOp C o { env := sees all o e', G := heapFor (ms.getD i 0) N B } fun s' =>
        runA C all ms (i + 1) r ((o.dst.getD 0, s'.env.get (o.dst.getD 0)) :: e') ((i, s'.G.take (s'.G.length - (heapFor (ms.getD i 0) N B).length)) :: N) B K) none)
      (skip := fun e' => runA C all ms (i + 1) r ((o.dst.getD 0, .av .undef) :: e') N B K) h with ⟨hg, e', he', h⟩ | ⟨hg, e', he', h⟩
    · rw [sees_congr he'] at h
      cases hc : (oneWay C o (sees all o e) && ((sees all o e).all fun p => svHas (heapFor (ms.getD i 0) N B) p.2) && N.all fun p => !(bit (ms.getD i 0) p.1) || boxHas (heapFor (ms.getD i 0) N B) p.2) with
      | false => rw [hc] at h; cases h
      | true =>
        rw [hc, cond_true] at h
        simp only [Bool.and_eq_true] at hc
        obtain ⟨⟨c1, c2⟩, c3⟩ := hc
        rw [runOp_one (by exact c1)] at h
        obtain ⟨s', hs', h⟩ := Option.bind_eq_some_iff.1 h
        obtain ⟨X1, hX1⟩ := runOp_suf o s' hs'
        have hX1 : s'.G = X1 ++ heapFor (ms.getD i 0) N B := hX1
        have ht : s'.G.take (s'.G.length - (heapFor (ms.getD i 0) N B).length) = X1 := by
          rw [hX1]; simp
        rw [ht] at h
        refine key (s'.env.get (o.dst.getD 0)) X1 _ _ h ?_
        intro V X E L a1 a2 a3 a4 a5 a6
        refine ⟨fun t => ?_, .inl ⟨by rw [a3]; exact hg, by rw [a6, a2, a5], by rw [a3, a5]; exact c2, by rw [a5]; exact c3, s', by rw [a3, a5]; exact hs', a1, by rw [a2, a5]; exact hX1⟩⟩
        rw [a4, a1, a3, Env.get_cons, he' t]
    · refine key (.av .undef) [] _ _ h ?_
      intro V X E L a1 a2 a3 a4 a5 a6
      refine ⟨fun t => ?_, .inr ⟨by rw [a3]; exact hg, by rw [a6, a5], a1, a2⟩⟩
      rw [a4, a1, a3, Env.get_cons, he' t]

/-- A step of the second part. -/
def StepT (C : Ctx) (all : List Oper) (V : Nat → SV) (E : Nat → Env) (H : Nat → Heap) (j : Nat) (o : Oper) : Prop :=
  (∀ t, (E (j + 1)).get t = if o.dst = some t then V j else (E j).get t) ∧
  ((Going all o (E j) true ∧ ∃ s', runOp C o ⟨sees all o (E j), H j⟩ some = some s' ∧ V j = s'.env.get (o.dst.getD 0) ∧ s'.G = H (j + 1)) ∨
   (Going all o (E j) false ∧ V j = .av .undef ∧ H (j + 1) = H j))

theorem putE_get (dst : Option Nat) (v : SV) (e : Env) (G : Heap) (t : Nat) : (putEnv dst v ⟨e, G⟩).env.get t = if dst = some t then v else e.get t := by
  cases dst with
  | none => simp [putEnv]
  | some d => simp [putEnv, Env.get_cons]

theorem runT_trace {K : Env → Heap → Option R} : ∀ (r : List Oper) (i : Nat) (e : Env) (G : Heap), (∀ j, j < r.length → r[j]? = all[i + j]?) → runT C all r e G K = some res →
    ∃ (V : Nat → SV) (E : Nat → Env) (H : Nat → Heap), E i = e ∧ H i = G ∧ K (E (i + r.length)) (H (i + r.length)) = some res ∧
      ∀ j o, i ≤ j → j < i + r.length → all[j]? = some o → StepT C all V E H j o
  | [], i, e, G, _, h => ⟨fun _ => .av .u, fun _ => e, fun _ => G, rfl, rfl, h, fun j o h1 h2 => by simp at h2; omega⟩
  | o :: r, i, e, G, hl, h => by
    have hi : all[i]? = some o := by simpa using (hl 0 (by simp)).symm
    have hl' : ∀ j, j < r.length → r[j]? = all[i + 1 + j]? := fun j hj => by have := hl (j + 1) (by simp; omega); simpa [Nat.add_assoc, Nat.add_comm 1 j] using this
    unfold runT at h
    have key : ∀ (v : SV) (e1 : Env) (G1 : Heap), runT C all r e1 G1 K = some res →
        (∀ (V : Nat → SV) (E : Nat → Env) (H : Nat → Heap), V i = v → E i = e → E (i + 1) = e1 → H i = G → H (i + 1) = G1 → StepT C all V E H i o) →
        ∃ (V : Nat → SV) (E : Nat → Env) (H : Nat → Heap), E i = e ∧ H i = G ∧ K (E (i + (o :: r).length)) (H (i + (o :: r).length)) = some res ∧
          ∀ j o', i ≤ j → j < i + (o :: r).length → all[j]? = some o' → StepT C all V E H j o' := by
      intro v e1 G1 h1 h2
      obtain ⟨V, E, H, q1, q2, q3, q4⟩ := runT_trace r (i + 1) e1 G1 hl' h1
      refine ⟨fun j => if j = i then v else V j, fun j => if j = i then e else E j, fun j => if j = i then G else H j, by simp, by simp, ?_, ?_⟩
      · rw [List.length_cons, show i + (r.length + 1) = i + 1 + r.length by omega, upd_ne E e (by omega : i < i + 1 + r.length), upd_ne H G (by omega : i < i + 1 + r.length)]
        exact q3
      · intro j o' hj1 hj2 ho'
        rcases Nat.eq_or_lt_of_le hj1 with rfl | hj1
        · rw [hi] at ho'; cases ho'
          exact h2 _ _ _ (by simp) (by simp) (by simp [q1]) (by simp) (by simp [q2])
        · have := q4 j o' hj1 (by simp at hj2; omega) ho'
          unfold StepT at this ⊢
          rw [upd_ne V v hj1, upd_ne E e hj1, upd_ne E e (by omega : i < j + 1), upd_ne H G hj1, upd_ne H G (by omega : i < j + 1)]
          exact this
    rcases guard_ways (all := all) (o := o) (e := e) (run := fun e' => cond (oneWay C o (sees all o e')) (runOp C o { env := sees all o e', G := G } fun s' =>
      runT C all r (putEnv o.dst (s'.env.get (o.dst.getD 0)) { env := e', G := [] }).env s'.G K) none)
      (skip := fun e' => runT C all r (putEnv o.dst (.av .undef) { env := e', G := [] }).env G K) h with ⟨hg, e', he', h⟩ | ⟨hg, e', he', h⟩
    · rw [sees_congr he'] at h
      cases hc : oneWay C o (sees all o e) with
      | false => rw [hc] at h; cases h
      | true =>
        rw [hc, cond_true, runOp_one (by exact hc)] at h
        obtain ⟨s', hs', h⟩ := Option.bind_eq_some_iff.1 h
        refine key (s'.env.get (o.dst.getD 0)) _ _ h ?_
        intro V E H a1 a2 a3 a4 a5
        refine ⟨fun t => ?_, .inl ⟨by rw [a2]; exact hg, s', by rw [a2, a4]; exact hs', a1, a5.symm⟩⟩
        rw [a3, a1, a2, putE_get, he' t]
    · refine key (.av .undef) _ _ h ?_
      intro V E H a1 a2 a3 a4 a5
      refine ⟨fun t => ?_, .inr ⟨by rw [a2]; exact hg, a1, by rw [a5, a4]⟩⟩
      rw [a3, a1, a2, putE_get, he' t]

/-! ### What must come before what -/

theorem bit_iff {m j : Nat} : bit m j = true ↔ m.testBit j = true := by
  unfold bit Nat.testBit
  constructor
  · intro h; rw [Nat.eq_of_beq_eq_true h]; rfl
  · intro h
    rw [Nat.one_and_eq_mod_two] at h ⊢
    have : (m >>> j) % 2 < 2 := Nat.mod_lt _ (by omega)
    have h0 : (m >>> j) % 2 ≠ 0 := by simpa using h
    have : (m >>> j) % 2 = 1 := by omega
    rw [this]; rfl

def accOf (acc : List Nat) (o : Oper) : Nat := o.after.toList.foldl (fun m e => cond (Region.binds .any e) (m ||| 2 ^ e.on ||| acc.getD e.on 0) m) 0

theorem befs_eq : ∀ (l : List Oper) (acc : List Nat), ∃ r, befs l acc = acc ++ r ∧ r.length = l.length
  | [], acc => ⟨[], by simp [befs], rfl⟩
  | o :: l, acc => by
    obtain ⟨r, h1, h2⟩ := befs_eq l (acc ++ [accOf acc o])
    exact ⟨accOf acc o :: r, by show befs l (acc ++ [accOf acc o]) = _; rw [h1]; simp, by simp [h2]⟩

theorem befs_get : ∀ (l : List Oper) (acc : List Nat) (j : Nat) (o : Oper), l[j]? = some o → (befs l acc).getD (acc.length + j) 0 = accOf ((befs l acc).take (acc.length + j)) o
  | [], _, j, _, h => by simp at h
  | o :: l, acc, 0, o', h => by
    simp only [List.getElem?_cons_zero, Option.some.injEq] at h
    subst h
    obtain ⟨r, h1, _⟩ := befs_eq l (acc ++ [accOf acc o])
    show (befs l (acc ++ [accOf acc o])).getD _ 0 = accOf ((befs l (acc ++ [accOf acc o])).take _) o
    rw [h1]
    simp
  | o :: l, acc, j + 1, o', h => by
    have := befs_get l (acc ++ [accOf acc o]) j o' (by simpa using h)
    rw [show acc.length + (j + 1) = (acc ++ [accOf acc o]).length + j by simp; omega]
    exact this

theorem fold_bit (acc : List Nat) (j : Nat) : ∀ (l : List Edge) (m : Nat), bit (l.foldl (fun m e => cond (Region.binds .any e) (m ||| 2 ^ e.on ||| acc.getD e.on 0) m) m) j = true ↔
    bit m j = true ∨ ∃ e ∈ l, Region.binds .any e = true ∧ (e.on = j ∨ bit (acc.getD e.on 0) j = true)
  | [], m => by simp
  | e :: l, m => by
    rw [List.foldl_cons, fold_bit acc j l]
    cases hb : Region.binds .any e with
    | false => simp [hb]
    | true =>
      simp only [cond_true, bit_iff, Nat.testBit_or, Nat.testBit_two_pow, Bool.or_eq_true, decide_eq_true_eq, List.mem_cons, exists_eq_or_imp, hb, true_and]
      constructor
      · rintro ((h | h) | h)
        · rcases h with h | h
          · exact .inl h
          · exact .inr (.inl (.inl h))
        · exact .inr (.inl (.inr h))
        · exact .inr (.inr h)
      · rintro (h | (h | h) | h)
        · exact .inl (.inl (.inl h))
        · exact .inl (.inl (.inr h))
        · exact .inl (.inr h)
        · exact .inr h
end
end Go.Vm


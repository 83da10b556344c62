/- The program's 'once': the lengths for frequencies, whatever they are. -/
import Derived.Test.YtlcchghlhfamjaaHuffG
set_option linter.unusedVariables false
namespace Go.Proofs.Ytlcchghlhfamjaa.X
open Go Go.Rlm

theorem collect {k r0 r1 r2 : Nat} {l : Sl} {fs : List Int} {A : List Nat} (hn : l.n = fs.length) (hf : fs.length < 2 ^ 29) :
    ∀ (m i j : Nat) (ns : List Tri) (G : List Nat) (L : LHeap), i + m = fs.length → m < j → Forest L r1 r2 ns (List.range ns.length) (leavesFrom 0 (fs.take i)) G → ns.length = (leavesFrom 0 (fs.take i)).length → Rd L l (fs.map iV) A → Apart G A →
      ∃ ns' G' L', f52_l5 k j r0 r1 r2 l (l.n : Int) (i : Int) L = f52_l5 k (j - m) r0 r1 r2 l (l.n : Int) (fs.length : Int) L' ∧ Forest L' r1 r2 ns' (List.range ns'.length) (leavesFrom 0 fs) G' ∧ ns'.length = (leavesFrom 0 fs).length ∧ Step G L G' L' := by
  intro m
  induction m with
  | zero =>
    intro i j ns G L hi hj hF hl hr hGA
    obtain rfl : i = fs.length := by omega
    rw [List.take_length] at hF hl
    exact ⟨ns, G, L, rfl, hF, hl, .refl _ _⟩
  | succ m ih =>
    intro i j ns G L hi hj hF hl hr hGA
    obtain ⟨j, rfl⟩ : ∃ j', j = j' + 1 := ⟨j - 1, by omega⟩
    have hiz : i < fs.length := by omega
    obtain ⟨a, a1, a2⟩ := hr.here (i := i) (v := iV fs[i]) (by simp [hiz])
    have hsn : leavesFrom 0 (fs.take (i + 1)) = leavesFrom 0 (fs.take i) ++ (if fs[i] > 0 then [.leaf fs[i].toNat i] else []) := by
      rw [take_succ_int hiz, leavesFrom_snoc]
      simp [show min i fs.length = i by omega]
    have hll := leavesFrom_length (fs.take i) 0
    simp only [List.length_take] at hll
    rw [f52_l5_eq, decide_eq_true (by omega), show j + 1 - (m + 1) = j - m by omega]
    simp only [lif_true, a1, a2, iV, obind_some, Option.bind_some, asI_int]
    rw [wI64 (n := (i : Int) + 1) (by omega) (by omega)]
    by_cases h0 : fs[i] > 0
    · rw [if_pos h0] at hsn
      obtain ⟨sa, so, so', sa', La, Lb, Lc, Ld, Ga, G', p1, p2, p3, p4, p5, p6, p7, p8, p9, p10, p11⟩ := push_ok hF (fs[i], -1, (i : Int)) (.leaf fs[i].toNat i) (by simp only [NR]; rw [List.getElem?_append_right (Nat.le_refl _)]; simp; omega) (by omega) (by simp; omega)
      rw [← hsn] at p10
      rw [← List.range_succ] at p10
      have hl' : (ns ++ [(fs[i], -1, (i : Int))]).length = (leavesFrom 0 (fs.take (i + 1))).length := by rw [hsn]; simp [hl]
      obtain ⟨ns', G2, L', e1, e2, e3, e4⟩ := ih (i + 1) j (ns ++ [(fs[i], -1, (i : Int))]) G' Ld (by omega) (by omega) (by simpa using p10) hl' (hr.mono (p11.others hr.within hGA)) (p11.apart hr.within hGA)
      refine ⟨ns', G2, L', ?_, e2, e3, p11.trans e4⟩
      rw [← e1, decide_eq_true h0]
      have c1 : cell L ⟨r1, 0, none⟩ = some (.slice sa.a sa.n sa.c) := by rw [cell_of p1]; rfl
      have c2 : cell L ⟨r2, 0, none⟩ = some (.slice so.a so.n so.c) := by rw [cell_of p2]; rfl
      have c3 : cell Lb ⟨r1, 0, none⟩ = some (.slice sa.a sa.n sa.c) := by rw [cell_of p6]; rfl
      rw [← p3] at p4
      simp only [kV] at p4
      simp only [iV] at p8
      simp only [lif_true, c1, c2, Option.bind_some, asSl_slice, obind_some, size3, bytes3, src_new, p4, p5, c3, size95, bytes95, src_tri, p8, p9]
      rfl
    · rw [if_neg h0, List.append_nil] at hsn
      rw [decide_eq_false h0]
      rw [← hsn] at hF hl
      exact ih (i + 1) j ns G L (by omega) (by omega) hF hl hr hGA

theorem merge {k r0 r1 r2 : Nat} : ∀ (m j : Nat) (ns : List Tri) (ks : List Nat) (ts : List HT) (G : List Nat) (L : LHeap), ts.length = m + 1 → m < j → Forest L r1 r2 ns ks ts G → ns.length + m < 2 ^ 29 → ts.length + 20 ≤ k → total ts < 2 ^ 60 →
    (∃ t, ts.getLast? = some t ∧ NR ns (ns.length - 1) t) →
    ∃ ns' ks' G' L', f52_l15 k j r0 r1 r2 r2 r1 L = f52_l15 k (j - m) r0 r1 r2 r2 r1 L' ∧ Forest L' r1 r2 ns' ks' (joinAll m ts) G' ∧ Step G L G' L' ∧ (∃ t, (joinAll m ts).getLast? = some t ∧ NR ns' (ns'.length - 1) t) ∧ ns'.length = ns.length + m := by
  intro m
  induction m with
  | zero =>
    intro j ns ks ts G L ht hj hF hns hk htot hlast
    exact ⟨ns, ks, G, L, rfl, hF, .refl _ _, hlast, rfl⟩
  | succ m ih =>
    intro j ns ks ts G L ht hj hF hns hk htot hlast
    obtain ⟨j, rfl⟩ : ∃ j', j = j' + 1 := ⟨j - 1, by omega⟩
    have hne : ts ≠ [] := by intro h0; subst h0; simp at ht
    have hr1 := rest_length hne
    have hne2 : rest ts ≠ [] := by intro h0; rw [h0] at hr1; simp at hr1; omega
    have hr2 := rest_length hne2
    have hks : ks.length = ts.length := by obtain ⟨_, _, _, _, _, _, _, _, _, _, _, _, _, _, _, h, _⟩ := hF; exact h
    have hso : ∃ so : Sl, cell L ⟨r2, 0, none⟩ = some (.slice so.a so.n so.c) ∧ so.n = ts.length := by
      obtain ⟨sa, so, Ga, Go, h1, h2, h3, h4, _, _, _, _, _, _, _, h11, _⟩ := hF
      refine ⟨so, by rw [cell_of h2]; rfl, ?_⟩
      have := h4.rd.len
      simp at this
      omega
    obtain ⟨so0, c0, hso0⟩ := hso
    obtain ⟨q1, L1, a1, a2, a3, a4⟩ := least_ok (k := k) hF hne (by omega) (by omega)
    have hks1 : (ks.eraseIdx (least ts)).length = (rest ts).length := by rw [List.length_eraseIdx_of_lt (by have := least_lt hne; omega)]; omega
    obtain ⟨q2, L2, b1, b2, b3, b4⟩ := least_ok (k := k) a3 hne2 (by omega) (by omega)
    have hks2 : ((ks.eraseIdx (least ts)).eraseIdx (least (rest ts))).length = (rest (rest ts)).length := by rw [List.length_eraseIdx_of_lt (by have := least_lt hne2; omega)]; omega
    generalize (ks.eraseIdx (least ts)).eraseIdx (least (rest ts)) = ks2 at *
    obtain ⟨x1, hx1⟩ := a2.wt
    obtain ⟨x2, hx2⟩ := b2.wt
    obtain ⟨sa, so, so', sa', La, Lb, Lc, Ld, Ga, G', p1, p2, p3, p4, p5, p6, p7, p8, p9, p10, p11⟩ := push_ok b3 ((((pick ts).wt + (pick (rest ts)).wt : Nat) : Int), (q1 : Int), (q2 : Int)) (.node (pick ts) (pick (rest ts)))
      ⟨q1, q2, by rw [List.getElem?_append_right (Nat.le_refl _)]; simp, a2.mono _, b2.mono _⟩ (by omega) (by omega)
    have hjoin : rest (rest ts) ++ [HT.node (pick ts) (pick (rest ts))] = join ts := rfl
    rw [hjoin] at p10
    have hjl : (join ts).length = m + 1 := by rw [join_length (by omega)]; omega
    obtain ⟨ns', ks', G2, L', e1, e2, e3, e4, e5⟩ := ih j _ _ (join ts) G' Ld hjl (by omega) p10 (by simp; omega) (by omega) (by rw [join_total (by omega)]; exact htot) ⟨.node (pick ts) (pick (rest ts)), by simp [join], by
      refine ⟨q1, q2, ?_, a2.mono _, b2.mono _⟩
      simp⟩
    refine ⟨ns', ks', G2, L', ?_, e2, (a4.trans (b4.trans p11)).trans e3, e4, by rw [e5]; simp; omega⟩
    have hwt : (pick ts).wt + (pick (rest ts)).wt ≤ total ts := by
      have h1 := sum_rest HT.wt hne
      have h2 := sum_rest HT.wt hne2
      simp only [total]
      omega
    obtain ⟨c1', i1, i2⟩ := p7.get (i := q1) (by rw [p3]; exact get_lt hx1)
    obtain ⟨c2', i3, i4⟩ := p7.get (i := q2) (by rw [p3]; exact get_lt hx2)
    have w1 := i2 Lb fun _ _ => rfl
    have w2 := i4 Lb fun _ _ => rfl
    obtain ⟨g1, _, _⟩ := triCells_get hx1
    obtain ⟨g2, _, _⟩ := triCells_get hx2
    have d1 : cell L2 ⟨r1, 0, none⟩ = some (.slice sa.a sa.n sa.c) := by rw [cell_of p1]; rfl
    have d2 : cell L2 ⟨r2, 0, none⟩ = some (.slice so.a so.n so.c) := by rw [cell_of p2]; rfl
    have d3 : cell Lb ⟨r1, 0, none⟩ = some (.slice sa.a sa.n sa.c) := by rw [cell_of p6]; rfl
    have d4 : ∀ X : LBlk, cell (Lb ++ [X]) ⟨r1, 0, none⟩ = some (.slice sa.a sa.n sa.c) := fun X => by rw [cell_of (by rw [get_push (get_lt p6)]; exact p6)]; rfl
    rw [← p3] at p4
    simp only [kV] at p4
    simp only [iV] at p8 g1 g2
    have ew : IntKind.wrap .i64 (((pick ts).wt : Int) + ((pick (rest ts)).wt : Int)) = (((pick ts).wt + (pick (rest ts)).wt : Nat) : Int) := by rw [wI64] <;> omega
    rw [show j + 1 - (m + 1) = j - m by omega, ← e1, f52_l15_eq]
    simp only [c0, Option.bind_some, asSl_slice, obind_some]
    rw [decide_eq_true (by omega)]
    simp only [lif_true, a1, b1, lbind_ret, asI_int, obind_some, d1, d2, Option.bind_some, asSl_slice, size3, bytes3, src_new, p4, p5, d3, i1, i3, mk_add, Nat.add_zero, w1, w2, g1, g2, ew, d4, same_self, when_true, size95, bytes95, src_tri, p8, p9]

theorem height_syms (t : HT) : t.height + 1 ≤ t.syms.length := by
  induction t with
  | leaf w i => simp [HT.height, HT.syms]
  | node l r ihl ihr => simp only [HT.height, HT.syms, List.length_append]; omega

theorem joinAll_inv {p : HT → Prop} (hn : ∀ a b, p a → p b → p (.node a b)) : ∀ (m : Nat) (ts : List HT), ts.length = m + 1 → (∀ t ∈ ts, p t) → ∀ t ∈ joinAll m ts, p t
  | 0, ts, _, h => h
  | m + 1, ts, hl, h => joinAll_inv hn m (join ts) (by rw [join_length (by omega)]; omega) (join_all (by omega) h hn)
theorem joinAll_sum {f : HT → Nat} (hn : ∀ a b, f (.node a b) = f a + f b) : ∀ (m : Nat) (ts : List HT), ts.length = m + 1 → ((joinAll m ts).map f).sum = (ts.map f).sum
  | 0, ts, _ => rfl
  | m + 1, ts, hl => by
    simp only [joinAll]
    rw [joinAll_sum hn m (join ts) (by rw [join_length (by omega)]; omega)]
    have := sum_join f (ts := ts) (by omega)
    rw [hn] at this
    omega

theorem leaves_syms (fs : List Int) (i : Nat) : ((leavesFrom i fs).map fun t => t.syms.length).sum = (leavesFrom i fs).length := by
  induction fs generalizing i with
  | nil => rfl
  | cons f fs ih =>
    simp only [leavesFrom]
    split
    · simp only [List.map_cons, List.sum_cons, List.length_cons, ih, HT.syms, List.length_nil]
      omega
    · exact ih _
theorem leaves_total {fs : List Int} (h : ∀ f ∈ fs, f ≤ 1073741824) (i : Nat) : total (leavesFrom i fs) ≤ fs.length * 1073741824 := by
  induction fs generalizing i with
  | nil => simp [leavesFrom, total]
  | cons f fs ih =>
    have := ih (fun g hg => h g (by simp [hg])) (i + 1)
    have hf := h f (by simp)
    simp only [total] at this
    simp only [leavesFrom, total, List.length_cons, Nat.add_mul]
    split
    · simp only [List.map_cons, List.sum_cons, HT.wt]; omega
    · exact Nat.le_trans this (Nat.le_add_right _ _)

theorem lensOf_one {fs : List Int} {t : HT} (h : leavesFrom 0 fs = [t]) : lensOf fs = t.lay 1 (List.replicate fs.length 0) := by unfold lensOf; rw [h]
theorem lensOf_nil {fs : List Int} (h : leavesFrom 0 fs = []) : lensOf fs = List.replicate fs.length 0 := by unfold lensOf; rw [h]
theorem lensOf_more {fs : List Int} {m : Nat} {t : HT} (h : (leavesFrom 0 fs).length = m + 2) (ht : joinAll (m + 1) (leavesFrom 0 fs) = [t]) : lensOf fs = t.lay 0 (List.replicate fs.length 0) := by
  unfold lensOf
  split
  · rename_i h0; rw [h0] at h; simp at h
  · rename_i h0; rw [h0] at h; simp at h
  · rename_i ts h0 h1
    rw [h, show m + 2 - 1 = m + 1 by omega, ht]

/-- The end: nothing more to put together. -/
theorem finish {k r0 r1 r2 : Nat} {so : Sl} {ns : List Tri} {ks : List Nat} {ts : List HT} {G Fo : List Nat} {out : List Int} {L : LHeap} (hF : Forest L r1 r2 ns ks ts G) (h1 : ts.length ≤ 1) (hns : ns.length < 2 ^ 40) (hts : ts = [] → ns = [])
    (hlast : ∀ t, ts = [t] → NR ns (ns.length - 1) t ∧ t.height + 2 ≤ k ∧ t.height < 2 ^ 30 ∧ ∀ i ∈ t.syms, i < out.length) (b0 : L[r0]? = some (.cells [.slice so.a so.n so.c] 38 false 0)) (hw : WS L so (out.map iV) 3 Fo)
    (h0 : r0 ∉ G) (h0o : r0 ∉ Fo) (hGo : Apart G Fo) (j : Nat) :
    ∃ L', f52_l15 k (j + 1) r0 r1 r2 r2 r1 L = some (.ret (.slice so.a so.n so.c) L') ∧ WS L' so ((match ts with | t :: _ => t.lay 0 out | [] => out).map iV) 3 Fo ∧ Step Fo L Fo L' := by
  obtain ⟨sa, sp, Ga, Go, g1, g2, g3, g4, g5, g6, g7, g8, g9, g10, rfl, g11, g12⟩ := hF
  have hsn : sa.n = ns.length := by have := g3.1; simp at this; omega
  have hso : sp.n = ts.length := by have := g4.rd.len; simp at this; omega
  have c2 : cell L ⟨r2, 0, none⟩ = some (.slice sp.a sp.n sp.c) := by rw [cell_of g2]; rfl
  have r1o : r1 ∉ Fo := fun h => hGo r1 (by simp) h
  have aGa : Apart Fo Ga := fun i hi hg => hGo i (by simp [hg]) hi
  rw [f52_l15_eq]
  simp only [c2, Option.bind_some, asSl_slice, obind_some]
  rw [decide_eq_false (by omega)]
  simp only [lif_false]
  have st0 : Step Fo L Fo (L ++ [LBlk.cells [Value.nilFunc] 97 false 0]) := .push _ _ _
  have hnew : (L ++ [LBlk.cells [Value.nilFunc] 97 false 0])[L.length]? = some (.cells [Value.nilFunc] 97 false 0) := get_new
  have hst : stores (L ++ [LBlk.cells [Value.nilFunc] 97 false 0]) ⟨L.length, 0, none⟩ [Value.func (Fn.func 60) #[] #[Value.pointer (some ⟨r1, 0, none⟩), Value.pointer (some ⟨r0, 0, none⟩), Value.pointer (some ⟨L.length, 0, none⟩)]] =
    some ((L ++ [LBlk.cells [Value.nilFunc] 97 false 0]).set L.length (.cells [deepFn r1 r0 L.length] 97 false 0)) := stores_all hnew rfl
  rw [hst]
  simp only [obind_some]
  have b4 := get_set_self (x := LBlk.cells [deepFn r1 r0 L.length] 97 false 0) hnew
  have st1 : Step Fo L Fo ((L ++ [LBlk.cells [Value.nilFunc] 97 false 0]).set L.length (.cells [deepFn r1 r0 L.length] 97 false 0)) := by
    refine ⟨by simp, fun i hi hn => ?_, fun i hi => .inl hi⟩
    rw [get_set_ne (by omega), get_push hi]
  have keep : ∀ i, i < L.length → ((L ++ [LBlk.cells [Value.nilFunc] 97 false 0]).set L.length (.cells [deepFn r1 r0 L.length] 97 false 0))[i]? = L[i]? := fun i hi => by rw [get_set_ne (by omega), get_push hi]
  show ∃ L', obind (Option.bind (cell ((L ++ [LBlk.cells [Value.nilFunc] 97 false 0]).set L.length (.cells [deepFn r1 r0 L.length] 97 false 0)) ⟨r1, 0, none⟩) asSl) _ = _ ∧ _
  generalize (L ++ [LBlk.cells [Value.nilFunc] 97 false 0]).set L.length (.cells [deepFn r1 r0 L.length] 97 false 0) = L1 at *
  have b1 : L1[r1]? = some (.cells [.slice sa.a sa.n sa.c] 93 false 0) := by rw [keep r1 (get_lt g1), g1]
  have b01 : L1[r0]? = some (.cells [.slice so.a so.n so.c] 38 false 0) := by rw [keep r0 (get_lt b0), b0]
  have hw1 := hw.mono fun i hi => keep i (hw.within i hi)
  have g31 := g3.mono fun i hi => keep i (g3.within i hi)
  have c1 : cell L1 ⟨r1, 0, none⟩ = some (.slice sa.a sa.n sa.c) := by rw [cell_of b1]; rfl
  have c0 : cell L1 ⟨r0, 0, none⟩ = some (.slice so.a so.n so.c) := by rw [cell_of b01]; rfl
  have c4 : cell L1 ⟨L.length, 0, none⟩ = some (deepFn r1 r0 L.length) := by rw [cell_of b4]; rfl
  simp only [c1, Option.bind_some, asSl_slice, obind_some]
  match ts, h1, hts, hlast with
  | [], _, hts, _ =>
    rw [decide_eq_false (by rw [hsn, hts rfl]; simp)]
    simp only [lif_false, c0, Option.bind_some, asSl_slice, obind_some]
    exact ⟨L1, rfl, hw1, st1⟩
  | [t], _, _, hlast =>
    obtain ⟨q1, q2, q3, q4⟩ := hlast t rfl
    obtain ⟨x, hx⟩ := q1.wt
    have hpos := get_lt hx
    rw [decide_eq_true (by omega)]
    obtain ⟨L2, e1, e2, e3⟩ := deep_ok (r4 := L.length) h0o r1o (fun h => by have := hw.within _ h; omega) aGa t (ns.length - 1) 0 k out L1 q1 q2 q4 (by omega) b01 b1 b4 g31 hw1
    have c02 : cell L2 ⟨r0, 0, none⟩ = some (.slice so.a so.n so.c) := by rw [cell_of ((e3.keep r0 (get_lt b01) h0o).trans b01)]; rfl
    have ew : IntKind.wrap .i64 ((sa.n : Int) - 1) = ((ns.length - 1 : Nat) : Int) := by rw [wI64] <;> omega
    have e1 : f60 k ((ns.length - 1 : Nat) : Int) 0 r1 r0 L.length L1 = some (.ret (.tuple #[]) L2) := e1
    simp only [lif_true, c4, c1, Option.bind_some, asSl_slice, obind_some, ew, deep_app, e1, lbind_ret, c02]
    exact ⟨L2, rfl, e2, st1.trans e3⟩

theorem once_ok {k : Nat} {l : Sl} {fs : List Int} {A : List Nat} {L : LHeap} (hl : Rd L l (fs.map iV) A) (hf : ∀ f ∈ fs, f ≤ 1073741824) (hs : fs.length ≤ 1024) (hk : 2 * fs.length + 60 ≤ k) :
    ∃ s L' F, f52 k l L = some (.ret (.slice s.a s.n s.c) L') ∧ WS L' s ((lensOf fs).map iV) 3 F ∧ Step [] L F L' := by
  obtain ⟨k, rfl⟩ : ∃ k', k = k' + 1 := ⟨k - 1, by omega⟩
  have hn := hl.len
  simp only [List.length_map] at hn
  rw [f52_eq]
  simp only [bytes3, hn, room_ok (n := fs.length) (b := 8) (by omega) (by omega), when_true, Int.toNat_natCast]
  -- the row of lengths
  have hw := WS.made (L := L) (n := fs.length) (v := Value.int .i64 0) (e := 3)
  have s0 := Step.new [] L (LBlk.cells (List.flatten (List.replicate fs.length [Value.int .i64 0])) 3 false 0)
  generalize L ++ [LBlk.cells (List.flatten (List.replicate fs.length [Value.int .i64 0])) 3 false 0] = M0 at *
  have hl0 := hl.mono (s0.others hl.within (none_apart _))
  have ap0 : Apart [L.length] A := s0.apart hl.within (none_apart _)
  have hlt0 : L.length < M0.length := hw.within L.length (by simp)
  -- its box
  have hbn : (M0 ++ [LBlk.cells [Value.slice none 0 0] 38 false 0])[M0.length]? = some (.cells [Value.slice none 0 0] 38 false 0) := get_new
  rw [stores_all hbn (news := [Value.slice (some ⟨L.length, 0, none⟩) fs.length fs.length]) rfl]
  simp only [obind_some]
  have b0 := get_set_self (x := LBlk.cells [Value.slice (some ⟨L.length, 0, none⟩) fs.length fs.length] 38 false 0) hbn
  have s1 : Step [] M0 [M0.length] ((M0 ++ [LBlk.cells [Value.slice none 0 0] 38 false 0]).set M0.length (.cells [Value.slice (some ⟨L.length, 0, none⟩) fs.length fs.length] 38 false 0)) := (Step.new [] M0 _).trans (.set _ (by simp))
  generalize (M0 ++ [LBlk.cells [Value.slice none 0 0] 38 false 0]).set M0.length (.cells [Value.slice (some ⟨L.length, 0, none⟩) fs.length fs.length] 38 false 0) = L1 at *
  have hl1 := hl0.mono (s1.others hl0.within (none_apart _))
  have hw1 := hw.mono (s1.others hw.within (none_apart _))
  have hlt1 := get_lt b0
  -- the forest's boxes
  have p1 : (L1 ++ [LBlk.cells [Value.slice none 0 0] 93 false 0])[L1.length]? = some (.cells [Value.slice none 0 0] 93 false 0) := get_new
  have s2 := Step.new [] L1 (LBlk.cells [Value.slice none 0 0] 93 false 0)
  generalize L1 ++ [LBlk.cells [Value.slice none 0 0] 93 false 0] = M2 at *
  have p2 : (M2 ++ [LBlk.cells [Value.slice none 0 0] 38 false 0])[M2.length]? = some (.cells [Value.slice none 0 0] 38 false 0) := get_new
  have s3 := Step.new [] M2 (LBlk.cells [Value.slice none 0 0] 38 false 0)
  generalize M2 ++ [LBlk.cells [Value.slice none 0 0] 38 false 0] = M3 at *
  have hlt2 := get_lt p1
  have p13 : M3[L1.length]? = some (.cells [Value.slice none 0 0] 93 false 0) := by rw [s3.keep _ hlt2 (by simp), p1]
  have hl3 := (hl1.mono (s2.others hl1.within (none_apart _))).mono (s3.others (s2.within hl1.within) (none_apart _))
  have hw3 := (hw1.mono (s2.others hw1.within (none_apart _))).mono (s3.others (s2.within hw1.within) (none_apart _))
  have b03 : M3[M0.length]? = some (.cells [Value.slice (some ⟨L.length, 0, none⟩) fs.length fs.length] 38 false 0) := by rw [s3.keep _ (Nat.lt_of_lt_of_le hlt1 s2.len) (by simp), s2.keep _ hlt1 (by simp), b0]
  have hF : Forest M3 L1.length M2.length [] (List.range ([] : List Tri).length) (leavesFrom 0 (fs.take 0)) [L1.length, M2.length] :=
    ⟨⟨none, 0, 0⟩, ⟨none, 0, 0⟩, [], [], p13, p2, OZ.nil _ _ (by omega), OP.nil _ _, by omega, by simp, by simp, by simp, by simp, none_apart _, rfl, rfl, fun i k t h => by simp at h⟩
  have e02 := s2.len
  have e01 := s1.len
  have apU : Apart [L1.length, M2.length] (M0.length :: L.length :: A) := by
    intro i hi hj
    simp only [List.mem_cons, List.not_mem_nil, or_false] at hi hj
    rcases hj with rfl | rfl | hj
    · omega
    · omega
    · have := hl.within i hj; omega
  have wU : Within (M0.length :: L.length :: A) M3 := by
    intro i hi
    simp only [List.mem_cons] at hi
    have := s3.len
    rcases hi with rfl | rfl | hi
    · omega
    · omega
    · have := hl.within i hi; omega
  have apGA : Apart [L1.length, M2.length] A := fun i hi hj => apU i hi (by simp [hj])
  obtain ⟨ns, G, L4, c1, c2, c3, c4⟩ := collect (k := k) (r0 := M0.length) hn (by omega) fs.length 0 k [] [L1.length, M2.length] M3 (by omega) (by omega) hF rfl hl3 apGA
  have apG := c4.apart wU apU
  have b04 : L4[M0.length]? = some (.cells [Value.slice (some ⟨L.length, 0, none⟩) fs.length fs.length] 38 false 0) := by rw [c4.others wU apU _ (by simp), b03]
  have hw4 := hw3.mono (c4.others hw3.within fun i hi hj => apU i hi (by simp at hj; simp [hj]))
  have hll := leavesFrom_length fs 0
  have h0G : M0.length ∉ G := fun h => apG _ h (by simp)
  have hGo : Apart G [L.length] := fun i hi hj => apG i hi (by simp at hj; simp [hj])
  have h0o : M0.length ∉ [L.length] := by simp; omega
  have stA : Step [] L (L.length :: [M0.length, L1.length, M2.length]) M3 := by
    refine ⟨by have := s0.len; have := s3.len; omega, fun i hi _ => ?_, fun i hi => ?_⟩
    · have := s0.len
      rw [s3.keep i (by omega) (by simp), s2.keep i (by omega) (by simp), s1.keep i (by omega) (by simp), s0.keep i hi (by simp)]
    · have := s0.len
      simp at hi
      exact .inr (by omega)
  have stB : ∀ {L' : LHeap}, Step (L.length :: G) L4 [L.length] L' → Step [] L [L.length] L' := fun {L'} h => by
    have q1 : Step [] L (L.length :: [L1.length, M2.length]) M3 := stA.less fun i hi => .inl (by simp at hi ⊢; omega)
    have q2 : Step (L.length :: [L1.length, M2.length]) M3 (L.length :: G) L4 := by
      refine ⟨c4.len, fun i hi hn => c4.keep i hi (fun h => hn (List.mem_cons_of_mem _ h)), fun i hi => ?_⟩
      rcases List.mem_cons.1 hi with rfl | hi
      · exact .inl (by simp)
      · exact (c4.foot i hi).imp (List.mem_cons_of_mem _) id
    exact (q1.trans q2).trans h
  rw [show ((0 : Nat) : Int) = 0 from rfl] at c1
  rw [hn] at c1
  rw [c1]
  obtain ⟨j, hj⟩ : ∃ j, k - fs.length = j + 1 := ⟨k - fs.length - 1, by omega⟩
  rw [hj, f52_l5_eq, decide_eq_false (by omega)]
  have hF' := c2
  obtain ⟨sa, sp, Ga, Go, g1, g2, g3, g4, g5, g6, g7, g8, g9, g10, hGe, g11, g12⟩ := c2
  have hsp : sp.n = (leavesFrom 0 fs).length := by have := g4.rd.len; simp at this; omega
  have d2 : cell L4 ⟨M2.length, 0, none⟩ = some (.slice sp.a sp.n sp.c) := by rw [cell_of g2]; rfl
  simp only [lif_false, d2, Option.bind_some, asSl_slice, obind_some, hsp]
  have hrep : List.replicate fs.length (Value.int .i64 0) = (List.replicate fs.length (0 : Int)).map iV := by simp [iV]
  rw [hrep] at hw4
  have hsym : ∀ t ∈ leavesFrom 0 fs, ∀ i ∈ t.syms, i < fs.length := fun t ht i hi => by
    obtain ⟨q, hq, rfl, _⟩ := leavesFrom_leaf ht
    simp [HT.syms] at hi
    omega
  by_cases hone : (leavesFrom 0 fs).length = 1
  · obtain ⟨t, ht⟩ := List.length_eq_one_iff.1 hone
    obtain ⟨q, hq, htq, _⟩ := leavesFrom_leaf (show t ∈ leavesFrom 0 fs by rw [ht]; simp)
    have hn0 : ns[0]? = some (((fs.getD q 0).toNat : Int), -1, ((0 + q : Nat) : Int)) := by
      have := g12 0 0 t (by rw [List.getElem?_eq_getElem (by simp; omega)]; simp) (by rw [ht]; rfl)
      rw [htq] at this
      exact this
    obtain ⟨_, _, w3⟩ := triCells_get hn0
    have hsn : sa.n = ns.length := by have := g3.1; simp at this; omega
    obtain ⟨c, i1, i2⟩ := g3.get (i := 0) (by omega)
    have w3' := (i2 L4 (fun _ _ => rfl) (0 * 3 + 2)).trans w3
    have d1 : cell L4 ⟨L1.length, 0, none⟩ = some (.slice sa.a sa.n sa.c) := by rw [cell_of g1]; rfl
    have d0 : cell L4 ⟨M0.length, 0, none⟩ = some (Value.slice (some ⟨L.length, 0, none⟩) fs.length fs.length) := by rw [cell_of b04]; rfl
    obtain ⟨a, L5, e1, e2, e3, e4⟩ := hw4.put (i := 0 + q) (by simp; omega) (iV 1)
    have d05 : cell L5 ⟨M0.length, 0, none⟩ = some (Value.slice (some ⟨L.length, 0, none⟩) fs.length fs.length) := by rw [cell_of ((e4.keep _ (get_lt b04) h0o).trans b04)]; rfl
    refine ⟨⟨some ⟨L.length, 0, none⟩, fs.length, fs.length⟩, L5, [L.length], ?_, ?_, stB (e4.mono fun i hi => by simp at hi; simp [hi])⟩
    · rw [hone, show (((1 : Nat) : Int) == 1) = true from rfl]
      have i1 : idx sa 0 3 = some ⟨c, 0 * 3, none⟩ := i1
      have e2 : stores L4 a [Value.int .i64 1] = some L5 := e2
      simp only [lif_true, d0, d1, Option.bind_some, asSl_slice, obind_some, i1, mk_add, w3', iV, asI_int, e1, e2, d05]
    · rw [lensOf_one ht, htq]
      simp only [HT.lay]
      rw [List.map_set]
      exact e3
  · rw [show (((leavesFrom 0 fs).length : Int) == 1) = false by simp; omega]
    simp only [lif_false]
    by_cases hnil : leavesFrom 0 fs = []
    · have hns : ns = [] := List.eq_nil_of_length_eq_zero (by rw [c3, hnil]; rfl)
      obtain ⟨j', hj'⟩ : ∃ j', k = j' + 1 := ⟨k - 1, by omega⟩
      obtain ⟨L5, e1, e2, e3⟩ := finish (k := k) (so := ⟨some ⟨L.length, 0, none⟩, fs.length, fs.length⟩) hF' (by rw [hnil]; simp) (by rw [hns]; simp) (fun _ => hns) (fun t ht => by rw [hnil] at ht; cases ht) b04 hw4 h0G h0o hGo j'
      rw [← hj'] at e1
      refine ⟨_, L5, [L.length], e1, ?_, stB (e3.mono fun i hi => by simp at hi; simp [hi])⟩
      rw [lensOf_nil hnil]
      rw [hnil] at e2
      exact e2
    · obtain ⟨m, hm⟩ : ∃ m, (leavesFrom 0 fs).length = m + 2 := by
        have : (leavesFrom 0 fs).length ≠ 0 := fun h => hnil (List.eq_nil_of_length_eq_zero h)
        exact ⟨(leavesFrom 0 fs).length - 2, by omega⟩
      have htot : total (leavesFrom 0 fs) < 2 ^ 60 := by have := leaves_total hf 0; omega
      have hlast : ∃ t, (leavesFrom 0 fs).getLast? = some t ∧ NR ns (ns.length - 1) t := by
        have hlt : (leavesFrom 0 fs).length - 1 < (leavesFrom 0 fs).length := by omega
        refine ⟨(leavesFrom 0 fs)[(leavesFrom 0 fs).length - 1], by rw [List.getLast?_eq_getElem?, List.getElem?_eq_getElem hlt], ?_⟩
        refine g12 ((leavesFrom 0 fs).length - 1) _ _ ?_ (List.getElem?_eq_getElem hlt)
        rw [List.getElem?_eq_getElem (by simp; omega)]
        simp
        omega
      obtain ⟨ns', ks', G2, L5, m1, m2, m3, m4, m5⟩ := merge (k := k) (r0 := M0.length) (m + 1) k ns (List.range ns.length) (leavesFrom 0 fs) G L4 (by omega) (by omega) hF' (by omega) (by omega) htot hlast
      have hj1 := joinAll_length (m + 1) (leavesFrom 0 fs) (by omega)
      obtain ⟨t, ht⟩ := List.length_eq_one_iff.1 hj1
      have wU4 : Within (M0.length :: L.length :: A) L4 := c4.within wU
      have apG2 := m3.apart wU4 apG
      have b05 : L5[M0.length]? = some (.cells [Value.slice (some ⟨L.length, 0, none⟩) fs.length fs.length] 38 false 0) := by rw [m3.others wU4 apG _ (by simp), b04]
      have hw5 := hw4.mono (m3.others hw4.within hGo)
      obtain ⟨t', ht', hnr⟩ := m4
      rw [ht] at ht'
      simp at ht'
      subst ht'
      have hsy : ∀ i ∈ t.syms, i < fs.length := joinAll_inv (p := fun t => ∀ i ∈ t.syms, i < fs.length) (fun a b ha hb i hi => (List.mem_append.1 hi).elim (ha i) (hb i)) (m + 1) _ (by omega) hsym t (by rw [ht]; simp)
      have hsl : t.syms.length = (leavesFrom 0 fs).length := by
        have := joinAll_sum (f := fun t => t.syms.length) (fun a b => by simp [HT.syms]) (m + 1) (leavesFrom 0 fs) (by omega)
        rw [ht, leaves_syms] at this
        simpa using this
      have hh := height_syms t
      obtain ⟨j', hj'⟩ : ∃ j', k - (m + 1) = j' + 1 := ⟨k - (m + 1) - 1, by omega⟩
      have hnsl : ns'.length < 2 ^ 40 := by omega
      obtain ⟨L6, e1, e2, e3⟩ := finish (k := k) (so := ⟨some ⟨L.length, 0, none⟩, fs.length, fs.length⟩) m2 (by omega) hnsl (fun h => by rw [ht] at h; cases h)
        (fun u hu => by rw [ht] at hu; cases hu; exact ⟨hnr, by omega, by omega, by simpa using hsy⟩) b05 hw5 (fun h => apG2 _ h (by simp)) h0o (fun i hi hj => apG2 i hi (by simp at hj; simp [hj])) j'
      rw [m1, hj', e1]
      refine ⟨_, L6, [L.length], rfl, ?_, ?_⟩
      · rw [lensOf_more hm ht]
        rw [ht] at e2
        exact e2
      · have q0 : Step (L.length :: G) L4 (L.length :: G2) L5 := by
          refine ⟨m3.len, fun i hi hn => m3.keep i hi (fun h => hn (List.mem_cons_of_mem _ h)), fun i hi => ?_⟩
          rcases List.mem_cons.1 hi with rfl | hi
          · exact .inl (by simp)
          · exact (m3.foot i hi).imp (List.mem_cons_of_mem _) id
        exact stB (q0.trans (e3.mono fun i hi => by simp at hi; simp [hi]))

end Go.Proofs.Ytlcchghlhfamjaa.X

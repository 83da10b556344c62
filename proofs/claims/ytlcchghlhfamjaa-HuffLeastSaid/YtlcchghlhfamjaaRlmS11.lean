/- The logical machine and the model: append. -/
import Derived.Test.YtlcchghlhfamjaaRlmS10
namespace Go.Rlm

section
variable {P : Program} {env : Env} {L : LHeap} {o : Oper} {r : LR} {K : Value → LHeap → R}

theorem addr_mul (a : Addr) (n : Nat) : a.add n = if n = 0 then a else ⟨a.block, a.off + n, none⟩ := by unfold Addr.add; split <;> rfl

set_option maxHeartbeats 1000000 in
theorem app_ok {m : RMap} {w : World} (hr : Rep P m L w) {ts : Array TypeId} {t0 t1 ty e : TypeId} {d1 : TypeDesc} {i : TypeInfo} {z : List Value} (hts0 : ts[0]? = some t0) (hts1 : ts[1]? = some t1) (hu0 : P.underlying t0 = some (.slice e)) (hu1 : P.underlying t1 = some d1) (hd1 : ∀ k, d1 ≠ .int k)
    (hi : P.info? e = some i) (hz : zeroOf P e = some z) (hzl : z.length = i.size) (hsz : 0 < i.size) {s s' : Sl} {n : Nat} {news : List Value} {L' : LHeap}
    (h : app L e i.size i.bytes s n news = some (s', L')) {sv' x' : Value} (hx : VR m (.slice s.a s.n s.c) sv') (hn : (Builtin.lenOf x').run P w = .ok n w)
    (hsrc : ∀ w2, Rep P m L w2 → ∃ news', (Builtin.firstCells i.size n x').run P w2 = .ok ⟨news'⟩ w2 ∧ VRs m news news' ∧ (∀ v ∈ news, one v = true) ∧ news.length = n * i.size) :
    ∃ m' w' v', (Builtin.append_ ts ty #[sv', x']).run P w = .ok v' w' ∧ VR m' (.slice s'.a s'.n s'.c) v' ∧ Rep P m' L' w' ∧ Tr m L w m' L' w' := by
  obtain ⟨zv, i2, hi2, hz1, hz2⟩ := zeroOf_zero hz
  rw [hi] at hi2; injection hi2 with hi2; subst hi2
  have hcel : P.cellsOf e = i.size := by simp [Program.cellsOf, hi]
  have hzs : zv.cells.size = i.size := by rw [← hzl, ← hz2]; simp
  obtain ⟨news', hf, hnv, hno, hnl⟩ := hsrc w hr
  -- a new block, of whatever slice
  have grow : ∀ (Lx : LHeap), Rep P m Lx w → Tr m L w m Lx w → Lx.length = L.length → ∀ (base : Option Addr) (sCap : Nat) (old : List Value), sv' = .slice base s.n sCap → ¬ (s.n + n ≤ sCap) → (s.n + n) * i.bytes ≤ 2 ^ 47 → s.n + n ≤ 2 ^ 62 →
      (∀ w2, Rep P m L w2 → ∃ old', (Builtin.firstCells i.size s.n (.slice base s.n sCap)).run P w2 = .ok ⟨old'⟩ w2 ∧ VRs m old old' ∧ (∀ v ∈ old, one v = true) ∧ old.length = s.n * i.size) →
      ∃ m' w' v', (Builtin.append_ ts ty #[sv', x']).run P w = .ok v' w' ∧ VR m' (.slice (some ⟨L.length, 0, none⟩) (s.n + n) OPEN) v' ∧ Rep P m' (Lx ++ [.cells (old ++ news) e false i.size]) w' ∧ Tr m L w m' (Lx ++ [.cells (old ++ news) e false i.size]) w' :=
    fun Lx hLx hTr hlen base sCap old hsv hg hb h62 hold => by
    have hrd : Rep P m L w.drew := hr.drew _
    obtain ⟨nn, k1, k2, k3, k4⟩ := hsrc w.drew hrd
    obtain ⟨oo, k5, k6, k7, k8⟩ := hold w.drew hrd
    obtain ⟨cap, hcap, hrun⟩ := (run_append (ty := ty) hts0 hts1 hu0 hu1 hd1 hi hz1 (base := base) (sLen := s.n) (sCap := sCap) hn).2 hg hb h62 k5 k1
    have hlz : (Builtin.zeroCells zv.cells (cap - (s.n + n))).toList.length = (cap - (s.n + n)) * i.size := by simp [Builtin.zeroCells, hzs]
    have hol := k6.length
    have hnl2 := k2.length
    obtain ⟨g1, g2⟩ := hLx.push (w' := w.drew.alloc (.cells ⟨oo ++ nn ++ (Builtin.zeroCells zv.cells (cap - (s.n + n))).toList⟩ e)) (cs := old ++ news) (cs' := oo ++ nn) (e := e) i.size (cap * i.size) (fz := (0, 0))
      (extra := (Builtin.zeroCells zv.cells (cap - (s.n + n))).toList) rfl (by intro o _; simp) rfl rfl rfl (k6.append k2) (fun v hv => by
        rcases List.mem_append.1 hv with h | h
        · exact k7 v h
        · exact k3 v h) (fun _ => ⟨by
          rw [List.length_append, hol, hnl2, k8, k4, hlz, ← Nat.add_mul, ← Nat.add_mul]
          congr 1
          omega, hcel.symm⟩)
    refine ⟨_, _, _, by rw [hsv]; exact hrun, ?_, g1, hTr.trans g2⟩
    have hm : ins m Lx.length ⟨w.heap.size, 0, cap * i.size, i.size⟩ L.length = some ⟨w.heap.size, 0, cap * i.size, i.size⟩ := by rw [hlen]; simp [ins]
    have := VR.opn (a := ⟨L.length, 0, none⟩) (n := s.n + n) (m := ins m Lx.length ⟨w.heap.size, 0, cap * i.size, i.size⟩) (i := ⟨w.heap.size, 0, cap * i.size, i.size⟩) hm
    simpa [Info.at, Nat.mul_div_cancel _ hsz] using this
  -- there is room
  have room : ∀ (base : Option Addr) (sCap : Nat) {nn : List Value} {w' : World}, s.n + n ≤ sCap → (Builtin.firstCells i.size n x').run P w = .ok ⟨nn⟩ w →
      (match base with | some a => (storeCells (a.add (s.n * i.size)) nn).run P w = .ok () w' | none => w' = w) →
      (Builtin.append_ ts ty #[.slice base s.n sCap, x']).run P w = .ok (.slice base (s.n + n) sCap) w' :=
    fun base sCap nn w' => (run_append (ty := ty) hts0 hts1 hu0 hu1 hd1 hi hz1 (base := base) (sLen := s.n) (sCap := sCap) hn).1 (news := nn) (w' := w')
  unfold app at h
  simp only [hif_eq, cond_eq_ite] at h
  split at h
  · rename_i hc
    have hc : s.c < OPEN := by simpa using hc
    obtain ⟨sa', hv, hsa⟩ := hx.sl hc
    split at h
    · rename_i hroom
      have hroom : s.n + n ≤ s.c := by simpa using hroom
      rcases hsa with ⟨ha, rfl⟩ | ⟨a, j, ha, hj, rfl⟩
      · rw [ha] at h
        simp only at h
        injection h with h; injection h with h1 h2
        subst h1; subst h2
        exact ⟨m, w, _, by rw [hv]; exact room none s.c hroom hf rfl, .flat1 rfl, hr, .refl m L w⟩
      · rw [ha] at h
        simp only at h
        split at h
        · rename_i hemp
          have hemp : news = [] := by simpa using hemp
          injection h with h; injection h with h1 h2
          subst h1; subst h2; subst hemp
          cases hnv
          exact ⟨m, w, _, by rw [hv]; exact room (some (j.at a)) s.c hroom hf rfl, .slice hj hc, hr, .refl m L w⟩
        · simp only [Option.bind_eq_bind, Option.bind_eq_some_iff] at h
          obtain ⟨L2, h1, h2⟩ := h
          injection h2 with h2; injection h2 with h2 h3
          subst h2; subst h3
          obtain ⟨w', h4, h5, h6⟩ := hr.stores h1 hnv hno (i := j) (by rw [add_block]; exact hj)
          rw [← at_add] at h4
          exact ⟨m, w', _, by rw [hv]; exact room (some (j.at a)) s.c hroom hf h4, .slice hj hc, h5, h6⟩
    · rename_i hgrow
      have hgrow : ¬ (s.n + n ≤ s.c) := by simpa using hgrow
      split at h
      case isFalse => cases h
      rename_i hb
      simp only [Bool.and_eq_true, Nat.ble_eq] at hb
      simp only [Option.bind_eq_bind, Option.bind_eq_some_iff] at h
      obtain ⟨old, h1, h2⟩ := h
      injection h2 with h2; injection h2 with h2 h3
      subst h2; subst h3
      exact grow L hr (.refl m L w) rfl sa' s.c old hv hgrow hb.1 hb.2 fun w2 hw2 => srcCells_ok hw2 h1 (Nat.le_refl _) (hv ▸ hx)
  · split at h
    case isFalse => cases h
    rename_i hc
    have hc := Nat.eq_of_beq_eq_true hc
    split at h
    · cases h
    rename_i a ha
    rw [ha, hc] at hx
    rcases hx.of_slice with ⟨h0, _⟩ | ⟨_, j, hj, hv⟩ | ⟨h0, _⟩
    · omega
    case inr.inr => unfold OPEN LOOSE at h0; omega
    split at h
    · cases h
    rename_i xk hbl
    obtain ⟨g1, g2, g3, g4, g5, cs, el, cp, fz, g6, g7, g8, g9, g10⟩ := blen_ok hr hbl hj
    generalize hC : (j.top - a.off) / j.esz = C at *
    split at h
    · rename_i hle
      have hle : s.n + n ≤ xk := by simpa using hle
      have hroom : s.n + n ≤ C := by omega
      split at h
      · rename_i hemp
        have hemp : news = [] := by simpa using hemp
        injection h with h; injection h with h1 h2
        subst h1; subst h2; subst hemp
        cases hnv
        refine ⟨m, w, _, by rw [hv]; exact room (some (j.at a)) C hroom hf rfl, ?_, hr, .refl m L w⟩
        rw [← hC]; exact .opn hj
      · simp only [Option.bind_eq_bind, Option.bind_eq_some_iff] at h
        obtain ⟨L2, h1, h2⟩ := h
        injection h2 with h2; injection h2 with h2 h3
        subst h2; subst h3
        obtain ⟨w', h4, h5, h6⟩ := hr.stores h1 hnv hno (i := j) (by rw [add_block]; exact hj)
        rw [← at_add] at h4
        refine ⟨m, w', _, by rw [hv]; exact room (some (j.at a)) C hroom hf h4, ?_, h5, h6⟩
        rw [← hC]; exact .opn hj
    · rename_i hgt
      have hgt : ¬ (s.n + n ≤ xk) := by simpa using hgt
      split at h
      case isFalse => cases h
      rename_i hb
      simp only [Bool.and_eq_true, Nat.ble_eq] at hb
      obtain ⟨⟨⟨hb1, hb2⟩, hb3⟩, hb4⟩ := hb
      have hoff := Nat.eq_of_beq_eq_true hb3
      split at h
      case h_2 => cases h
      rename_i cs2 e2 sp2 hL
      rw [g6] at hL
      injection hL with hL; injection hL with q1 q2 q3 q4
      subst q1; subst q2; subst q4
      split at h
      case isFalse => cases h
      rename_i hee
      have hee := Nat.eq_of_beq_eq_true hee
      subst hee
      injection h with h; injection h with h1 h2
      subst h1; subst h2
      have hat : j.at a = ⟨j.blk, 0, none⟩ := by simp [Info.at, g1, g2, hoff]
      have hlen : s.n * i.size ≤ cs.length := by
        have : xk * i.size ≤ cs.length := by
          rw [g7, hoff, Nat.sub_zero]; exact Nat.div_mul_le_self _ _
        have := Nat.mul_le_mul_right i.size hb4
        omega
      have hCtop : C * i.size ≤ j.top := by
        rw [← hC, hoff, Nat.sub_zero, g3]; exact Nat.div_mul_le_self _ _
      by_cases hroom : s.n + n ≤ C
      · have hfit : s.n * i.size + news.length ≤ j.top := by
          rw [hnl, ← Nat.add_mul]
          exact Nat.le_trans (Nat.mul_le_mul_right _ hroom) hCtop
        obtain ⟨w', k1, k2, k3⟩ := hr.extend g6 hj (by omega) hnv hno hlen hfit
        obtain ⟨k4, k5⟩ := k2.move (q := a.block) (i := j) (List.getElem?_set_self (List.getElem?_eq_some_iff.1 g6).1) hj
        have hset : (L.set a.block (.cells (cs.take (s.n * i.size) ++ news) el false i.size)).set a.block .dead = L.set a.block .dead := by simp
        rw [hset] at k4 k5
        simp only [List.length_set] at k4 k5
        have hst : (storeCells ((j.at a).add (s.n * i.size)) news').run P w = .ok () w' := by
          rw [hat]
          have : (Addr.mk j.blk 0 none).add (s.n * i.size) = ⟨j.blk, s.n * i.size, none⟩ := by
            rw [addr_mul]
            split
            · rename_i h0; rw [h0]
            · simp
          rw [this]; exact k1
        refine ⟨_, w', _, by rw [hv]; exact room (some (j.at a)) C hroom hf hst, ?_, k4, k3.trans k5⟩
        have hm : ins m L.length j L.length = some j := by simp [ins]
        have := VR.opn (a := ⟨L.length, 0, none⟩) (n := s.n + n) (i := j) hm
        rw [hat, ← hC, hoff]
        simpa [Info.at, g2] using this
      · obtain ⟨q1, q2⟩ := hr.kill a.block
        refine grow (L.set a.block .dead) q1 q2 (by simp) (some (j.at a)) C (cs.take (s.n * i.size)) hv hroom hb1 hb2 fun w2 hw2 => ?_
        have hx2 : VR m (.slice (some a) s.n OPEN) (.slice (some (j.at a)) s.n C) := by rw [← hC]; exact .opn hj
        refine srcCells_ok hw2 (s := ⟨some a, s.n, OPEN⟩) ?_ (Nat.le_refl _) hx2
        unfold srcCells
        simp only [hif_eq, cond_eq_ite]
        split
        · rename_i h0
          have h0 := Nat.eq_of_beq_eq_true h0
          simp [h0]
        · unfold cellsAt
          rw [g1]
          simp only [g6, hoff, Nat.zero_add, List.drop_zero, hif_eq, cond_eq_ite]
          rw [if_pos (by simpa using hlen)]

end
end Go.Rlm

/- The logical machine and the model: append, copy, clear, make. -/
import Derived.Test.YtlcchghlhfamjaaRlmS8
namespace Go.Rlm

section
variable {P : Program} {env : Env} {L : LHeap} {o : Oper} {r : LR} {K : Value → LHeap → R}

theorem zeroOf_zero {t : TypeId} {z : List Value} (h : zeroOf P t = some z) : ∃ zv i, P.info? t = some i ∧ i.zero = some zv ∧ zv.cells.toList = z := by
  obtain ⟨zv, h1, h2, _⟩ := zeroOf_ok h
  have := congrFun h1 default
  cases hi : P.info? t with
  | none => simp [zeroValue, typeInfo, hi] at this
  | some i =>
    cases hz : i.zero with
    | none => simp [zeroValue, typeInfo, hi, hz] at this
    | some z' =>
      simp [zeroValue, typeInfo, hi, hz] at this
      exact ⟨z', i, rfl, hz, by rw [this]; exact h2⟩

theorem lop_makeSlice {t : TypeId} {x y : Operand} (ho : o.op = .makeSlice t x y) (h : lop P env L o K = some r) : Res P env L o K r := by
  obtain ⟨dst, op, ty, pos, after, guard⟩ := o
  simp only at ho
  subst ho
  simp only [lop, ev_eq, obind_iff] at h
  obtain ⟨v, h1, u, h2, h3⟩ := h
  split at h3
  case h_2 => cases h3
  rename_i e kn n kc c hu
  split at h3
  case h_2 => cases h3
  rename_i i hi
  rw [obind_iff] at h3
  obtain ⟨z, hz, h3⟩ := h3
  simp only [when_iff] at h3
  obtain ⟨g1, g2, gr, h3⟩ := h3
  refine .write _ _ rfl h3 (fun K2 => by simp only [lop, ev_eq, h1, h2, obind_some, hu, hi, hz, g1, g2, gr, when_true]) fun m w a hr he => ?_
  obtain ⟨zv, i', hi', hz1, hz2⟩ := zeroOf_zero hz
  rw [hi] at hi'; injection hi' with hi'; subst hi'
  obtain ⟨_, _, _, hfl, hon⟩ := zeroOf_ok hz
  have e1 := Nat.eq_of_beq_eq_true g1
  obtain ⟨g3, g4, g5, g6⟩ := room_iff.1 gr
  have g2 : 0 < z.length := by simpa using g2
  have hrun := run_make (P := P) w t e i zv hu hi hz1 kn kc n c g3 g4 (by rw [Int.mul_comm]; omega) (by omega)
  have hcells : madeCells zv.cells (c.toNat * i.size) = ⟨(List.replicate c.toNat z).flatten⟩ := by
    rw [← e1]; exact zero_mod hz2 g2 c.toNat
  have hmem : ∀ v ∈ (List.replicate c.toNat z).flatten, v ∈ z := fun v hv => by
    obtain ⟨l, hl, hv⟩ := List.mem_flatten.1 hv
    rwa [List.eq_of_mem_replicate hl] at hv
  obtain ⟨m', h4, h5, h6⟩ := hr.push0 (cs := (List.replicate c.toNat z).flatten) (c := madeCells zv.cells (c.toNat * i.size)) (e := e) (by rw [hcells]; exact VRs.flat fun v hv => hfl v (hmem v hv)) fun v hv => hon v (hmem v hv)
  refine ⟨m', _, _, .inl ?_, .slice (a := ⟨L.length, 0, none⟩) (c := c.toNat) h4 ?_, h5, h6⟩
  · have hb := VR.of_int (he.eval h1)
    have hc := VR.of_int (he.eval h2)
    simp only [execOp, hb, hc, Sem.run_bind, hrun, Result.andThen_ok, Sem.run_pure, Info.at]
    rfl
  · unfold OPEN; omega

/-! ### Sources -/

theorem srcLen_ok {m : RMap} {x x' : Value} {k : Nat} (h : srcLen x = some k) (hv : VR m x x') (w : World) : (Builtin.lenOf x').run P w = .ok k w := by
  cases x <;> simp only [srcLen] at h <;> first | (cases h; done) | skip
  · injection h with h; subst h
    rw [hv.of_string]; rfl
  · rename_i a n c
    injection h with h; subst h
    cases a with
    | none => rw [hv.of_nilSlice]; rfl
    | some a =>
      rcases hv.of_slice with ⟨_, i, _, e⟩ | ⟨_, i, _, e⟩ | ⟨_, hn, a', c', e⟩
      · rw [e]; rfl
      · rw [e]; rfl
      · rw [e, hn]; rfl

theorem byteCells_flat (s : ByteArray) : ∀ v ∈ byteCells s, flat1 v = true := by
  intro v hv
  simp only [byteCells, List.mem_map] at hv
  obtain ⟨b, _, rfl⟩ := hv
  rfl

theorem srcCells_ok {m : RMap} {w : World} (hr : Rep P m L w) {s : Sl} {n esz : Nat} {cs : List Value} (h : srcCells L s n esz = some cs) (hn : n ≤ s.n) {x' : Value} (hv : VR m (.slice s.a s.n s.c) x') :
    ∃ cs', (Builtin.firstCells esz n x').run P w = .ok ⟨cs'⟩ w ∧ VRs m cs cs' ∧ (∀ v ∈ cs, one v = true) ∧ cs.length = n * esz := by
  unfold srcCells at h
  simp only [hif_eq, cond_eq_ite] at h
  split at h
  · rename_i h0
    have h0 := Nat.eq_of_beq_eq_true h0
    subst h0
    injection h with h; subst h
    refine ⟨[], ?_, .nil, by simp, by simp⟩
    cases ha : s.a with
    | none => rw [ha] at hv; rw [hv.of_nilSlice]; rfl
    | some a =>
      rw [ha] at hv
      rcases hv.of_slice with ⟨_, i, _, e⟩ | ⟨_, i, _, e⟩ | ⟨_, _, a', c', e⟩ <;> rw [e] <;> simp [Builtin.firstCells, loadCells, loadCellsFrom]
  · rename_i h0
    have h0 : n ≠ 0 := fun e => h0 (by rw [e]; rfl)
    split at h
    case h_2 => cases h
    rename_i a ha
    obtain ⟨h1, h2⟩ := cellsAt_cell h
    rw [ha] at hv
    have fin : ∀ (i : Info) (c' : Nat), m a.block = some i → x' = .slice (some (i.at a)) s.n c' → ∃ cs', (Builtin.firstCells esz n x').run P w = .ok ⟨cs'⟩ w ∧ VRs m cs cs' ∧ (∀ v ∈ cs, one v = true) ∧ cs.length = n * esz := fun i c' hi e => by
      obtain ⟨cs', h3, h4, h5⟩ := hr.cells hi (cs := cs) fun j v hj => by rw [addrN_add (cellsAt_spot h)]; exact h2 j v hj
      rw [h1] at h3
      exact ⟨cs', by rw [e]; exact h3, h4, h5, h1⟩
    rcases hv.of_slice with ⟨_, i, hi, e⟩ | ⟨_, i, hi, e⟩ | ⟨_, h3, _⟩
    · exact fin i _ hi e
    · exact fin i _ hi e
    · omega

theorem srcOf_ok {m : RMap} {w : World} (hr : Rep P m L w) {x x' : Value} {k n esz : Nat} {cs : List Value} (hl : srcLen x = some k) (h : srcOf L esz n x = some cs) (hn : n ≤ k) (hv : VR m x x') :
    ∃ cs', (Builtin.firstCells esz n x').run P w = .ok ⟨cs'⟩ w ∧ VRs m cs cs' ∧ (∀ v ∈ cs, one v = true) ∧ cs.length = n * esz := by
  cases x <;> simp only [srcLen] at hl <;> first | (cases hl; done) | skip
  · rename_i s
    injection hl with hl; subst hl
    simp only [srcOf, hif_eq, cond_eq_ite] at h
    split at h
    case isFalse => cases h
    rename_i h1
    have h1 := Nat.eq_of_beq_eq_true h1
    subst h1
    injection h with h; subst h
    rw [hv.of_string]
    refine ⟨byteCells (s.extract 0 n), ?_, VRs.flat (byteCells_flat _), fun v hv => one_of_flat1 (byteCells_flat _ v hv), ?_⟩
    · simp only [Builtin.firstCells, Sem.run_pure, byteCells]
      congr 1
      rw [arr_map]
    · simp [byteCells]
      omega
  · rename_i a q c
    injection hl with hl; subst hl
    exact srcCells_ok hr (s := ⟨a, q, c⟩) h hn hv

/-! ### Blocks struck off, moved -/

theorem own_set {L : LHeap} {q r : Nat} {b : LBlk} (h : own (L.set q b) r) : (r = q ∧ ∃ cs e sp, b = .cells cs e false sp) ∨ (r ≠ q ∧ own L r) := by
  obtain ⟨cs, e, sp, h⟩ := h
  by_cases hq : q = r
  · subst hq
    rw [List.getElem?_set] at h
    simp only [if_true] at h
    split at h
    · injection h with h; exact .inl ⟨rfl, cs, e, sp, h⟩
    · cases h
  · rw [List.getElem?_set_ne hq] at h
    exact .inr ⟨fun e => hq e.symm, cs, e, sp, h⟩

theorem Rep.kill {m : RMap} {w : World} (h : Rep P m L w) (q : Nat) : Rep P m (L.set q .dead) w ∧ Tr m L w m (L.set q .dead) w := by
  have hget : ∀ r cs e ro sp, (L.set q .dead)[r]? = some (.cells cs e ro sp) → r ≠ q ∧ L[r]? = some (.cells cs e ro sp) := fun r cs e ro sp hr => by
    by_cases hq : q = r
    · subst hq
      rw [List.getElem?_set] at hr
      simp only [if_true] at hr
      split at hr
      · injection hr with hr; cases hr
      · cases hr
    · rw [List.getElem?_set_ne hq] at hr
      exact ⟨fun e => hq e.symm, hr⟩
  have hown : ∀ r, own (L.set q .dead) r → own L r := fun r ⟨cs, e, sp, hr⟩ => ⟨cs, e, sp, (hget _ _ _ _ _ hr).2⟩
  refine ⟨⟨fun r hr => h.fresh r (by simpa using hr), fun r cs e ro sp hr => h.row r cs e ro sp (hget _ _ _ _ _ hr).2, fun r r' i i' h1 h2 => h.sep r r' i i' (hown r h1) ?_⟩,
    ⟨.refl m, by simp, Nat.le_refl _, rfl, rfl, rfl, fun r i h1 h2 => .inl ⟨r, i, hown r h1, h2, rfl⟩, fun _ _ _ => rfl⟩⟩
  obtain ⟨cs, e, ro, sp, h2⟩ := h2
  exact ⟨cs, e, ro, sp, (hget _ _ _ _ _ h2).2⟩

/-- A block under a new name. -/
theorem Rep.move {m : RMap} {w : World} (h : Rep P m L w) {q : Nat} {i : Info} {cs : List Value} {e : TypeId} {sp : Nat} (hq : L[q]? = some (.cells cs e false sp)) (hi : m q = some i) :
    Rep P (ins m L.length i) (L.set q .dead ++ [.cells cs e false sp]) w ∧ Tr m L w (ins m L.length i) (L.set q .dead ++ [.cells cs e false sp]) w := by
  have hlt : q < L.length := (List.getElem?_eq_some_iff.1 hq).1
  have hext := MExt.ins (m := m) (r := L.length) i (h.fresh _ (Nat.le_refl _))
  have hget : ∀ r b, (L.set q .dead ++ [LBlk.cells cs e false sp])[r]? = some b → (r < L.length ∧ r = q ∧ b = .dead) ∨ (r < L.length ∧ r ≠ q ∧ L[r]? = some b) ∨ (r = L.length ∧ b = .cells cs e false sp) := fun r b hr => by
    rcases Nat.lt_trichotomy r L.length with h1 | h1 | h1
    · rw [List.getElem?_append_left (by simpa using h1)] at hr
      by_cases hrq : q = r
      · subst hrq; rw [List.getElem?_set_self hlt] at hr; injection hr with hr; exact .inl ⟨h1, rfl, hr.symm⟩
      · rw [List.getElem?_set_ne hrq] at hr; exact .inr (.inl ⟨h1, fun e => hrq e.symm, hr⟩)
    · subst h1
      rw [List.getElem?_append_right (by simp)] at hr
      simp at hr
      exact .inr (.inr ⟨rfl, hr.symm⟩)
    · rw [List.getElem?_eq_none (by simp; omega)] at hr; cases hr
  have hins : ∀ r j, r < L.length → ins m L.length i r = some j → m r = some j := fun r j hr hm => by
    unfold Rlm.ins at hm; rw [if_neg (by omega)] at hm; exact hm
  have hinsL : ∀ j, ins m L.length i L.length = some j → j = i := fun j hm => by
    unfold Rlm.ins at hm; rw [if_pos rfl] at hm; injection hm with hm; exact hm.symm
  have rowMono : ∀ {j : Info} {cs : List Value} {e : TypeId} {ro : Bool} {sp : Nat}, Row P m w j cs e ro sp → Row P (ins m L.length i) w j cs e ro sp := fun hrow =>
    ⟨let ⟨cp, e', fz, g1, g2, g3⟩ := hrow.there; ⟨cp, e', fz, g1, fun j v hv => let ⟨v', g4, g5⟩ := g2 j v hv; ⟨v', g4, g5.mono hext⟩, g3⟩, hrow.ones⟩
  have hownq : own L q := ⟨cs, e, sp, hq⟩
  refine ⟨⟨fun r hr => ?_, fun r ds e2 ro2 sp2 hr2 => ?_, fun r r' j j' h6 h7 h8 h9 h10 => ?_⟩, ⟨hext, by simp, Nat.le_refl _, rfl, rfl, rfl, fun r j h6 h7 => ?_, fun _ _ _ => rfl⟩⟩
  · simp at hr
    unfold Rlm.ins
    rw [if_neg (by omega)]
    exact h.fresh r (by omega)
  · rcases hget _ _ hr2 with ⟨_, _, g⟩ | ⟨g1, g2, g3⟩ | ⟨g1, g2⟩
    · cases g
    · obtain ⟨j, g4, g5⟩ := h.row _ _ _ _ _ g3
      exact ⟨j, hext _ _ g4, rowMono g5⟩
    · subst g1
      injection g2 with e1 e2 e3 e4
      subst e1; subst e2; subst e3; subst e4
      obtain ⟨j, g4, g5⟩ := h.row _ _ _ _ _ hq
      rw [hi] at g4; injection g4 with g4; subst g4
      exact ⟨i, by unfold Rlm.ins; rw [if_pos rfl], rowMono g5⟩
  · obtain ⟨c1, c2, c3, c4⟩ := h6
    obtain ⟨d1, d2, d3, d4, d5⟩ := h7
    rcases hget _ _ c4 with ⟨_, _, g⟩ | ⟨g1, g2, g3⟩ | ⟨g1, g2⟩
    · cases g
    · rcases hget _ _ d5 with ⟨_, _, g⟩ | ⟨k1, k2, k3⟩ | ⟨k1, k2⟩
      · cases g
      · exact h.sep r r' j j' ⟨_, _, _, g3⟩ ⟨_, _, _, _, k3⟩ h8 (hins _ _ g1 h9) (hins _ _ k1 h10)
      · subst k1
        rw [hinsL _ h10]
        exact h.sep r q j i ⟨_, _, _, g3⟩ hownq.live g2 (hins _ _ g1 h9) hi
    · subst g1
      rw [hinsL _ h9]
      rcases hget _ _ d5 with ⟨_, _, g⟩ | ⟨k1, k2, k3⟩ | ⟨k1, k2⟩
      · cases g
      · exact h.sep q r' i j' hownq ⟨_, _, _, _, k3⟩ (fun e => k2 e.symm) hi (hins _ _ k1 h10)
      · omega
  · obtain ⟨c1, c2, c3, c4⟩ := h6
    rcases hget _ _ c4 with ⟨_, _, g⟩ | ⟨g1, g2, g3⟩ | ⟨g1, g2⟩
    · cases g
    · exact .inl ⟨r, j, ⟨_, _, _, g3⟩, hins _ _ g1 h7, rfl⟩
    · subst g1
      rw [hinsL _ h7]
      exact .inl ⟨q, i, hownq, hi, rfl⟩

/-- Cells written behind what a block is known to hold. -/
theorem Rep.extend {m : RMap} {w : World} (h : Rep P m L w) {q : Nat} {i : Info} {cs : List Value} {e : TypeId} {sp k : Nat} (hq : L[q]? = some (.cells cs e false sp)) (hi : m q = some i) (hsp : sp ≠ 0)
    {vs vs' : List Value} (hv : VRs m vs vs') (ho : ∀ v ∈ vs, one v = true) (hk : k ≤ cs.length) (hfit : k + vs.length ≤ i.top) :
    ∃ w', (storeCells ⟨i.blk, k, none⟩ vs').run P w = .ok () w' ∧ Rep P m (L.set q (.cells (cs.take k ++ vs) e false sp)) w' ∧ Tr m L w m (L.set q (.cells (cs.take k ++ vs) e false sp)) w' := by
  have hlt : q < L.length := (List.getElem?_eq_some_iff.1 hq).1
  obtain ⟨i', g1, hrow⟩ := h.row _ _ _ _ _ hq
  rw [hi] at g1; injection g1 with g1; subst g1
  obtain ⟨cp, e', fz, hh, hcell, hro, hsp'⟩ := hrow.there
  obtain ⟨hbase, rfl, hfz⟩ := hro rfl
  obtain ⟨_, htop, hesz, hcel⟩ := hsp' hsp
  have hlen := hv.length
  obtain ⟨w', h1, h2, h3, h4, h5⟩ := run_stores P i.blk e' fz vs' cp k 0 w hh (by omega) hfz (hv.ones ho)
  have hnew : w'.heap[i.blk]? = some (.cells ⟨setAll cp.toList k vs'⟩ e' fz) := by
    rw [h2, Array.getElem?_setIfInBounds, if_pos rfl, if_pos (Array.getElem?_eq_some_iff.1 hh).1]; rfl
  have hold : ∀ b, b ≠ i.blk → w'.heap[b]? = w.heap[b]? := fun b hb => by
    rw [h2, Array.getElem?_setIfInBounds, if_neg (fun e => hb e.symm)]
  have hsize : w'.heap.size = w.heap.size := by rw [h2]; simp
  have hownq : own L q := ⟨cs, e', sp, hq⟩
  refine ⟨w', h1, ⟨fun r hr => h.fresh r (by simpa using hr), fun r ds e2 ro2 sp2 hr2 => ?_, fun r r' j j' h6 h7 h8 h9 h10 => ?_⟩, ?_⟩
  · by_cases hrr : q = r
    · subst hrr
      rw [List.getElem?_set_self hlt] at hr2
      injection hr2 with hr2; injection hr2 with e1 e2 e3 e4
      subst e1; subst e2; subst e3; subst e4
      refine ⟨i, hi, ⟨⟨_, _, fz, hnew, ?_, fun _ => ⟨hbase, rfl, ?_⟩, fun hne => ⟨rfl, by rw [htop]; simp [setAll_length], hesz, hcel⟩⟩, ?_⟩⟩
      · intro j v hv2
        simp only [List.getElem?_toArray, hbase, Nat.zero_add]
        rw [setAll_get vs' cp.toList k j (by simp; omega), hlen]
        by_cases hj : j < k
        · rw [List.getElem?_append_left (by simp; omega), List.getElem?_take, if_pos hj] at hv2
          rw [if_neg (by omega)]
          obtain ⟨v', h11, h12⟩ := hcell j v hv2
          exact ⟨v', by simpa [hbase] using h11, h12⟩
        · rw [List.getElem?_append_right (by simp; omega)] at hv2
          have e1 : (cs.take k).length = k := by simp; omega
          rw [e1] at hv2
          have hj2 : j - k < vs.length := (List.getElem?_eq_some_iff.1 hv2).1
          rw [if_pos (by omega)]
          exact hv.get hv2
      · intro o ho2
        simp [setAll_length] at ho2
        exact hfz o ho2
      · intro v hv2
        rcases List.mem_append.1 hv2 with h6 | h6
        · exact hrow.ones v (List.mem_of_mem_take h6)
        · exact ho v h6
    · rw [List.getElem?_set_ne hrr] at hr2
      obtain ⟨j, h6, h7⟩ := h.row _ _ _ _ _ hr2
      have hne : j.blk ≠ i.blk := (h.sep q r i j hownq ⟨ds, e2, ro2, sp2, hr2⟩ hrr hi h6).symm
      refine ⟨j, h6, ⟨?_, h7.ones⟩⟩
      obtain ⟨cp2, e3, fz2, h8, h9⟩ := h7.there
      exact ⟨cp2, e3, fz2, by rw [hold _ hne]; exact h8, h9⟩
  · have o1 : own L r := by
      rcases own_set h6 with ⟨rfl, _⟩ | ⟨_, h⟩
      · exact hownq
      · exact h
    have o2 : live L r' := by
      by_cases hrr : q = r'
      · subst hrr; exact hownq.live
      · obtain ⟨c1, c2, c3, c4, c5⟩ := h7
        rw [List.getElem?_set_ne hrr] at c5
        exact ⟨c1, c2, c3, c4, c5⟩
    exact h.sep r r' j j' o1 o2 h8 h9 h10
  · refine ⟨.refl m, by simp, by omega, h3, h4, h5, fun r j h6 h7 => .inl ⟨r, j, ?_, h7, rfl⟩, fun b _ hb2 => hold b fun e => hb2 q i hownq hi e.symm⟩
    rcases own_set h6 with ⟨rfl, _⟩ | ⟨_, h⟩
    · exact hownq
    · exact h

end
end Go.Rlm

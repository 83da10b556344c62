/- The logical machine and the model: slices, make, conversions. -/
import Derived.Test.YtlcchghlhfamjaaRlmS7
namespace Go.Rlm

section
variable {P : Program} {env : Env} {L : LHeap} {o : Oper} {r : LR} {K : Value → LHeap → R}

theorem bound_some {i : Int} {d y m : Nat} (h : bound (some i) d y = some m) : 0 ≤ i ∧ i ≤ y ∧ m = i.toNat := by
  simp only [bound, hif_eq, cond_eq_ite, Bool.and_eq_true, decide_eq_true_eq] at h
  split at h
  case isFalse => cases h
  rename_i hi
  injection h with h
  exact ⟨hi.1, hi.2, h.symm⟩
theorem bound_none {d y m : Nat} (h : bound none d y = some m) : d ≤ y ∧ m = d := by
  simp only [bound, hif_eq, cond_eq_ite] at h
  split at h
  case isFalse => cases h
  rename_i hi
  injection h with h
  exact ⟨by simpa using hi, h.symm⟩
theorem bound_le {x : Option Int} {d y m : Nat} (h : bound x d y = some m) : m ≤ y := by
  cases x with
  | none => obtain ⟨h1, h2⟩ := bound_none h; omega
  | some i => obtain ⟨h1, h2, h3⟩ := bound_some h; omega

/-- An optional operand that is a number, and the model's. -/
def IntOp (x : Option Int) (v : Option Value) : Prop := (x = none ∧ v = none) ∨ ∃ k i, x = some i ∧ v = some (.int k i)

theorem evo_ok {x : Option Operand} {K : Option Int → R} (h : evo env x K = some r) : ∃ i, K i = some r ∧ (∀ K2, evo env x K2 = K2 i) ∧ ∀ (m : RMap) (a : Act), ER m env a.tmps → IntOp i (x.map a.eval) := by
  cases x with
  | none => exact ⟨none, h, fun _ => rfl, fun _ _ _ => .inl ⟨rfl, rfl⟩⟩
  | some x =>
    simp only [evo, ev_eq, obind_iff] at h
    obtain ⟨v, h1, h2⟩ := h
    split at h2
    case h_2 => cases h2
    rename_i k n
    exact ⟨some n, h2, fun K2 => by simp only [evo, ev_eq, h1, obind_some], fun m a he => .inr ⟨k, n, rfl, by simp [VR.of_int (he.eval h1)]⟩⟩

theorem run_bound {x : Option Int} {d y m : Nat} {v : Value} {k : IntKind} {i : Int} (hx : x = some i) (hv : v = .int k i) (h : bound x d y = some m) (c : BoundsCode) (w : World) :
    (Instr.sliceBound v y c).run P w = .ok m w := by
  subst hx; subst hv
  obtain ⟨h1, h2, h3⟩ := bound_some h
  rw [run_sliceBound w k i y c h1 h2, h3]

/-- The bounds of s[lo:hi:mx]. -/
theorem run_bounds {isS : Bool} {len cap : Nat} {lo hi mx : Option Int} {vlo vhi vmx : Option Value} (hlo : IntOp lo vlo) (hhi : IntOp hi vhi) (hmx : IntOp mx vmx) {l h m d e : Nat}
    (h1 : mx = none ∧ m = cap ∨ bound mx d cap = some m ∧ mx.isSome = true) (h2 : hi = none ∧ mx = none ∧ h = len ∨ bound hi e m = some h ∧ hi.isSome = true) (h3 : bound lo 0 h = some l) (w : World) :
    (Instr.sliceBounds isS len cap vlo vhi vmx).run P w = .ok (l, h, m) w := by
  have sb : ∀ (k : IntKind) (i : Int) (d y q : Nat) (c : BoundsCode), bound (some i) d y = some q → (Instr.sliceBound (.int k i) y c).run P w = .ok q w := fun k i d y q c hq => run_bound rfl rfl hq c w
  have h1' : (mx = none ∧ vmx = none ∧ m = cap) ∨ ∃ k i, mx = some i ∧ vmx = some (.int k i) ∧ bound (some i) d cap = some m := by
    rcases h1 with ⟨rfl, rfl⟩ | ⟨h1, h4⟩
    · rcases hmx with ⟨_, rfl⟩ | ⟨_, _, h5, _⟩
      · exact .inl ⟨rfl, rfl, rfl⟩
      · cases h5
    · rcases hmx with ⟨rfl, _⟩ | ⟨k, i, rfl, rfl⟩
      · cases h4
      · exact .inr ⟨k, i, rfl, rfl, h1⟩
  have h2' : (hi = none ∧ vhi = none ∧ mx = none ∧ h = len) ∨ ∃ k i, hi = some i ∧ vhi = some (.int k i) ∧ bound (some i) e m = some h := by
    rcases h2 with ⟨rfl, h5, h6⟩ | ⟨h2, h4⟩
    · rcases hhi with ⟨_, rfl⟩ | ⟨_, _, h7, _⟩
      · exact .inl ⟨rfl, rfl, h5, h6⟩
      · cases h7
    · rcases hhi with ⟨rfl, _⟩ | ⟨k, i, rfl, rfl⟩
      · cases h4
      · exact .inr ⟨k, i, rfl, rfl, h2⟩
  have h3' : (lo = none ∧ vlo = none ∧ l = 0) ∨ ∃ k i, lo = some i ∧ vlo = some (.int k i) ∧ bound (some i) 0 h = some l := by
    rcases hlo with ⟨rfl, rfl⟩ | ⟨k, i, rfl, rfl⟩
    · exact .inl ⟨rfl, rfl, (bound_none h3).2⟩
    · exact .inr ⟨k, i, rfl, rfl, h3⟩
  clear h1 h2 h3 hlo hhi hmx
  rcases h1' with ⟨rfl, rfl, rfl⟩ | ⟨k1, i1, rfl, rfl, q1⟩ <;> rcases h2' with ⟨rfl, rfl, g1, rfl⟩ | ⟨k2, i2, rfl, rfl, q2⟩ <;> rcases h3' with ⟨rfl, rfl, rfl⟩ | ⟨k3, i3, rfl, rfl, q3⟩ <;> try (cases g1; done)
  · simp [Instr.sliceBounds]
  · simp [Instr.sliceBounds, sb _ _ _ _ _ _ q3]
  · simp [Instr.sliceBounds, sb _ _ _ _ _ _ q2]
  · simp [Instr.sliceBounds, sb _ _ _ _ _ _ q2, sb _ _ _ _ _ _ q3]
  · simp [Instr.sliceBounds, sb _ _ _ _ _ _ q1, sb _ _ _ _ _ _ q2]
  · simp [Instr.sliceBounds, sb _ _ _ _ _ _ q1, sb _ _ _ _ _ _ q2, sb _ _ _ _ _ _ q3]

theorem subS_ok {s t : ByteArray} {lo hi : Option Int} (h : subS s lo hi = some t) : ∃ hh l, (hi = none ∧ hh = s.size ∨ bound hi s.size s.size = some hh ∧ hi.isSome = true) ∧ bound lo 0 hh = some l ∧ t = s.extract l hh := by
  unfold subS at h
  simp only [Option.bind_eq_bind, Option.bind_eq_some_iff] at h
  obtain ⟨hh, h1, l, h2, h3⟩ := h
  injection h3 with h3
  refine ⟨hh, l, ?_, h2, h3.symm⟩
  cases hi with
  | none => exact .inl ⟨rfl, (bound_none h1).2⟩
  | some i => exact .inr ⟨h1, rfl⟩

theorem blen_ok {m : RMap} {w : World} (hr : Rep P m L w) {a : Addr} {esz e : Nat} (h : blen L a esz = some e) {i : Info} (hi : m a.block = some i) :
    a.spot = none ∧ i.base = 0 ∧ i.esz = esz ∧ 0 < esz ∧ e ≤ (i.top - a.off) / i.esz ∧
      ∃ cs el cp fz, L[a.block]? = some (.cells cs el false esz) ∧ e = (cs.length - a.off) / esz ∧ esz = P.cellsOf el ∧ i.top = cp.size ∧ w.heap[i.blk]? = some (.cells cp el fz) := by
  unfold blen at h
  split at h
  · cases h
  rename_i hs
  split at h
  case h_2 => cases h
  rename_i cs el ro sp hL
  simp only [hif_eq, cond_eq_ite, Bool.and_eq_true] at h
  split at h
  case isFalse => cases h
  rename_i hb
  injection h with h
  obtain ⟨hb1, hb2⟩ := hb
  have hb1 := Nat.eq_of_beq_eq_true hb1
  have hb2 : 0 < esz := by simpa using hb2
  subst hb1
  obtain ⟨j, h1, h2⟩ := hr.row _ _ _ _ _ hL
  rw [hi] at h1; injection h1 with h1; subst h1
  obtain ⟨cp, e', fz, h3, h4, h5, h6⟩ := h2.there
  obtain ⟨rfl, h7, h8, h9⟩ := h6 (by omega)
  obtain ⟨h10, rfl, _⟩ := h5 rfl
  refine ⟨hs, h10, h8, hb2, ?_, cs, e', cp, fz, hL, h.symm, h9, h7, h3⟩
  rw [← h, h8]
  apply Nat.div_le_div_right
  have : cs.length ≤ cp.size := by
    rcases Nat.eq_zero_or_pos cs.length with h0 | h0
    · omega
    · obtain ⟨v', h11, _⟩ := h4 (cs.length - 1) cs[cs.length - 1] (by simp)
      have := (Array.getElem?_eq_some_iff.1 h11).1
      omega
  omega

theorem VR.sl {m : RMap} {sa : Option Addr} {n c : Nat} {x' : Value} (h : VR m (.slice sa n c) x') (hc : c < OPEN) : ∃ sa', x' = .slice sa' n c ∧ ((sa = none ∧ sa' = none) ∨ ∃ a i, sa = some a ∧ m a.block = some i ∧ sa' = some (i.at a)) := by
  cases sa with
  | none => exact ⟨none, h.of_nilSlice, .inl ⟨rfl, rfl⟩⟩
  | some a =>
    rcases h.of_slice with ⟨_, i, hi, hv⟩ | ⟨h1, _⟩ | ⟨h1, _⟩
    · exact ⟨_, hv, .inr ⟨a, i, rfl, hi, rfl⟩⟩
    · omega
    · rw [h1] at hc; unfold LOOSE OPEN at hc; omega

theorem cut_ok {m : RMap} {w : World} (hr : Rep P m L w) {t e : TypeId} (hu : P.underlying t = some (.slice e)) (hp : 0 < P.cellsOf e) {s s' : Sl} {lo hi mx : Option Int} {vlo vhi vmx : Option Value}
    (hlo : IntOp lo vlo) (hhi : IntOp hi vhi) (hmx : IntOp mx vmx) (h : cut L s lo hi mx (P.cellsOf e) = some s') {x' : Value} (hx : VR m (.slice s.a s.n s.c) x') :
    ∃ v', (Instr.slice t x' vlo vhi vmx).run P w = .ok v' w ∧ VR m (.slice s'.a s'.n s'.c) v' := by
  have run : ∀ (a' : Option Addr) (n cap l h m' : Nat), (Instr.sliceBounds true n cap vlo vhi vmx).run P w = .ok (l, h, m') w →
      (Instr.slice t (.slice a' n cap) vlo vhi vmx).run P w = .ok (.slice (if m' = l then a' else a'.map (·.add (l * P.cellsOf e))) (h - l) (m' - l)) w := fun a' n cap l h m' hb => by
    simp only [Instr.slice, Sem.run_bind, run_underlying hu, Result.andThen_ok, hb, run_size' hp, Sem.run_pure]
  unfold cut at h
  simp only [hif_eq, cond_eq_ite] at h
  split at h
  · rename_i hc
    have hc : s.c < OPEN := by simpa using hc
    simp only [Option.bind_eq_bind, Option.bind_eq_some_iff] at h
    obtain ⟨mm, h1, hh, h2, l, h3, h4⟩ := h
    injection h4 with h4
    subst h4
    obtain ⟨sa', hv, hsa⟩ := hx.sl hc
    have hmm := bound_le h1
    have hb : (Instr.sliceBounds true s.n s.c vlo vhi vmx).run P w = .ok (l, hh, mm) w := by
      refine run_bounds hlo hhi hmx (d := s.c) (e := if mx.isSome = true then mm + 1 else s.n) ?_ ?_ h3 w
      · cases mx with
        | none => exact .inl ⟨rfl, (bound_none h1).2⟩
        | some i => exact .inr ⟨h1, rfl⟩
      · cases hi with
        | some i => exact .inr ⟨h2, rfl⟩
        | none =>
          obtain ⟨h5, h6⟩ := bound_none h2
          cases mx with
          | none => exact .inl ⟨rfl, rfl, by simpa using h6⟩
          | some i => simp at h5; omega
    refine ⟨_, by rw [hv]; exact run sa' s.n s.c l hh mm hb, ?_⟩
    · simp only
      rcases hsa with ⟨h5, h6⟩ | ⟨a, i, h5, h6, h7⟩
      · rw [h5, h6]; simp; exact .flat1 rfl
      · rw [h5, h7]
        split
        · exact .slice h6 (by omega)
        · simp only [Option.map_some, at_add]
          exact .slice (by rw [add_block]; exact h6) (by omega)
  · split at h
    case isFalse =>
      split at h
      case isFalse => cases h
      rename_i hc
      have hc := Nat.eq_of_beq_eq_true hc
      split at h
      · cases h
      rename_i a ha
      rw [ha, hc] at hx
      rcases hx.of_slice with ⟨h0, _⟩ | ⟨h0, _⟩ | ⟨_, hn, a', c', hv⟩
      · unfold OPEN LOOSE at h0; omega
      · unfold OPEN LOOSE at h0; omega
      rw [hv]
      split at h
      case isFalse => cases h
      rename_i hmn
      obtain rfl : mx = none := by cases mx <;> simp_all
      simp only [Option.bind_eq_bind, Option.bind_eq_some_iff] at h
      obtain ⟨hh, h3, l, h4, h5⟩ := h
      injection h5 with h5
      subst h5
      have hle := bound_le h3
      have hle2 := bound_le h4
      have rb : (Instr.sliceBounds true 0 c' vlo vhi vmx).run P w = .ok (l, hh, c') w := run_bounds hlo hhi hmx (d := 0) (e := 0) (.inl ⟨rfl, rfl⟩) (by
        cases hi with
        | none => exact .inl ⟨rfl, rfl, (bound_none h3).2⟩
        | some j =>
          obtain ⟨q1, q2, q3⟩ := bound_some h3
          refine .inr ⟨?_, rfl⟩
          simp only [bound]
          rw [show (decide (0 ≤ j) && decide (j ≤ (c' : Int))) = true by simp; omega]
          simp [q3]) h4 w
      refine ⟨_, run (some a') 0 c' l hh c' rb, ?_⟩
      have : hh - l = 0 := by omega
      simp only [this]
      split
      · exact .loose
      · simp only [Option.map_some]; exact .loose
    rename_i hc
    have hc := Nat.eq_of_beq_eq_true hc
    split at h
    · cases h
    rename_i a ha
    rw [ha, hc] at hx
    rcases hx.of_slice with ⟨h0, _⟩ | ⟨_, i, hi2, hv⟩ | ⟨h0, _⟩
    · omega
    case inr.inr => unfold OPEN LOOSE at h0; omega
    rw [hv]
    generalize hC : (i.top - a.off) / i.esz = C at *
    simp only [Option.bind_eq_bind, Option.bind_eq_some_iff] at h
    obtain ⟨ex, h1, h⟩ := h
    obtain ⟨g1, g2, g3, g4, g5, _⟩ := blen_ok hr h1 hi2
    rw [hC] at g5
    have capEq : ∀ l, l ≤ C → C - l = (i.top - (a.off + l * P.cellsOf e)) / i.esz := fun l hl => by
      have hle : l * P.cellsOf e ≤ i.top - a.off := by
        have h7 : C * i.esz ≤ i.top - a.off := by rw [← hC]; exact Nat.div_mul_le_self _ _
        have h8 : l * P.cellsOf e ≤ C * P.cellsOf e := Nat.mul_le_mul_right _ hl
        rw [g3] at h7
        omega
      have h9 := Nat.sub_mul_div (i.top - a.off) i.esz l
      rw [hC, g3, Nat.mul_comm] at h9
      rw [← h9, g3]
      congr 1
      omega
    split at h
    · rename_i x
      simp only [Option.bind_eq_bind, Option.bind_eq_some_iff] at h
      obtain ⟨mm, h2, hh, h3, l, h4, h5⟩ := h
      split at h5
      case isFalse => cases h5
      rename_i hmO
      injection h5 with h5
      subst h5
      have hle := bound_le h2
      obtain ⟨q1, q2, q3⟩ := bound_some h2
      have h2' : bound (some x) 0 C = some mm := by
        simp only [bound]
        rw [show (decide (0 ≤ x) && decide (x ≤ (C : Int))) = true by simp; omega]
        simp [q3]
      have hb : (Instr.sliceBounds true s.n C vlo vhi vmx).run P w = .ok (l, hh, mm) w := by
        refine run_bounds hlo hhi hmx (d := 0) (e := mm + 1) (.inr ⟨h2', rfl⟩) ?_ h4 w
        cases hi with
        | some j => exact .inr ⟨h3, rfl⟩
        | none => have := (bound_none h3).1; omega
      refine ⟨_, run _ s.n C l hh mm hb, ?_⟩
      · simp only
        split
        · exact .slice hi2 (by omega)
        · simp only [Option.map_some, at_add]
          exact .slice (by rw [add_block]; exact hi2) (by omega)
    · simp only [Option.bind_eq_bind, Option.bind_eq_some_iff] at h
      obtain ⟨hh, h3, l, h4, h5⟩ := h
      have hle := bound_le h3
      have hle2 := bound_le h4
      have rb : (Instr.sliceBounds true s.n C vlo vhi vmx).run P w = .ok (l, hh, C) w := run_bounds hlo hhi hmx (d := 0) (e := s.n) (.inl ⟨rfl, rfl⟩) (by
        cases hi with
        | none => exact .inl ⟨rfl, rfl, (bound_none h3).2⟩
        | some j =>
          obtain ⟨q1, q2, q3⟩ := bound_some h3
          refine .inr ⟨?_, rfl⟩
          simp only [bound]
          rw [show (decide (0 ≤ j) && decide (j ≤ (C : Int))) = true by simp; omega]
          simp [q3]) h4 w
      refine ⟨_, run _ s.n C l hh C rb, ?_⟩
      split at h5
      · rename_i hl
        subst hl
        injection h5 with h5
        subst h5
        simp only [Nat.zero_mul, Nat.sub_zero, Option.map_some]
        have : (if C = 0 then some (i.at a) else some ((i.at a).add 0)) = some (i.at a) := by split <;> simp [Addr.add]
        rw [this, ← hC]
        exact .opn hi2
      · split at h5
        · rename_i hl0 hl
          injection h5 with h5
          subst h5
          simp only [Option.map_some]
          rw [if_neg (by omega), capEq l (by omega), at_add]
          have hoff : (a.add (l * P.cellsOf e)).off = a.off + l * P.cellsOf e := by unfold Addr.add; split <;> simp_all
          rw [← hoff]
          exact .opn (by rw [add_block]; exact hi2)
        · rename_i hl0 hl
          injection h5 with h5
          subst h5
          have : hh - l = 0 := by omega
          simp only [this]
          split
          · exact .loose
          · simp only [Option.map_some]; exact .loose

theorem lop_slice {t : TypeId} {x : Operand} {lo hi mx : Option Operand} (ho : o.op = .slice t x lo hi mx) (h : lop P env L o K = some r) : Res P env L o K r := by
  obtain ⟨dst, op, ty, pos, after, guard⟩ := o
  simp only at ho
  subst ho
  simp only [lop, ev_eq] at h
  rw [obind_iff] at h
  obtain ⟨v, h1, ha⟩ := h
  obtain ⟨ilo, hb, u1, p1⟩ := evo_ok ha
  clear ha
  obtain ⟨ihi, hc, u2, p2⟩ := evo_ok hb
  clear hb
  obtain ⟨imx, h, u3, p3⟩ := evo_ok hc
  clear hc
  have unf : ∀ L2 K2, lop P env L2 ⟨dst, .slice t x lo hi mx, ty, pos, after, guard⟩ K2 = lslice P t v ilo ihi imx L2 fun r => K2 r L2 := fun L2 K2 => by
    simp only [lop, ev_eq, h1, obind_some, u1, u2, u3]
  unfold lslice at h
  split at h
  · rename_i s hu
    split at h
    case h_2 => cases h
    rw [obind_iff] at h
    obtain ⟨q, h2, h3⟩ := h
    refine .pure _ h3 (fun L2 K2 => by rw [unf]; simp only [lslice, hu, h2, obind_some]) fun m w a hr he => ⟨_, ?_, .flat1 rfl⟩
    obtain ⟨hh, l, h4, h5, rfl⟩ := subS_ok h2
    have h6 := p3 m a he
    have hnone : mx.map a.eval = none := by rcases h6 with ⟨_, h7⟩ | ⟨_, _, h7, _⟩ <;> first | exact h7 | cases h7
    have hb : (Instr.sliceBounds false s.size s.size (lo.map a.eval) (hi.map a.eval) none).run P w = .ok (l, hh, s.size) w :=
      run_bounds (p1 m a he) (p2 m a he) (.inl ⟨rfl, rfl⟩) (d := 0) (e := s.size) (.inl ⟨rfl, rfl⟩) (by
        rcases h4 with ⟨g1, g2⟩ | ⟨g1, g2⟩
        · exact .inl ⟨g1, rfl, g2⟩
        · exact .inr ⟨g1, g2⟩) h5 w
    simp only [execOp, hnone, VR.of_string (he.eval h1), Instr.sliceAt, Instr.slice, Sem.run_bind, run_underlying hu, Result.andThen_ok]
    simp [hb]
  · rename_i e sa n c hu
    rw [cond_iff] at h
    obtain ⟨hp, h⟩ := h
    rw [obind_iff] at h
    obtain ⟨q, h2, h3⟩ := h
    refine .read _ (by simp [kindOf, hu]) h3 (fun K2 => by rw [unf]; simp only [lslice, hu, hp, h2, obind_some, hif_true, cond_true]) fun m w a hr he => ?_
    obtain ⟨v', h4, h5⟩ := cut_ok hr hu (by simpa using hp) (p1 m a he) (p2 m a he) (p3 m a he) h2 (he.eval h1)
    refine ⟨v', ?_, h5⟩
    simp only [execOp, Instr.sliceAt, Sem.run_bind, run_underlying hu, Result.andThen_ok, h4, Sem.run_pure]
  · rename_i n e ad hu
    rw [cond_iff, Bool.and_eq_true] at h
    obtain ⟨⟨hp, hn⟩, h⟩ := h
    rw [obind_iff] at h
    obtain ⟨q, h2, h3⟩ := h
    refine .read _ (by simp [kindOf, hu]) h3 (fun K2 => by rw [unf]; simp only [lslice, hu, hp, hn, h2, obind_some, hif_true, cond_true, Bool.and_self]) fun m w a hr he => ?_
    obtain ⟨i, hi1, hv⟩ := (he.eval h1).of_ptr
    unfold cut at h2
    simp only [hif_eq, cond_eq_ite] at h2
    split at h2
    case isFalse =>
      rename_i hO
      rw [hn] at hO
      exact absurd rfl hO
    rename_i hc
    have hc : n < OPEN := by simpa using hc
    simp only [Option.bind_eq_bind, Option.bind_eq_some_iff] at h2
    obtain ⟨mm, g1, hh, g2, l, g3, g4⟩ := h2
    injection g4 with g4
    subst g4
    have hmm := bound_le g1
    have hb : (Instr.sliceBounds false n n (lo.map a.eval) (hi.map a.eval) (mx.map a.eval)).run P w = .ok (l, hh, mm) w :=
      run_bounds (p1 m a he) (p2 m a he) (p3 m a he) (d := n) (e := if imx.isSome = true then mm + 1 else n) (by
        cases imx with
        | none => exact .inl ⟨rfl, (bound_none g1).2⟩
        | some i => exact .inr ⟨g1, rfl⟩) (by
        cases ihi with
        | some i => exact .inr ⟨g2, rfl⟩
        | none =>
          obtain ⟨h5, h6⟩ := bound_none g2
          cases imx with
          | none => exact .inl ⟨rfl, rfl, by simpa using h6⟩
          | some i => simp at h5; omega) g3 w
    refine ⟨.slice (some (if mm = l then i.at ad else (i.at ad).add (l * P.cellsOf e))) (hh - l) (mm - l), ?_, ?_⟩
    · simp only [execOp, hv, Instr.sliceAt, Instr.sureAddr, Sem.run_bind, run_underlying hu, Result.andThen_ok, Sem.run_pure, hb, run_size' (show 0 < P.cellsOf e by simpa using hp)]
    · simp only [Option.map_some]
      split
      · exact .slice hi1 (by omega)
      · rw [at_add]
        exact .slice (by rw [add_block]; exact hi1) (by omega)
  · cases h

end
end Go.Rlm

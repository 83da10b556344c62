/- The logical machine and the model: operation by operation, memory. -/
import Derived.Test.YtlcchghlhfamjaaRlmS4
namespace Go.Rlm

section
variable {P : Program} {env : Env} {L : LHeap} {o : Oper} {r : LR} {K : Value → LHeap → R}

theorem lop_load {t : TypeId} {x : Operand} (ho : o.op = .load t x) (h : lop P env L o K = some r) : Res P env L o K r := by
  obtain ⟨dst, op, ty, pos, after, guard⟩ := o
  simp only at ho
  subst ho
  simp only [lop, ev_eq, obind_iff] at h
  obtain ⟨v, h1, h2⟩ := h
  split at h2
  case h_2 => cases h2
  rename_i ad
  obtain ⟨u, h3, h4, h5⟩ := loadT_ok h2
  refine .read u (by simp [kindOf]) h3 (fun K2 => by
    have h6 : ∀ K3, loadT P t L ad K3 = K3 u := h4
    simp only [lop, ev_eq, h1, obind_some, h6]) fun m w a hr he => ?_
  obtain ⟨i, h6, h7⟩ := (he.eval h1).of_ptr
  obtain ⟨v', h8, h9⟩ := h5 m w i hr h6
  exact ⟨v', by simp [execOp, h7, Instr.loadAt, Instr.sureAddr, h8], h9⟩

theorem run_storeVar {t : TypeId} {d : TypeDesc} (hu : P.underlying t = some d) {w w' : World} {a : Addr} {u : Value} (hs : u.cells.toList.length = P.cellsOf t)
    (h : (storeCells a u.cells.toList).run P w = .ok () w') : (storeVar t a u).run P w = .ok () w' := by
  have : ¬ (u.cells.size ≠ P.cellsOf t) := by simpa using hs
  simp only [storeVar, Sem.run_bind, run_size hu, Result.andThen_ok]
  rw [if_neg this]
  simp [h]

theorem lop_store {t : TypeId} {x y : Operand} (ho : o.op = .store t x y) (h : lop P env L o K = some r) : Res P env L o K r := by
  obtain ⟨dst, op, ty, pos, after, guard⟩ := o
  simp only at ho
  subst ho
  simp only [lop, ev_eq, obind_iff] at h
  obtain ⟨v, h1, u, h2, h3⟩ := h
  split at h3
  case h_2 => cases h3
  rename_i ad
  rw [obind_iff] at h3
  obtain ⟨vs, h4, h5⟩ := h3
  rw [when_iff, cond_iff] at h5
  obtain ⟨h6, hi0, h5⟩ := h5
  rw [obind_iff] at h5
  obtain ⟨L', h7, h8⟩ := h5
  refine .write _ L' rfl h8 (fun K2 => by simp only [lop, ev_eq, h1, h2, h4, h6, h7, hi0, obind_some, when_true, hif_true, cond_true]) fun m w a hr he => ?_
  obtain ⟨i, hi, hv⟩ := (he.eval h1).of_ptr
  obtain ⟨h9, h10⟩ := cellsOf_ok h4 (he.eval h2)
  obtain ⟨w', h11, h12, h13⟩ := hr.stores h7 h9 h10 hi
  obtain ⟨d, hd⟩ := Option.isSome_iff_exists.1 hi0
  refine ⟨m, w', undef, .inr ⟨?_, rfl⟩, .undef, h12, h13⟩
  have := run_storeVar (P := P) hd (w := w) (u := a.eval y) (h9.length.trans (Nat.eq_of_beq_eq_true h6)) h11
  simp [execOp, hv, Instr.storeAt, Instr.sureAddr, this]

/-! ### New variables -/

theorem zeroOf_ok {t : TypeId} {z : List Value} (h : zeroOf P t = some z) : ∃ zv, (zeroValue t).run P = (fun w => .ok zv w) ∧ zv.cells.toList = z ∧ (∀ v ∈ z, flat1 v = true) ∧ (∀ v ∈ z, one v = true) := by
  unfold zeroOf at h
  split at h
  case h_2 => cases h
  rename_i zv hz
  split at h
  case h_2 => cases h
  rename_i cs hc
  simp only [hif_eq, cond_eq_ite] at h
  split at h
  case isFalse => cases h
  rename_i hf
  injection h with h
  subst h
  have hf' := List.all_eq_true.1 hf
  refine ⟨zv, ?_, ?_, hf', fun v hv => one_of_flat1 (hf' v hv)⟩
  · funext w
    cases hi : P.info? t with
    | none => rw [hi] at hz; cases hz
    | some i =>
      rw [hi] at hz
      simp only [Option.bind_some] at hz
      simp [zeroValue, typeInfo, hi, hz]
  · cases zv <;> simp [cellsOf] at hc <;> (subst hc; simp [Value.cells])

theorem run_newVar (t : TypeId) (v : Value) (w : World) : (newVar t v).run P w = .ok ⟨w.heap.size, 0, none⟩ { w with heap := w.heap.push (.cells v.cells t) } := by
  simp [newVar, newRow]

theorem Rep.push0 {m : RMap} {w : World} (h : Rep P m L w) {cs : List Value} {c : Array Value} {e : TypeId} (hv : VRs m cs c.toList) (ho : ∀ v ∈ cs, one v = true) :
    ∃ m', m' L.length = some ⟨w.heap.size, 0, 0, 0⟩ ∧ Rep P m' (L ++ [.cells cs e false 0]) { w with heap := w.heap.push (.cells c e) } ∧ Tr m L w m' (L ++ [.cells cs e false 0]) { w with heap := w.heap.push (.cells c e) } := by
  refine ⟨ins m L.length ⟨w.heap.size, 0, 0, 0⟩, by simp [ins], ?_⟩
  refine h.push (w' := { w with heap := w.heap.push (.cells c e) }) (cs' := c.toList) 0 0 (fz := (0, 0)) (extra := []) ?_ ?_ rfl rfl rfl hv ho (fun hne => absurd rfl hne)
  · simp
  · intro o _; simp

theorem lop_alloc {t : TypeId} (ho : o.op = .alloc t) (h : lop P env L o K = some r) : Res P env L o K r := by
  obtain ⟨dst, op, ty, pos, after, guard⟩ := o
  simp only at ho
  subst ho
  simp only [lop, obind_iff] at h
  obtain ⟨z, h1, h2⟩ := h
  obtain ⟨zv, h3, h4, h5, h6⟩ := zeroOf_ok h1
  refine .write _ _ rfl h2 (fun K2 => by simp only [lop, h1, obind_some]) fun m w a hr he => ?_
  obtain ⟨m', h7, h8, h9⟩ := hr.push0 (cs := z) (c := zv.cells) (e := t) (by rw [h4]; exact VRs.flat h5) h6
  refine ⟨m', _, _, .inl ?_, .ptr (a := ⟨L.length, 0, none⟩) h7, h8, h9⟩
  have h3' : ∀ w, (zeroValue t).run P w = .ok zv w := fun w => congrFun h3 w
  simp [execOp, Instr.alloc, h3', run_newVar, Info.at]

theorem lop_box {t : TypeId} {x : Operand} (ho : o.op = .box t x) (h : lop P env L o K = some r) : Res P env L o K r := by
  obtain ⟨dst, op, ty, pos, after, guard⟩ := o
  simp only at ho
  subst ho
  simp only [lop, ev_eq, obind_iff] at h
  obtain ⟨v, h1, vs, h2, h3⟩ := h
  refine .write _ _ rfl h3 (fun K2 => by simp only [lop, ev_eq, h1, h2, obind_some]) fun m w a hr he => ?_
  obtain ⟨h4, h5⟩ := cellsOf_ok h2 (he.eval h1)
  obtain ⟨m', h7, h8, h9⟩ := hr.push0 (cs := vs) (c := (a.eval x).cells) (e := t) h4 h5
  refine ⟨m', _, _, .inl ?_, .ptr (a := ⟨L.length, 0, none⟩) h7, h8, h9⟩
  simp [execOp, Instr.box, run_newVar, Info.at]

/-! ### Parts -/

theorem foldl_zipIdx (vs : List Value) : ∀ (cs : Array Value) (o k : Nat), (vs.zipIdx k).foldl (fun cs (p : Value × Nat) => cs.setIfInBounds (o + p.2) p.1) cs = ⟨setAll cs.toList (o + k) vs⟩ := by
  induction vs with
  | nil => intro cs o k; rfl
  | cons v vs ih =>
    intro cs o k
    simp only [List.zipIdx_cons, List.foldl_cons, ih, setAll]
    congr 1
    simp [Nat.add_assoc]

theorem setAll_VRs {m : RMap} {cs cs' vs vs' : List Value} {o : Nat} (hc : VRs m cs cs') (hv : VRs m vs vs') (hle : o + vs.length ≤ cs.length) : VRs m (setAll cs o vs) (setAll cs' o vs') := by
  have l1 := hc.length
  have l2 := hv.length
  refine VRs.of_get (by simp [setAll_length, l1]) fun j v hj => ?_
  rw [setAll_get vs cs o j hle] at hj
  rw [setAll_get vs' cs' o j (by omega), l2]
  split at hj
  · rename_i hp; rw [if_pos hp]; exact hv.get hj
  · rename_i hp; rw [if_neg hp]; exact hc.get hj

theorem setAll_ones {cs vs : List Value} {o : Nat} (hle : o + vs.length ≤ cs.length) (hc : ∀ v ∈ cs, one v = true) (hv : ∀ v ∈ vs, one v = true) : ∀ v ∈ setAll cs o vs, one v = true := by
  intro v hm
  obtain ⟨j, hj⟩ := List.mem_iff_getElem?.1 hm
  rw [setAll_get vs cs o j hle] at hj
  split at hj
  · exact hv v (List.mem_of_getElem? hj)
  · exact hc v (List.mem_of_getElem? hj)

theorem fillL_ok : ∀ {ps : List (Nat × Nat × Value)} {cs : List Value} {K : List Value → R}, fillL cs ps K = some r →
    ∃ ds, K ds = some r ∧ (∀ K2, fillL cs ps K2 = K2 ds) ∧ ds.length = cs.length ∧ ∀ (place : Nat → Option (Nat × Nat)) (m : RMap) (cs' : List Value) (qs : List (Nat × Value)), VRs m cs cs' → (∀ v ∈ cs, one v = true) → qs.length = ps.length →
      (∀ (j : Nat) (p : Nat × Nat × Value) (q : Nat × Value), ps[j]? = some p → qs[j]? = some q → place q.1 = some (p.1, p.2.1) ∧ VR m p.2.2 q.2) →
      ∃ ds', Instr.fill place ⟨cs'⟩ qs = some ⟨ds'⟩ ∧ VRs m ds ds' ∧ ∀ v ∈ ds, one v = true
  | [], cs, K, h => ⟨cs, h, fun _ => rfl, rfl, fun place m cs' qs hc ho hl _ => by
      have : qs = [] := List.eq_nil_of_length_eq_zero (by simpa using hl)
      subst this
      exact ⟨cs', rfl, hc, ho⟩⟩
  | (p, n, v) :: ps, cs, K, h => by
    simp only [fillL, obind_iff, when_iff] at h
    obtain ⟨vs, h1, h2, h3, h4⟩ := h
    have h2' := Nat.eq_of_beq_eq_true h2
    have h3' : p + n ≤ cs.length := by simpa using h3
    obtain ⟨ds, h5, h6, h7, h8⟩ := fillL_ok h4
    refine ⟨ds, h5, fun K2 => by simp only [fillL, h1, h2, h3, obind_some, when_true, h6], by rw [h7, setAll_length], fun place m cs' qs hc ho hl hq => ?_⟩
    cases qs with
    | nil => simp at hl
    | cons q qs =>
      obtain ⟨h9, h10⟩ := hq 0 (p, n, v) q (by simp) (by simp)
      obtain ⟨h11, h12⟩ := cellsOf_ok h1 h10
      obtain ⟨ds', h13, h14, h15⟩ := h8 place m (setAll cs' p q.2.cells.toList) qs (setAll_VRs hc h11 (by omega)) (setAll_ones (by omega) ho h12) (by simpa using hl)
        fun j x y hx hy => hq (j + 1) x y (by simpa using hx) (by simpa using hy)
      refine ⟨ds', ?_, h14, h15⟩
      have l1 := hc.length
      have l2 := h11.length
      simp only at h9
      obtain ⟨q1, q2⟩ := q
      simp only [Instr.fill, h9]
      have hsz : q2.cells.size = n := by simpa using l2.trans h2'
      rw [if_neg (by simp [hsz]; omega)]
      have e : q2.cells.zipIdx.foldl (fun (cs : Array Value) (x : Value × Nat) => cs.setIfInBounds (p + x.2) x.1) (⟨cs'⟩ : Array Value) = (⟨setAll cs' p q2.cells.toList⟩ : Array Value) := by
        rw [← Array.foldl_toList]
        have : q2.cells.zipIdx.toList = q2.cells.toList.zipIdx := by simp
        rw [this, foldl_zipIdx q2.cells.toList ⟨cs'⟩ p 0]
        simp
      rw [e]
      exact h13

/-- The parts, whatever the model's temporaries are. -/
theorem evParts_unif (place : Nat → Option (Nat × Nat)) : ∀ {ps : List (Nat × Operand)} {K : List (Nat × Nat × Value) → R}, evParts env place ps K = some r →
    ∃ l, K l = some r ∧ (∀ K2, evParts env place ps K2 = K2 l) ∧ ∀ (m : RMap) (a : Act), ER m env a.tmps → (ps.map fun p => (p.1, a.eval p.2)).length = l.length ∧
      ∀ (j : Nat) (p : Nat × Nat × Value) (q : Nat × Value), l[j]? = some p → (ps.map fun p => (p.1, a.eval p.2))[j]? = some q → place q.1 = some (p.1, p.2.1) ∧ VR m p.2.2 q.2
  | [], K, h => ⟨[], h, fun _ => rfl, fun _ _ _ => ⟨rfl, by simp⟩⟩
  | (i, x) :: ps, K, h => by
    simp only [evParts] at h
    split at h
    case h_2 => cases h
    rename_i p n hp
    simp only [ev_eq, obind_iff] at h
    obtain ⟨v, h1, h2⟩ := h
    obtain ⟨l, h3, h4, h5⟩ := evParts_unif place h2
    refine ⟨(p, n, v) :: l, h3, fun K2 => by simp only [evParts, hp, ev_eq, h1, obind_some, h4], fun m a he => ?_⟩
    obtain ⟨h6, h7⟩ := h5 m a he
    refine ⟨by simpa using h6, fun j y q hy hq => ?_⟩
    cases j with
    | zero => simp at hy hq; subst hy; subst hq; exact ⟨hp, he.eval h1⟩
    | succ j => simp at hy hq; exact h7 j y q hy (by simpa using hq)

end
end Go.Rlm

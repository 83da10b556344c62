/- The logical machine and the model: places, slices, conversions. -/
import Derived.Test.YtlcchghlhfamjaaRlmS6
namespace Go.Rlm

section
variable {P : Program} {env : Env} {L : LHeap} {o : Oper} {r : LR} {K : Value → LHeap → R}

theorem info_of_cells {t : TypeId} (h : 0 < P.cellsOf t) : ∃ i, P.info? t = some i ∧ P.cellsOf t = i.size := by
  cases hi : P.info? t with
  | none => simp [Program.cellsOf, hi] at h
  | some i => exact ⟨i, rfl, by simp [Program.cellsOf, hi]⟩

theorem run_size' {t : TypeId} (h : 0 < P.cellsOf t) (w : World) : (sizeOf t).run P w = .ok (P.cellsOf t) w := by
  obtain ⟨i, hi, e⟩ := info_of_cells h
  simp [sizeOf, typeInfo, hi, e]

theorem lop_fieldAddr {s : TypeId} {x : Operand} {j : Nat} (ho : o.op = .fieldAddr s x j) (h : lop P env L o K = some r) : Res P env L o K r := by
  obtain ⟨dst, op, ty, pos, after, guard⟩ := o
  simp only at ho
  subst ho
  simp only [lop, ev_eq, obind_iff] at h
  obtain ⟨v, h1, h2⟩ := h
  split at h2
  case h_2 => cases h2
  rename_i fs ad hu
  split at h2
  case h_2 => cases h2
  rename_i f hf
  rw [cond_iff] at h2
  obtain ⟨h3, h4⟩ := h2
  refine .pure _ h4 (fun L2 K2 => by simp only [lop, ev_eq, h1, obind_some, hu, hf, h3, hif_true, cond_true]) fun m w a hr he => ?_
  obtain ⟨i, h5, h6⟩ := (he.eval h1).of_ptr
  have hp : 0 < P.cellsOf f.type := by simpa using h3
  have hne : ¬ P.cellsOf f.type = 0 := by omega
  refine ⟨.pointer (some ((i.at ad).add f.offset)), ?_, ?_⟩
  · simp only [execOp, h6, Instr.fieldAt, Instr.sureAddr, fieldPlace, Sem.run_bind, run_underlying hu, Result.andThen_ok, hf, Sem.run_pure, run_size' hp, if_neg hne]
  · rw [at_add]
    exact .ptr (by rw [add_block]; exact h5)

theorem partL_ok {t : TypeId} {cs : Array Value} {off : Nat} {K : Value → R} (h : partL P t cs off K = some r) :
    ∃ v, K v = some r ∧ (∀ K2, partL P t cs off K2 = K2 v) ∧ ∀ (m : RMap) (cs' : Array Value) (w : World), VRs m cs.toList cs'.toList → (∀ v ∈ cs.toList, one v = true) →
      ∃ v', (part t cs' off).run P w = .ok v' w ∧ VR m v v' := by
  unfold partL at h
  rw [cond_iff] at h
  obtain ⟨h0, h⟩ := h
  obtain ⟨d, hu⟩ := Option.isSome_iff_exists.1 h0
  cases ha : isAggT P t with
  | true =>
    simp only [ha, hif_true, cond_true] at h
    refine ⟨_, h, fun K2 => by simp only [partL, h0, ha, hif_true, cond_true], fun m cs' w hv hone => ?_⟩
    refine ⟨.agg (cs'.extract off (off + P.cellsOf t)), ?_, ?_⟩
    · simp only [part, Sem.run_bind, run_isAgg hu, Result.andThen_ok, ha, if_true, run_size hu, Sem.run_pure]
    · have e : ∀ c : Array Value, Value.agg (c.extract off (off + P.cellsOf t)) = .agg ⟨(c.toList.drop off).take (P.cellsOf t)⟩ := fun c => by
        congr 1
        apply Array.ext'
        simp [List.extract_eq_take_drop]
      rw [e, e]
      exact .agg ((hv.drop off).take _) fun v hv => hone v (List.mem_of_mem_drop (List.mem_of_mem_take hv))
  | false =>
    simp only [ha, hif_false, cond_false, obind_iff] at h
    obtain ⟨v, h1, h2⟩ := h
    obtain ⟨h3, h4⟩ := typed1_same h2
    refine ⟨v, h3, fun K2 => by simp only [partL, h0, ha, hif_true, cond_true, hif_false, cond_false, h1, obind_some, h4], fun m cs' w hv hone => ?_⟩
    obtain ⟨v', h5, h6⟩ := hv.get h1
    have h7 : cs'[off]? = some v' := by simpa using h5
    exact ⟨v', by simp only [part, Sem.run_bind, run_isAgg hu, Result.andThen_ok, ha, Bool.false_eq_true, if_false, h7, Sem.run_pure], h6⟩

theorem lop_field {t : TypeId} {x : Operand} {j : Nat} (ho : o.op = .field t x j) (h : lop P env L o K = some r) : Res P env L o K r := by
  obtain ⟨dst, op, ty, pos, after, guard⟩ := o
  simp only at ho
  subst ho
  simp only [lop, ev_eq, obind_iff] at h
  obtain ⟨v, h1, h2⟩ := h
  split at h2
  case h_2 => cases h2
  rename_i fs cs hu
  split at h2
  case h_2 => cases h2
  rename_i f hf
  obtain ⟨u, h3, h4, h5⟩ := partL_ok h2
  refine .pure _ h3 (fun L2 K2 => by simp only [lop, ev_eq, h1, obind_some, hu, hf, h4]) fun m w a hr he => ?_
  obtain ⟨cs', h6, h7, h8⟩ := (he.eval h1).of_agg
  obtain ⟨v', h9, h10⟩ := h5 m cs' w h7 h8
  exact ⟨v', by simp [execOp, h6, Instr.field, run_underlying hu, hf, Go.asAgg, h9], h10⟩

theorem idx_ok {s : Sl} {i : Int} {esz : Nat} {b : Addr} (h : idx s i esz = some b) : ∃ a, s.a = some a ∧ 0 ≤ i ∧ i < s.n ∧ b = a.add (i.toNat * esz) := by
  unfold idx at h
  split at h
  case h_2 => cases h
  rename_i a ha
  simp only [hif_eq, cond_eq_ite, Bool.and_eq_true, decide_eq_true_eq] at h
  split at h
  case isFalse => cases h
  rename_i hi
  injection h with h
  exact ⟨a, ha, hi.1, hi.2, h.symm⟩

theorem lop_indexAddr {t : TypeId} {x y : Operand} (ho : o.op = .indexAddr t x y) (h : lop P env L o K = some r) : Res P env L o K r := by
  obtain ⟨dst, op, ty, pos, after, guard⟩ := o
  simp only at ho
  subst ho
  simp only [lop, ev_eq, obind_iff] at h
  obtain ⟨v, h1, u, h2, h3⟩ := h
  split at h3
  · rename_i e sa n c k i hu
    rw [cond_iff] at h3
    obtain ⟨h4, h5⟩ := h3
    rw [obind_iff] at h5
    obtain ⟨b, h6, h7⟩ := h5
    refine .pure _ h7 (fun L2 K2 => by simp only [lop, ev_eq, h1, h2, obind_some, hu, h4, h6, hif_true, cond_true]) fun m w a hr he => ?_
    obtain ⟨ad, h8, h9, h10, h11⟩ := idx_ok h6
    simp only at h8 h10
    subst h8
    have hp : 0 < P.cellsOf e := by simpa using h4
    have hx := he.eval h1
    have hy := VR.of_int (he.eval h2)
    have fin : ∀ (j : Info) (c' : Nat), m ad.block = some j → a.eval x = .slice (some (j.at ad)) n c' → ∃ v', (execOp a.eval ⟨dst, .indexAddr t x y, ty, pos, after, guard⟩).run P w = .ok (.value v') w ∧ VR m (.pointer (some b)) v' := fun j c' hj hv => by
      refine ⟨.pointer (some ((j.at ad).add (i.toNat * P.cellsOf e))), ?_, ?_⟩
      · simp only [execOp, hv, hy, Instr.indexAt, asIntOf, Sem.run_bind, run_underlying hu, Result.andThen_ok, Sem.run_pure]
        simp [h9, h10, run_size' hp]
      · rw [at_add, ← h11]
        exact .ptr (by rw [h11, add_block]; exact hj)
    rcases hx.of_slice with ⟨_, j, hj, hv⟩ | ⟨_, j, hj, hv⟩ | ⟨_, hn, _⟩
    · exact fin j _ hj hv
    · exact fin j _ hj hv
    · subst hn; omega
  · rename_i n e ad k i hu
    rw [cond_iff, when_iff, when_iff] at h3
    obtain ⟨h4, h5, h6, h7⟩ := h3
    refine .pure _ h7 (fun L2 K2 => by simp only [lop, ev_eq, h1, h2, obind_some, hu, h4, h5, h6, hif_true, cond_true, when_true]) fun m w a hr he => ?_
    simp only [decide_eq_true_eq] at h5 h6
    have hp : 0 < P.cellsOf e := by simpa using h4
    obtain ⟨j, hj, hv⟩ := (he.eval h1).of_ptr
    have hy := VR.of_int (he.eval h2)
    refine ⟨.pointer (some ((j.at ad).add (i.toNat * P.cellsOf e))), ?_, ?_⟩
    · simp only [execOp, hv, hy, Instr.indexAt, Instr.sureAddr, asIntOf, Sem.run_bind, run_underlying hu, Result.andThen_ok, Sem.run_pure]
      simp [h5, h6, run_size' hp]
    · rw [at_add]
      exact .ptr (by rw [add_block]; exact hj)
  · cases h3

theorem lop_index {t : TypeId} {x y : Operand} (ho : o.op = .index t x y) (h : lop P env L o K = some r) : Res P env L o K r := by
  obtain ⟨dst, op, ty, pos, after, guard⟩ := o
  simp only at ho
  subst ho
  simp only [lop, ev_eq, obind_iff] at h
  obtain ⟨v, h1, u, h2, h3⟩ := h
  split at h3
  · rename_i s k i hu
    rw [obind_iff] at h3
    obtain ⟨b, h4, h5⟩ := h3
    refine .pure _ h5 (fun L2 K2 => by simp only [lop, ev_eq, h1, h2, obind_some, hu, h4]) fun m w a hr he => ?_
    refine ⟨.int .u8 b, ?_, .flat1 rfl⟩
    unfold byteAt at h4
    simp only [hif_eq, cond_eq_ite, decide_eq_true_eq] at h4
    split at h4
    case isFalse => cases h4
    rename_i h0
    obtain ⟨c, hc, rfl⟩ := Option.map_eq_some_iff.1 h4
    simp [execOp, VR.of_string (he.eval h1), VR.of_int (he.eval h2), Instr.index, asIntOf, run_underlying hu, h0, hc]
  · rename_i n e cs k i hu
    rw [when_iff, when_iff] at h3
    obtain ⟨h4, h5, h6⟩ := h3
    obtain ⟨v, h7, h8, h9⟩ := partL_ok h6
    refine .pure _ h7 (fun L2 K2 => by simp only [lop, ev_eq, h1, h2, obind_some, hu, h4, h5, when_true, h8]) fun m w a hr he => ?_
    simp only [decide_eq_true_eq] at h4 h5
    obtain ⟨cs', h10, h11, h12⟩ := (he.eval h1).of_agg
    obtain ⟨v', h13, h14⟩ := h9 m cs' w h11 h12
    refine ⟨v', ?_, h14⟩
    have hd : ∃ d, P.underlying e = some d := by
      unfold partL at h6
      rw [cond_iff] at h6
      exact Option.isSome_iff_exists.1 h6.1
    obtain ⟨d, hd⟩ := hd
    simp only [execOp, h10, VR.of_int (he.eval h2), Instr.index, asIntOf, Sem.run_bind, run_underlying hu, Result.andThen_ok, Sem.run_pure]
    simp [h4, h5, run_size hd, h13]
  · cases h3

end
end Go.Rlm

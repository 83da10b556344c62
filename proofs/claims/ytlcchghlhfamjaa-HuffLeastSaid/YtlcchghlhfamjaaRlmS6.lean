/- The logical machine and the model: operation by operation, places, slices, conversions. -/
import Derived.Test.YtlcchghlhfamjaaRlmS5
import Derived.Lib.ConvBytes
namespace Go.Rlm

section
variable {P : Program} {env : Env} {L : LHeap} {o : Oper} {r : LR} {K : Value → LHeap → R}

theorem places_ok : ∀ {fs : List Field}, fs.all (fun f => (P.info? f.type).isSome) = true → fs.mapM (fun f => (P.info? f.type).map fun i => (f.offset, i.size)) = some (fs.map fun f => (f.offset, P.cellsOf f.type))
  | [], _ => rfl
  | f :: fs, h => by
    simp only [List.all_cons, Bool.and_eq_true] at h
    obtain ⟨i, hi⟩ := Option.isSome_iff_exists.1 h.1
    simp [List.mapM_cons, hi, places_ok h.2, Program.cellsOf]

theorem lop_build {t : TypeId} {parts : Array (Nat × Operand)} (ho : o.op = .build t parts) (h : lop P env L o K = some r) : Res P env L o K r := by
  obtain ⟨dst, op, ty, pos, after, guard⟩ := o
  simp only at ho
  subst ho
  have key : ∀ (place : Nat → Option (Nat × Nat)) (z : List Value), zeroOf P t = some z →
      (∀ L2 K2, lop P env L2 ⟨dst, .build t parts, ty, pos, after, guard⟩ K2 = evParts env place parts.toList fun ps => fillL z ps fun cs => K2 (.agg cs.toArray) L2) →
      (∀ (w : World) (zv : Value) (qs : Array (Nat × Value)) (cs : Array Value), (∀ w, (zeroValue t).run P w = .ok zv w) → Instr.fill place zv.cells qs.toList = some cs → (Instr.build t qs).run P w = .ok (.agg cs) w) →
      (evParts env place parts.toList fun ps => fillL z ps fun cs => K (.agg cs.toArray) L) = some r → Res P env L ⟨dst, .build t parts, ty, pos, after, guard⟩ K r := fun place z hz hu hrun h => by
    obtain ⟨l, h1, h2, h3⟩ := evParts_unif place h
    obtain ⟨zv, h4, h5, h6, h7⟩ := zeroOf_ok hz
    obtain ⟨ds, h8, h9, h10, h14⟩ := fillL_ok h1
    refine .pure _ h8 (fun L2 K2 => by rw [hu, h2, h9]) fun m w a hr he => ?_
    obtain ⟨h11, h12⟩ := h3 m a he
    obtain ⟨ds', h15, h16, h17⟩ := h14 place m z (parts.toList.map fun p => (p.1, a.eval p.2)) (VRs.flat h6) h7 h11 h12
    refine ⟨.agg ⟨ds'⟩, ?_, .agg h16 h17⟩
    have hz' : zv.cells = ⟨z⟩ := by rw [← h5]
    have hb := hrun w zv (parts.map fun (i, x) => (i, a.eval x)) ⟨ds'⟩ (fun w => congrFun h4 w) (by rw [hz']; simpa using h15)
    simp only [execOp, Sem.run_bind, hb, Result.andThen_ok, Sem.run_pure]
  simp only [lop] at h
  split at h
  · rename_i fs hu
    rw [cond_iff] at h
    obtain ⟨hall, h⟩ := h
    rw [obind_iff] at h
    obtain ⟨z, hz, h⟩ := h
    refine key _ z hz (fun L2 K2 => by simp only [lop, hu, hall, hz, obind_some, hif_true, cond_true]) (fun w zv qs cs h1 h2 => ?_) h
    have hp := run_places (P := P) w fs.toList _ (places_ok hall)
    simp [Instr.build, h1, run_underlying hu, Array.mapM_eq_mapM_toList, hp, h2]
  · rename_i n e hu
    rw [cond_iff] at h
    obtain ⟨hall, h⟩ := h
    rw [obind_iff] at h
    obtain ⟨z, hz, h⟩ := h
    obtain ⟨i, hi⟩ := Option.isSome_iff_exists.1 hall
    refine key _ z hz (fun L2 K2 => by simp only [lop, hu, hall, hz, obind_some, hif_true, cond_true]) (fun w zv qs cs h1 h2 => ?_) h
    have hs : P.cellsOf e = i.size := by simp [Program.cellsOf, hi]
    rw [hs] at h2
    simp [Instr.build, h1, run_underlying hu, sizeOf, typeInfo, hi, h2]
  · cases h

theorem zero_mod {zv : Value} {z : List Value} (hz : zv.cells.toList = z) (hp : 0 < z.length) (n : Nat) :
    (Array.range (n * z.length)).map (zv.cells[· % zv.cells.size]!) = ⟨(List.replicate n z).flatten⟩ := by
  have hsz : zv.cells.size = z.length := by rw [← hz]; simp
  apply Array.ext_getElem?
  intro j
  simp only [Array.getElem?_map, List.getElem?_toArray]
  by_cases hj : j < n * z.length
  · rw [Array.getElem?_range]
    simp only [hj, if_true, Option.map_some]
    have hm : j % z.length < z.length := Nat.mod_lt _ hp
    have e1 : zv.cells[j % zv.cells.size]! = z[j % z.length] := by
      rw [hsz, getElem!_pos zv.cells (j % z.length) (by omega)]
      simp [← hz]
    rw [e1]
    have key : ∀ (n j : Nat), j < n * z.length → ((List.replicate n z).flatten)[j]? = some (z[j % z.length]'(Nat.mod_lt _ hp)) := by
      intro n
      induction n with
      | zero => intro j hj; simp at hj
      | succ n ih =>
        intro j hj
        simp only [List.replicate_succ, List.flatten_cons]
        by_cases h1 : j < z.length
        · rw [List.getElem?_append_left h1]
          simp [Nat.mod_eq_of_lt h1, h1]
        · rw [List.getElem?_append_right (by omega), ih (j - z.length) (by rw [Nat.add_mul] at hj; omega)]
          congr 2
          exact (Nat.mod_eq_sub_mod (by omega)).symm
    rw [key n j hj]
  · have e1 : (Array.range (n * z.length))[j]? = none := by rw [Array.getElem?_eq_none]; simp; omega
    have e2 : ((List.replicate n z).flatten)[j]? = none := by
      rw [List.getElem?_eq_none]
      simp [List.length_flatten]
      omega
    rw [e1, e2]; rfl

theorem lop_buildSlice {t : TypeId} {n : Nat} {parts : Array (Nat × Operand)} (ho : o.op = .buildSlice t n parts) (h : lop P env L o K = some r) : Res P env L o K r := by
  obtain ⟨dst, op, ty, pos, after, guard⟩ := o
  simp only at ho
  subst ho
  simp only [lop] at h
  split at h
  case h_2 => cases h
  rename_i e hu
  rw [obind_iff] at h
  obtain ⟨z, hz, h⟩ := h
  obtain ⟨l, h1, h2, h3⟩ := evParts_unif _ h
  rw [when_iff, when_iff, when_iff] at h1
  obtain ⟨hb1, hb2, hb3, h1⟩ := h1
  obtain ⟨zv, h4, h5, h6, h7⟩ := zeroOf_ok hz
  obtain ⟨ds, h8, h9, h10, h14⟩ := fillL_ok h1
  have hzl := Nat.eq_of_beq_eq_true hb1
  have hzp : 0 < z.length := by simpa using hb2
  have hcap : n * z.length ≤ 2 ^ 24 := by simpa using hb3
  refine .write _ _ rfl h8 (fun K2 => by simp only [lop, hu, hz, obind_some, h2, hb1, hb2, hb3, when_true, h9]) fun m w a hr he => ?_
  obtain ⟨h11, h12⟩ := h3 m a he
  have hflat : ∀ v ∈ (List.replicate n z).flatten, flat1 v = true := fun v hv => by
    obtain ⟨l, hl, hv⟩ := List.mem_flatten.1 hv
    rw [List.eq_of_mem_replicate hl] at hv
    exact h6 v hv
  obtain ⟨ds', h15, h16, h17⟩ := h14 (fun j => some (j * P.cellsOf e, P.cellsOf e)) m (List.replicate n z).flatten (parts.toList.map fun p => (p.1, a.eval p.2)) (VRs.flat hflat) (fun v hv => one_of_flat1 (hflat v hv)) h11 h12
  obtain ⟨m', h18, h19, h20⟩ := hr.push0 (cs := ds) (c := ⟨ds'⟩) (e := e) h16 h17
  refine ⟨m', _, _, .inl ?_, .slice (a := ⟨L.length, 0, none⟩) (c := n) h18 ?_, h19, h20⟩
  · obtain ⟨i, hi⟩ : ∃ i, P.info? e = some i := by
      cases hi : P.info? e with
      | none =>
        have : P.cellsOf e = 0 := by simp [Program.cellsOf, hi]
        omega
      | some i => exact ⟨i, rfl⟩
    have hs : P.cellsOf e = i.size := by simp [Program.cellsOf, hi]
    have hz' : ∀ w, (zeroValue e).run P w = .ok zv w := fun w => congrFun h4 w
    have hm := zero_mod h5 hzp n
    rw [hzl] at hm hcap hzp
    have hb : (Instr.buildSlice t n (parts.map fun (i, x) => (i, a.eval x))).run P w = .ok (.slice (some ⟨w.heap.size, 0, none⟩) n n) { w with heap := w.heap.push (.cells ⟨ds'⟩ e) } := by
      have hc1 : ¬ (n * i.size > 2 ^ 24) := by rw [← hs]; omega
      simp only [Instr.buildSlice, Sem.run_bind, run_underlying hu, Result.andThen_ok, sizeOf, typeInfo, run_program, hi, Sem.run_pure]
      rw [if_neg hc1]
      rw [hs] at hm hzp h15
      by_cases hn : n * i.size = 0
      · have e0 : (Array.range (n * i.size)).map ((#[] : Array Value)[· % (#[] : Array Value).size]!) = ⟨(List.replicate n z).flatten⟩ := by
          have : (List.replicate n z).flatten = [] := List.eq_nil_of_length_eq_zero (by simp [List.length_flatten, hzl, hs, hn])
          rw [this, hn]; apply Array.ext'; simp
        have h15' : Instr.fill (fun j => some (j * i.size, i.size)) ((Array.range (n * i.size)).map ((#[] : Array Value)[· % (#[] : Array Value).size]!)) (parts.map fun (i, x) => (i, a.eval x)).toList = some ⟨ds'⟩ := by
          rw [e0]; simpa using h15
        simp only [hn, if_true, Sem.run_bind, Result.andThen_ok, Sem.run_pure, newRow, run_newObj]
        rw [hn] at h15'
        simp only [h15', Sem.run_bind, Result.andThen_ok, Sem.run_pure, newRow, run_newObj]
      · have h15' : Instr.fill (fun j => some (j * i.size, i.size)) ((Array.range (n * i.size)).map (zv.cells[· % zv.cells.size]!)) (parts.map fun (i, x) => (i, a.eval x)).toList = some ⟨ds'⟩ := by
          rw [hm]; simpa using h15
        simp only [hn, if_false, Sem.run_bind, hz', Result.andThen_ok, Sem.run_pure, h15', newRow, run_newObj]
    simp [execOp, hb, Info.at]
  · have : n ≤ n * z.length := Nat.le_mul_of_pos_right n (by omega)
    unfold OPEN
    omega

end
end Go.Rlm

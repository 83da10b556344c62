/- 'awake' is true, wherever it is run; and New: the coder of lengths. -/
import Derived.Test.YtlcchghlhfamjaaHuffL
set_option linter.unusedVariables false
namespace Go.Proofs.Ytlcchghlhfamjaa.X
open Go Go.Rlm

theorem lit_ws {L : LHeap} (fs : List Int) (vs : List Value) (n : Nat) (h : vs = fs.map iV) (hn : n = fs.length) : WS (L ++ [LBlk.cells vs 3 false 0]) ⟨some ⟨L.length, 0, none⟩, n, n⟩ (fs.map iV) 3 [L.length] := by
  subst h
  exact WS.lit (by simpa using hn)

theorem awake_ok {k : Nat} {L : LHeap} (hk : 200 ≤ k) : ∃ L', f33 k L = some (.ret (.bool true) L') ∧ Step [] L [] L' := by
  obtain ⟨k, rfl⟩ : ∃ k', k = k' + 1 := ⟨k - 1, by omega⟩
  have drop0 : ∀ {F : List Nat} {A B : LHeap}, Step [] A F B → Step [] A [] B := fun h => h.less fun i hi => by simp at hi
  rw [f33_eq]
  have w1 := lit_ws (L := L) [1, 1, 2] [Value.int .i64 1, Value.int .i64 1, Value.int .i64 2] 3 rfl rfl
  have t1 := Step.new [] L (LBlk.cells [Value.int .i64 1, Value.int .i64 1, Value.int .i64 2] 3 false 0)
  generalize L ++ [LBlk.cells [Value.int .i64 1, Value.int .i64 1, Value.int .i64 2] 3 false 0] = M1 at *
  obtain ⟨s1, L1, F1, a1, a2, a3⟩ := lengths_ok (k := k) w1.rd (by simp) (by simp; omega)
  rw [show lenErr [1, 1, 2] = 0 by decide] at a1
  rw [show lenRes [1, 1, 2] = [2, 2, 1] by decide] at a2
  have w2 := lit_ws (L := L1) [0, 7, 0] [Value.int .i64 0, Value.int .i64 7, Value.int .i64 0] 3 rfl rfl
  have t2 := Step.new [] L1 (LBlk.cells [Value.int .i64 0, Value.int .i64 7, Value.int .i64 0] 3 false 0)
  simp only [a1, lbind_ret, tupL_tuple, uncons_cons, nilL_nil, asSl_slice, asI_int, obind_some]
  generalize L1 ++ [LBlk.cells [Value.int .i64 0, Value.int .i64 7, Value.int .i64 0] 3 false 0] = M2 at *
  have a22 := a2.mono (t2.others a2.within (none_apart _))
  obtain ⟨s2, L2, F2, b1, b2, b3⟩ := lengths_ok (k := k) w2.rd (by simp) (by simp; omega)
  rw [show lenErr [0, 7, 0] = 0 by decide] at b1
  rw [show lenRes [0, 7, 0] = [0, 1, 0] by decide] at b2
  have a23 := a22.mono (b3.others a22.within (none_apart _))
  have w3 := lit_ws (L := L2) [2, 2, 1] [Value.int .i64 2, Value.int .i64 2, Value.int .i64 1] 3 rfl rfl
  have t3 := Step.new [] L2 (LBlk.cells [Value.int .i64 2, Value.int .i64 2, Value.int .i64 1] 3 false 0)
  simp only [b1, lbind_ret, tupL_tuple, uncons_cons, nilL_nil, asSl_slice, asI_int, obind_some]
  generalize L2 ++ [LBlk.cells [Value.int .i64 2, Value.int .i64 2, Value.int .i64 1] 3 false 0] = M3 at *
  have a24 := a23.mono (t3.others a23.within (none_apart _))
  have b24 := b2.mono (t3.others b2.within (none_apart _))
  obtain ⟨s3, L3, F3, c1, c2, c3⟩ := codes_ok (k := k) w3.rd (by simp) (by simp; omega)
  rw [show codesErr [2, 2, 1] = 0 by decide] at c1
  rw [show codesRes [2, 2, 1] = [2, 3, 0] by decide] at c2
  have a25 := a24.mono (c3.others a24.within (none_apart _))
  have b25 := b24.mono (c3.others b24.within (none_apart _))
  have w4 := lit_ws (L := L3) [2, 2, 1] [Value.int .i64 2, Value.int .i64 2, Value.int .i64 1] 3 rfl rfl
  have t4 := Step.new [] L3 (LBlk.cells [Value.int .i64 2, Value.int .i64 2, Value.int .i64 1] 3 false 0)
  have z0 : ((0 : Int) == 0) = true := rfl
  simp only [c1, lbind_ret, tupL_tuple, uncons_cons, nilL_nil, asSl_slice, asI_int, obind_some, z0, lif_true]
  generalize L3 ++ [LBlk.cells [Value.int .i64 2, Value.int .i64 2, Value.int .i64 1] 3 false 0] = M4 at *
  have a26 := a25.mono (t4.others a25.within (none_apart _))
  have b26 := b25.mono (t4.others b25.within (none_apart _))
  have c26 := c2.mono (t4.others c2.within (none_apart _))
  have d1 := ints_ok (k := k) a26.rd w4.rd (by simp) (by simp; omega)
  rw [decide_eq_true (show ([2, 2, 1] : List Int) = [2, 2, 1] from rfl)] at d1
  have w5 := lit_ws (L := M4) [0, 1, 0] [Value.int .i64 0, Value.int .i64 1, Value.int .i64 0] 3 rfl rfl
  have t5 := Step.new [] M4 (LBlk.cells [Value.int .i64 0, Value.int .i64 1, Value.int .i64 0] 3 false 0)
  simp only [d1, lbind_ret, asB_bool, obind_some, lif_true]
  generalize M4 ++ [LBlk.cells [Value.int .i64 0, Value.int .i64 1, Value.int .i64 0] 3 false 0] = M5 at *
  have b27 := b26.mono (t5.others b26.within (none_apart _))
  have c27 := c26.mono (t5.others c26.within (none_apart _))
  have e1 := ints_ok (k := k) b27.rd w5.rd (by simp) (by simp; omega)
  rw [decide_eq_true (show ([0, 1, 0] : List Int) = [0, 1, 0] from rfl)] at e1
  have hn := c27.rd.len
  have hn : s3.n = 3 := hn
  obtain ⟨x0, p0, q0⟩ := c27.rd.here (i := 0) (v := uV 2) rfl
  obtain ⟨x1, p1, q1⟩ := c27.rd.here (i := 1) (v := uV 3) rfl
  obtain ⟨x2, p2, q2⟩ := c27.rd.here (i := 2) (v := uV 0) rfl
  have p0 : idx s3 0 1 = some x0 := p0
  have p1 : idx s3 1 1 = some x1 := p1
  have p2 : idx s3 2 1 = some x2 := p2
  have q0 : cell M5 x0 = some (.int .u32 2) := q0
  have q1 : cell M5 x1 = some (.int .u32 3) := q1
  have q2 : cell M5 x2 = some (.int .u32 0) := q2
  have h3 : ((s3.n : Int) == 3) = true := by rw [hn]; rfl
  have z2 : ((2 : Int) == 2) = true := rfl
  have z3 : ((3 : Int) == 3) = true := rfl
  have w6 := lit_ws (L := M5) [1, 2] [Value.int .i64 1, Value.int .i64 2] 2 rfl rfl
  have t6 := Step.new [] M5 (LBlk.cells [Value.int .i64 1, Value.int .i64 2] 3 false 0)
  simp only [e1, lbind_ret, asB_bool, obind_some, lif_true, h3, p0, p1, p2, q0, q1, q2, Option.bind_some, asI_int, z0, z2, z3]
  generalize M5 ++ [LBlk.cells [Value.int .i64 1, Value.int .i64 2] 3 false 0] = M6 at *
  obtain ⟨L6, g1, g2⟩ := may_okay (k := k) w6.rd (by simp) (by simp; omega)
  rw [show may [1, 2] = false by decide] at g1
  have w7 := lit_ws (L := L6) [1, 1] [Value.int .i64 1, Value.int .i64 1] 2 rfl rfl
  have t7 := Step.new [] L6 (LBlk.cells [Value.int .i64 1, Value.int .i64 1] 3 false 0)
  simp only [g1, lbind_ret, asB_bool, obind_some, Bool.not_false, lif_true]
  generalize L6 ++ [LBlk.cells [Value.int .i64 1, Value.int .i64 1] 3 false 0] = M7 at *
  obtain ⟨L7, i1, i2⟩ := may_okay (k := k) w7.rd (by simp) (by simp; omega)
  rw [show may [1, 1] = true by decide] at i1
  refine ⟨L7, ?_, ?_⟩
  · simp only [i1, lbind_ret, asB_bool, obind_some]
  · exact (drop0 t1).trans ((drop0 a3).trans ((drop0 t2).trans ((drop0 b3).trans ((drop0 t3).trans ((drop0 c3).trans ((drop0 t4).trans ((drop0 t5).trans ((drop0 t6).trans (g2.trans ((drop0 t7).trans i2))))))))))

end Go.Proofs.Ytlcchghlhfamjaa.X

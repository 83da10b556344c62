/- What the bits' statements share: 'works' is true, wherever it is run. -/
import Derived.Test.YtlcchghlhfamjaaBitsR
set_option linter.unusedVariables false
namespace Go.Proofs.Ytlcchghlhfamjaa.X
open Go Go.Rlm

theorem none_apart (H : List Nat) : Apart [] H := fun i hi => by simp at hi
theorem one_apart {b : Nat} {H : List Nat} (h : b ∉ H) : Apart [b] H := fun i hi => by simp at hi; subst hi; exact h

theorem works_ok {k : Nat} {L : LHeap} (hk : 60 ≤ k) : ∃ L', f32 k L = some (.ret (.bool true) L') ∧ Step [] L [] L' := by
  obtain ⟨k, rfl⟩ : ∃ k', k = k' + 1 := ⟨k - 1, by omega⟩
  have hF := BW.new L
  have s1 := Step.new [] L (LBlk.cells [Value.slice none 0 0, Value.int IntKind.i64 0] 26 false 0)
  rw [f32_eq]
  generalize L ++ [LBlk.cells [Value.slice none 0 0, Value.int IntKind.i64 0] 26 false 0] = L0 at *
  obtain ⟨L1, F1, a1, a2, a3⟩ := put_ok (k := k) (v := 5) (n := 3) hF (by omega) (by simp) (by omega)
  rw [show putRes 5 3 = 0 by decide, show ((5 : Nat) : Int) = 5 from rfl] at a1
  rw [show [] ++ putBits 5 3 = [true, false, true] by decide] at a2
  obtain ⟨L2, F2, b1, b2, b3⟩ := put_ok (k := k) (v := 1) (n := 2) a2 (by omega) (by simp) (by omega)
  rw [show putRes 1 2 = 0 by decide, show ((1 : Nat) : Int) = 1 from rfl] at b1
  rw [show [true, false, true] ++ putBits 1 2 = [true, false, true, false, true] by decide] at b2
  have c1 := bits_ok (k := k) b2 (by omega)
  rw [show (([true, false, true, false, true] : List Bool).length : Int) = 5 from rfl] at c1
  obtain ⟨vs, d1, d2⟩ := bytes_ok (k := k) b2 (by omega)
  have d3 : Packs [168] [true, false, true, false, true] := by unfold Packs; decide
  obtain rfl := d1.unique d3
  obtain ⟨L3, F3, e1, e2, e3⟩ := put_ok (k := k) (v := 8) (n := 3) b2 (by omega) (by simp) (by omega)
  rw [show putRes 8 3 = 1 by decide, show ((8 : Nat) : Int) = 8 from rfl] at e1
  rw [show [true, false, true, false, true] ++ putBits 8 3 = [true, false, true, false, true] by decide] at e2
  have f1 := bits_ok (k := k) e2 (by omega)
  rw [show (([true, false, true, false, true] : List Bool).length : Int) = 5 from rfl] at f1
  obtain ⟨L4, g1, g2, g3⟩ := open_ok (k := k) (s := ByteArray.mk #[168]) (L := L3) (by decide) (by omega)
  have hu : unpack (ByteArray.mk #[168]) = [true, false, true, false, true, false, false, false] := by decide
  rw [hu] at g2
  obtain ⟨L5, h1, h2, h3⟩ := take_ok (k := k) (n := 3) g2 (by omega)
  rw [taken, show takeVal [true, false, true, false, true, false, false, false] 3 = 5 by decide, show takeErr [true, false, true, false, true, false, false, false] 3 = 0 by decide] at h1
  rw [show [true, false, true, false, true, false, false, false].drop (takeCnt [true, false, true, false, true, false, false, false] 3) = [false, true, false, false, false] by decide] at h2
  obtain ⟨L6, i1, i2, i3⟩ := take_ok (k := k) (n := 2) h2 (by omega)
  rw [taken, show takeVal [false, true, false, false, false] 2 = 1 by decide, show takeErr [false, true, false, false, false] 2 = 0 by decide] at i1
  rw [show [false, true, false, false, false].drop (takeCnt [false, true, false, false, false] 2) = [false, false, false] by decide] at i2
  obtain ⟨L7, j1, j2, j3⟩ := open_ok (k := k) (s := ByteArray.mk #[168]) (L := L6) (by decide) (by omega)
  rw [hu] at j2
  obtain ⟨L8, l1, l2, l3⟩ := take_ok (k := k) (n := 9) j2 (by omega)
  rw [taken, show takeVal [true, false, true, false, true, false, false, false] 9 = 0 by decide, show takeErr [true, false, true, false, true, false, false, false] 9 = 4 by decide] at l1
  have hlt := i2.lt
  have i2' : BR L8 L3.length [false, false, false] := (i2.mono (j3.keep _ hlt (by simp))).mono (l3.keep _ (Nat.lt_of_lt_of_le hlt j3.len) (by simp; omega))
  have m1 := left_ok (k := k) i2' (by omega)
  rw [show (([false, false, false] : List Bool).length : Int) = 3 from rfl] at m1
  have m2 := end_ok (k := k) i2' (by omega)
  rw [show endOf [false, false, false] = true by decide] at m2
  refine ⟨L8, ?_, ?_⟩
  · simp only [a1, b1, c1, d2, e1, f1, g1, h1, i1, j1, l1, m1, m2, lbind_ret, asI_int, asS_string, asP_pointer, asB_bool, tupL_tuple, uncons_cons, nilL_nil, obind_some, Option.bind_some, bne_self_eq_false, lif_true, lif_false, BEq.rfl, Bool.not_true,
      show strOf [168] = ByteArray.mk #[168] from rfl]
    rfl
  · refine ((((s1.trans a3).trans b3).trans e3).less (G := []) (fun i hi => by simp at hi)).trans ?_
    refine (g3.trans (h3.trans i3)).less (G := []) (fun i hi => by simp at hi) |>.trans ?_
    exact (j3.trans l3).less (fun i hi => by simp at hi)

end Go.Proofs.Ytlcchghlhfamjaa.X

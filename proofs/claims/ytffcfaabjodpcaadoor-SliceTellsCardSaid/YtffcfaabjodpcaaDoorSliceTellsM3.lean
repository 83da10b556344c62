/- The logical machine, its likeness to the model, and the contracts of the functions that the law calls. Printed by pack.py, a program of this work, out of its texts; what the law does not use is left out. -/
import Derived.Test.YtffcfaabjodpcaaDoorSliceTellsM2
import Derived.Test.YtffcfaabjodpcaaDoorProg
import Derived.KernelRfl
import Derived.Deep.SlicePairs
import Derived.ChangeArms
import Derived.ChangeSlices
import Derived.Shelf.Strings.Builder1
import Derived.Shelf.Strings.Builder2
import Derived.Shelf.Strings.OnBuilder
import Derived.Shelf.Strings.Trim
import Derived.Shelf.Strings.BuilderF
import Derived.Shelf.Strings.BuilderK
import Derived.Shelf.Strings.Builder2Cap
import Derived.Shelf.Strings.Search1
import Derived.Shelf.Strings.Search2
import Derived.Shelf.Strings.Cut
import Derived.Shelf.Strings.Shaped
import Derived.Shelf.Strings.Prefix
import Derived.Shelf.Strings.Runes
import Derived.Shelf.Strings.AsciiSet
import Derived.Shelf.Strings.Repeat
import Derived.Lib.TrimByte
import Derived.Lib.SmallJoins
section
set_option maxRecDepth 100000
namespace Go.Proofs.YtffcfaabjodpcaaDoor
open Go Go.Rlm
theorem shape_lif (d r z m : Int) : (lif (decide (d ≥ 1))
  (lif (decide (d ≤ 64))
    (lif (decide (r ≥ 0))
      (lif (decide (r ≤ 32))
        (lif (decide (z ≥ 2))
          (lif (decide (z ≤ 512)) (lif (Int.tmod z 2 == 0) (lif (decide (m ≥ 0)) (ok (Value.bool (decide (m ≤ 32)))) (ok (Value.bool false))) (ok (Value.bool false))) (ok (Value.bool false)))
          (ok (Value.bool false)))
        (ok (Value.bool false)))
      (ok (Value.bool false)))
    (ok (Value.bool false)))
  (ok (Value.bool false))) = ok (.bool (shapeB d r z m)) := by
  unfold shapeB
  generalize decide (d ≥ 1) = b1
  generalize decide (d ≤ 64) = b2
  generalize decide (r ≥ 0) = b3
  generalize decide (r ≤ 32) = b4
  generalize decide (z ≥ 2) = b5
  generalize decide (z ≤ 512) = b6
  generalize (Int.tmod z 2 == 0) = b7
  generalize decide (m ≥ 0) = b8
  cases b1 <;> simp only [lif_true, lif_false, Bool.true_and, Bool.false_and]
  cases b2 <;> simp only [lif_true, lif_false, Bool.true_and, Bool.false_and]
  cases b3 <;> simp only [lif_true, lif_false, Bool.true_and, Bool.false_and]
  cases b4 <;> simp only [lif_true, lif_false, Bool.true_and, Bool.false_and]
  cases b5 <;> simp only [lif_true, lif_false, Bool.true_and, Bool.false_and]
  cases b6 <;> simp only [lif_true, lif_false, Bool.true_and, Bool.false_and]
  cases b7 <;> simp only [lif_true, lif_false, Bool.true_and, Bool.false_and]
  cases b8 <;> simp only [lif_true, lif_false, Bool.true_and, Bool.false_and]
theorem pureShape {G : Keep} {T : Tab} (hS : SpecOk G Tryd.prog T) {f : Nat} (hf : f < YB) (h : ∀ d r z m, lpure Tryd.prog T 0 f [.agg #[.int .i64 d, .int .i64 r, .int .i64 z, .int .i64 m]] = ok (.bool (shapeB d r z m))) : PureOk G Tryd.prog f shapeP :=
  .runs hS X.mixed X.named hf fun args L r0 r hr hreal => by
    unfold shapeP at hr
    split at hr
    case h_2 => cases hr
    injection hr with hr
    subst hr
    injection hreal with hreal
    subst hreal
    exact ⟨_, rfl, rfl, rfl, h _ _ _ _⟩
theorem specY {G : Keep} : SpecOk G Tryd.prog Y.T :=
  .more (.told (n := 400) X.spec0 X.mixed X.named (by decide) X.awake_told) <|
  .more (pureShape X.spec0 (by decide) fun d r z m => (X.f20_eq 0 d r z m).trans (shape_lif d r z m)) <|
  .more (pureShape X.spec0 (by decide) fun d r z m => (X.f34_eq 0 d r z m).trans (shape_lif d r z m)) X.spec0
/-- The reference's search. -/
theorem search_ref {n d r z m : Int} (hs : shapeB d r z m = true) (hn : 0 ≤ n) : ∀ (q : Nat) (i : Int) (j : Nat), i + q = 98 → 1 ≤ i → i ≤ volK n (d * z) → q < j →
    Y.f16_l4 200 j n i d r z m = ok (.tuple #[.int .i64 (if volK n (d * z) > 96 - m then 0 else volK n (d * z)), .int .i64 (if volK n (d * z) > 96 - m then 40 else 0)]) := by
  have h1 := one_le hs
  have hs' := shapeB_iff.1 hs
  have hd : d * z = z * d := Int.mul_comm _ _
  intro q
  induction q with
  | zero =>
    intro i j hi h2 h3 hj
    obtain ⟨j, rfl⟩ : ∃ j', j = j' + 1 := ⟨j - 1, by omega⟩
    rw [Y.f16_l4_eq, wI64 (by omega) (by omega), decide_eq_false (by omega), lif_false, if_pos (by omega), if_pos (by omega)]
  | succ q ih =>
    intro i j hi h2 h3 hj
    obtain ⟨j, rfl⟩ : ∃ j', j = j' + 1 := ⟨j - 1, by omega⟩
    rw [Y.f16_l4_eq, wI64 (n := i + m) (by omega) (by omega)]
    by_cases h4 : i + m ≤ 96
    · have e1 : i * d * z = i * (d * z) := Int.mul_assoc _ _ _
      have e2 : 0 ≤ i * d ∧ i * d ≤ 97 * 64 := ⟨Int.mul_nonneg (by omega) (by omega), Int.mul_le_mul (by omega) (by omega) (by omega) (by omega)⟩
      have e3 : 0 ≤ i * (d * z) ∧ i * (d * z) ≤ 97 * 32768 := ⟨Int.mul_nonneg (by omega) (by omega), Int.mul_le_mul (by omega) (by omega) (by omega) (by omega)⟩
      rw [decide_eq_true h4, lif_true, wI64 (n := i * d) (by omega) (by omega), e1, wI64 (n := i * (d * z)) (by omega) (by omega), wI64 (by omega) (by omega)]
      by_cases h5 : i * (d * z) - 8 ≥ n
      · have := volK_le (k := i) hn (by omega : 0 < d * z) (by omega)
        have e : i = volK n (d * z) := by omega
        rw [decide_eq_true h5, lif_true, if_neg (by omega), if_neg (by omega), e]
      · have := lt_volK (k := i) hn (by omega : 0 < d * z) (by omega)
        rw [decide_eq_false h5, lif_false, wI64 (by omega) (by omega)]
        exact ih (i + 1) j (by omega) (by omega) (by omega) (by omega)
    · rw [decide_eq_false h4, lif_false, if_pos (by omega), if_pos (by omega)]
theorem count_ref (n d r z m : Int) : Y.f16 200 n d r z m = ok (.tuple #[.int .i64 (countK n d r z m), .int .i64 (countE n d r z m)]) := by
  rw [Y.f16_eq]
  cases hs : shapeB d r z m with
  | false => rw [(count_bad (.inl hs)).1, (count_bad (.inl hs)).2]; rfl
  | true =>
    rw [Bool.not_true, lif_false]
    by_cases hn : n < 0
    · rw [decide_eq_true hn, lif_true, (count_bad (.inr hn)).1, (count_bad (.inr hn)).2]
    · have h1 := one_le hs
      have hn' : 0 ≤ n := by omega
      rw [decide_eq_false hn, lif_false, search_ref hs hn' 97 1 200 (by omega) (by omega) (volK_pos hn' (by omega)) (by omega)]
      by_cases h : volK n (d * z) > 96 - m
      · rw [if_pos h, if_pos h, (count_big hs hn' h).1, (count_big hs hn' h).2]
      · have h' : volK n (d * z) ≤ 96 - m := by omega
        rw [if_neg h, if_neg h, (count_fits hs hn' h').1, (count_fits hs hn' h').2]
theorem search {n d r z m : Int} (hs : shapeB d r z m = true) (hn : 0 ≤ n) (hn2 : n ≤ 97 * 32768) (hv : volK n (d * z) ≤ 200) : ∀ (q : Nat) (i : Int) (j : Nat), i + q = volK n (d * z) → 0 ≤ i → q < j →
    Z.f15_l7 200 j n (d * z) i d r z m = ok (.tuple #[.int .i64 (if volK n (d * z) > 96 - m then 0 else volK n (d * z)), .int .i64 (if volK n (d * z) > 96 - m then 40 else 0)]) := by
  have h1 := one_le hs
  have hs' := shapeB_iff.1 hs
  intro q
  induction q with
  | zero =>
    intro i j hi h2 hj
    obtain ⟨j, rfl⟩ : ∃ j', j = j' + 1 := ⟨j - 1, by omega⟩
    have h3 : i ≤ 200 := by omega
    have e3 : 0 ≤ i * (d * z) ∧ i * (d * z) ≤ 200 * 32768 := ⟨Int.mul_nonneg (by omega) (by omega), Int.mul_le_mul (by omega) (by omega) (by omega) (by omega)⟩
    have hk := volK_spec hn (by omega : 0 < d * z)
    have e : i = volK n (d * z) := by omega
    rw [← e] at hk ⊢
    rw [Z.f15_l7_eq, wI64 (n := i * (d * z)) (by omega) (by omega), decide_eq_false (by omega), lif_false, wI64 (by omega) (by omega), decide_eq_false (by omega), lif_false, wI64 (by omega) (by omega)]
    by_cases h : i > 96 - m
    · rw [decide_eq_true h, lif_true, if_pos h, if_pos h]
    · rw [decide_eq_false h, lif_false, if_neg h, if_neg h]
  | succ q ih =>
    intro i j hi h2 hj
    obtain ⟨j, rfl⟩ : ∃ j', j = j' + 1 := ⟨j - 1, by omega⟩
    have h3 : i ≤ 200 := by omega
    have e3 : 0 ≤ i * (d * z) ∧ i * (d * z) ≤ 200 * 32768 := ⟨Int.mul_nonneg (by omega) (by omega), Int.mul_le_mul (by omega) (by omega) (by omega) (by omega)⟩
    have hlt : i * (d * z) < n + 8 := by
      rcases (show i * (d * z) < n + 8 ∨ n + 8 ≤ i * (d * z) by omega) with h | h
      · exact h
      · have := volK_le hn (by omega : 0 < d * z) h
        omega
    have next := ih (i + 1) j (by omega) (by omega) (by omega)
    rw [Z.f15_l7_eq, wI64 (n := i * (d * z)) (by omega) (by omega), wI64 (n := i + 1) (by omega) (by omega), next]
    by_cases h : i * (d * z) < 8
    · rw [decide_eq_true h, lif_true]
    · rw [decide_eq_false h, lif_false, wI64 (by omega) (by omega), decide_eq_true (by omega), lif_true]
theorem count_ok (n d r z m : Int) (hn64 : n < 9223372036854775808) : Z.f15 200 n d r z m = ok (.tuple #[.int .i64 (countK n d r z m), .int .i64 (countE n d r z m)]) := by
  rw [Z.f15_eq]
  cases hs : shapeB d r z m with
  | false => rw [(count_bad (.inl hs)).1, (count_bad (.inl hs)).2]; rfl
  | true =>
    rw [Bool.not_true, lif_false]
    by_cases hn : n < 0
    · rw [decide_eq_true hn, lif_true, (count_bad (.inr hn)).1, (count_bad (.inr hn)).2]
    · have h1 := one_le hs
      have hs' := shapeB_iff.1 hs
      have hn' : 0 ≤ n := by omega
      rw [decide_eq_false hn, lif_false, wI64 (n := d * z) (by omega) (by omega), decide_eq_false (by omega), Bool.not_false, when_true]
      have hq : n.tdiv (d * z) = n / (d * z) := Int.tdiv_eq_ediv_of_nonneg hn'
      have hq0 : 0 ≤ n / (d * z) := Int.ediv_nonneg hn' (by omega)
      have hq1 : n / (d * z) * (d * z) ≤ n := Int.ediv_mul_le n (by omega)
      have hq2 : n < (n / (d * z) + 1) * (d * z) := Int.lt_ediv_add_one_mul_self n (by omega)
      have hq3 : n / (d * z) ≤ n := Int.ediv_le_self _ hn'
      rw [hq, wI64 (n := n / (d * z)) (by omega) (by omega)]
      generalize n / (d * z) = k at *
      rw [Int.add_mul, Int.one_mul] at hq2
      have hge : k ≤ volK n (d * z) := by
        rcases (show k ≤ volK n (d * z) ∨ volK n (d * z) + 1 ≤ k by omega) with h | h
        · exact h
        · have h3 := (volK_spec hn' (by omega : 0 < d * z)).1
          have : volK n (d * z) * (d * z) ≤ k * (d * z) := Int.mul_le_mul_of_nonneg_right (by omega) (by omega)
          omega
      by_cases hk : k > 96
      · rw [decide_eq_true hk, lif_true, (count_big hs hn' (by omega)).1, (count_big hs hn' (by omega)).2]
      · have hle : volK n (d * z) ≤ k + 5 := volK_le hn' (by omega) (by rw [Int.add_mul]; omega)
        have hkz : k * (d * z) ≤ 96 * 32768 := Int.mul_le_mul (by omega) (by omega) (by omega) (by omega)
        rw [decide_eq_false hk, lif_false, search hs hn' (by omega) (by omega) (volK n (d * z) - k).toNat k 200 (by omega) hq0 (by omega)]
        by_cases h : volK n (d * z) > 96 - m
        · rw [if_pos h, if_pos h, (count_big hs hn' h).1, (count_big hs hn' h).2]
        · have h' : volK n (d * z) ≤ 96 - m := by omega
          rw [if_neg h, if_neg h, (count_fits hs hn' h').1, (count_fits hs hn' h').2]
theorem pureCount {G : Keep} {T : Tab} (hS : SpecOk G Tryd.prog T) {f : Nat} (hf : f < YB)
    (h : ∀ n d r z m : Int, n < 9223372036854775808 → lpure Tryd.prog T 200 f [.int .i64 n, .agg #[.int .i64 d, .int .i64 r, .int .i64 z, .int .i64 m]] = ok (.tuple #[.int .i64 (countK n d r z m), .int .i64 (countE n d r z m)])) :
    PureOk G Tryd.prog f countP :=
  .runs hS X.mixed X.named hf fun args L r0 r hr hreal => by
    unfold countP at hr
    split at hr
    case h_2 => cases hr
    injection hr with hr
    subst hr
    obtain ⟨h1, rfl⟩ := gate_real hreal
    exact ⟨_, rfl, rfl, rfl, h _ _ _ _ _ (of_decide_eq_true h1)⟩
theorem specZ {G : Keep} : SpecOk G Tryd.prog Z.T :=
  .more (pureCount specY (by decide) fun n d r z m _ => count_ref n d r z m) <|
  .more (pureShape specY (by decide) fun d r z m => Y.f19_eq 0 d r z m) specY
theorem specV {G : Keep} : SpecOk G Tryd.prog V.T := .more (pureCount specZ (by decide) fun n d r z m h => count_ok n d r z m h) specZ
end Go.Proofs.YtffcfaabjodpcaaDoor
end

section
set_option maxRecDepth 100000
set_option linter.unusedVariables false
namespace Go.Proofs.YtffcfaabjodpcaaDoor.V
open Go Go.Rlm
/-- strings.Cut -/
noncomputable def f35 (k : Nat) (s0 : ByteArray) (s1 : ByteArray) (L : LHeap) : R :=
  lcall Tryd.prog T k 35 [Value.string s0, Value.string s1] L
/-- internal/stringslite.Cut -/
noncomputable def f54 (k : Nat) (s0 : ByteArray) (s1 : ByteArray) (L : LHeap) : R :=
  lcall Tryd.prog T k 54 [Value.string s0, Value.string s1] L
/-- internal/stringslite.Index -/
noncomputable def f69 (k : Nat) (s0 : ByteArray) (s1 : ByteArray) (L : LHeap) : R :=
  lcall Tryd.prog T k 69 [Value.string s0, Value.string s1] L
/-- internal/stringslite.IndexByte -/
noncomputable def f55 (k : Nat) (s0 : ByteArray) (n1 : Int) (L : LHeap) : R :=
  lcall Tryd.prog T k 55 [Value.string s0, Value.int IntKind.u8 n1] L
/-- strings.IndexByte -/
noncomputable def f36 (k : Nat) (s0 : ByteArray) (n1 : Int) (L : LHeap) : R :=
  lcall Tryd.prog T k 36 [Value.string s0, Value.int IntKind.u8 n1] L
theorem f35_eq (k : Nat) (s0 : ByteArray) (s1 : ByteArray) (L : LHeap) : f35 (k + 1) s0 s1 L =
 lbind (f54 k s0 s1 L) fun v2 L3 =>
 obind (tupL v2) fun x4 =>
 uncons x4 fun v5 vs6 =>
 obind (asS v5) fun s7 =>
 uncons vs6 fun v8 vs9 =>
 obind (asS v8) fun s10 => uncons vs9 fun v11 vs12 => obind (asB v11) fun b13 => nilL vs12 (some (LR.ret (Value.tuple #[Value.string s7, Value.string s10, Value.bool b13]) L3)) := by kernel_rfl
theorem f54_eq (k : Nat) (s0 : ByteArray) (s1 : ByteArray) (L : LHeap) : f54 (k + 1) s0 s1 L =
 lbind (f69 k s0 s1 L) fun v2 L3 =>
 obind (asI IntKind.i64 v2) fun n4 =>
 lif (decide (n4 ≥ 0))
 (obind (subS s0 none (some n4)) fun s5 =>
 obind (subS s0 (some (IntKind.wrap IntKind.i64 (n4 + (↑(ByteArray.size s1) : Int)))) none) fun s6 => some (LR.ret (Value.tuple #[Value.string s5, Value.string s6, Value.bool true]) L3))
 (some (LR.ret (Value.tuple #[Value.string s0, Value.string (ByteArray.mk #[]), Value.bool false]) L3)) := by kernel_rfl
theorem f69_eq (k : Nat) (s0 : ByteArray) (s1 : ByteArray) (L : LHeap) : f69 (k + 1) s0 s1 L =
 lif ((↑(ByteArray.size s1) : Int) == 0) (some (LR.ret (Value.int IntKind.i64 0) L))
 (lif (ByteArray.toList s1 == ByteArray.toList s0) (some (LR.ret (Value.int IntKind.i64 0) L))
 (lif ((↑(ByteArray.size s1) : Int) == 1)
 (obind (byteAt s1 0) fun n2 => lbind (f55 k s0 n2 L) fun v3 L4 => obind (asI IntKind.i64 v3) fun n5 => some (LR.ret (Value.int IntKind.i64 n5) L4))
 (lif (decide ((↑(ByteArray.size s1) : Int) ≥ (↑(ByteArray.size s0) : Int))) (some (LR.ret (Value.int IntKind.i64 (-1)) L)) none))) := by kernel_rfl
theorem f55_eq (k : Nat) (s0 : ByteArray) (n1 : Int) (L : LHeap) : f55 (k + 1) s0 n1 L =
 some (LR.ret (Value.int IntKind.i64 (firstIdx s0 (Nat.toUInt8 (Int.toNat n1)))) L) := by kernel_rfl
theorem f36_eq (k : Nat) (s0 : ByteArray) (n1 : Int) (L : LHeap) : f36 (k + 1) s0 n1 L =
 lbind (f55 k s0 n1 L) fun v2 L3 => obind (asI IntKind.i64 v2) fun n4 => some (LR.ret (Value.int IntKind.i64 n4) L3) := by kernel_rfl
end Go.Proofs.YtffcfaabjodpcaaDoor.V
end

section
set_option maxRecDepth 100000
set_option linter.unusedVariables false
namespace Go.Proofs.YtffcfaabjodpcaaDoor.V
open Go Go.Rlm
/-- hamper/slice.Place$1 -/
noncomputable def f41 (k : Nat) (n0 : Int) : R :=
  lpure Tryd.prog T k 41 [Value.int IntKind.u8 n0]
/-- hamper/slice.numbers -/
noncomputable def f38 (k : Nat) (s0 : ByteArray) (n1 : Int) (n2 : Int) (n3 : Int) (n4 : Int) (n5 : Int) (n6 : Int) : R :=
  lpure Tryd.prog T k 38
  [Value.agg #[Value.string s0, Value.int IntKind.i64 n1, Value.int IntKind.i64 n2, Value.int IntKind.i64 n3, Value.int IntKind.i64 n4, Value.int IntKind.i64 n5, Value.int IntKind.i64 n6]]
theorem f41_eq (k : Nat) (n0 : Int) : f41 k n0 =
 lif (decide (n0 < 97)) (lif (decide (n0 < 48)) (ok (Value.bool (n0 != 95))) (lif (decide (n0 > 57)) (ok (Value.bool (n0 != 95))) (ok (Value.bool false))))
 (lif (decide (n0 > 122)) (lif (decide (n0 < 48)) (ok (Value.bool (n0 != 95))) (lif (decide (n0 > 57)) (ok (Value.bool (n0 != 95))) (ok (Value.bool false)))) (ok (Value.bool false))) := by kernel_rfl
theorem f38_eq (k : Nat) (s0 : ByteArray) (n1 : Int) (n2 : Int) (n3 : Int) (n4 : Int) (n5 : Int) (n6 : Int) : f38 k s0 n1 n2 n3 n4 n5 n6 =
 ok (Value.agg #[Value.int IntKind.i64 n3, Value.int IntKind.i64 n4, Value.int IntKind.i64 n5, Value.int IntKind.i64 n6, Value.int IntKind.i64 n2, Value.int IntKind.i64 n1]) := by kernel_rfl
end Go.Proofs.YtffcfaabjodpcaaDoor.V
end

section
set_option maxRecDepth 100000
set_option linter.unusedVariables false
namespace Go.Proofs.YtffcfaabjodpcaaDoor.N
open Go Go.Rlm
/-- slices.ContainsFunc[[]byte,byte] -/
noncomputable def f40 (k : Nat) (l0 : Sl) (v1 : Value) (L : LHeap) : R :=
  lcall Tryd.prog T k 40 [Value.slice l0.a l0.n l0.c, v1] L
/-- slices.IndexFunc[[]byte,byte] -/
noncomputable def f59 (k : Nat) (l0 : Sl) (v1 : Value) (L : LHeap) : R :=
  lcall Tryd.prog T k 59 [Value.slice l0.a l0.n l0.c, v1] L
theorem f40_eq (k : Nat) (l0 : Sl) (v1 : Value) (L : LHeap) : f40 (k + 1) l0 v1 L =
 lbind (f59 k l0 v1 L) fun v2 L3 => obind (asI IntKind.i64 v2) fun n4 => some (LR.ret (Value.bool (decide (n4 ≥ 0))) L3) := by kernel_rfl
/-- slots 0, 1, 7, 8 -/
noncomputable def f59_l2 (k : Nat) (j2 : Nat) (l9 : Sl) (v10 : Value) (n11 : Int) (n12 : Int) (L : LHeap) : R :=
  loopAt Tryd.prog T 59 k [1, 0, 1, 0] [] j2 [(0, Value.slice l9.a l9.n l9.c), (1, v10), (7, Value.int IntKind.i64 n11), (8, Value.int IntKind.i64 n12)] L
theorem f59_eq (k : Nat) (l0 : Sl) (v1 : Value) (L : LHeap) : f59 (k + 1) l0 v1 L =
 f59_l2 k k l0 v1 (↑l0.n : Int) 0 L := by kernel_rfl
theorem f59_l2_eq (k : Nat) (j2 : Nat) (l0 : Sl) (v1 : Value) (n2 : Int) (n3 : Int) (L : LHeap) : f59_l2 k (j2 + 1) l0 v1 n2 n3 L =
 lif (decide (n3 < n2))
 (obind (idx l0 n3 1) fun a4 =>
 obind (Option.bind (cell L a4) (asI IntKind.u8)) fun n5 =>
 lbind (lapp (callee T (lcall Tryd.prog T k)) v1 [Value.int IntKind.u8 n5] L) fun v6 L7 =>
 obind (asB v6) fun b8 => lif b8 (some (LR.ret (Value.int IntKind.i64 n3) L7)) (f59_l2 k j2 l0 v1 n2 (IntKind.wrap IntKind.i64 (n3 + 1)) L7))
 (some (LR.ret (Value.int IntKind.i64 (-1)) L)) := by kernel_rfl
end Go.Proofs.YtffcfaabjodpcaaDoor.N
end

section
set_option maxRecDepth 100000
set_option linter.unusedVariables false
namespace Go.Proofs.YtffcfaabjodpcaaDoor.N
open Go Go.Rlm
/-- hamper/slice.Place -/
noncomputable def f23 (k : Nat) (s0 : ByteArray) (n1 : Int) (n2 : Int) (n3 : Int) (n4 : Int) (n5 : Int) (n6 : Int) : R :=
  lpure Tryd.prog T k 23
  [Value.agg #[Value.string s0, Value.int IntKind.i64 n1, Value.int IntKind.i64 n2, Value.int IntKind.i64 n3, Value.int IntKind.i64 n4, Value.int IntKind.i64 n5, Value.int IntKind.i64 n6]]
theorem f23_eq (k : Nat) (s0 : ByteArray) (n1 : Int) (n2 : Int) (n3 : Int) (n4 : Int) (n5 : Int) (n6 : Int) : f23 k s0 n1 n2 n3 n4 n5 n6 =
 lif (!shapeB n3 n4 n5 n6) (ok (Value.bool false))
 (lif (ByteArray.toList s0 == ByteArray.toList (ByteArray.mk #[])) (ok (Value.bool false))
 (lif (decide ((↑(ByteArray.size s0) : Int) > 60)) (ok (Value.bool false))
 (lif (decide (n2 < 1)) (ok (Value.bool false))
 (lif (decide (n2 > IntKind.wrap IntKind.i64 (96 - n6))) (ok (Value.bool false))
 (lif (decide (n1 < 0)) (ok (Value.bool false))
 (lif (decide (n1 ≥ IntKind.wrap IntKind.i64 (n2 + n6))) (ok (Value.bool false))
 (lbind
 (lcall Tryd.prog T k 40 [Value.slice (some (Addr.mk 1 0 none)) (ByteArray.size s0) OPEN, Value.func (Fn.func 41) #[] #[]]
 [LBlk.cells
 [Value.string s0, Value.int IntKind.i64 n1, Value.int IntKind.i64 n2, Value.int IntKind.i64 n3, Value.int IntKind.i64 n4, Value.int IntKind.i64 n5, Value.int IntKind.i64 n6] 41
 false 0,
 LBlk.cells (byteCells s0) 5 false 1])
 fun v7 L8 => obind (asB v7) fun b9 => ok (Value.bool !b9)))))))) := by kernel_rfl
end Go.Proofs.YtffcfaabjodpcaaDoor.N
end

section
namespace Go.Rlm
open Go.ChangeShapes Go.WideShapes
/-- At the machine: a slice that came in, of so many cells. -/
def Inp (L : LHeap) (l : Sl) (esz : Nat) (vs : List Value) (A : List Nat) : Prop :=
  l.n * esz = vs.length ∧ ((vs = [] ∧ A = []) ∨ ∃ c, l.a = some ⟨c, 0, none⟩ ∧ L[c]? = some (.cells vs 0 true 0) ∧ A = [c])
theorem Inp.mono {L L' : LHeap} {l : Sl} {esz : Nat} {vs : List Value} {A : List Nat} (h : Inp L l esz vs A) (hk : ∀ i ∈ A, L'[i]? = L[i]?) : Inp L' l esz vs A := by
  obtain ⟨h1, h | ⟨c, h2, h3, rfl⟩⟩ := h
  · exact ⟨h1, .inl h⟩
  · exact ⟨h1, .inr ⟨c, h2, by rw [hk c (by simp), h3], rfl⟩⟩
theorem Inp.within {L : LHeap} {l : Sl} {esz : Nat} {vs : List Value} {A : List Nat} (h : Inp L l esz vs A) : Within A L := by
  obtain ⟨h1, ⟨_, rfl⟩ | ⟨c, h2, h3, rfl⟩⟩ := h
  · intro i hi; simp at hi
  · intro i hi; simp at hi; subst hi; exact get_lt h3
theorem Inp.get {L : LHeap} {l : Sl} {esz : Nat} {vs : List Value} {A : List Nat} (h : Inp L l esz vs A) {i : Nat} (hi : i < l.n) (he : 0 < esz) :
    ∃ c, idx l (i : Int) esz = some ⟨c, i * esz, none⟩ ∧ ∀ L', (∀ x ∈ A, L'[x]? = L[x]?) → ∀ o, cell L' ⟨c, o, none⟩ = vs[o]? := by
  obtain ⟨h1, ⟨rfl, _⟩ | ⟨c, h2, h3, rfl⟩⟩ := h
  · have := Nat.mul_le_mul (show 1 ≤ l.n by omega) he; simp at h1 this; omega
  · refine ⟨c, ?_, fun L' hk o => cell_of (by rw [hk c (by simp), h3])⟩
    have := idx_of (b := c) (o := 0) (n := l.n) (c := l.c) (esz := esz) hi
    rw [← h2] at this
    simpa using this
/-- In the world: the same. -/
def IsCells (w : World) (a : Option Addr) (len cap esz : Nat) (vs : List Value) : Prop :=
  (a = none ∧ len = 0 ∧ cap = 0 ∧ vs = []) ∨
    ∃ x, a = some x ∧ cap ≤ maxLen ∧ len * esz = vs.length ∧ ∀ (i : Nat) (v : Value), vs[i]? = some v → w.cell? (x.add i) = some v
theorem Rep.arg {P : Program} {m : RMap} {L : LHeap} {w : World} (h : Rep P m L w) (hno : ∀ r, ¬ mine L r) {a : Option Addr} {len cap esz : Nat} {vs : List Value}
    (hc : IsCells w a len cap esz vs) (hf : ∀ v ∈ vs, Rlm.flat1 v = true) :
    ∃ m' L' l A, MExt m m' ∧ Rep P m' L' w ∧ (∀ r, ¬ mine L' r) ∧ VR m' (.slice l.a l.n l.c) (.slice a len cap) ∧ Inp L' l esz vs A ∧ l.n = len ∧ (∀ i, i < L.length → L'[i]? = L[i]?) ∧ L.length ≤ L'.length := by
  rcases hc with ⟨rfl, rfl, rfl, rfl⟩ | ⟨x, rfl, h1, h2, h3⟩
  · exact ⟨m, L, ⟨none, 0, 0⟩, [], .refl m, h, hno, .flat1 rfl, ⟨by simp, .inl ⟨rfl, rfl⟩⟩, rfl, fun _ _ => rfl, Nat.le_refl _⟩
  · have hcap : cap < OPEN := Nat.lt_of_le_of_lt h1 (by decide)
    obtain ⟨m', g1, g2, g3, g4, g5⟩ := h.input hno h3 hf len cap hcap
    refine ⟨m', L ++ [inp vs], ⟨some ⟨L.length, 0, x.spot⟩, len, cap⟩, if vs = [] then [] else [L.length], g1, g2, g3, g4, ⟨h2, ?_⟩, rfl, fun i hi => get_push hi, by simp⟩
    cases vs with
    | nil => exact .inl ⟨rfl, by simp⟩
    | cons v vs => exact .inr ⟨L.length, by rw [g5 (by simp)], by rw [get_new]; rfl, by simp⟩
/-- Pairs. -/
def pairCells : List (Nat × Int) → List Value
  | [] => []
  | p :: ps => .int .u32 (p.1 : Int) :: .int .i64 p.2 :: pairCells ps
@[simp] theorem pairCells_length (ps : List (Nat × Int)) : (pairCells ps).length = ps.length * 2 := by
  induction ps with
  | nil => rfl
  | cons p ps ih => simp [pairCells, ih]; omega
theorem choose_list {α : Type} {n : Nat} {p : Nat → α → Prop} (h : ∀ i, i < n → ∃ x, p i x) : ∃ l : List α, l.length = n ∧ ∀ (i : Nat) (x : α), l[i]? = some x → p i x := by
  induction n with
  | zero => exact ⟨[], rfl, fun i x hx => by simp at hx⟩
  | succ n ih =>
    obtain ⟨l, h1, h2⟩ := ih fun i hi => h i (by omega)
    obtain ⟨x, hx⟩ := h n (by omega)
    refine ⟨l ++ [x], by simp [h1], fun i y hy => ?_⟩
    by_cases hi : i < l.length
    · rw [List.getElem?_append_left hi] at hy
      exact h2 i y hy
    · rw [List.getElem?_append_right (by omega)] at hy
      have : i - l.length = 0 := by
        rcases Nat.eq_zero_or_pos (i - l.length) with h0 | h0
        · exact h0
        · rw [List.getElem?_eq_none (by simp; omega)] at hy; cases hy
      rw [this] at hy
      simp at hy
      subst hy
      rw [show i = n by omega]
      exact hx
end Go.Rlm
end

section
namespace Go.Rlm
/-- These cells can be read by it; they stand in the block that A names. -/
def Rd (L : LHeap) (s : Sl) (vs : List Value) (A : List Nat) : Prop :=
  s.n = vs.length ∧ ((vs = [] ∧ A = []) ∨ ∃ (c o : Nat) (cs : List Value) (e : TypeId) (ro : Bool) (sp : Nat), s.a = some ⟨c, o, none⟩ ∧ L[c]? = some (.cells cs e ro sp) ∧ (∀ i, i < vs.length → cs[o + i]? = vs[i]?) ∧ A = [c])
theorem Rd.len {L : LHeap} {s : Sl} {vs : List Value} {A : List Nat} (h : Rd L s vs A) : s.n = vs.length := h.1
theorem Rd.mono {L L' : LHeap} {s : Sl} {vs : List Value} {A : List Nat} (h : Rd L s vs A) (hk : ∀ i ∈ A, L'[i]? = L[i]?) : Rd L' s vs A := by
  obtain ⟨h1, h | ⟨c, o, cs, e, ro, sp, h2, h3, h4, rfl⟩⟩ := h
  · exact ⟨h1, .inl h⟩
  · exact ⟨h1, .inr ⟨c, o, cs, e, ro, sp, h2, by rw [hk c (by simp), h3], h4, rfl⟩⟩
theorem Rd.within {L : LHeap} {s : Sl} {vs : List Value} {A : List Nat} (h : Rd L s vs A) : Within A L := by
  obtain ⟨h1, ⟨_, rfl⟩ | ⟨c, o, cs, e, ro, sp, h2, h3, h4, rfl⟩⟩ := h
  · intro i hi; simp at hi
  · intro i hi; simp at hi; subst hi; exact get_lt h3
theorem Rd.get {L : LHeap} {s : Sl} {vs : List Value} {A : List Nat} (h : Rd L s vs A) {i : Nat} (hi : i < vs.length) :
    ∃ a, idx s (i : Int) 1 = some a ∧ ∀ L', (∀ x ∈ A, L'[x]? = L[x]?) → cell L' a = vs[i]? := by
  obtain ⟨h1, ⟨rfl, _⟩ | ⟨c, o, cs, e, ro, sp, h2, h3, h4, rfl⟩⟩ := h
  · simp at hi
  · refine ⟨⟨c, o + i * 1, none⟩, ?_, fun L' hk => ?_⟩
    · have := idx_of (b := c) (o := o) (n := s.n) (c := s.c) (esz := 1) (i := i) (by omega)
      rw [← h2] at this
      exact this
    · rw [cell_of (by rw [hk c (by simp), h3]), Nat.mul_one, h4 i hi]
theorem Rd.here {L : LHeap} {s : Sl} {vs : List Value} {A : List Nat} (h : Rd L s vs A) {i : Nat} {v : Value} (hv : vs[i]? = some v) : ∃ a, idx s (i : Int) 1 = some a ∧ cell L a = some v := by
  obtain ⟨a, h1, h2⟩ := h.get (get_lt hv)
  exact ⟨a, h1, by rw [h2 L fun _ _ => rfl, hv]⟩
theorem Inp.rd {L : LHeap} {l : Sl} {vs : List Value} {A : List Nat} (h : Inp L l 1 vs A) : Rd L l vs A := by
  obtain ⟨h1, h | ⟨c, h2, h3, h4⟩⟩ := h
  · exact ⟨by omega, .inl h⟩
  · exact ⟨by omega, .inr ⟨c, 0, vs, 0, true, 0, h2, h3, fun i _ => by simp, h4⟩⟩
theorem Rd.src {L : LHeap} {s : Sl} {vs : List Value} {A : List Nat} (h : Rd L s vs A) : srcOf L 1 s.n (.slice s.a s.n s.c) = some vs := by
  obtain ⟨h1, ⟨rfl, _⟩ | ⟨c, o, cs, e, ro, sp, h2, h3, h4, rfl⟩⟩ := h
  · simp only [List.length_nil] at h1
    simp only [srcOf, srcCells, h1]
    rfl
  · simp only [srcOf, srcCells, h1, h2]
    cases hv : vs with
    | nil => rfl
    | cons v vs' =>
      rw [hv] at h4
      have hle : o + (v :: vs').length ≤ cs.length := by
        have := h4 vs'.length (by simp)
        rw [List.getElem?_eq_getElem (l := v :: vs') (by simp)] at this
        have := get_lt this
        simp; omega
      simp only [List.length_cons, show Nat.beq (vs'.length + 1) 0 = false from rfl, cond_false, cellsAt, h3, Nat.mul_one]
      simp only [List.length_cons] at hle
      rw [Nat.ble_eq_true_of_le hle, cond_true]
      congr 1
      apply List.ext_getElem?
      intro i
      rw [List.getElem?_take]
      split
      · rename_i hi
        rw [List.getElem?_drop]
        exact h4 i (by simpa using hi)
      · rw [List.getElem?_eq_none (by simp; omega)]
def WS (L : LHeap) (s : Sl) (vs : List Value) (e : TypeId) (F : List Nat) : Prop :=
  (s = ⟨none, 0, 0⟩ ∧ vs = [] ∧ F = []) ∨ ∃ c cap sp, s = ⟨some ⟨c, 0, none⟩, vs.length, cap⟩ ∧ L[c]? = some (.cells vs e false sp) ∧ (cap = vs.length ∨ (cap = OPEN ∧ sp = 1)) ∧ F = [c]
theorem WS.mono {L L' : LHeap} {s : Sl} {vs : List Value} {e : TypeId} {F : List Nat} (h : WS L s vs e F) (hk : ∀ i ∈ F, L'[i]? = L[i]?) : WS L' s vs e F := by
  rcases h with h | ⟨c, cap, sp, h1, h2, hc, rfl⟩
  · exact .inl h
  · exact .inr ⟨c, cap, sp, h1, by rw [hk c (by simp), h2], hc, rfl⟩
theorem WS.rd {L : LHeap} {s : Sl} {vs : List Value} {e : TypeId} {F : List Nat} (h : WS L s vs e F) : Rd L s vs F := by
  rcases h with ⟨rfl, rfl, rfl⟩ | ⟨c, cap, sp, rfl, h2, hc, rfl⟩
  · exact ⟨rfl, .inl ⟨rfl, rfl⟩⟩
  · exact ⟨rfl, .inr ⟨c, 0, vs, e, false, sp, rfl, h2, fun i _ => by simp, rfl⟩⟩
theorem WS.within {L : LHeap} {s : Sl} {vs : List Value} {e : TypeId} {F : List Nat} (h : WS L s vs e F) : Within F L := h.rd.within
theorem WS.len {L : LHeap} {s : Sl} {vs : List Value} {e : TypeId} {F : List Nat} (h : WS L s vs e F) : s.n = vs.length := h.rd.len
theorem WS.put {L : LHeap} {s : Sl} {vs : List Value} {e : TypeId} {F : List Nat} (h : WS L s vs e F) {i : Nat} (hi : i < vs.length) (v : Value) :
    ∃ a L', idx s (i : Int) 1 = some a ∧ stores L a [v] = some L' ∧ WS L' s (vs.set i v) e F ∧ Step F L F L' := by
  rcases h with ⟨rfl, rfl, rfl⟩ | ⟨c, cap, sp, rfl, h2, hc, rfl⟩
  · simp at hi
  · refine ⟨⟨c, 0 + i * 1, none⟩, _, idx_of hi, stores_of h2 (by simp; omega), .inr ⟨c, cap, sp, by simp, ?_, by simpa using hc, rfl⟩, .set _ (by simp)⟩
    rw [get_set_self h2]; simp [setAll]
theorem flat_rep (n : Nat) (v : Value) : List.flatten (List.replicate n [v]) = List.replicate n v := by
  induction n with
  | zero => rfl
  | succ n ih => simp [List.replicate_succ, ih]
theorem WS.made {L : LHeap} {n : Nat} {v : Value} {e : TypeId} : WS (L ++ [LBlk.cells (List.flatten (List.replicate n [v])) e false 0]) ⟨some ⟨L.length, 0, none⟩, n, n⟩ (List.replicate n v) e [L.length] :=
  .inr ⟨L.length, n, 0, by simp, by rw [get_new, flat_rep], .inl (by simp), rfl⟩
theorem WS.lit {L : LHeap} {vs : List Value} {e : TypeId} {n : Nat} (hn : n = vs.length) : WS (L ++ [LBlk.cells vs e false 0]) ⟨some ⟨L.length, 0, none⟩, n, n⟩ vs e [L.length] :=
  .inr ⟨L.length, n, 0, by simp [hn], get_new, .inl hn, rfl⟩
theorem room_ok {n b : Nat} (h1 : n * b ≤ 2 ^ 47) (h2 : n < 2 ^ 62) : room (n : Int) (n : Int) b = true := by
  rw [room_iff]
  have : (n : Int) * (b : Int) = ((n * b : Nat) : Int) := by push_cast; rfl
  rw [this]
  omega
def OP (L : LHeap) (s : Sl) (vs : List Value) (e : TypeId) (F : List Nat) : Prop :=
  (s = ⟨none, 0, 0⟩ ∧ vs = [] ∧ F = []) ∨ ∃ c rest, s = ⟨some ⟨c, 0, none⟩, vs.length, OPEN⟩ ∧ L[c]? = some (.cells (vs ++ rest) e false 1) ∧ F = [c]
theorem OP.nil (L : LHeap) (e : TypeId) : OP L ⟨none, 0, 0⟩ [] e [] := .inl ⟨rfl, rfl, rfl⟩
theorem OP.mono {L L' : LHeap} {s : Sl} {vs : List Value} {e : TypeId} {F : List Nat} (h : OP L s vs e F) (hk : ∀ i ∈ F, L'[i]? = L[i]?) : OP L' s vs e F := by
  rcases h with h | ⟨c, rest, h1, h2, rfl⟩
  · exact .inl h
  · exact .inr ⟨c, rest, h1, by rw [hk c (by simp), h2], rfl⟩
theorem OP.rd {L : LHeap} {s : Sl} {vs : List Value} {e : TypeId} {F : List Nat} (h : OP L s vs e F) : Rd L s vs F := by
  rcases h with ⟨rfl, rfl, rfl⟩ | ⟨c, rest, rfl, h2, rfl⟩
  · exact ⟨rfl, .inl ⟨rfl, rfl⟩⟩
  · exact ⟨rfl, .inr ⟨c, 0, vs ++ rest, e, false, 1, rfl, h2, fun i hi => by rw [Nat.zero_add, List.getElem?_append_left hi], rfl⟩⟩
theorem OP.within {L : LHeap} {s : Sl} {vs : List Value} {e : TypeId} {F : List Nat} (h : OP L s vs e F) : Within F L := h.rd.within
theorem OP.len {L : LHeap} {s : Sl} {vs : List Value} {e : TypeId} {F : List Nat} (h : OP L s vs e F) : s.n = vs.length := h.rd.len
theorem setAll_append (a b news rest : List Value) (h : rest.length = news.length) : setAll (a ++ rest ++ b) a.length news = a ++ news ++ b := by
  induction news generalizing a rest with
  | nil => obtain rfl := List.eq_nil_of_length_eq_zero h; rfl
  | cons x xs ih =>
    cases rest with
    | nil => simp at h
    | cons r rest =>
      simp only [setAll]
      have e : (a ++ r :: rest ++ b).set a.length x = a ++ [x] ++ rest ++ b := by simp [List.set_append_right]
      have := ih (a ++ [x]) rest (by simpa using h)
      simp only [List.length_append, List.length_singleton] at this
      rw [e, this]
      simp
theorem OP.app {L : LHeap} {s : Sl} {vs : List Value} {e : TypeId} {F : List Nat} (h : OP L s vs e F) (news : List Value) (bytes : Nat) (hne : news ≠ [])
    (hb : (vs.length + news.length) * bytes ≤ 2 ^ 47) (hl : vs.length + news.length ≤ 2 ^ 62) :
    ∃ s' L' F', Rlm.app L e 1 bytes s news.length news = some (s', L') ∧ OP L' s' (vs ++ news) e F' ∧ Step F L F' L' := by
  rcases h with h | ⟨c, rest, rfl, h2, rfl⟩
  · have ho : OS L s vs e F := .inl h
    obtain ⟨s', L', F', h1, h2, h3⟩ := ho.app news bytes hb hl
    refine ⟨s', L', F', h1, ?_, h3⟩
    rcases h2 with h2 | ⟨c, g1, g2, g3⟩
    · exact .inl h2
    · exact .inr ⟨c, [], g1, by simpa using g2, g3⟩
  · have hbl := blen_of (o := 0) h2
    simp only [Rlm.app]
    rw [show Nat.blt OPEN OPEN = false by decide, show Nat.beq OPEN OPEN = true from Nat.beq_refl _]
    simp only [cond_true, cond_false, hbl, Nat.sub_zero, List.length_append]
    have hem : news.isEmpty = false := by cases news <;> simp_all
    by_cases hr : news.length ≤ rest.length
    · rw [Nat.ble_eq_true_of_le (by omega), cond_true, hem, cond_false]
      have hsp : rest = rest.take news.length ++ rest.drop news.length := (List.take_append_drop _ _).symm
      refine ⟨⟨some ⟨c, 0, none⟩, vs.length + news.length, OPEN⟩, L.set c (.cells (vs ++ news ++ rest.drop news.length) e false 1), [c], ?_, .inr ⟨c, rest.drop news.length, by simp, by rw [get_set_self h2], rfl⟩, .set _ (by simp)⟩
      rw [mk_add, stores_of h2 (by simp; omega)]
      simp only [Nat.zero_add, Nat.mul_one, Option.bind_eq_bind, Option.bind_some]
      congr 3
      have := setAll_append vs (rest.drop news.length) news (rest.take news.length) (by simp; omega)
      rw [List.append_assoc vs, List.take_append_drop] at this
      rw [this]
    · have hf : Nat.ble (vs.length + news.length) (vs.length + rest.length) = false := by
        cases hc : Nat.ble (vs.length + news.length) (vs.length + rest.length) with
        | false => rfl
        | true => have := Nat.le_of_ble_eq_true hc; omega
      rw [hf, Nat.ble_eq_true_of_le hb, Nat.ble_eq_true_of_le hl]
      refine ⟨⟨some ⟨L.length, 0, none⟩, vs.length + news.length, OPEN⟩, L.set c .dead ++ [.cells (vs ++ news) e false 1], [L.length], ?_, .inr ⟨L.length, [], by simp, by rw [← (List.length_set : (L.set c LBlk.dead).length = L.length), get_new]; simp, rfl⟩, ?_⟩
      · simp [h2, Nat.ble_eq_true_of_le]
      · refine ⟨by simp, fun i hi hn => ?_, fun i hi => by simp at hi; subst hi; exact .inr (Nat.le_refl _)⟩
        rw [get_push (by simpa using hi), get_set_ne (fun e => hn (by simp [e]))]
/-- A slice that is read, and of which it is known enough to cut it. -/
def CS (L : LHeap) (s : Sl) (vs : List Value) (A : List Nat) : Prop :=
  Rd L s vs A ∧ (vs = [] ∨ (s.c < OPEN ∧ s.n ≤ s.c) ∨ (s.c = OPEN ∧ ∃ (c o : Nat) (cs : List Value) (e : TypeId) (ro : Bool), s.a = some ⟨c, o, none⟩ ∧ L[c]? = some (.cells cs e ro 1) ∧ o + s.n ≤ cs.length ∧ A = [c]))
theorem CS.rd {L : LHeap} {s : Sl} {vs : List Value} {A : List Nat} (h : CS L s vs A) : Rd L s vs A := h.1
theorem CS.mono {L L' : LHeap} {s : Sl} {vs : List Value} {A : List Nat} (h : CS L s vs A) (hk : ∀ i ∈ A, L'[i]? = L[i]?) : CS L' s vs A := by
  refine ⟨h.1.mono hk, ?_⟩
  rcases h.2 with h | h | ⟨h1, c, o, cs, e, ro, h2, h3, h4, rfl⟩
  · exact .inl h
  · exact .inr (.inl h)
  · exact .inr (.inr ⟨h1, c, o, cs, e, ro, h2, by rw [hk c (by simp), h3], h4, rfl⟩)
theorem WS.cs {L : LHeap} {s : Sl} {vs : List Value} {e : TypeId} {F : List Nat} (h : WS L s vs e F) (hs : vs.length < OPEN) : CS L s vs F := by
  refine ⟨h.rd, ?_⟩
  rcases h with ⟨rfl, rfl, rfl⟩ | ⟨c, cap, sp, rfl, h2, hc, rfl⟩
  · exact .inl rfl
  · rcases hc with rfl | ⟨rfl, rfl⟩
    · exact .inr (.inl ⟨hs, Nat.le_refl _⟩)
    · exact .inr (.inr ⟨rfl, c, 0, vs, e, false, rfl, h2, by simp, rfl⟩)
theorem Rd.drop {L : LHeap} {c o n cap cap' : Nat} {vs : List Value} {A : List Nat} (h : Rd L ⟨some ⟨c, o, none⟩, vs.length, cap⟩ vs A) (hn : n ≤ vs.length) :
    ∃ A', Rd L ⟨some ⟨c, o + n, none⟩, vs.length - n, cap'⟩ (vs.drop n) A' ∧ (∀ i ∈ A', i ∈ A) ∧ (n < vs.length → A' = A) := by
  obtain ⟨h1, ⟨rfl, rfl⟩ | ⟨c', o', cs, e, ro, sp, h2, h3, h4, rfl⟩⟩ := h
  · exact ⟨[], ⟨by simp, .inl ⟨by simp, rfl⟩⟩, (fun i hi => by cases hi), (fun h => by simp at h)⟩
  · simp only [Option.some.injEq, Addr.mk.injEq, and_true] at h2
    obtain ⟨rfl, rfl⟩ := h2
    refine ⟨[c], ⟨by simp, .inr ⟨c, o + n, cs, e, ro, sp, rfl, h3, fun i hi => ?_, rfl⟩⟩, fun i hi => hi, fun _ => rfl⟩
    simp at hi
    rw [List.getElem?_drop, Nat.add_assoc]
    exact h4 (n + i) (by omega)
theorem bound_at {i y : Nat} (d : Nat) (h : i ≤ y) : bound (some (i : Int)) d y = some i := by
  simp only [bound]
  rw [decide_eq_true (by omega), decide_eq_true (by omega)]
  simp
theorem bound_out {d y : Nat} (h : d ≤ y) : bound none d y = some d := by
  simp only [bound, Nat.ble_eq_true_of_le h, cond_true]
theorem CS.cut {L : LHeap} {s : Sl} {vs : List Value} {A : List Nat} (h : CS L s vs A) {n : Nat} (h0 : 0 < n) (hn : n ≤ vs.length) :
    ∃ s' A', Rlm.cut L s (some (n : Int)) none none 1 = some s' ∧ CS L s' (vs.drop n) A' ∧ ∀ i ∈ A', i ∈ A := by
  obtain ⟨hr, hc⟩ := h
  have hlen := hr.len
  obtain ⟨sa, sn, sc⟩ := s
  simp only at hlen hc
  subst hlen
  obtain ⟨c, o, hsa⟩ : ∃ c o, sa = some ⟨c, o, none⟩ := by
    obtain ⟨_, ⟨rfl, _⟩ | ⟨c, o, cs, e, ro, sp, h2, _⟩⟩ := hr
    · simp at hn; omega
    · exact ⟨c, o, h2⟩
  subst hsa
  have hne : vs ≠ [] := fun e => by subst e; simp at hn; omega
  rcases hc with hc | ⟨hc1, hc2⟩ | ⟨hc1, c', o', cs, e, ro, h2, h3, h4, rfl⟩
  · exact absurd hc hne
  · have hb : Nat.blt sc OPEN = true := by simpa using hc1
    simp only [Rlm.cut, hb, cond_true, Option.isSome_none, cond_false, bound_out (Nat.le_refl sc), bound_out hc2, bound_at 0 hn, Option.bind_eq_bind, Option.bind_some]
    obtain ⟨A', g1, g2, g3⟩ := hr.drop (cap' := sc - n) hn
    by_cases he : sc = n
    · rw [if_pos he]
      have : vs.drop n = [] := List.drop_of_length_le (by omega)
      exact ⟨_, [], rfl, ⟨⟨by simp, .inl ⟨this, rfl⟩⟩, .inl this⟩, fun i hi => by cases hi⟩
    · rw [if_neg he]
      refine ⟨_, A', rfl, ⟨?_, .inr (.inl ⟨by simp only; omega, by simp only; omega⟩)⟩, g2⟩
      simpa [Option.map, mk_add] using g1
  · subst hc1
    simp only [Option.some.injEq, Addr.mk.injEq, and_true] at h2
    obtain ⟨rfl, rfl⟩ := h2
    have hb : Nat.blt OPEN OPEN = false := rfl
    have hbl : blen L ⟨c, o, none⟩ 1 = some (cs.length - o) := by simp [blen, h3, show Nat.blt 0 1 = true from rfl]
    simp only [Rlm.cut, hb, cond_false, Nat.beq_refl, cond_true, hbl, Option.bind_eq_bind, Option.bind_some, bound_out (show vs.length ≤ cs.length - o by omega), bound_at 0 hn]
    rw [if_neg (by omega)]
    obtain ⟨A', g1, g2, g3⟩ := hr.drop (cap' := OPEN) hn
    by_cases he : n < cs.length - o
    · rw [if_pos he]
      refine ⟨_, A', rfl, ⟨by simpa [mk_add] using g1, ?_⟩, g2⟩
      by_cases hx : n < vs.length
      · refine .inr (.inr ⟨rfl, c, o + n, cs, e, ro, by simp [mk_add], h3, by simp only; omega, g3 hx⟩)
      · exact .inl (List.drop_of_length_le (by omega))
    · rw [if_neg he]
      have : vs.drop n = [] := List.drop_of_length_le (by omega)
      exact ⟨_, [], rfl, ⟨⟨by rw [this]; rfl, .inl ⟨this, rfl⟩⟩, .inl this⟩, fun i hi => by cases hi⟩
end Go.Rlm
end

section
set_option maxRecDepth 100000
namespace Go.Proofs.YtffcfaabjodpcaaDoor
open Go Go.Rlm
theorem bad_ok (n : Int) : V.f41 0 n = ok (.bool (badC n)) := by
  rw [V.f41_eq]
  unfold badC
  generalize decide (n < 97) = b1
  generalize decide (n > 122) = b2
  generalize decide (n < 48) = b3
  generalize decide (n > 57) = b4
  generalize (n != 95) = b5
  cases b1 <;> cases b2 <;> cases b3 <;> cases b4 <;> rfl
theorem pureBad : PureOk globs Tryd.prog 41 badP :=
  .runs (T := V.T) (n := 0) specV X.mixed X.named (by decide) fun args L r0 r hr hreal => by
    unfold badP at hr
    split at hr
    case h_2 => cases hr
    injection hr with hr
    subst hr
    injection hreal with hreal
    subst hreal
    exact ⟨_, rfl, rfl, rfl, bad_ok _⟩
theorem pureNumbers : PureOk globs Tryd.prog 38 numbersP :=
  .runs (T := V.T) (n := 0) specV X.mixed X.named (by decide) fun args L r0 r hr hreal => by
    unfold numbersP at hr
    split at hr
    case h_2 => cases hr
    injection hr with hr
    subst hr
    injection hreal with hreal
    subst hreal
    exact ⟨_, rfl, rfl, rfl, V.f38_eq 0 _ _ _ _ _ _ _⟩
theorem pureIndex : PureOk globs Tryd.prog 36 indexP :=
  .steps (T := V.T) (n := 5) specV X.mixed X.named Tryd.func36 rfl (by decide) fun args L r0 r hr hreal => by
    unfold indexP at hr
    split at hr
    case h_2 => cases hr
    injection hr with hr
    subst hr
    injection hreal with hreal
    subst hreal
    rename_i s c
    refine ⟨?_, rfl⟩
    show V.f36 5 s c L = _
    rw [V.f36_eq, V.f55_eq, lbind_ret, asI_int, obind_some]
theorem cut_find (s : ByteArray) (c : UInt8) (L : LHeap) : V.f69 4 s ⟨#[c]⟩ L = some (.ret (.int .i64 (firstIdx s c)) L) := by
  rw [V.f69_eq, show ((ByteArray.mk #[c]).size : Int) = 1 from rfl, show ((1 : Int) == 0) = false from rfl, lif_false]
  cases h : (ByteArray.toList ⟨#[c]⟩ == s.toList) with
  | true =>
    have h := eq_of_beq h
    have e : s = bs [c] := by
      have h2 := congrArg List.length h
      rw [Go.ByteArray.toList_eq] at h h2
      rw [Go.ByteArray.toList_eq] at h
      rw [← bs_data s, ← h]
    rw [e, firstIdx_bs, lif_true]
    unfold partC
    simp
  | false =>
    rw [lif_false, show ((1 : Int) == 1) = true from rfl, lif_true, show byteAt (ByteArray.mk #[c]) 0 = some (c.toNat : Int) from rfl, obind_some, V.f55_eq, lbind_ret, asI_int, obind_some]
    simp
theorem pureCut : PureOk globs Tryd.prog 35 cutP :=
  .steps (T := V.T) (n := 6) specV X.mixed X.named Tryd.func35 rfl (by decide) fun args L r0 r hr hreal => by
    unfold cutP at hr
    split at hr
    case h_2 => cases hr
    rename_i s c
    injection hr with hr
    subst hr
    obtain ⟨h1, rfl⟩ := gate_real hreal
    have h1 := Nat.le_of_ble_eq_true h1
    refine ⟨?_, rfl⟩
    show V.f35 6 s ⟨#[c]⟩ L = _
    rw [V.f35_eq, V.f54_eq, cut_find, lbind_ret, asI_int, obind_some]
    obtain ⟨l, rfl⟩ : ∃ l, s = bs l := ⟨s.data.toList, (bs_data s).symm⟩
    rw [bs_size] at h1
    rw [firstIdx_bs]
    unfold cutA cutB
    rw [bs_toList]
    cases hp : partC c l with
    | none =>
      simp only [show decide ((-1 : Int) ≥ 0) = false from rfl, lif_false, lbind_ret, tupL_tuple, obind_some, uncons_cons, asS_string, asB_bool, nilL_nil]
      rfl
    | some p =>
      obtain ⟨a, b⟩ := p
      obtain ⟨rfl, _⟩ := partC_some hp
      simp only [List.length_append, List.length_cons] at h1
      have e1 : subS (bs (a ++ c :: b)) none (some (a.length : Int)) = some (bs a) := by
        simp only [subS, bound_at (bs (a ++ c :: b)).size (show a.length ≤ (bs (a ++ c :: b)).size by rw [bs_size]; simp), bound_out (Nat.zero_le _), Option.bind_eq_bind, Option.bind_some]
        rw [bs_extract]
        simp
      have e2 : subS (bs (a ++ c :: b)) (some (IntKind.wrap .i64 ((a.length : Int) + 1))) none = some (bs b) := by
        rw [wI64 (by omega) (by omega), show (a.length : Int) + 1 = ((a.length + 1 : Nat) : Int) by omega]
        simp only [subS, bound_out (Nat.le_refl (bs (a ++ c :: b)).size), bound_at 0 (show a.length + 1 ≤ (bs (a ++ c :: b)).size by rw [bs_size]; simp), Option.bind_eq_bind, Option.bind_some]
        rw [bs_extract, bs_size, List.take_of_length_le (Nat.le_refl _), show a ++ c :: b = (a ++ [c]) ++ b by simp, List.drop_left' (by simp)]
      simp only [decide_eq_true (show (a.length : Int) ≥ 0 by omega), lif_true]
      rw [e1, obind_some, show ((ByteArray.mk #[c]).size : Int) = 1 from rfl, e2, obind_some]
      simp only [lbind_ret, tupL_tuple, obind_some, uncons_cons, asS_string, asB_bool, nilL_nil]
      rfl
theorem specN : SpecOk globs Tryd.prog N.T :=
  .more pureBad <| .more pureNumbers <| .more pureIndex <| .more pureCut <| .more pureAtoi <| .more pureItoa specV
theorem any_bad {k b : Nat} {l : List UInt8} {L : LHeap} {e : TypeId} {ro : Bool} {sp : Nat} (hb : L[b]? = some (.cells (l.map fun x => .int .u8 x.toNat) e ro sp)) (hl : l.length < 1000000) :
    ∀ (q i j : Nat), i + q = l.length → q < j → ∃ r : Int, N.f59_l2 k j ⟨some ⟨b, 0, none⟩, l.length, OPEN⟩ (.func (.func 41) #[] #[]) (l.length : Int) (i : Int) L = some (.ret (.int .i64 r) L) ∧ decide (r ≥ 0) = (l.drop i).any fun c => badC c.toNat := by
  intro q
  induction q with
  | zero =>
    intro i j hi hj
    obtain ⟨j, rfl⟩ : ∃ j', j = j' + 1 := ⟨j - 1, by omega⟩
    refine ⟨-1, ?_, ?_⟩
    · rw [N.f59_l2_eq, decide_eq_false (by omega), lif_false]
    · rw [List.drop_of_length_le (by omega)]; rfl
  | succ q ih =>
    intro i j hi hj
    obtain ⟨j, rfl⟩ : ∃ j', j = j' + 1 := ⟨j - 1, by omega⟩
    have hlt : i < l.length := by omega
    have hc : cell L ⟨b, 0 + i * 1, none⟩ = some (.int .u8 (l[i].toNat : Int)) := by
      rw [cell_of hb]
      simp [hlt]
    have hcall : lapp (callee N.T (lcall Tryd.prog N.T k)) (.func (.func 41) #[] #[]) [.int .u8 (l[i].toNat : Int)] L = some (.ret (.bool (badC (l[i].toNat : Int))) L) := rfl
    rw [List.drop_eq_getElem_cons hlt, List.any_cons]
    cases hbad : badC (l[i].toNat : Int) with
    | true =>
      refine ⟨i, ?_, ?_⟩
      · rw [N.f59_l2_eq, decide_eq_true (by omega), lif_true, idx_of hlt, obind_some, hc, Option.bind_some, asI_int, obind_some, hcall, lbind_ret, asB_bool, obind_some, hbad, lif_true]
      · rw [Bool.true_or, decide_eq_true (by omega)]
    | false =>
      obtain ⟨r, h1, h2⟩ := ih (i + 1) j (by omega) (by omega)
      refine ⟨r, ?_, by rw [Bool.false_or]; exact h2⟩
      rw [N.f59_l2_eq, decide_eq_true (by omega), lif_true, idx_of hlt, obind_some, hc, Option.bind_some, asI_int, obind_some, hcall, lbind_ret, asB_bool, obind_some, hbad, lif_false, wI64 (by omega) (by omega)]
      exact h1
theorem place_ok (p : Plc) : N.f23 200 p.base p.idx p.k p.d p.r p.z p.m = ok (.bool (placeB p)) := by
  rw [N.f23_eq]
  unfold placeB
  cases hs : shapeB p.d p.r p.z p.m with
  | false => rfl
  | true =>
    have hs' := shapeB_iff.1 hs
    rw [Bool.not_true, lif_false, Bool.true_and]
    have h0 : (p.base.toList == ByteArray.toList ⟨#[]⟩) = (p.base.size == 0) := by
      rw [Go.ByteArray.toList_eq, Go.ByteArray.toList_eq, size_data]
      cases p.base.data.toList <;> rfl
    rw [h0]
    cases h1 : (p.base.size == 0) with
    | true => rfl
    | false =>
      rw [lif_false]
      by_cases h2 : p.base.size > 60
      · rw [decide_eq_true (by omega), decide_eq_true h2]; rfl
      rw [decide_eq_false (by omega), decide_eq_false h2, lif_false]
      by_cases h3 : p.k < 1
      · rw [decide_eq_true h3]; rfl
      rw [decide_eq_false h3, lif_false, wI64 (n := 96 - p.m) (by omega) (by omega)]
      by_cases h4 : p.k > 96 - p.m
      · rw [decide_eq_true h4]; rfl
      rw [decide_eq_false h4, lif_false]
      by_cases h5 : p.idx < 0
      · rw [decide_eq_true h5]; rfl
      rw [decide_eq_false h5, lif_false, wI64 (n := p.k + p.m) (by omega) (by omega)]
      by_cases h6 : p.idx ≥ p.k + p.m
      · rw [decide_eq_true h6]; rfl
      rw [decide_eq_false h6, lif_false]
      have hsz := size_data p.base
      obtain ⟨r, e1, e2⟩ := any_bad (k := 198) (b := 1) (l := p.base.data.toList) (e := 5) (ro := false) (sp := 1)
        (L := [LBlk.cells [.string p.base, .int .i64 p.idx, .int .i64 p.k, .int .i64 p.d, .int .i64 p.r, .int .i64 p.z, .int .i64 p.m] 41 false 0, .cells (byteCells p.base) 5 false 1]) rfl (by omega) p.base.data.toList.length 0 198 (by omega) (by omega)
      have hcall : lcall Tryd.prog N.T 200 40 [.slice (some ⟨1, 0, none⟩) p.base.size OPEN, .func (.func 41) #[] #[]] [LBlk.cells [.string p.base, .int .i64 p.idx, .int .i64 p.k, .int .i64 p.d, .int .i64 p.r, .int .i64 p.z, .int .i64 p.m] 41 false 0, .cells (byteCells p.base) 5 false 1] =
          some (.ret (.bool (p.base.data.toList.any fun c => badC c.toNat)) [LBlk.cells [.string p.base, .int .i64 p.idx, .int .i64 p.k, .int .i64 p.d, .int .i64 p.r, .int .i64 p.z, .int .i64 p.m] 41 false 0, .cells (byteCells p.base) 5 false 1]) := by
        show N.f40 200 ⟨some ⟨1, 0, none⟩, p.base.size, OPEN⟩ _ _ = _
        rw [N.f40_eq, N.f59_eq, hsz]
        have e1 := e1
        rw [Int.natCast_zero] at e1
        rw [e1, lbind_ret, asI_int, obind_some, e2, List.drop_zero]
      rw [hcall, lbind_ret, asB_bool, obind_some]
      rfl
theorem purePlace : PureOk globs Tryd.prog 23 placeP :=
  .runs (T := N.T) (n := 200) specN X.mixed X.named (by decide) fun args L r0 r hr hreal => by
    unfold placeP at hr
    split at hr
    case h_2 => cases hr
    injection hr with hr
    subst hr
    injection hreal with hreal
    subst hreal
    rename_i b i k d r z m
    exact ⟨_, rfl, rfl, rfl, place_ok ⟨b, i, k, d, r, z, m⟩⟩
theorem specM : SpecOk globs Tryd.prog M.T := .more purePlace specN
end Go.Proofs.YtffcfaabjodpcaaDoor
end

section
set_option maxRecDepth 100000
set_option linter.unusedVariables false
namespace Go.Proofs.YtffcfaabjodpcaaDoor.M
open Go Go.Rlm
/-- hamper/slice.Name -/
noncomputable def f22 (k : Nat) (s0 : ByteArray) (n1 : Int) (n2 : Int) (n3 : Int) (n4 : Int) (n5 : Int) (n6 : Int) : R :=
  lpure Tryd.prog T k 22
  [Value.agg #[Value.string s0, Value.int IntKind.i64 n1, Value.int IntKind.i64 n2, Value.int IntKind.i64 n3, Value.int IntKind.i64 n4, Value.int IntKind.i64 n5, Value.int IntKind.i64 n6]]
theorem f22_eq (k : Nat) (s0 : ByteArray) (n1 : Int) (n2 : Int) (n3 : Int) (n4 : Int) (n5 : Int) (n6 : Int) : f22 (k + 8) s0 n1 n2 n3 n4 n5 n6 =
 lif (!placeB (Plc.mk s0 n1 n2 n3 n4 n5 n6)) (ok (Value.tuple #[Value.string (ByteArray.mk #[]), Value.int IntKind.i64 1]))
 (when (fitsS (ByteArray.size s0 + ByteArray.size (ByteArray.mk #[46])))
 (obind (subS (ByteArray.mk #[100, 114, 115, 109, 107, 118]) (some 0) (some 1)) fun s7 =>
 when (decide (0 ≤ n3) && decide (n3 < 1000000000000000000))
 (when (fitsS (ByteArray.size s7 + ByteArray.size (itoaS (Int.toNat n3))))
 (when (fitsS (ByteArray.size (s0 ++ ByteArray.mk #[46]) + ByteArray.size (s7 ++ itoaS (Int.toNat n3))))
 (obind (subS (ByteArray.mk #[100, 114, 115, 109, 107, 118]) (some 1) (some 2)) fun s8 =>
 when (decide (0 ≤ n4) && decide (n4 < 1000000000000000000))
 (when (fitsS (ByteArray.size s8 + ByteArray.size (itoaS (Int.toNat n4))))
 (when (fitsS (ByteArray.size (s0 ++ ByteArray.mk #[46] ++ (s7 ++ itoaS (Int.toNat n3))) + ByteArray.size (s8 ++ itoaS (Int.toNat n4))))
 (obind (subS (ByteArray.mk #[100, 114, 115, 109, 107, 118]) (some 2) (some 3)) fun s9 =>
 when (decide (0 ≤ n5) && decide (n5 < 1000000000000000000))
 (when (fitsS (ByteArray.size s9 + ByteArray.size (itoaS (Int.toNat n5))))
 (when (fitsS (ByteArray.size (s0 ++ ByteArray.mk #[46] ++ (s7 ++ itoaS (Int.toNat n3)) ++ (s8 ++ itoaS (Int.toNat n4))) + ByteArray.size (s9 ++ itoaS (Int.toNat n5))))
 (obind (subS (ByteArray.mk #[100, 114, 115, 109, 107, 118]) (some 3) (some 4)) fun s10 =>
 when (decide (0 ≤ n6) && decide (n6 < 1000000000000000000))
 (when (fitsS (ByteArray.size s10 + ByteArray.size (itoaS (Int.toNat n6))))
 (when
 (fitsS
 (ByteArray.size (s0 ++ ByteArray.mk #[46] ++ (s7 ++ itoaS (Int.toNat n3)) ++ (s8 ++ itoaS (Int.toNat n4)) ++ (s9 ++ itoaS (Int.toNat n5))) +
 ByteArray.size (s10 ++ itoaS (Int.toNat n6))))
 (obind (subS (ByteArray.mk #[100, 114, 115, 109, 107, 118]) (some 4) (some 5)) fun s11 =>
 when (decide (0 ≤ n2) && decide (n2 < 1000000000000000000))
 (when (fitsS (ByteArray.size s11 + ByteArray.size (itoaS (Int.toNat n2))))
 (when
 (fitsS
 (ByteArray.size
 (s0 ++ ByteArray.mk #[46] ++ (s7 ++ itoaS (Int.toNat n3)) ++ (s8 ++ itoaS (Int.toNat n4)) ++ (s9 ++ itoaS (Int.toNat n5)) ++
 (s10 ++ itoaS (Int.toNat n6))) +
 ByteArray.size (s11 ++ itoaS (Int.toNat n2))))
 (obind (subS (ByteArray.mk #[100, 114, 115, 109, 107, 118]) (some 5) (some 6)) fun s12 =>
 when (decide (0 ≤ n1) && decide (n1 < 1000000000000000000))
 (when (fitsS (ByteArray.size s12 + ByteArray.size (itoaS (Int.toNat n1))))
 (when
 (fitsS
 (ByteArray.size
 (s0 ++ ByteArray.mk #[46] ++ (s7 ++ itoaS (Int.toNat n3)) ++ (s8 ++ itoaS (Int.toNat n4)) ++ (s9 ++ itoaS (Int.toNat n5)) ++
 (s10 ++ itoaS (Int.toNat n6)) ++
 (s11 ++ itoaS (Int.toNat n2))) +
 ByteArray.size (s12 ++ itoaS (Int.toNat n1))))
 (ok
 (Value.tuple
 #[Value.string
 (s0 ++ ByteArray.mk #[46] ++ (s7 ++ itoaS (Int.toNat n3)) ++ (s8 ++ itoaS (Int.toNat n4)) ++ (s9 ++ itoaS (Int.toNat n5)) ++
 (s10 ++ itoaS (Int.toNat n6)) ++
 (s11 ++ itoaS (Int.toNat n2)) ++
 (s12 ++ itoaS (Int.toNat n1))),
 Value.int IntKind.i64 0]))))))))))))))))))))) := by kernel_rfl
end Go.Proofs.YtffcfaabjodpcaaDoor.M
end

section
set_option maxRecDepth 100000
set_option linter.unusedVariables false
namespace Go.Proofs.YtffcfaabjodpcaaDoor.K
open Go Go.Rlm
/-- hamper/slice.Parse -/
noncomputable def f21 (k : Nat) (s0 : ByteArray) : R :=
  lpure Tryd.prog T k 21 [Value.string s0]
/-- slots 0, 2, 4, 5, 7, 21 -/
noncomputable def f21_l4 (k : Nat) (j4 : Nat) (s88 : ByteArray) (s89 : ByteArray) (s90 : ByteArray) (n91 : Int) (L : LHeap) : R :=
  loopAtD Tryd.prog T 21 k [1, 1, 1, 0, 1, 0] [] j4
  [(0, Value.string s88), (2, Value.pointer (some (Addr.mk 0 0 none))), (4, Value.string s89), (5, Value.string s90), (7, Value.pointer (some (Addr.mk 1 0 none))), (21, Value.int IntKind.i64 n91)] L
theorem f21_eq (k : Nat) (s0 : ByteArray) : f21 k s0 =
 when (Nat.ble (ByteArray.size s0) 1000000000000)
 (f21_l4 k k s0 (cutA s0 46) (cutB s0 46) 0
 [LBlk.cells [Value.string (ByteArray.mk #[]), Value.int IntKind.i64 0, Value.int IntKind.i64 0, Value.int IntKind.i64 0, Value.int IntKind.i64 0, Value.int IntKind.i64 0, Value.int IntKind.i64 0]
 41 false 0,
 LBlk.cells [Value.int IntKind.i64 0, Value.int IntKind.i64 0, Value.int IntKind.i64 0, Value.int IntKind.i64 0, Value.int IntKind.i64 0, Value.int IntKind.i64 0] 71 false 0]) := by kernel_rfl
theorem f21_l4_eq (k : Nat) (j4 : Nat) (s0 : ByteArray) (s1 : ByteArray) (s2 : ByteArray) (n3 : Int) (L : LHeap) : f21_l4 k (j4 + 1) s0 s1 s2 n3 L =
 lif (decide (n3 < 6))
 (lif (decide (IntKind.wrap IntKind.i64 (n3 + 1) < 6))
 (obind (byteAt (ByteArray.mk #[100, 114, 115, 109, 107, 118]) (IntKind.wrap IntKind.i64 (n3 + 1))) fun n4 =>
 lif (decide (firstIdx s2 (Nat.toUInt8 (Int.toNat n4)) < 1))
 (obind
 (stores L (Addr.mk 0 0 none)
 [Value.string (ByteArray.mk #[]), Value.int IntKind.i64 0, Value.int IntKind.i64 0, Value.int IntKind.i64 0, Value.int IntKind.i64 0, Value.int IntKind.i64 0, Value.int IntKind.i64 0])
 fun L5 =>
 obind (Option.bind (cell L5 (Addr.add (Addr.mk 0 0 none) 0)) asS) fun s6 =>
 obind (Option.bind (cell L5 (Addr.add (Addr.mk 0 0 none) 1)) (asI IntKind.i64)) fun n7 =>
 obind (Option.bind (cell L5 (Addr.add (Addr.mk 0 0 none) 2)) (asI IntKind.i64)) fun n8 =>
 obind (Option.bind (cell L5 (Addr.add (Addr.mk 0 0 none) 3)) (asI IntKind.i64)) fun n9 =>
 obind (Option.bind (cell L5 (Addr.add (Addr.mk 0 0 none) 4)) (asI IntKind.i64)) fun n10 =>
 obind (Option.bind (cell L5 (Addr.add (Addr.mk 0 0 none) 5)) (asI IntKind.i64)) fun n11 =>
 obind (Option.bind (cell L5 (Addr.add (Addr.mk 0 0 none) 6)) (asI IntKind.i64)) fun n12 =>
 ok
 (Value.tuple
 #[Value.agg
 #[Value.string s6, Value.int IntKind.i64 n7, Value.int IntKind.i64 n8, Value.int IntKind.i64 n9, Value.int IntKind.i64 n10, Value.int IntKind.i64 n11,
 Value.int IntKind.i64 n12],
 Value.int IntKind.i64 4]))
 (obind (subS s2 (some 1) (some (firstIdx s2 (Nat.toUInt8 (Int.toNat n4))))) fun s13 =>
 when (Nat.ble (ByteArray.size s13) 281474976710656)
 (lif (atoiOk s13)
 (obind (subS s2 (some (firstIdx s2 (Nat.toUInt8 (Int.toNat n4)))) none) fun s14 =>
 when (decide (0 ≤ n3))
 (when (decide (n3 < 6))
 (obind (stores L (Addr.add (Addr.mk 1 0 none) (Int.toNat n3 * 1)) [Value.int IntKind.i64 (atoiVal s13)]) fun L15 =>
 f21_l4 k j4 s0 s1 s14 (IntKind.wrap IntKind.i64 (n3 + 1)) L15)))
 (obind
 (stores (L ++ [LBlk.dead]) (Addr.mk 0 0 none)
 [Value.string (ByteArray.mk #[]), Value.int IntKind.i64 0, Value.int IntKind.i64 0, Value.int IntKind.i64 0, Value.int IntKind.i64 0, Value.int IntKind.i64 0,
 Value.int IntKind.i64 0])
 fun L16 =>
 obind (Option.bind (cell L16 (Addr.add (Addr.mk 0 0 none) 0)) asS) fun s17 =>
 obind (Option.bind (cell L16 (Addr.add (Addr.mk 0 0 none) 1)) (asI IntKind.i64)) fun n18 =>
 obind (Option.bind (cell L16 (Addr.add (Addr.mk 0 0 none) 2)) (asI IntKind.i64)) fun n19 =>
 obind (Option.bind (cell L16 (Addr.add (Addr.mk 0 0 none) 3)) (asI IntKind.i64)) fun n20 =>
 obind (Option.bind (cell L16 (Addr.add (Addr.mk 0 0 none) 4)) (asI IntKind.i64)) fun n21 =>
 obind (Option.bind (cell L16 (Addr.add (Addr.mk 0 0 none) 5)) (asI IntKind.i64)) fun n22 =>
 obind (Option.bind (cell L16 (Addr.add (Addr.mk 0 0 none) 6)) (asI IntKind.i64)) fun n23 =>
 ok
 (Value.tuple
 #[Value.agg
 #[Value.string s17, Value.int IntKind.i64 n18, Value.int IntKind.i64 n19, Value.int IntKind.i64 n20, Value.int IntKind.i64 n21, Value.int IntKind.i64 n22,
 Value.int IntKind.i64 n23],
 Value.int IntKind.i64 4])))))
 (lif (decide ((↑(ByteArray.size s2) : Int) < 1))
 (obind
 (stores L (Addr.mk 0 0 none)
 [Value.string (ByteArray.mk #[]), Value.int IntKind.i64 0, Value.int IntKind.i64 0, Value.int IntKind.i64 0, Value.int IntKind.i64 0, Value.int IntKind.i64 0, Value.int IntKind.i64 0])
 fun L24 =>
 obind (Option.bind (cell L24 (Addr.add (Addr.mk 0 0 none) 0)) asS) fun s25 =>
 obind (Option.bind (cell L24 (Addr.add (Addr.mk 0 0 none) 1)) (asI IntKind.i64)) fun n26 =>
 obind (Option.bind (cell L24 (Addr.add (Addr.mk 0 0 none) 2)) (asI IntKind.i64)) fun n27 =>
 obind (Option.bind (cell L24 (Addr.add (Addr.mk 0 0 none) 3)) (asI IntKind.i64)) fun n28 =>
 obind (Option.bind (cell L24 (Addr.add (Addr.mk 0 0 none) 4)) (asI IntKind.i64)) fun n29 =>
 obind (Option.bind (cell L24 (Addr.add (Addr.mk 0 0 none) 5)) (asI IntKind.i64)) fun n30 =>
 obind (Option.bind (cell L24 (Addr.add (Addr.mk 0 0 none) 6)) (asI IntKind.i64)) fun n31 =>
 ok
 (Value.tuple
 #[Value.agg
 #[Value.string s25, Value.int IntKind.i64 n26, Value.int IntKind.i64 n27, Value.int IntKind.i64 n28, Value.int IntKind.i64 n29, Value.int IntKind.i64 n30,
 Value.int IntKind.i64 n31],
 Value.int IntKind.i64 4]))
 (obind (subS s2 (some 1) (some (↑(ByteArray.size s2) : Int))) fun s32 =>
 when (Nat.ble (ByteArray.size s32) 281474976710656)
 (lif (atoiOk s32)
 (obind (subS s2 (some (↑(ByteArray.size s2) : Int)) none) fun s33 =>
 when (decide (0 ≤ n3))
 (when (decide (n3 < 6))
 (obind (stores L (Addr.add (Addr.mk 1 0 none) (Int.toNat n3 * 1)) [Value.int IntKind.i64 (atoiVal s32)]) fun L34 =>
 f21_l4 k j4 s0 s1 s33 (IntKind.wrap IntKind.i64 (n3 + 1)) L34)))
 (obind
 (stores (L ++ [LBlk.dead]) (Addr.mk 0 0 none)
 [Value.string (ByteArray.mk #[]), Value.int IntKind.i64 0, Value.int IntKind.i64 0, Value.int IntKind.i64 0, Value.int IntKind.i64 0, Value.int IntKind.i64 0, Value.int IntKind.i64 0])
 fun L35 =>
 obind (Option.bind (cell L35 (Addr.add (Addr.mk 0 0 none) 0)) asS) fun s36 =>
 obind (Option.bind (cell L35 (Addr.add (Addr.mk 0 0 none) 1)) (asI IntKind.i64)) fun n37 =>
 obind (Option.bind (cell L35 (Addr.add (Addr.mk 0 0 none) 2)) (asI IntKind.i64)) fun n38 =>
 obind (Option.bind (cell L35 (Addr.add (Addr.mk 0 0 none) 3)) (asI IntKind.i64)) fun n39 =>
 obind (Option.bind (cell L35 (Addr.add (Addr.mk 0 0 none) 4)) (asI IntKind.i64)) fun n40 =>
 obind (Option.bind (cell L35 (Addr.add (Addr.mk 0 0 none) 5)) (asI IntKind.i64)) fun n41 =>
 obind (Option.bind (cell L35 (Addr.add (Addr.mk 0 0 none) 6)) (asI IntKind.i64)) fun n42 =>
 ok
 (Value.tuple
 #[Value.agg
 #[Value.string s36, Value.int IntKind.i64 n37, Value.int IntKind.i64 n38, Value.int IntKind.i64 n39, Value.int IntKind.i64 n40, Value.int IntKind.i64 n41,
 Value.int IntKind.i64 n42],
 Value.int IntKind.i64 4]))))))
 (obind (Option.bind (cell L (Addr.add (Addr.mk 1 0 none) 5)) (asI IntKind.i64)) fun n43 =>
 obind (Option.bind (cell L (Addr.add (Addr.mk 1 0 none) 4)) (asI IntKind.i64)) fun n44 =>
 obind (Option.bind (cell L (Addr.add (Addr.mk 1 0 none) 0)) (asI IntKind.i64)) fun n45 =>
 obind (Option.bind (cell L (Addr.add (Addr.mk 1 0 none) 1)) (asI IntKind.i64)) fun n46 =>
 obind (Option.bind (cell L (Addr.add (Addr.mk 1 0 none) 2)) (asI IntKind.i64)) fun n47 =>
 obind (Option.bind (cell L (Addr.add (Addr.mk 1 0 none) 3)) (asI IntKind.i64)) fun n48 =>
 obind
 (stores
 (L ++
 [LBlk.cells
 [Value.string (ByteArray.mk #[]), Value.int IntKind.i64 0, Value.int IntKind.i64 0, Value.int IntKind.i64 0, Value.int IntKind.i64 0, Value.int IntKind.i64 0,
 Value.int IntKind.i64 0]
 41 false 0])
 (Addr.mk (List.length L) 0 none)
 [Value.string s1, Value.int IntKind.i64 n43, Value.int IntKind.i64 n44, Value.int IntKind.i64 n45, Value.int IntKind.i64 n46, Value.int IntKind.i64 n47, Value.int IntKind.i64 n48])
 fun L49 =>
 obind (Option.bind (cell L49 (Addr.add (Addr.mk (List.length L) 0 none) 0)) asS) fun s50 =>
 obind (Option.bind (cell L49 (Addr.add (Addr.mk (List.length L) 0 none) 1)) (asI IntKind.i64)) fun n51 =>
 obind (Option.bind (cell L49 (Addr.add (Addr.mk (List.length L) 0 none) 2)) (asI IntKind.i64)) fun n52 =>
 obind (Option.bind (cell L49 (Addr.add (Addr.mk (List.length L) 0 none) 3)) (asI IntKind.i64)) fun n53 =>
 obind (Option.bind (cell L49 (Addr.add (Addr.mk (List.length L) 0 none) 4)) (asI IntKind.i64)) fun n54 =>
 obind (Option.bind (cell L49 (Addr.add (Addr.mk (List.length L) 0 none) 5)) (asI IntKind.i64)) fun n55 =>
 obind (Option.bind (cell L49 (Addr.add (Addr.mk (List.length L) 0 none) 6)) (asI IntKind.i64)) fun n56 =>
 lif (nameE (Plc.mk s50 n51 n52 n53 n54 n55 n56) != 0)
 (obind
 (stores L49 (Addr.mk 0 0 none)
 [Value.string (ByteArray.mk #[]), Value.int IntKind.i64 0, Value.int IntKind.i64 0, Value.int IntKind.i64 0, Value.int IntKind.i64 0, Value.int IntKind.i64 0,
 Value.int IntKind.i64 0])
 fun L57 =>
 obind (Option.bind (cell L57 (Addr.add (Addr.mk 0 0 none) 0)) asS) fun s58 =>
 obind (Option.bind (cell L57 (Addr.add (Addr.mk 0 0 none) 1)) (asI IntKind.i64)) fun n59 =>
 obind (Option.bind (cell L57 (Addr.add (Addr.mk 0 0 none) 2)) (asI IntKind.i64)) fun n60 =>
 obind (Option.bind (cell L57 (Addr.add (Addr.mk 0 0 none) 3)) (asI IntKind.i64)) fun n61 =>
 obind (Option.bind (cell L57 (Addr.add (Addr.mk 0 0 none) 4)) (asI IntKind.i64)) fun n62 =>
 obind (Option.bind (cell L57 (Addr.add (Addr.mk 0 0 none) 5)) (asI IntKind.i64)) fun n63 =>
 obind (Option.bind (cell L57 (Addr.add (Addr.mk 0 0 none) 6)) (asI IntKind.i64)) fun n64 =>
 ok
 (Value.tuple
 #[Value.agg
 #[Value.string s58, Value.int IntKind.i64 n59, Value.int IntKind.i64 n60, Value.int IntKind.i64 n61, Value.int IntKind.i64 n62,
 Value.int IntKind.i64 n63, Value.int IntKind.i64 n64],
 Value.int IntKind.i64 4]))
 (lif (!ByteArray.toList (nameS (Plc.mk s50 n51 n52 n53 n54 n55 n56)) == ByteArray.toList s0)
 (obind
 (stores L49 (Addr.mk 0 0 none)
 [Value.string (ByteArray.mk #[]), Value.int IntKind.i64 0, Value.int IntKind.i64 0, Value.int IntKind.i64 0, Value.int IntKind.i64 0, Value.int IntKind.i64 0,
 Value.int IntKind.i64 0])
 fun L65 =>
 obind (Option.bind (cell L65 (Addr.add (Addr.mk 0 0 none) 0)) asS) fun s66 =>
 obind (Option.bind (cell L65 (Addr.add (Addr.mk 0 0 none) 1)) (asI IntKind.i64)) fun n67 =>
 obind (Option.bind (cell L65 (Addr.add (Addr.mk 0 0 none) 2)) (asI IntKind.i64)) fun n68 =>
 obind (Option.bind (cell L65 (Addr.add (Addr.mk 0 0 none) 3)) (asI IntKind.i64)) fun n69 =>
 obind (Option.bind (cell L65 (Addr.add (Addr.mk 0 0 none) 4)) (asI IntKind.i64)) fun n70 =>
 obind (Option.bind (cell L65 (Addr.add (Addr.mk 0 0 none) 5)) (asI IntKind.i64)) fun n71 =>
 obind (Option.bind (cell L65 (Addr.add (Addr.mk 0 0 none) 6)) (asI IntKind.i64)) fun n72 =>
 ok
 (Value.tuple
 #[Value.agg
 #[Value.string s66, Value.int IntKind.i64 n67, Value.int IntKind.i64 n68, Value.int IntKind.i64 n69, Value.int IntKind.i64 n70,
 Value.int IntKind.i64 n71, Value.int IntKind.i64 n72],
 Value.int IntKind.i64 4]))
 (obind (Option.bind (cell L49 (Addr.add (Addr.mk (List.length L) 0 none) 0)) asS) fun s73 =>
 obind (Option.bind (cell L49 (Addr.add (Addr.mk (List.length L) 0 none) 1)) (asI IntKind.i64)) fun n74 =>
 obind (Option.bind (cell L49 (Addr.add (Addr.mk (List.length L) 0 none) 2)) (asI IntKind.i64)) fun n75 =>
 obind (Option.bind (cell L49 (Addr.add (Addr.mk (List.length L) 0 none) 3)) (asI IntKind.i64)) fun n76 =>
 obind (Option.bind (cell L49 (Addr.add (Addr.mk (List.length L) 0 none) 4)) (asI IntKind.i64)) fun n77 =>
 obind (Option.bind (cell L49 (Addr.add (Addr.mk (List.length L) 0 none) 5)) (asI IntKind.i64)) fun n78 =>
 obind (Option.bind (cell L49 (Addr.add (Addr.mk (List.length L) 0 none) 6)) (asI IntKind.i64)) fun n79 =>
 obind
 (stores L49 (Addr.mk 0 0 none)
 [Value.string s73, Value.int IntKind.i64 n74, Value.int IntKind.i64 n75, Value.int IntKind.i64 n76, Value.int IntKind.i64 n77,
 Value.int IntKind.i64 n78, Value.int IntKind.i64 n79])
 fun L80 =>
 obind (Option.bind (cell L80 (Addr.add (Addr.mk 0 0 none) 0)) asS) fun s81 =>
 obind (Option.bind (cell L80 (Addr.add (Addr.mk 0 0 none) 1)) (asI IntKind.i64)) fun n82 =>
 obind (Option.bind (cell L80 (Addr.add (Addr.mk 0 0 none) 2)) (asI IntKind.i64)) fun n83 =>
 obind (Option.bind (cell L80 (Addr.add (Addr.mk 0 0 none) 3)) (asI IntKind.i64)) fun n84 =>
 obind (Option.bind (cell L80 (Addr.add (Addr.mk 0 0 none) 4)) (asI IntKind.i64)) fun n85 =>
 obind (Option.bind (cell L80 (Addr.add (Addr.mk 0 0 none) 5)) (asI IntKind.i64)) fun n86 =>
 obind (Option.bind (cell L80 (Addr.add (Addr.mk 0 0 none) 6)) (asI IntKind.i64)) fun n87 =>
 ok
 (Value.tuple
 #[Value.agg
 #[Value.string s81, Value.int IntKind.i64 n82, Value.int IntKind.i64 n83, Value.int IntKind.i64 n84, Value.int IntKind.i64 n85,
 Value.int IntKind.i64 n86, Value.int IntKind.i64 n87],
 Value.int IntKind.i64 0])))) := by kernel_rfl
end Go.Proofs.YtffcfaabjodpcaaDoor.K
end

section
namespace Go.Proofs
open Go.Shelf
def Tryd.lays156_ren : Go.Shelf.Ren := ⟨fun | 156 => 32 | 165 => 45 | 166 => 25 | 169 => 28 | 240 => 42 | 241 => 64 | 276 => 60 | 277 => 77 | n => n, fun | 31 => 39 | 9 => 9 | 3 => 3 | 4 => 4 | 0 => 0 | 20 => 20 | 72 => 54 | 76 => 58 | 70 => 51 | 37 => 52 | 75 => 56 | 127 => 80 | 164 => 91 | 5 => 5 | 80 => 62 | n => n, fun | n => n⟩
theorem Tryd.lays156 : Go.Proofs.Lays.n156 Tryd.prog Tryd.lays156_ren := {
  mixed := by kernel_rfl
  f156 := Tryd.func32.trans (congrArg some (by kernel_rfl))
  f165 := Tryd.func45.trans (congrArg some (by kernel_rfl))
  f166 := Tryd.func25.trans (congrArg some (by kernel_rfl))
  f169 := Tryd.func28.trans (congrArg some (by kernel_rfl))
  f240 := Tryd.func42.trans (congrArg some (by kernel_rfl))
  f241 := Tryd.func64.trans (congrArg some (by kernel_rfl))
  f276 := Tryd.func60.trans (congrArg some (by kernel_rfl))
  f277 := Tryd.func77.trans (congrArg some (by kernel_rfl))
  t0 := Tryd.underlying0
  a0 := Tryd.isAgg0
  z0 := Tryd.sizeOf0
  v0 := Tryd.zeroValue0
  t3 := Tryd.underlying3
  a3 := Tryd.isAgg3
  z3 := Tryd.sizeOf3
  v3 := Tryd.zeroValue3
  t4 := Tryd.underlying4
  a4 := Tryd.isAgg4
  z4 := Tryd.sizeOf4
  v4 := Tryd.zeroValue4
  t9 := Tryd.underlying9
  a9 := Tryd.isAgg9
  z9 := Tryd.sizeOf9
  v9 := Tryd.zeroValue9
  t20 := Tryd.underlying20
  a20 := Tryd.isAgg20
  z20 := Tryd.sizeOf20
  v20 := Tryd.zeroValue20
  t31 := Tryd.underlying39
  a31 := Tryd.isAgg39
  z31 := Tryd.sizeOf39
  v31 := Tryd.zeroValue39
  t37 := Tryd.underlying52
  a37 := Tryd.isAgg52
  z37 := Tryd.sizeOf52
  v37 := Tryd.zeroValue52
  t70 := Tryd.underlying51
  a70 := Tryd.isAgg51
  z70 := Tryd.sizeOf51
  v70 := Tryd.zeroValue51
  t72 := Tryd.underlying54
  a72 := Tryd.isAgg54
  z72 := Tryd.sizeOf54
  v72 := Tryd.zeroValue54
  t75 := Tryd.underlying56
  a75 := Tryd.isAgg56
  z75 := Tryd.sizeOf56
  v75 := Tryd.zeroValue56
  t76 := Tryd.underlying58
  a76 := Tryd.isAgg58
  z76 := Tryd.sizeOf58
  v76 := Tryd.zeroValue58
  t127 := Tryd.underlying80
  a127 := Tryd.isAgg80
  z127 := Tryd.sizeOf80
  v127 := Tryd.zeroValue80
  t164 := Tryd.underlying91
  a164 := Tryd.isAgg91
  z164 := Tryd.sizeOf91
  v164 := Tryd.zeroValue91 }
theorem Tryd.Builder_Extra_156 : Builder.Extra Tryd.prog Tryd.lays156_ren := {
  sizeBuilder := by kernel_rfl
  liesBuilder := by kernel_rfl
  t5 := Tryd.underlying5
  a5 := Tryd.isAgg5
  z5 := Tryd.sizeOf5
  v5 := Tryd.zeroValue5
  infoByte := by kernel_rfl
  cellsByte := by kernel_rfl
  sizeByte := by kernel_rfl
  neB5 := by decide }
open Go.RowKit in
/-- strings.Join: "Join concatenates the elements of its first argument to create a single string. The separator string sep is placed between elements in the resulting string.": HOWEVER MANY ELEMENTS. Below the heap's end the world is az it was. (LAID: no walk: one application.) -/
theorem Tryd.strings_Join (bk o c : Nat) (xs : List ByteArray) (sep : ByteArray) (w : World) (hcells : ∀ (j : Nat) x, xs[j]? = some x → w.cell? ⟨bk, o + j, none⟩ = some (.string x)) (hbk : bk < w.heap.size) (hN : xs.length ≤ 140737488355328) (hcap : xs.length ≤ c) (hlen : (Lib.join (xs.map (·.data.toList)) sep.data.toList).length ≤ 140737488355328) :
    Calls Tryd.prog 32 #[.slice (some ⟨bk, o, none⟩) xs.length c, .string sep] w fun e w' => e = .returned (.string ⟨(Lib.join (xs.map (·.data.toList)) sep.data.toList).toArray⟩) ∧ Below w.heap.size w w' := Any.strings_Join Tryd.lays156 Tryd.Builder_Extra_156 bk o c xs sep w hcells hbk hN hcap hlen
def Tryd.lays160_ren : Go.Shelf.Ren := ⟨fun | 160 => 33 | 232 => 48 | 231 => 47 | 227 => 49 | 234 => 51 | 233 => 50 | 236 => 53 | 235 => 52 | 228 => 65 | 271 => 68 | 151 => 67 | 197 => 66 | 120 => 80 | 152 => 79 | 260 => 78 | 137 => 36 | 119 => 91 | 224 => 82 | 225 => 81 | 217 => 55 | 266 => 70 | n => n, fun | 9 => 9 | 4 => 4 | 3 => 3 | 5 => 5 | 117 => 85 | 116 => 84 | 0 => 0 | 124 => 88 | 21 => 21 | 105 => 98 | 46 => 49 | 119 => 123 | 139 => 126 | 138 => 125 | n => n, fun | 3 => 3 | 4 => 4 | n => n⟩
theorem Tryd.lays160 : Go.Proofs.Lays.n160 Tryd.prog Tryd.lays160_ren := {
  mixed := by kernel_rfl
  f119 := Tryd.func91.trans (congrArg some (by kernel_rfl))
  f120 := Tryd.func80.trans (congrArg some (by kernel_rfl))
  f137 := Tryd.func36.trans (congrArg some (by kernel_rfl))
  f151 := Tryd.func67.trans (congrArg some (by kernel_rfl))
  f152 := Tryd.func79.trans (congrArg some (by kernel_rfl))
  f160 := Tryd.func33.trans (congrArg some (by kernel_rfl))
  f197 := Tryd.func66.trans (congrArg some (by kernel_rfl))
  f217 := Tryd.func55.trans (congrArg some (by kernel_rfl))
  f224 := Tryd.func82.trans (congrArg some (by kernel_rfl))
  f225 := Tryd.func81.trans (congrArg some (by kernel_rfl))
  f227 := Tryd.func49.trans (congrArg some (by kernel_rfl))
  f228 := Tryd.func65.trans (congrArg some (by kernel_rfl))
  f231 := Tryd.func47.trans (congrArg some (by kernel_rfl))
  f232 := Tryd.func48.trans (congrArg some (by kernel_rfl))
  f233 := Tryd.func50.trans (congrArg some (by kernel_rfl))
  f234 := Tryd.func51.trans (congrArg some (by kernel_rfl))
  f235 := Tryd.func52.trans (congrArg some (by kernel_rfl))
  f236 := Tryd.func53.trans (congrArg some (by kernel_rfl))
  f260 := Tryd.func78.trans (congrArg some (by kernel_rfl))
  f266 := Tryd.func70.trans (congrArg some (by kernel_rfl))
  f271 := Tryd.func68.trans (congrArg some (by kernel_rfl))
  t0 := Tryd.underlying0
  a0 := Tryd.isAgg0
  z0 := Tryd.sizeOf0
  v0 := Tryd.zeroValue0
  t3 := Tryd.underlying3
  a3 := Tryd.isAgg3
  z3 := Tryd.sizeOf3
  v3 := Tryd.zeroValue3
  t4 := Tryd.underlying4
  a4 := Tryd.isAgg4
  z4 := Tryd.sizeOf4
  v4 := Tryd.zeroValue4
  t5 := Tryd.underlying5
  a5 := Tryd.isAgg5
  z5 := Tryd.sizeOf5
  v5 := Tryd.zeroValue5
  t9 := Tryd.underlying9
  a9 := Tryd.isAgg9
  z9 := Tryd.sizeOf9
  v9 := Tryd.zeroValue9
  t21 := Tryd.underlying21
  a21 := Tryd.isAgg21
  z21 := Tryd.sizeOf21
  v21 := Tryd.zeroValue21
  t46 := Tryd.underlying49
  a46 := Tryd.isAgg49
  z46 := Tryd.sizeOf49
  v46 := Tryd.zeroValue49
  t105 := Tryd.underlying98
  a105 := Tryd.isAgg98
  z105 := Tryd.sizeOf98
  v105 := Tryd.zeroValue98
  t116 := Tryd.underlying84
  a116 := Tryd.isAgg84
  z116 := Tryd.sizeOf84
  t117 := Tryd.underlying85
  a117 := Tryd.isAgg85
  z117 := Tryd.sizeOf85
  v117 := Tryd.zeroValue85
  t119 := Tryd.underlying123
  a119 := Tryd.isAgg123
  z119 := Tryd.sizeOf123
  t124 := Tryd.underlying88
  a124 := Tryd.isAgg88
  z124 := Tryd.sizeOf88
  v124 := Tryd.zeroValue88
  t138 := Tryd.underlying125
  a138 := Tryd.isAgg125
  z138 := Tryd.sizeOf125
  v138 := Tryd.zeroValue125
  t139 := Tryd.underlying126
  a139 := Tryd.isAgg126
  z139 := Tryd.sizeOf126
  v139 := Tryd.zeroValue126
  g3 := by kernel_rfl
  g4 := by kernel_rfl }
open Go.RowKit in
/-- strings.Trim: "Trim returns a slice of the string s with all leading and trailing Unicode code points contained in cutset removed.": AT A cutset OF ONE ASCII BYTE. THE WORLD BEHIND IT: az it was, or (where s is not empty) with ONE DRAW MORE off the tape: the statement 'return trimLeftByte(trimRightByte(s, c), c)' draws its order of evaluation. (LAID: no walk: one application.) -/
theorem Tryd.strings_Trim_one (s : ByteArray) (c : UInt8) (hc : c.toNat < 128) (w : World) (hs : s.size ≤ 9223372036854775807) :
    Calls Tryd.prog 33 #[.string s, .string ⟨#[c]⟩] w fun e w' => e = .returned (.string ⟨(Lib.trimB s.data.toList c).toArray⟩) ∧ (w' = w ∨ w' = w.drew) := Any.strings_Trim_one Tryd.lays160 s c hc w hs
end Go.Proofs
end

section
set_option maxRecDepth 100000
namespace Go.Proofs.YtffcfaabjodpcaaDoor
open Go Go.Rlm
theorem decD_len : ∀ (d u : Nat), (decD d u).length ≤ d + 1
  | 0, u => by simp [decD]
  | d + 1, u => by
    unfold decD
    cases Nat.blt u 10 with
    | true => simp
    | false => simp only [cond_false, List.length_append, List.length_cons, List.length_nil]; have := decD_len d (u / 10); omega
theorem place_true {p : Plc} (h : placeB p = true) : (1 ≤ p.d ∧ p.d ≤ 64 ∧ 0 ≤ p.r ∧ p.r ≤ 32 ∧ 2 ≤ p.z ∧ p.z ≤ 512 ∧ p.z.tmod 2 = 0 ∧ 0 ≤ p.m ∧ p.m ≤ 32) ∧ p.base.size ≠ 0 ∧ p.base.size ≤ 60 ∧ 1 ≤ p.k ∧ p.k ≤ 96 - p.m ∧ 0 ≤ p.idx ∧ p.idx < p.k + p.m ∧
    (p.base.data.toList.any fun c => badC c.toNat) = false := by
  unfold placeB at h
  simp only [Bool.and_eq_true, Bool.not_eq_true', decide_eq_false_iff_not, beq_eq_false_iff_ne] at h
  obtain ⟨⟨⟨⟨⟨⟨⟨h1, h2⟩, h3⟩, h4⟩, h5⟩, h6⟩, h7⟩, h8⟩ := h
  exact ⟨shapeB_iff.1 h1, h2, by omega, by omega, by omega, by omega, by omega, h8⟩
theorem name_ok (k : Nat) (p : Plc) : M.f22 (k + 8) p.base p.idx p.k p.d p.r p.z p.m = ok (.tuple #[.string (nameS p), .int .i64 (nameE p)]) := by
  rw [M.f22_eq]
  unfold nameS nameE
  cases hp : placeB p with
  | false => rfl
  | true =>
    obtain ⟨⟨_, _, _, _, _, _, _, _, _⟩, _, hb, _, _, _, _, _⟩ := place_true hp
    have e : itoaS p.d.toNat = bs (decD 20 p.d.toNat) ∧ itoaS p.r.toNat = bs (decD 20 p.r.toNat) ∧ itoaS p.z.toNat = bs (decD 20 p.z.toNat) ∧ itoaS p.m.toNat = bs (decD 20 p.m.toNat) ∧ itoaS p.k.toNat = bs (decD 20 p.k.toNat) ∧
      itoaS p.idx.toNat = bs (decD 20 p.idx.toNat) := ⟨rfl, rfl, rfl, rfl, rfl, rfl⟩
    obtain ⟨e1, e2, e3, e4, e5, e6⟩ := e
    have l1 := decD_len 20 p.d.toNat
    have l2 := decD_len 20 p.r.toNat
    have l3 := decD_len 20 p.z.toNat
    have l4 := decD_len 20 p.m.toNat
    have l5 := decD_len 20 p.k.toNat
    have l6 := decD_len 20 p.idx.toNat
    have hbase : p.base = bs p.base.data.toList := (bs_data _).symm
    have hbl : p.base.data.toList.length ≤ 60 := by rw [← size_data]; exact hb
    unfold nameL
    rw [e1, e2, e3, e4, e5, e6]
    generalize hB : p.base.data.toList = B at hbase hbl ⊢
    rw [hbase, show ByteArray.mk #[46] = bs [46] from rfl]
    have c1 : subS (ByteArray.mk #[100, 114, 115, 109, 107, 118]) (some 0) (some 1) = some (bs [100]) := rfl
    have c2 : subS (ByteArray.mk #[100, 114, 115, 109, 107, 118]) (some 1) (some 2) = some (bs [114]) := rfl
    have c3 : subS (ByteArray.mk #[100, 114, 115, 109, 107, 118]) (some 2) (some 3) = some (bs [115]) := rfl
    have c4 : subS (ByteArray.mk #[100, 114, 115, 109, 107, 118]) (some 3) (some 4) = some (bs [109]) := rfl
    have c5 : subS (ByteArray.mk #[100, 114, 115, 109, 107, 118]) (some 4) (some 5) = some (bs [107]) := rfl
    have c6 : subS (ByteArray.mk #[100, 114, 115, 109, 107, 118]) (some 5) (some 6) = some (bs [118]) := rfl
    have g : ∀ n : Int, 0 ≤ n → n ≤ 1000 → (decide (0 ≤ n) && decide (n < 1000000000000000000)) = true := fun n h1 h2 => by rw [decide_eq_true h1, decide_eq_true (by omega)]; rfl
    rw [Bool.not_true, lif_false]
    generalize decD 20 p.d.toNat = D1 at *
    generalize decD 20 p.r.toNat = D2 at *
    generalize decD 20 p.z.toNat = D3 at *
    generalize decD 20 p.m.toNat = D4 at *
    generalize decD 20 p.k.toNat = D5 at *
    generalize decD 20 p.idx.toNat = D6 at *
    have f : ∀ n : Nat, n ≤ 1000 → fitsS n = true := fun n h => fitsS_ok (by omega)
    rw [bs_size, bs_size, f _ (by simp; omega), when_true, c1, obind_some, g _ (by omega) (by omega), when_true, bs_size, bs_size, f _ (by simp; omega), when_true, bs_app, bs_app, bs_size, bs_size, f _ (by simp; omega), when_true, bs_app]
    rw [c2, obind_some, g _ (by omega) (by omega), when_true, bs_size, bs_size, f _ (by simp; omega), when_true, bs_app, bs_size, bs_size, f _ (by simp; omega), when_true, bs_app]
    rw [c3, obind_some, g _ (by omega) (by omega), when_true, bs_size, bs_size, f _ (by simp; omega), when_true, bs_app, bs_size, bs_size, f _ (by simp; omega), when_true, bs_app]
    rw [c4, obind_some, g _ (by omega) (by omega), when_true, bs_size, bs_size, f _ (by simp; omega), when_true, bs_app, bs_size, bs_size, f _ (by simp; omega), when_true, bs_app]
    rw [c5, obind_some, g _ (by omega) (by omega), when_true, bs_size, bs_size, f _ (by simp; omega), when_true, bs_app, bs_size, bs_size, f _ (by simp; omega), when_true, bs_app]
    rw [c6, obind_some, g _ (by omega) (by omega), when_true, bs_size, bs_size, f _ (by simp; omega), when_true, bs_app, bs_size, bs_size, f _ (by simp; omega), when_true, bs_app]
    simp
theorem pureName : PureOk globs Tryd.prog 22 nameP :=
  .runs (T := M.T) (n := 208) specM X.mixed X.named (by decide) fun args L r0 r hr hreal => by
    unfold nameP at hr
    split at hr
    case h_2 => cases hr
    injection hr with hr
    subst hr
    injection hreal with hreal
    subst hreal
    rename_i b i k d r z m
    exact ⟨_, rfl, rfl, rfl, name_ok 200 ⟨b, i, k, d, r, z, m⟩⟩
theorem specK : SpecOk globs Tryd.prog K.T := .more pureName specM
def zeroC : LBlk := .cells [.string ⟨#[]⟩, .int .i64 0, .int .i64 0, .int .i64 0, .int .i64 0, .int .i64 0, .int .i64 0] 41 false 0
/-- The two variables of Parse. -/
def heapP (v : List Int) : LHeap := [zeroC, .cells (v.map fun x => .int .i64 x) 71 false 0]
def noneR : R := ok (.tuple #[.agg #[.string ⟨#[]⟩, .int .i64 0, .int .i64 0, .int .i64 0, .int .i64 0, .int .i64 0, .int .i64 0], .int .i64 4])
theorem firstIdx_cases (l : List UInt8) (c : UInt8) : (∃ a b, partC c l = some (a, b) ∧ firstIdx (bs l) c = a.length) ∨ (partC c l = none ∧ firstIdx (bs l) c = -1) := by
  rw [firstIdx_bs]
  cases h : partC c l with
  | none => exact .inr ⟨rfl, rfl⟩
  | some p => exact .inl ⟨p.1, p.2, rfl, rfl⟩
theorem step_next {k j : Nat} {s0 s1 : ByteArray} {l : List UInt8} {i : Nat} {c : UInt8} {v : List Int} {upd : Int → List Int} (hi : i < 5) (hl : l.length ≤ 1000000000000)
    (hc : byteAt (ByteArray.mk #[100, 114, 115, 109, 107, 118]) ((i + 1 : Nat) : Int) = some (c.toNat : Int))
    (hst : ∀ x, stores (heapP v) (Addr.add ⟨1, 0, none⟩ (i * 1)) [.int .i64 x] = some (heapP (upd x))) :
    K.f21_l4 k (j + 1) s0 s1 (bs l) (i : Int) (heapP v) = (match parse1 l (some c) with | some (x, l') => K.f21_l4 k j s0 s1 (bs l') ((i + 1 : Nat) : Int) (heapP (upd x)) | none => noneR) := by
  rw [K.f21_l4_eq, decide_eq_true (by omega), lif_true, wI64 (n := (i : Int) + 1) (by omega) (by omega), decide_eq_true (by omega), lif_true, show (i : Int) + 1 = ((i + 1 : Nat) : Int) by omega, hc, obind_some,
    show Nat.toUInt8 (Int.toNat (c.toNat : Int)) = c by simp]
  obtain ⟨a, b, hp, hf⟩ | ⟨hp, hf⟩ := firstIdx_cases l c
  · simp only [parse1, hp, hf]
    obtain ⟨rfl, _⟩ := partC_some hp
    simp only [List.length_append, List.length_cons] at hl
    cases a with
    | nil => rfl
    | cons x a =>
      rw [decide_eq_false (by simp only [List.length_cons]; omega), lif_false]
      have e1 : subS (bs (x :: a ++ c :: b)) (some 1) (some ((x :: a).length : Int)) = some (bs a) := by
        have : subS (bs (x :: a ++ c :: b)) (some ((1 : Nat) : Int)) (some ((x :: a).length : Int)) = some (bs a) := by
          simp only [subS, bound_at (bs (x :: a ++ c :: b)).size (show (x :: a).length ≤ (bs (x :: a ++ c :: b)).size by rw [bs_size]; simp), bound_at 0 (show 1 ≤ (x :: a).length by simp), Option.bind_eq_bind, Option.bind_some]
          rw [bs_extract, List.take_left' rfl]
          rfl
        exact this
      have e2 : subS (bs (x :: a ++ c :: b)) (some ((x :: a).length : Int)) none = some (bs (c :: b)) := by
        simp only [subS, bound_out (Nat.le_refl (bs (x :: a ++ c :: b)).size), bound_at 0 (show (x :: a).length ≤ (bs (x :: a ++ c :: b)).size by rw [bs_size]; simp), Option.bind_eq_bind, Option.bind_some]
        rw [bs_extract, bs_size, List.take_of_length_le (Nat.le_refl _), List.drop_left' rfl]
      rw [e1, obind_some, Nat.ble_eq_true_of_le (show (bs a).size ≤ 281474976710656 by rw [bs_size]; simp at hl; omega), when_true]
      simp only [List.isEmpty_cons, cond_false, List.drop_succ_cons, List.drop_zero]
      cases hok : atoiOk (bs a) with
      | false => rfl
      | true =>
        rw [lif_true, e2, obind_some, decide_eq_true (by omega), when_true, when_true, Int.toNat_natCast, hst, obind_some]
        rfl
  · simp only [parse1, hp, hf]
    rfl
theorem step_last {k j : Nat} {s0 s1 : ByteArray} {l : List UInt8} {v : List Int} {upd : Int → List Int} (hl : l.length ≤ 1000000000000)
    (hst : ∀ x, stores (heapP v) (Addr.add ⟨1, 0, none⟩ (5 * 1)) [.int .i64 x] = some (heapP (upd x))) :
    K.f21_l4 k (j + 1) s0 s1 (bs l) ((5 : Nat) : Int) (heapP v) = (match parse1 l none with | some (x, l') => K.f21_l4 k j s0 s1 (bs l') ((6 : Nat) : Int) (heapP (upd x)) | none => noneR) := by
  rw [K.f21_l4_eq, decide_eq_true (by omega), lif_true, wI64 (n := ((5 : Nat) : Int) + 1) (by omega) (by omega), decide_eq_false (by omega), lif_false, bs_size]
  cases l with
  | nil => rfl
  | cons x a =>
    simp only [parse1]
    rw [decide_eq_false (by simp only [List.length_cons]; omega), lif_false]
    have e1 : subS (bs (x :: a)) (some 1) (some ((x :: a).length : Int)) = some (bs a) := by
      have : subS (bs (x :: a)) (some ((1 : Nat) : Int)) (some ((x :: a).length : Int)) = some (bs a) := by
        simp only [subS, bound_at (bs (x :: a)).size (show (x :: a).length ≤ (bs (x :: a)).size by rw [bs_size]; simp), bound_at 0 (show 1 ≤ (x :: a).length by simp), Option.bind_eq_bind, Option.bind_some]
        rw [bs_extract, List.take_of_length_le (Nat.le_refl _)]
        rfl
      exact this
    have e2 : subS (bs (x :: a)) (some ((x :: a).length : Int)) none = some (bs []) := by
      simp only [subS, bound_out (Nat.le_refl (bs (x :: a)).size), bound_at 0 (show (x :: a).length ≤ (bs (x :: a)).size by rw [bs_size]; simp), Option.bind_eq_bind, Option.bind_some]
      rw [bs_extract, bs_size, List.take_of_length_le (Nat.le_refl _), List.drop_of_length_le (Nat.le_refl _)]
    rw [e1, obind_some, Nat.ble_eq_true_of_le (show (bs a).size ≤ 281474976710656 by rw [bs_size]; simp at hl; omega), when_true]
    simp only [List.isEmpty_cons, cond_false, List.drop_succ_cons, List.drop_zero]
    cases hok : atoiOk (bs a) with
    | false => rfl
    | true =>
      rw [lif_true, e2, obind_some, decide_eq_true (by omega), when_true, when_true, show Int.toNat ((5 : Nat) : Int) = 5 from rfl, hst, obind_some]
      rfl
theorem step_end {k j : Nat} {s s1 : ByteArray} {d r z m n i : Int} {q : ByteArray} :
    K.f21_l4 k (j + 1) s s1 q ((6 : Nat) : Int) (heapP [d, r, z, m, n, i]) =
      lif (nameE ⟨s1, i, n, d, r, z, m⟩ != 0 || (ByteArray.toList (nameS ⟨s1, i, n, d, r, z, m⟩) != s.toList)) noneR (ok (.tuple #[.agg #[.string s1, .int .i64 i, .int .i64 n, .int .i64 d, .int .i64 r, .int .i64 z, .int .i64 m], .int .i64 0])) := by
  rw [K.f21_l4_eq, decide_eq_false (by omega), lif_false]
  cases h1 : (nameE ⟨s1, i, n, d, r, z, m⟩ != 0) with
  | true =>
    show lif (nameE ⟨s1, i, n, d, r, z, m⟩ != 0) _ _ = _
    rw [h1]
    rfl
  | false =>
    show lif (nameE ⟨s1, i, n, d, r, z, m⟩ != 0) _ _ = _
    rw [h1, lif_false, Bool.false_or]
    rfl
theorem parse1_len {l l' : List UInt8} {n : Option UInt8} {x : Int} (h : parse1 l n = some (x, l')) : l'.length ≤ l.length := by
  unfold parse1 at h
  cases n with
  | none =>
    simp only at h
    cases hl : l.isEmpty with
    | true => rw [hl] at h; cases h
    | false =>
      rw [hl, cond_false] at h
      cases ha : atoiOk (bs (l.drop 1)) with
      | false => rw [ha] at h; cases h
      | true => rw [ha, cond_true] at h; injection h with h; injection h with _ h; subst h; simp
  | some c =>
    simp only at h
    cases hp : partC c l with
    | none => rw [hp] at h; cases h
    | some p =>
      obtain ⟨a, b⟩ := p
      rw [hp] at h
      simp only at h
      obtain ⟨rfl, _⟩ := partC_some hp
      cases hl : a.isEmpty with
      | true => rw [hl] at h; cases h
      | false =>
        rw [hl, cond_false] at h
        cases ha : atoiOk (bs (a.drop 1)) with
        | false => rw [ha] at h; cases h
        | true => rw [ha, cond_true] at h; injection h with h; injection h with _ h; subst h; simp
theorem parse_loop {k j : Nat} {s s1 : ByteArray} {l : List UInt8} (hl : l.length ≤ 1000000000000) :
    K.f21_l4 k (j + 7) s s1 (bs l) 0 (heapP [0, 0, 0, 0, 0, 0]) = (match parse6 l with
      | some (d, r, z, m, n, i) => lif (nameE ⟨s1, i, n, d, r, z, m⟩ != 0 || (ByteArray.toList (nameS ⟨s1, i, n, d, r, z, m⟩) != s.toList)) noneR (ok (.tuple #[.agg #[.string s1, .int .i64 i, .int .i64 n, .int .i64 d, .int .i64 r, .int .i64 z, .int .i64 m], .int .i64 0]))
      | none => noneR) := by
  have e1 := step_next (k := k) (j := j + 6) (s0 := s) (s1 := s1) (l := l) (i := 0) (c := 114) (v := [0, 0, 0, 0, 0, 0]) (upd := fun x => [x, 0, 0, 0, 0, 0]) (by omega) hl rfl (fun _ => rfl)
  rw [Int.natCast_zero] at e1
  rw [e1]
  unfold parse6
  cases h1 : parse1 l (some 114) with
  | none => rfl
  | some p =>
  obtain ⟨d, l1⟩ := p
  have n1 := parse1_len h1
  simp only [Option.bind_eq_bind, Option.bind_some]
  rw [step_next (k := k) (j := j + 5) (s0 := s) (s1 := s1) (l := l1) (i := 1) (c := 115) (v := [d, 0, 0, 0, 0, 0]) (upd := fun x => [d, x, 0, 0, 0, 0]) (by omega) (by omega) rfl (fun _ => rfl)]
  cases h2 : parse1 l1 (some 115) with
  | none => rfl
  | some p =>
  obtain ⟨r, l2⟩ := p
  have n2 := parse1_len h2
  simp only [Option.bind_some]
  rw [step_next (k := k) (j := j + 4) (s0 := s) (s1 := s1) (l := l2) (i := 2) (c := 109) (v := [d, r, 0, 0, 0, 0]) (upd := fun x => [d, r, x, 0, 0, 0]) (by omega) (by omega) rfl (fun _ => rfl)]
  cases h3 : parse1 l2 (some 109) with
  | none => rfl
  | some p =>
  obtain ⟨z, l3⟩ := p
  have n3 := parse1_len h3
  simp only [Option.bind_some]
  rw [step_next (k := k) (j := j + 3) (s0 := s) (s1 := s1) (l := l3) (i := 3) (c := 107) (v := [d, r, z, 0, 0, 0]) (upd := fun x => [d, r, z, x, 0, 0]) (by omega) (by omega) rfl (fun _ => rfl)]
  cases h4 : parse1 l3 (some 107) with
  | none => rfl
  | some p =>
  obtain ⟨m, l4⟩ := p
  have n4 := parse1_len h4
  simp only [Option.bind_some]
  rw [step_next (k := k) (j := j + 2) (s0 := s) (s1 := s1) (l := l4) (i := 4) (c := 118) (v := [d, r, z, m, 0, 0]) (upd := fun x => [d, r, z, m, x, 0]) (by omega) (by omega) rfl (fun _ => rfl)]
  cases h5 : parse1 l4 (some 118) with
  | none => rfl
  | some p =>
  obtain ⟨n, l5⟩ := p
  have n5 := parse1_len h5
  simp only [Option.bind_some]
  rw [step_last (k := k) (j := j + 1) (s0 := s) (s1 := s1) (l := l5) (v := [d, r, z, m, n, 0]) (upd := fun x => [d, r, z, m, n, x]) (by omega) (fun _ => rfl)]
  cases h6 : parse1 l5 none with
  | none => rfl
  | some p =>
  obtain ⟨i, l6⟩ := p
  simp only [Option.bind_some]
  exact step_end
theorem cutB_len (s : ByteArray) (c : UInt8) : (cutB s c).data.toList.length ≤ s.size := by
  unfold cutB
  cases h : partC c s.data.toList with
  | none => simp
  | some p =>
    obtain ⟨a, b⟩ := p
    rw [size_data]
    rw [(partC_some h).1]
    simp only [bs_toList, List.length_append, List.length_cons]
    omega
theorem parse_ok (k : Nat) (s : ByteArray) (h : s.size ≤ 1000000000000) : K.f21 (k + 7) s = ok (.tuple #[(parseF s).val, .int .i64 (parseE s)]) := by
  rw [K.f21_eq, Nat.ble_eq_true_of_le h, when_true]
  have := parse_loop (k := k + 7) (j := k) (s := s) (s1 := cutA s 46) (l := (cutB s 46).data.toList) (by have := cutB_len s 46; omega)
  rw [bs_data] at this
  rw [show [LBlk.cells [Value.string (ByteArray.mk #[]), Value.int IntKind.i64 0, Value.int IntKind.i64 0, Value.int IntKind.i64 0, Value.int IntKind.i64 0, Value.int IntKind.i64 0, Value.int IntKind.i64 0] 41 false 0,
      LBlk.cells [Value.int IntKind.i64 0, Value.int IntKind.i64 0, Value.int IntKind.i64 0, Value.int IntKind.i64 0, Value.int IntKind.i64 0, Value.int IntKind.i64 0] 71 false 0] = heapP [0, 0, 0, 0, 0, 0] from rfl, this]
  unfold parseE parseF parseO
  cases h6 : parse6 (cutB s 46).data.toList with
  | none => rfl
  | some p =>
    obtain ⟨d, r, z, m, n, i⟩ := p
    simp only
    rw [show ∀ a b : Int, (a != b) = !(a == b) from fun _ _ => rfl, show ∀ a b : List UInt8, (a != b) = !(a == b) from fun _ _ => rfl]
    cases (nameE ⟨cutA s 46, i, n, d, r, z, m⟩ == 0) with
    | false => rfl
    | true =>
      cases ((nameS ⟨cutA s 46, i, n, d, r, z, m⟩).toList == s.toList) with
      | false => rfl
      | true => rfl
theorem pureParse : PureOk globs Tryd.prog 21 parseP :=
  .runs (T := K.T) (n := 207) specK X.mixed X.named (by decide) fun args L r0 r hr hreal => by
    unfold parseP at hr
    split at hr
    case h_2 => cases hr
    rename_i s
    injection hr with hr
    subst hr
    obtain ⟨h1, rfl⟩ := gate_real hreal
    exact ⟨_, rfl, rfl, rfl, parse_ok 200 s (Nat.le_of_ble_eq_true h1)⟩
theorem pureJoin : PureOk globs Tryd.prog 32 joinP := join_ok Tryd.func32 rfl (by decide) fun bk o c xs sep w h1 h2 h3 h4 h5 => Tryd.strings_Join bk o c xs sep w h1 h2 h3 h4 h5
theorem pureTrim : PureOk globs Tryd.prog 33 trimP := trim_ok Tryd.func33 rfl (by decide) fun s c hc w hs => Tryd.strings_Trim_one s c hc w hs
theorem specW : SpecOk globs Tryd.prog W.T := .more pureTrim <| .more pureJoin <| .more pureParse specK
end Go.Proofs.YtffcfaabjodpcaaDoor
end

section
set_option maxRecDepth 100000
set_option linter.unusedVariables false
namespace Go.Proofs.YtffcfaabjodpcaaDoor.W
open Go Go.Rlm
/-- (*strings.Builder).WriteByte -/
noncomputable def f24 (k : Nat) (p0 : Option Addr) (n1 : Int) (L : LHeap) : R :=
  lcall Tryd.prog T k 24 [Value.pointer p0, Value.int IntKind.u8 n1] L
/-- (*strings.Builder).WriteString -/
noncomputable def f25 (k : Nat) (p0 : Option Addr) (s1 : ByteArray) (L : LHeap) : R :=
  lcall Tryd.prog T k 25 [Value.pointer p0, Value.string s1] L
/-- (*strings.Builder).Len -/
noncomputable def f27 (k : Nat) (p0 : Option Addr) (L : LHeap) : R :=
  lcall Tryd.prog T k 27 [Value.pointer p0] L
/-- (*strings.Builder).String -/
noncomputable def f28 (k : Nat) (p0 : Option Addr) (L : LHeap) : R :=
  lcall Tryd.prog T k 28 [Value.pointer p0] L
/-- (*strings.Builder).copyCheck -/
noncomputable def f42 (k : Nat) (p0 : Option Addr) (L : LHeap) : R :=
  lcall Tryd.prog T k 42 [Value.pointer p0] L
theorem f24_eq (k : Nat) (p0 : Option Addr) (n1 : Int) (L : LHeap) : f24 (k + 1) p0 n1 L =
 lbind (f42 k p0 L) fun v2 L3 =>
 obind p0 fun a4 =>
 obind (Option.bind (cell L3 (Addr.add a4 1)) asSl) fun l5 =>
 obind (srcOf (L3 ++ [LBlk.cells [Value.int IntKind.u8 n1] 5 false 0]) Tryd.prog.types[5].size 1 (Value.slice (some (Addr.mk (List.length L3) 0 none)) 1 1)) fun x6 =>
 obind (app (L3 ++ [LBlk.cells [Value.int IntKind.u8 n1] 5 false 0]) 5 Tryd.prog.types[5].size Tryd.prog.types[5].bytes l5 1 x6) fun x7 =>
 obind p0 fun a8 => obind (stores x7.snd (Addr.add a8 1) [Value.slice x7.fst.a x7.fst.n x7.fst.c]) fun L9 => some (LR.ret Value.nilIface L9) := by kernel_rfl
theorem f25_eq (k : Nat) (p0 : Option Addr) (s1 : ByteArray) (L : LHeap) : f25 (k + 1) p0 s1 L =
 lbind (f42 k p0 L) fun v2 L3 =>
 obind p0 fun a4 =>
 obind (Option.bind (cell L3 (Addr.add a4 1)) asSl) fun l5 =>
 obind (app L3 5 Tryd.prog.types[5].size Tryd.prog.types[5].bytes l5 (ByteArray.size s1) (byteCells (ByteArray.extract s1 0 (ByteArray.size s1)))) fun x6 =>
 obind p0 fun a7 =>
 obind (stores x6.snd (Addr.add a7 1) [Value.slice x6.fst.a x6.fst.n x6.fst.c]) fun L8 => some (LR.ret (Value.tuple #[Value.int IntKind.i64 (↑(ByteArray.size s1) : Int), Value.nilIface]) L8) := by kernel_rfl
theorem f27_eq (k : Nat) (p0 : Option Addr) (L : LHeap) : f27 (k + 1) p0 L =
 obind p0 fun a1 => obind (Option.bind (cell L (Addr.add a1 1)) asSl) fun l2 => some (LR.ret (Value.int IntKind.i64 (↑l2.n : Int)) L) := by kernel_rfl
theorem f28_eq (k : Nat) (p0 : Option Addr) (L : LHeap) : f28 (k + 1) p0 L =
 obind p0 fun a1 =>
 obind (Option.bind (cell L (Addr.add a1 1)) asSl) fun l2 =>
 obind (dataL L 1 l2) fun x3 =>
 obind p0 fun a4 =>
 obind (Option.bind (cell L (Addr.add a4 1)) asSl) fun l5 =>
 obind (Option.bind (cell L (Addr.add a4 1)) asSl) fun l6 =>
 when (same (Value.slice l5.a l5.n l5.c) (Value.slice l6.a l6.n l6.c)) (obind (ustr L 5 x3 (↑l5.n : Int)) fun x7 => some (LR.ret (Value.string x7.fst) x7.snd)) := by kernel_rfl
theorem f42_eq (k : Nat) (p0 : Option Addr) (L : LHeap) : f42 (k + 1) p0 L =
 obind p0 fun a1 =>
 obind (Option.bind (cell L (Addr.add a1 0)) asP) fun x2 =>
 lif (Option.isNone x2)
 (obind (toU L p0) fun x3 => obind (ofU L 54 2 x3) fun x4 => obind p0 fun a5 => obind (stores L (Addr.add a5 0) [Value.pointer x4]) fun L6 => some (LR.ret (Value.tuple #[]) L6))
 (obind p0 fun a7 => obind (Option.bind (cell L (Addr.add a7 0)) asP) fun x8 => obind (peq x8 p0) fun b9 => lif (!b9) none (some (LR.ret (Value.tuple #[]) L))) := by kernel_rfl
end Go.Proofs.YtffcfaabjodpcaaDoor.W
end

section
set_option maxRecDepth 100000
namespace Go.Proofs.YtffcfaabjodpcaaDoor
open Go Go.Rlm
theorem size5 : Tryd.prog.types[5].size = 1 := by kernel_rfl
theorem bytes5 : Tryd.prog.types[5].bytes = 1 := by kernel_rfl
theorem size9 : Tryd.prog.types[9].size = 1 := by kernel_rfl
theorem bytes9 : Tryd.prog.types[9].bytes = 16 := by kernel_rfl
theorem size39 : Tryd.prog.types[39].size = 1 := by kernel_rfl
theorem bytes39 : Tryd.prog.types[39].bytes = 24 := by kernel_rfl
def slV (s : Sl) : Value := .slice s.a s.n s.c
def strV (l : List Nat) : Value := .string (strOf l)
/-- A text's bytes. -/
def nb (s : ByteArray) : List Nat := s.data.toList.map UInt8.toNat
theorem nb_small (s : ByteArray) : ∀ n ∈ nb s, n < 256 := by
  intro n hn
  obtain ⟨c, _, rfl⟩ := List.mem_map.1 hn
  exact c.toNat_lt
theorem nb_str (s : ByteArray) : strOf (nb s) = s := by
  unfold strOf nb
  rw [List.map_map, show (UInt8.ofNat ∘ UInt8.toNat) = id from funext fun c => UInt8.ofNat_toNat, List.map_id]
theorem str_cells {l : List Nat} (h : ∀ n ∈ l, n < 256) : byteCells (strOf l) = l.map bV := by
  unfold byteCells strOf
  simp only [List.map_map]
  apply List.map_congr_left
  intro n hn
  have := h n hn
  simp only [Function.comp, bV]
  rw [UInt8.toNat_ofNat']
  rw [Nat.mod_eq_of_lt (by omega)]
theorem str_all (s : ByteArray) : s.extract 0 s.size = s := by
  apply ByteArray.ext
  rw [ByteArray.data_extract]
  show s.data.extract 0 s.data.size = s.data
  exact Array.extract_size
/-- A builder at a block: what is in it. -/
def Bld (L : LHeap) (r : Nat) (l : List Nat) (F : List Nat) : Prop :=
  ∃ (s : Sl) (G : List Nat) (p : Option Addr), L[r]? = some (.cells [.pointer p, slV s] 54 false 0) ∧ (p = none ∨ p = some ⟨r, 0, none⟩) ∧ OS L s (l.map bV) 5 G ∧ r ∉ G ∧ (l = [] → s = ⟨none, 0, 0⟩) ∧ F = r :: G
theorem Bld.within {L : LHeap} {r : Nat} {l : List Nat} {F : List Nat} (h : Bld L r l F) : Within F L := by
  obtain ⟨s, G, p, h1, h2, h3, h4, h5, rfl⟩ := h
  intro i hi
  rcases List.mem_cons.1 hi with rfl | hi
  · exact get_lt h1
  · exact h3.within i hi
theorem check_ok {k : Nat} {L : LHeap} {r : Nat} {l : List Nat} {F : List Nat} (h : Bld L r l F) : ∃ L', W.f42 (k + 1) (some ⟨r, 0, none⟩) L = some (.ret (.tuple #[]) L') ∧ Bld L' r l F ∧ Step F L F L' := by
  obtain ⟨s, G, p, h1, h2, h3, h4, h5, rfl⟩ := h
  have c0 : cell L (Addr.add ⟨r, 0, none⟩ 0) = some (.pointer p) := cell_of h1
  have c0' : cell L ⟨r, 0, none⟩ = some (.pointer p) := cell_of h1
  rw [W.f42_eq, obind_some, c0, Option.bind_some, show asP (.pointer p) = some p from rfl, obind_some]
  rcases h2 with rfl | rfl
  · refine ⟨L.set r (.cells [.pointer (some ⟨r, 0, none⟩), slV s] 54 false 0), ?_, ⟨s, G, _, get_set_self h1, .inr rfl, h3.mono fun i hi => get_set_ne (fun e => h4 (e ▸ hi)), h4, h5, rfl⟩, .set _ (by simp)⟩
    have e1 : toU L (some ⟨r, 0, none⟩) = some (some ⟨r, 0, none⟩) := by unfold toU; simp only [c0']
    have e2 : ofU L 54 2 (some ⟨r, 0, none⟩) = some (some ⟨r, 0, none⟩) := by unfold ofU; simp only [h1]; rfl
    have e3 : stores L (Addr.add ⟨r, 0, none⟩ 0) [.pointer (some ⟨r, 0, none⟩)] = some (L.set r (.cells [.pointer (some ⟨r, 0, none⟩), slV s] 54 false 0)) := by
      rw [show Addr.add ⟨r, 0, none⟩ 0 = (⟨r, 0, none⟩ : Addr) from rfl, stores_of h1 (by simp)]; rfl
    rw [show Option.isNone (none : Option Addr) = true from rfl, lif_true, e1, obind_some, e2, obind_some, obind_some, e3, obind_some]
  · refine ⟨L, ?_, ⟨s, G, _, h1, .inr rfl, h3, h4, h5, rfl⟩, .refl _ _⟩
    have e1 : peq (some ⟨r, 0, none⟩) (some ⟨r, 0, none⟩) = some true := by unfold peq; simp
    rw [show Option.isNone (some (⟨r, 0, none⟩ : Addr)) = false from rfl, lif_false, obind_some, c0, Option.bind_some, show asP (.pointer (some ⟨r, 0, none⟩)) = some (some ⟨r, 0, none⟩) from rfl, obind_some, e1, obind_some]
    rfl
theorem Bld.cell {L : LHeap} {r : Nat} {s : Sl} {p : Option Addr} (h : L[r]? = some (.cells [.pointer p, slV s] 54 false 0)) : (Rlm.cell L (Addr.add ⟨r, 0, none⟩ 1)).bind asSl = some s := by
  rw [show Addr.add ⟨r, 0, none⟩ 1 = (⟨r, 1, none⟩ : Addr) from rfl, cell_of h]
  rfl
/-- Bytes behind what is there. -/
theorem bld_app {L : LHeap} {r : Nat} {l : List Nat} {F : List Nat} (h : Bld L r l F) (m : List Nat) (hl : l.length + m.length ≤ 1000000000) :
    ∃ s s' L1 L', (Rlm.cell L (Addr.add ⟨r, 0, none⟩ 1)).bind asSl = some s ∧ Rlm.app L 5 1 1 s m.length (m.map bV) = some (s', L1) ∧ stores L1 (Addr.add ⟨r, 0, none⟩ 1) [slV s'] = some L' ∧ ∃ F', Bld L' r (l ++ m) F' ∧ Step F L F' L' := by
  obtain ⟨s, G, p, h1, h2, h3, h4, h5, rfl⟩ := h
  obtain ⟨s', L1, G', a1, a2, a3⟩ := h3.app (m.map bV) 1 (by simp; omega) (by simp; omega)
  rw [List.length_map] at a1
  have hr : L1[r]? = some (.cells [.pointer p, slV s] 54 false 0) := by rw [a3.keep r (get_lt h1) h4, h1]
  have hr' : r ∉ G' := fun hc => by
    rcases a3.foot r hc with h | h
    · exact h4 h
    · have := get_lt h1; omega
  refine ⟨s, s', L1, _, Bld.cell h1, a1, ?_, r :: G', ⟨s', G', p, get_set_self hr, h2, ?_, hr', fun he => ?_, rfl⟩, ?_⟩
  · rw [show Addr.add ⟨r, 0, none⟩ 1 = (⟨r, 1, none⟩ : Addr) from rfl, stores_of hr (by simp)]; rfl
  · rw [List.map_append]; exact a2.mono fun i hi => get_set_ne (fun e => hr' (e ▸ hi))
  · obtain ⟨rfl, rfl⟩ := List.append_eq_nil_iff.1 he
    have := h5 rfl
    subst this
    have e : Rlm.app L 5 1 1 ⟨none, 0, 0⟩ 0 [] = some (⟨none, 0, 0⟩, L) := rfl
    rw [List.map_nil, List.length_nil, e] at a1
    injection a1 with a1
    injection a1 with a1 _
    exact a1.symm
  · have s1 : Step (r :: G) L (r :: G') L1 := ⟨a3.len, fun i hi hn => a3.keep i hi fun hc => hn (by simp [hc]), fun i hi => by
      rcases List.mem_cons.1 hi with rfl | hi
      · exact .inl (by simp)
      · exact (a3.foot i hi).imp (by simp [·]) id⟩
    exact s1.trans (.set _ (by simp))
theorem byte_ok {k : Nat} {L : LHeap} {r : Nat} {l : List Nat} {F : List Nat} {n : Nat} (h : Bld L r l F) (hl : l.length < 1000000000) :
    ∃ L' F', W.f24 (k + 2) (some ⟨r, 0, none⟩) (n : Int) L = some (.ret .nilIface L') ∧ Bld L' r (l ++ [n]) F' ∧ Step F L F' L' := by
  obtain ⟨L0, e0, b0, s0⟩ := check_ok (k := k) h
  have hp : Bld (L0 ++ [.cells [.int .u8 n] 5 false 0]) r l F := by
    obtain ⟨s, G, p, h1, h2, h3, h4, h5, rfl⟩ := b0
    exact ⟨s, G, p, by rw [get_push (get_lt h1)]; exact h1, h2, h3.mono fun i hi => get_push (h3.within i hi), h4, h5, rfl⟩
  obtain ⟨s, s', L1, L', c1, c2, c3, F', c4, c5⟩ := bld_app hp [n] (by simp; omega)
  refine ⟨L', F', ?_, c4, s0.trans ((Step.push F L0 _).trans c5)⟩
  have c1' : (Rlm.cell L0 (Addr.add ⟨r, 0, none⟩ 1)).bind asSl = some s := by
    obtain ⟨t0, G, p, h1, h2, h3, h4, h5, rfl⟩ := b0
    have := Bld.cell (show (L0 ++ [LBlk.cells [.int .u8 n] 5 false 0])[r]? = some (.cells [.pointer p, slV t0] 54 false 0) by rw [get_push (get_lt h1)]; exact h1)
    rw [c1] at this
    rw [Bld.cell h1]; exact this.symm
  have hs : srcOf (L0 ++ [LBlk.cells [.int .u8 (n : Int)] 5 false 0]) 1 1 (.slice (some ⟨L0.length, 0, none⟩) 1 1) = some [.int .u8 (n : Int)] := by
    simp [srcOf, srcCells, cellsAt]; rfl
  rw [W.f24_eq, e0, lbind_ret, obind_some, c1', obind_some, size5, bytes5, hs, obind_some]
  rw [show [Value.int .u8 (n : Int)] = [n].map bV from rfl] at *
  rw [show Rlm.app _ 5 1 1 s 1 _ = _ from c2, obind_some, obind_some]
  rw [show [Value.slice s'.a s'.n s'.c] = [slV s'] from rfl, c3, obind_some]
theorem text_ok {k : Nat} {L : LHeap} {r : Nat} {l m : List Nat} {F : List Nat} (h : Bld L r l F) (hm : ∀ n ∈ m, n < 256) (hl : l.length + m.length ≤ 1000000000) :
    ∃ L' F', W.f25 (k + 2) (some ⟨r, 0, none⟩) (strOf m) L = some (.ret (.tuple #[.int .i64 (m.length : Int), .nilIface]) L') ∧ Bld L' r (l ++ m) F' ∧ Step F L F' L' := by
  obtain ⟨L0, e0, b0, s0⟩ := check_ok (k := k) h
  obtain ⟨s, s', L1, L', c1, c2, c3, F', c4, c5⟩ := bld_app b0 m hl
  refine ⟨L', F', ?_, c4, s0.trans c5⟩
  rw [W.f25_eq, e0, lbind_ret, obind_some, c1, obind_some, size5, bytes5, str_all, str_cells hm, strOf_size, c2, obind_some, obind_some]
  rw [show [Value.slice s'.a s'.n s'.c] = [slV s'] from rfl, c3, obind_some]
theorem len_ok {k : Nat} {L : LHeap} {r : Nat} {l : List Nat} {F : List Nat} (h : Bld L r l F) : W.f27 (k + 1) (some ⟨r, 0, none⟩) L = some (.ret (.int .i64 (l.length : Int)) L) := by
  obtain ⟨s, G, p, h1, h2, h3, h4, h5, rfl⟩ := h
  rw [W.f27_eq, obind_some, Bld.cell h1, obind_some, h3.len, List.length_map]
theorem string_ok {k : Nat} {L : LHeap} {r : Nat} {l : List Nat} {F : List Nat} (h : Bld L r l F) (hb : ∀ n ∈ l, n < 256) (hl : l.length ≤ 1000000000) :
    ∃ L', W.f28 (k + 1) (some ⟨r, 0, none⟩) L = some (.ret (.string (strOf l)) L') ∧ Step F L F L' := by
  obtain ⟨s, G, p, h1, h2, h3, h4, h5, rfl⟩ := h
  rw [W.f28_eq, obind_some, Bld.cell h1, obind_some]
  rcases h3 with ⟨rfl, hn, rfl⟩ | ⟨c, rfl, hc, rfl⟩
  · have : l = [] := by simpa using hn
    subst this
    refine ⟨L, ?_, .refl _ _⟩
    rw [show dataL L 1 ⟨none, 0, 0⟩ = some none from rfl, obind_some, obind_some, Bld.cell h1, obind_some, obind_some, same_self, when_true]
    rfl
  · cases l with
    | nil => cases h5 rfl
    | cons x xs =>
    have hd : dataL L 1 ⟨some ⟨c, 0, none⟩, ((x :: xs).map bV).length, OPEN⟩ = some (some ⟨c, 0, none⟩) := by
      unfold dataL
      simp only [blen_of hc]
      rw [show Nat.blt OPEN OPEN = false by decide, show Nat.beq OPEN OPEN = true from Nat.beq_refl _]
      rfl
    refine ⟨L.set c (.cells ((x :: xs).map bV) 5 true 0), ?_, .set _ (by simp)⟩
    have hu : ustr L 5 (some ⟨c, 0, none⟩) (((x :: xs).map bV).length : Int) = some (strOf (x :: xs), L.set c (.cells ((x :: xs).map bV) 5 true 0)) := by
      unfold ustr
      rw [decide_eq_false (by simp only [List.length_map, List.length_cons]; omega), cond_false]
      simp only [hc]
      rw [show Nat.beq 0 0 = true from rfl, show Nat.beq 5 5 = true from rfl, decide_eq_true (by simp only [List.length_map, List.length_cons]; omega), decide_eq_true (by unfold maxI; rw [List.length_map]; omega), Int.toNat_natCast, Nat.ble_eq_true_of_le (Nat.le_refl _)]
      simp only [Bool.and_self, cond_true]
      rw [List.take_of_length_le (Nat.le_refl _), toBytes_of _ hb]
      show some ((⟨#[] ++ ((x :: xs).map UInt8.ofNat).toArray⟩ : ByteArray), _) = _
      rw [Array.empty_append]
      rfl
    rw [hd, obind_some, obind_some, Bld.cell h1, obind_some, obind_some, same_self, when_true, hu, obind_some]
end Go.Proofs.YtffcfaabjodpcaaDoor
end

section
set_option maxRecDepth 100000
set_option linter.unusedVariables false
namespace Go.Proofs.YtffcfaabjodpcaaDoor.W
open Go Go.Rlm
/-- hamper/slice.Cut -/
noncomputable def f11 (k : Nat) (s0 : ByteArray) (n1 : Int) (n2 : Int) (n3 : Int) (n4 : Int) (L : LHeap) : R :=
  lcall Tryd.prog T k 11 [Value.string s0, Value.agg #[Value.int IntKind.i64 n1, Value.int IntKind.i64 n2, Value.int IntKind.i64 n3, Value.int IntKind.i64 n4]] L
/-- slots 0, 3, 6, 8, 23 -/
noncomputable def f11_l6 (k : Nat) (j6 : Nat) (s17 : ByteArray) (r18 : Nat) (n19 : Int) (r20 : Nat) (n21 : Int) (L : LHeap) : R :=
  loopAt Tryd.prog T 11 k [1, 1, 1, 1, 0, 1, 0] [] j6
  [(0, Value.string s17), (3, Value.pointer (some (Addr.mk r18 0 none))), (6, Value.int IntKind.i64 n19), (8, Value.pointer (some (Addr.mk r20 0 none))), (23, Value.int IntKind.i64 n21)] L
/-- slots 3, 10, 11, 49, 50 -/
noncomputable def f11_l15 (k : Nat) (j15 : Nat) (r22 : Nat) (s23 : ByteArray) (l24 : Sl) (n25 : Int) (n26 : Int) (L : LHeap) : R :=
  loopAt Tryd.prog T 11 k [1, 1, 1, 1, 1, 1, 1, 1, 1, 0, 1, 0] [] j15
  [(3, Value.pointer (some (Addr.mk r22 0 none))), (10, Value.string s23), (11, Value.slice l24.a l24.n l24.c), (49, Value.int IntKind.i64 n25), (50, Value.int IntKind.i64 n26)] L
/-- slots 3, 10, 11, 12, 49, 50, 53, 54 -/
noncomputable def f11_l18 (k : Nat) (j15_27 : Nat) (j18 : Nat) (r28 : Nat) (s29 : ByteArray) (l30 : Sl) (l31 : Sl) (n32 : Int) (n33 : Int) (n34 : Int) (n35 : Int) (L : LHeap) : R :=
  loopAt Tryd.prog T 11 k [1, 1, 1, 1, 1, 1, 1, 1, 1, 0, 1, 0, 0, 1, 1, 0, 0, 1, 0, 1, 0] [j15_27] j18
  [(3, Value.pointer (some (Addr.mk r28 0 none))), (10, Value.string s29), (11, Value.slice l30.a l30.n l30.c), (12, Value.slice l31.a l31.n l31.c), (49, Value.int IntKind.i64 n32),
    (50, Value.int IntKind.i64 n33), (53, Value.int IntKind.i64 n34), (54, Value.int IntKind.i64 n35)]
  L
theorem f11_eq (k : Nat) (s0 : ByteArray) (n1 : Int) (n2 : Int) (n3 : Int) (n4 : Int) (L : LHeap) : f11 (k + 1) s0 n1 n2 n3 n4 L =
 obind
 (Option.bind
 (cell (L ++ [LBlk.cells [Value.int IntKind.i64 n1, Value.int IntKind.i64 n2, Value.int IntKind.i64 n3, Value.int IntKind.i64 n4] 23 false 0]) (Addr.add (Addr.mk (List.length L) 0 none) 0))
 (asI IntKind.i64))
 fun n5 =>
 obind
 (Option.bind
 (cell (L ++ [LBlk.cells [Value.int IntKind.i64 n1, Value.int IntKind.i64 n2, Value.int IntKind.i64 n3, Value.int IntKind.i64 n4] 23 false 0]) (Addr.add (Addr.mk (List.length L) 0 none) 1))
 (asI IntKind.i64))
 fun n6 =>
 obind
 (Option.bind
 (cell (L ++ [LBlk.cells [Value.int IntKind.i64 n1, Value.int IntKind.i64 n2, Value.int IntKind.i64 n3, Value.int IntKind.i64 n4] 23 false 0]) (Addr.add (Addr.mk (List.length L) 0 none) 2))
 (asI IntKind.i64))
 fun n7 =>
 obind
 (Option.bind
 (cell (L ++ [LBlk.cells [Value.int IntKind.i64 n1, Value.int IntKind.i64 n2, Value.int IntKind.i64 n3, Value.int IntKind.i64 n4] 23 false 0]) (Addr.add (Addr.mk (List.length L) 0 none) 3))
 (asI IntKind.i64))
 fun n8 =>
 when (decide ((↑(ByteArray.size s0) : Int) < 9223372036854775808))
 (lif (countE (↑(ByteArray.size s0) : Int) n5 n6 n7 n8 != 0)
 (some
 (LR.ret (Value.tuple #[Value.slice none 0 0, Value.int IntKind.i64 (countE (↑(ByteArray.size s0) : Int) n5 n6 n7 n8)])
 (L ++ [LBlk.cells [Value.int IntKind.i64 n1, Value.int IntKind.i64 n2, Value.int IntKind.i64 n3, Value.int IntKind.i64 n4] 23 false 0])))
 (f11_l6 k k s0 (List.length L) (countK (↑(ByteArray.size s0) : Int) n5 n6 n7 n8)
 (List.length (L ++ [LBlk.cells [Value.int IntKind.i64 n1, Value.int IntKind.i64 n2, Value.int IntKind.i64 n3, Value.int IntKind.i64 n4] 23 false 0])) 0
 (L ++ [LBlk.cells [Value.int IntKind.i64 n1, Value.int IntKind.i64 n2, Value.int IntKind.i64 n3, Value.int IntKind.i64 n4] 23 false 0] ++
 [LBlk.cells [Value.pointer none, Value.slice none 0 0] 54 false 0]))) := by kernel_rfl
theorem f11_l6_eq (k : Nat) (j6 : Nat) (s0 : ByteArray) (r1 : Nat) (n2 : Int) (r3 : Nat) (n4 : Int) (L : LHeap) : f11_l6 k (j6 + 1) s0 r1 n2 r3 n4 L =
 lif (decide (n4 < 8))
 (when (!decide (IntKind.wrap IntKind.i64 (8 * IntKind.wrap IntKind.i64 (7 - n4)) < 0))
 (lbind
 (lcall Tryd.prog T k 24
 [Value.pointer (some (Addr.mk r3 0 none)),
 Value.int IntKind.u8 (IntKind.wrap IntKind.u8 (Int.fdiv (↑(ByteArray.size s0) : Int) (2 ^ min (Int.toNat (IntKind.wrap IntKind.i64 (8 * IntKind.wrap IntKind.i64 (7 - n4)))) 64)))]
 L)
 fun v5 L6 => f11_l6 k j6 s0 r1 n2 r3 (IntKind.wrap IntKind.i64 (n4 + 1)) L6))
 (lbind (lcall Tryd.prog T k 25 [Value.pointer (some (Addr.mk r3 0 none)), Value.string s0] L) fun v7 L8 =>
 obind (tupL v7) fun x9 =>
 uncons x9 fun v10 vs11 =>
 obind (asI IntKind.i64 v10) fun n12 =>
 uncons vs11 fun v13 vs14 =>
 nilL vs14
 (obind (Option.bind (cell L8 (Addr.add (Addr.mk r1 0 none) 0)) (asI IntKind.i64)) fun n15 =>
 obind (Option.bind (cell L8 (Addr.add (Addr.mk r1 0 none) 2)) (asI IntKind.i64)) fun n16 =>
 lbindR (lcall Tryd.prog T k 27 [Value.pointer (some (Addr.mk r3 0 none))] L8) fun v17 L18 =>
 obind (asI IntKind.i64 v17) fun n19 =>
 obind (Option.bind (cell L18 (Addr.add (Addr.mk r1 0 none) 2)) (asI IntKind.i64)) fun n20 =>
 when (same (Value.int IntKind.i64 n16) (Value.int IntKind.i64 n20))
 (obind (Option.bind (cell L18 (Addr.add (Addr.mk r1 0 none) 0)) (asI IntKind.i64)) fun n21 =>
 when (same (Value.int IntKind.i64 n15) (Value.int IntKind.i64 n21))
 (when
 (decide (0 ≤ IntKind.wrap IntKind.i64 (IntKind.wrap IntKind.i64 (IntKind.wrap IntKind.i64 (n2 * n15) * n16) - n19)) &&
 Nat.ble (ByteArray.size (ByteArray.mk #[0]) * Int.toNat (IntKind.wrap IntKind.i64 (IntKind.wrap IntKind.i64 (IntKind.wrap IntKind.i64 (n2 * n15) * n16) - n19)))
 140737488355328 &&
 Nat.ble (Int.toNat (IntKind.wrap IntKind.i64 (IntKind.wrap IntKind.i64 (IntKind.wrap IntKind.i64 (n2 * n15) * n16) - n19))) 9223372036854775807)
 (lbindR
 (lcall Tryd.prog T k 25
 [Value.pointer (some (Addr.mk r3 0 none)),
 Value.string (repS (ByteArray.mk #[0]) (Int.toNat (IntKind.wrap IntKind.i64 (IntKind.wrap IntKind.i64 (IntKind.wrap IntKind.i64 (n2 * n15) * n16) - n19))))]
 L18)
 fun v22 L23 =>
 obind (tupL v22) fun x24 =>
 uncons x24 fun v25 vs26 =>
 obind (asI IntKind.i64 v25) fun n27 =>
 uncons vs26 fun v28 vs29 =>
 nilL vs29
 (lbind (lcall Tryd.prog T k 28 [Value.pointer (some (Addr.mk r3 0 none))] L23) fun v30 L31 =>
 obind (asS v30) fun s32 => f11_l15 k k r1 s32 (Sl.mk none 0 0) n2 0 L31)))))) := by kernel_rfl
theorem f11_l15_eq (k : Nat) (j15 : Nat) (r0 : Nat) (s1 : ByteArray) (l2 : Sl) (n3 : Int) (n4 : Int) (L : LHeap) : f11_l15 k (j15 + 1) r0 s1 l2 n3 n4 L =
 lif (decide (n4 < n3)) (obind (Option.bind (cell L (Addr.add (Addr.mk r0 0 none) 0)) (asI IntKind.i64)) fun n5 => f11_l18 k j15 k r0 s1 l2 (Sl.mk none 0 0) n3 n4 n5 0 L)
 (some (LR.ret (Value.tuple #[Value.slice l2.a l2.n l2.c, Value.int IntKind.i64 0]) L)) := by kernel_rfl
theorem f11_l18_eq (k : Nat) (j15_0 : Nat) (j18 : Nat) (r1 : Nat) (s2 : ByteArray) (l3 : Sl) (l4 : Sl) (n5 : Int) (n6 : Int) (n7 : Int) (n8 : Int) (L : LHeap) : f11_l18 k j15_0 (j18 + 1) r1 s2 l3 l4 n5 n6 n7 n8 L =
 lif (decide (n8 < n7))
 (obind (Option.bind (cell L (Addr.add (Addr.mk r1 0 none) 2)) (asI IntKind.i64)) fun n9 =>
 obind (subS s2 none (some n9)) fun s10 =>
 obind (srcOf (L ++ [LBlk.cells [Value.string s10] 9 false 0]) Tryd.prog.types[9].size 1 (Value.slice (some (Addr.mk (List.length L) 0 none)) 1 1)) fun x11 =>
 obind (app (L ++ [LBlk.cells [Value.string s10] 9 false 0]) 9 Tryd.prog.types[9].size Tryd.prog.types[9].bytes l4 1 x11) fun x12 =>
 obind (Option.bind (cell x12.snd (Addr.add (Addr.mk r1 0 none) 2)) (asI IntKind.i64)) fun n13 =>
 obind (subS s2 (some n13) none) fun s14 => f11_l18 k j15_0 j18 r1 s14 l3 x12.fst n5 n6 n7 (IntKind.wrap IntKind.i64 (n8 + 1)) x12.snd)
 (obind (srcOf (L ++ [LBlk.cells [Value.slice l4.a l4.n l4.c] 39 false 0]) Tryd.prog.types[39].size 1 (Value.slice (some (Addr.mk (List.length L) 0 none)) 1 1)) fun x15 =>
 obind (app (L ++ [LBlk.cells [Value.slice l4.a l4.n l4.c] 39 false 0]) 39 Tryd.prog.types[39].size Tryd.prog.types[39].bytes l3 1 x15) fun x16 =>
 f11_l15 k j15_0 r1 s2 x16.fst n5 (IntKind.wrap IntKind.i64 (n6 + 1)) x16.snd) := by kernel_rfl
end Go.Proofs.YtffcfaabjodpcaaDoor.W
end

section
namespace Go.Rlm
/-- The least number of volumes that have room for n bytes and 8. -/
def cntK (n one : Nat) : Nat := (n + 8 + one - 1) / one
theorem cntK_room {n one : Nat} (h : 0 < one) : n + 8 ≤ cntK n one * one := by
  unfold cntK
  have h1 := Nat.div_add_mod (n + 8 + one - 1) one
  have h2 := Nat.mod_lt (n + 8 + one - 1) h
  rw [Nat.mul_comm] at h1
  omega
/-- A shape: data rows, parity rows, bytes a row, recovery volumes. -/
structure Shp where
  D : Int
  R : Int
  S : Int
  M : Int
def Shp.ok (s : Shp) : Bool := decide (s.D ≥ 1) && (decide (s.D ≤ 64) && (decide (s.R ≥ 0) && (decide (s.R ≤ 32) && (decide (s.S ≥ 2) && (decide (s.S ≤ 512) && (decide (s.S.tmod 2 = 0) && (decide (s.M ≥ 0) && decide (s.M ≤ 32))))))))
def Shp.one (s : Shp) : Nat := s.D.toNat * s.S.toNat
theorem Shp.ok_iff (s : Shp) : s.ok = true ↔ 1 ≤ s.D ∧ s.D ≤ 64 ∧ 0 ≤ s.R ∧ s.R ≤ 32 ∧ 2 ≤ s.S ∧ s.S ≤ 512 ∧ s.S.tmod 2 = 0 ∧ 0 ≤ s.M ∧ s.M ≤ 32 := by
  simp [Shp.ok, and_assoc]
/-- How many, and the refusal. -/
def countS (n : Int) (s : Shp) : Int × Int :=
  if s.ok = true ∧ 0 ≤ n then
    if (cntK n.toNat s.one : Int) + s.M ≤ 96 then ((cntK n.toNat s.one : Nat), 0) else (0, 40)
  else (0, 1)
def eightB (n : Nat) : List Nat := (List.range 8).map fun i => n / 256 ^ (7 - i) % 256
theorem eightB_length (n : Nat) : (eightB n).length = 8 := by simp [eightB]
theorem eightB_small (n : Nat) : ∀ x ∈ eightB n, x < 256 := by
  intro x hx
  obtain ⟨i, _, rfl⟩ := List.mem_map.1 hx
  exact Nat.mod_lt _ (by omega)
/-- A number out of bytes. -/
def numB (l : List Nat) : Nat := l.foldl (fun v b => v * 256 + b) 0
/-- All bytes: how many, the stream, noughts. -/
def layS (b : List Nat) (k one : Nat) : List Nat := eightB b.length ++ (b ++ List.replicate (k * one - (8 + b.length)) 0)
theorem layS_length {b : List Nat} {k one : Nat} (h : b.length + 8 ≤ k * one) : (layS b k one).length = k * one := by
  simp [layS, eightB_length]; omega
def rowsOf (S : Nat) : Nat → List Nat → List (List Nat)
  | 0, _ => []
  | d + 1, l => l.take S :: rowsOf S d (l.drop S)
def volsOf (D S : Nat) : Nat → List Nat → List (List (List Nat))
  | 0, _ => []
  | k + 1, l => rowsOf S D l :: volsOf D S k (l.drop (D * S))
theorem rowsOf_length (S : Nat) : ∀ d l, (rowsOf S d l).length = d
  | 0, _ => rfl
  | d + 1, l => by simp [rowsOf, rowsOf_length S d]
theorem volsOf_length (D S : Nat) : ∀ k l, (volsOf D S k l).length = k
  | 0, _ => rfl
  | k + 1, l => by simp [volsOf, volsOf_length D S k]
theorem rowsOf_flatten (S : Nat) : ∀ (d : Nat) (l : List Nat), (rowsOf S d l).flatten = l.take (d * S)
  | 0, l => by simp [rowsOf]
  | d + 1, l => by
    rw [rowsOf, List.flatten_cons, rowsOf_flatten S d, Nat.add_mul, Nat.one_mul, Nat.add_comm (d * S) S, List.take_add]
theorem volsOf_flatten (D S : Nat) : ∀ (k : Nat) (l : List Nat), ((volsOf D S k l).map List.flatten).flatten = l.take (k * (D * S))
  | 0, l => by simp [volsOf]
  | k + 1, l => by
    rw [volsOf, List.map_cons, List.flatten_cons, volsOf_flatten D S k, rowsOf_flatten, Nat.add_mul, Nat.one_mul, Nat.add_comm (k * (D * S)) (D * S), List.take_add]
/-- Rows of one length are the rows of what they are behind one another. -/
theorem rowsOf_of {S : Nat} : ∀ (v : List (List Nat)) (r : List Nat), (∀ x ∈ v, x.length = S) → rowsOf S v.length (v.flatten ++ r) = v
  | [], _, _ => rfl
  | x :: v, r, h => by
    have hx := h x (by simp)
    rw [List.length_cons, rowsOf, List.flatten_cons, List.append_assoc, List.take_append_of_le_length (by omega), List.drop_append_of_le_length (by omega), List.take_of_length_le (by omega), List.drop_of_length_le (by omega), List.nil_append,
      rowsOf_of v r fun y hy => h y (by simp [hy])]
theorem flatten_len {S : Nat} : ∀ (v : List (List Nat)), (∀ x ∈ v, x.length = S) → v.flatten.length = v.length * S
  | [], _ => by simp
  | x :: v, h => by
    rw [List.flatten_cons, List.length_append, h x (by simp), flatten_len v fun y hy => h y (by simp [hy]), List.length_cons, Nat.add_mul]; omega
theorem volsOf_of {D S : Nat} : ∀ (vs : List (List (List Nat))) (r : List Nat), (∀ v ∈ vs, v.length = D ∧ ∀ x ∈ v, x.length = S) → volsOf D S vs.length ((vs.map List.flatten).flatten ++ r) = vs
  | [], _, _ => rfl
  | v :: vs, r, h => by
    obtain ⟨h1, h2⟩ := h v (by simp)
    have hl := flatten_len v h2
    rw [List.length_cons, volsOf, List.map_cons, List.flatten_cons, List.append_assoc, List.drop_append_of_le_length (by rw [hl, h1]; omega), List.drop_of_length_le (by rw [hl, h1]; omega), List.nil_append, volsOf_of vs r fun w hw => h w (by simp [hw])]
    congr 1
    rw [← h1]
    exact rowsOf_of v _ h2
/-- A stream cut. -/
def cutS (b : List Nat) (s : Shp) : List (List (List Nat)) × Int :=
  if (countS b.length s).2 = 0 then (volsOf s.D.toNat s.S.toNat (countS b.length s).1.toNat (layS b (countS b.length s).1.toNat s.one), 0) else ([], (countS b.length s).2)
/-- What volumes are the cut of, or the refusal. -/
def joinS (vs : List (List (List Nat))) (s : Shp) : List Nat × Int :=
  if s.ok = true then
    if vs.all (fun v => decide ((v.length : Int) = s.D) && v.all fun x => decide ((x.length : Int) = s.S)) then
      let all := (vs.map List.flatten).flatten
      let n := numB (all.take 8)
      if all.length < 8 then ([], 4)
      else if all.length - 8 < n then ([], 4)
      else
        let b := (all.drop 8).take n
        if cutS b s = (vs, 0) then (b, 0) else ([], 4)
    else ([], 4)
  else ([], 1)
theorem eight_num {l : List Nat} (hl : l.length = 8) (hb : ∀ x ∈ l, x < 256) : eightB (numB l) = l ∧ numB l < 256 ^ 8 := by
  match l, hl with
  | [a, b, c, d, e, f, g, h], _ =>
    have h1 := hb a (by simp)
    have h2 := hb b (by simp)
    have h3 := hb c (by simp)
    have h4 := hb d (by simp)
    have h5 := hb e (by simp)
    have h6 := hb f (by simp)
    have h7 := hb g (by simp)
    have h8 := hb h (by simp)
    simp only [numB, eightB, List.range, List.range.loop, List.map_cons, List.map_nil, List.foldl_cons, List.foldl_nil, Nat.reducePow, Nat.reduceSub, Nat.zero_mul, Nat.zero_add, List.cons.injEq, and_true]
    omega
theorem replicate_of {l : List Nat} (h : ∀ x ∈ l, x = 0) : l = List.replicate l.length 0 := List.eq_replicate_iff.2 ⟨rfl, h⟩
/-- The stream's rows are these, said otherwise. -/
theorem cut_iff {vs : List (List (List Nat))} {s : Shp} (hok : s.ok = true) (hv : ∀ v ∈ vs, (v.length : Int) = s.D ∧ ∀ x ∈ v, (x.length : Int) = s.S) (hb : ∀ v ∈ vs, ∀ r ∈ v, ∀ x ∈ r, x < 256)
    (h8 : 8 ≤ ((vs.map List.flatten).flatten).length) (hn : numB (((vs.map List.flatten).flatten).take 8) ≤ ((vs.map List.flatten).flatten).length - 8) :
    cutS ((((vs.map List.flatten).flatten).drop 8).take (numB (((vs.map List.flatten).flatten).take 8))) s = (vs, 0) ↔
      (countS (numB (((vs.map List.flatten).flatten).take 8)) s = ((vs.length : Int), 0) ∧ ∀ x ∈ ((vs.map List.flatten).flatten).drop (8 + numB (((vs.map List.flatten).flatten).take 8)), x = 0) := by
  obtain ⟨o1, o2, o3, o4, o5, o6, o7, o8, o9⟩ := (s.ok_iff).1 hok
  have hone : 0 < s.one := Nat.mul_pos (by omega) (by omega)
  have hv' : ∀ v ∈ vs, v.length = s.D.toNat ∧ ∀ x ∈ v, x.length = s.S.toNat := fun v h => ⟨by have := (hv v h).1; omega, fun x hx => by have := (hv v h).2 x hx; omega⟩
  have hall : ∀ x ∈ (vs.map List.flatten).flatten, x < 256 := fun x hx => by
    obtain ⟨l, hl, hx⟩ := List.mem_flatten.1 hx
    obtain ⟨v, hv, rfl⟩ := List.mem_map.1 hl
    obtain ⟨r, hr, hx⟩ := List.mem_flatten.1 hx
    exact hb v hv r hr x hx
  have hlen : ((vs.map List.flatten).flatten).length = vs.length * s.one := by
    rw [flatten_len (S := s.one) _ fun y hy => ?_, List.length_map]
    obtain ⟨v, hv, rfl⟩ := List.mem_map.1 hy
    rw [flatten_len (S := s.S.toNat) v (hv' v hv).2, (hv' v hv).1]; rfl
  have hvols := volsOf_of (D := s.D.toNat) (S := s.S.toNat) vs [] hv'
  rw [List.append_nil] at hvols
  generalize hA : (vs.map List.flatten).flatten = all at *
  obtain ⟨e1, e2⟩ := eight_num (l := all.take 8) (by simp; omega) fun x hx => hall x (List.mem_of_mem_take hx)
  generalize hN : numB (all.take 8) = n at *
  have hbl : ((all.drop 8).take n).length = n := by simp; omega
  have hsplit : all = eightB n ++ ((all.drop 8).take n ++ all.drop (8 + n)) := by
    rw [e1, ← List.drop_drop, List.take_append_drop, List.take_append_drop]
  unfold cutS
  rw [hbl]
  constructor
  · intro h
    split at h
    · rename_i hc
      injection h with h _
      have hk : (countS n s).1.toNat = vs.length := by rw [← h, volsOf_length]
      have hc' := hc
      unfold countS at hc hk
      rw [if_pos ⟨hok, by omega⟩] at hc hk
      split at hc
      · rename_i h96
        rw [if_pos h96] at hk
        simp only [Int.toNat_natCast] at hk
        have hroom := cntK_room (n := n) hone
        rw [hk] at hroom
        refine ⟨?_, ?_⟩
        · unfold countS
          rw [if_pos ⟨hok, by omega⟩, if_pos h96, Int.toNat_natCast, hk]
        · have hk2 : (countS n s).1.toNat = vs.length := by rw [← h, volsOf_length]
          have hfl := volsOf_flatten s.D.toNat s.S.toNat (countS n s).1.toNat (layS ((all.drop 8).take n) (countS n s).1.toNat s.one)
          rw [h, hA, hk2, List.take_of_length_le (by rw [layS_length (by rw [hbl]; omega)]; exact Nat.le_refl _)] at hfl
          unfold layS at hfl
          rw [hbl] at hfl
          have : all.drop (8 + n) = List.replicate (vs.length * s.one - (8 + n)) 0 := by
            have h0 := congrArg (List.drop (8 + n)) hfl
            rw [← List.append_assoc, List.drop_left' (by simp [eightB_length]; omega)] at h0
            exact h0
          intro x hx
          rw [this] at hx
          exact List.eq_of_mem_replicate hx
      · cases hc
    · rename_i hc
      injection h with _ h
      exact absurd h hc
  · rintro ⟨h1, h2⟩
    rw [h1, if_pos rfl, Int.toNat_natCast]
    have hroom : n + 8 ≤ vs.length * s.one := by omega
    have : layS ((all.drop 8).take n) vs.length s.one = all := by
      unfold layS
      rw [hbl]
      have hr := replicate_of h2
      rw [List.length_drop, hlen] at hr
      rw [← hr, ← hsplit]
    rw [this, hvols]
end Go.Rlm
end

section
set_option maxRecDepth 100000
namespace Go.Proofs.YtffcfaabjodpcaaDoor
open Go Go.Rlm
theorem str_extract (l : List Nat) (i j : Nat) : (strOf l).extract i j = strOf ((l.take j).drop i) := by
  apply ByteArray.ext
  rw [ByteArray.data_extract]
  unfold strOf
  simp only [List.extract_toArray, List.extract_eq_take_drop, ← List.map_take, ← List.map_drop, List.drop_take]
theorem sub_take {l : List Nat} {n : Nat} (h : n ≤ l.length) : subS (strOf l) none (some (n : Int)) = some (strOf (l.take n)) := by
  simp only [subS, bound_at (strOf l).size (show n ≤ (strOf l).size by rw [strOf_size]; exact h), bound_out (Nat.zero_le _), Option.bind_eq_bind, Option.bind_some, str_extract, List.drop_zero]
theorem sub_drop {l : List Nat} {n : Nat} (h : n ≤ l.length) : subS (strOf l) (some (n : Int)) none = some (strOf (l.drop n)) := by
  simp only [subS, bound_out (Nat.le_refl (strOf l).size), bound_at 0 (show n ≤ (strOf l).size by rw [strOf_size]; exact h), Option.bind_eq_bind, Option.bind_some, str_extract]
  rw [strOf_size, List.take_length]
theorem str_app (a b : List Nat) : strOf a ++ strOf b = strOf (a ++ b) := by
  apply ByteArray.ext
  rw [ByteArray.data_append]
  simp [strOf]
theorem repeatL_eq (l : List UInt8) : ∀ c, Lib.repeatL l c = (List.replicate c l).flatten
  | 0 => rfl
  | c + 1 => by rw [Lib.repeatL, repeatL_eq l c]; rfl
theorem rep_zero (c : Nat) : repS ⟨#[0]⟩ c = strOf (List.replicate c 0) := by
  unfold repS strOf
  rw [repeatL_eq, List.map_replicate]
  congr 2
  induction c with
  | zero => rfl
  | succ c ih => rw [List.replicate_succ, List.flatten_cons, ih]; rfl
/-- Volumes: a slice of slices of texts; F: the blocks that they stand in. -/
def Vols (L : LHeap) (s : Sl) (vs : List (List (List Nat))) (F : List Nat) : Prop :=
  ∃ (xs : List Sl) (A : List Nat), OS L s (xs.map slV) 39 A ∧ xs.length = vs.length ∧ (∀ (i : Nat) (x : Sl) (v : List (List Nat)), xs[i]? = some x → vs[i]? = some v → ∃ B, OS L x (v.map strV) 9 B ∧ ∀ b ∈ B, b ∈ F ∧ b ∉ A) ∧ ∀ a ∈ A, a ∈ F
theorem Vols.nil (L : LHeap) (F : List Nat) : Vols L ⟨none, 0, 0⟩ [] F := ⟨[], [], OS.nil _ _, rfl, fun i x v h => by simp at h, fun a h => by simp at h⟩
theorem Vols.mono {L L' : LHeap} {s : Sl} {vs : List (List (List Nat))} {F : List Nat} (h : Vols L s vs F) (hk : ∀ i ∈ F, L'[i]? = L[i]?) : Vols L' s vs F := by
  obtain ⟨xs, A, h1, h2, h3, h4⟩ := h
  refine ⟨xs, A, h1.mono fun i hi => hk i (h4 i hi), h2, fun i x v hx hv => ?_, h4⟩
  obtain ⟨B, b1, b2⟩ := h3 i x v hx hv
  exact ⟨B, b1.mono fun i hi => hk i (b2 i hi).1, b2⟩
theorem rows_loop {k j15 r S D : Nat} {l3 : Sl} {n5 n6 d1 d2 d3 : Int} (hS : S ≤ 512) (hD : D ≤ 64) : ∀ (q i j : Nat) (l : List Nat) (L : LHeap) (l4 : Sl) (done : List (List Nat)) (F4 : List Nat), i + q = D → q < j → q * S ≤ l.length → done.length = i →
    L[r]? = some (.cells [.int .i64 d1, .int .i64 d2, .int .i64 (S : Int), .int .i64 d3] 23 false 0) → OS L l4 (done.map strV) 9 F4 → r ∉ F4 →
    ∃ j' l4' L' F4', W.f11_l18 k j15 j r (strOf l) l3 l4 n5 n6 (D : Int) (i : Int) L = W.f11_l18 k j15 (j' + 1) r (strOf (l.drop (q * S))) l3 l4' n5 n6 (D : Int) (D : Int) L' ∧ OS L' l4' ((done ++ rowsOf S q l).map strV) 9 F4' ∧ Step F4 L F4' L' := by
  intro q
  induction q with
  | zero =>
    intro i j l L l4 done F4 hi hj _ _ _ ho _
    obtain ⟨j, rfl⟩ : ∃ j', j = j' + 1 := ⟨j - 1, by omega⟩
    refine ⟨j, l4, L, F4, ?_, by rw [rowsOf, List.append_nil]; exact ho, .refl _ _⟩
    rw [Nat.zero_mul, List.drop_zero, show i = D by omega]
  | succ q ih =>
    intro i j l L l4 done F4 hi hj hl hdone hr ho hrF
    obtain ⟨j, rfl⟩ : ∃ j', j = j' + 1 := ⟨j - 1, by omega⟩
    rw [Nat.add_mul, Nat.one_mul] at hl
    have hlr := get_lt hr
    have hc : ∀ L', L'[r]? = L[r]? → (Rlm.cell L' (Addr.add ⟨r, 0, none⟩ 2)).bind (asI .i64) = some (S : Int) := fun L' e => by
      rw [show Addr.add ⟨r, 0, none⟩ 2 = (⟨r, 2, none⟩ : Addr) from rfl, cell_of (e.trans hr)]; rfl
    obtain ⟨l4', L1, F1, a1, a2, a3⟩ := (ho.mono (L' := L ++ [.cells [.string (strOf (l.take S))] 9 false 0]) fun b hb => get_push (ho.within b hb)).app [strV (l.take S)] 16 (by simp; omega) (by simp; omega)
    have hs : srcOf (L ++ [LBlk.cells [.string (strOf (l.take S))] 9 false 0]) 1 1 (.slice (some ⟨L.length, 0, none⟩) 1 1) = some [strV (l.take S)] := by
      simp [srcOf, srcCells, cellsAt]; rfl
    have st : Step F4 L F1 L1 := (Step.push F4 L _).trans a3
    have hr1 : L1[r]? = L[r]? := st.keep r hlr hrF
    obtain ⟨j', l5, L2, F2, b1, b2, b3⟩ := ih (i + 1) j (l.drop S) L1 l4' (done ++ [l.take S]) F1 (by omega) (by omega) (by rw [List.length_drop]; omega) (by simp [hdone]) (hr1.trans hr) (by rw [List.map_append]; exact a2)
      (fun hc => by rcases st.foot r hc with h | h; exact hrF h; omega)
    refine ⟨j', l5, L2, F2, ?_, ?_, st.trans b3⟩
    · rw [W.f11_l18_eq, decide_eq_true (by omega), lif_true, hc L rfl, obind_some, sub_take (by omega), obind_some, size9, bytes9, hs, obind_some]
      rw [show app _ 9 1 16 l4 1 _ = _ from a1, obind_some, hc L1 hr1, obind_some, sub_drop (by omega), obind_some, wI64 (by omega) (by omega)]
      rw [show (i : Int) + 1 = ((i + 1 : Nat) : Int) by omega, b1, List.drop_drop, Nat.add_mul, Nat.one_mul, Nat.add_comm S]
    · rw [rowsOf, show done ++ List.take S l :: rowsOf S q (List.drop S l) = done ++ [l.take S] ++ rowsOf S q (l.drop S) by simp]
      exact b2
theorem vols_loop {k r S D : Nat} {K d2 d3 : Int} (hS : S ≤ 512) (hD : D ≤ 64) (hk : 100 ≤ k) : ∀ (q i j : Nat) (l : List Nat) (L : LHeap) (l2 : Sl) (done : List (List (List Nat))) (F : List Nat), (i : Int) + q = K → K ≤ 96 → q < j → q * (D * S) ≤ l.length → done.length = i →
    L[r]? = some (.cells [.int .i64 (D : Int), .int .i64 d2, .int .i64 (S : Int), .int .i64 d3] 23 false 0) → Vols L l2 done F → r ∉ F → Within F L →
    ∃ s L' F', W.f11_l15 k j r (strOf l) l2 K (i : Int) L = some (.ret (.tuple #[slV s, .int .i64 0]) L') ∧ Vols L' s (done ++ volsOf D S q l) F' ∧ Step F L F' L' ∧ Within F' L' := by
  intro q
  induction q with
  | zero =>
    intro i j l L l2 done F hi hK hj _ _ _ ho _ hw
    obtain ⟨j, rfl⟩ : ∃ j', j = j' + 1 := ⟨j - 1, by omega⟩
    refine ⟨l2, L, F, ?_, by rw [volsOf, List.append_nil]; exact ho, .refl _ _, hw⟩
    rw [W.f11_l15_eq, decide_eq_false (by omega), lif_false]
    rfl
  | succ q ih =>
    intro i j l L l2 done F hi hK hj hl hdone hr ho hrF hw
    obtain ⟨j, rfl⟩ : ∃ j', j = j' + 1 := ⟨j - 1, by omega⟩
    rw [Nat.add_mul, Nat.one_mul] at hl
    have hlr := get_lt hr
    have hc : (Rlm.cell L (Addr.add ⟨r, 0, none⟩ 0)).bind (asI .i64) = some (D : Int) := by
      rw [show Addr.add ⟨r, 0, none⟩ 0 = (⟨r, 0, none⟩ : Addr) from rfl, cell_of hr]; rfl
    obtain ⟨j', l4, L1, F1, a1, a2, a3⟩ := rows_loop (k := k) (j15 := j) (r := r) (l3 := l2) (n5 := K) (n6 := i) hS hD D 0 k l L ⟨none, 0, 0⟩ [] [] (by omega) (by omega) (by omega) rfl hr (OS.nil _ _) (by simp)
    rw [List.nil_append] at a2
    -- everything that was there is there
    have k1 : ∀ b, b < L.length → L1[b]? = L[b]? := fun b hb => a3.keep b hb (by simp)
    have f1 : ∀ b ∈ F1, L.length ≤ b := fun b hb => by rcases a3.foot b hb with h | h; simp at h; exact h
    obtain ⟨xs, A, o1, o2, o3, o4⟩ := ho
    have k2 : ∀ b, b < L1.length → (L1 ++ [LBlk.cells [slV l4] 39 false 0])[b]? = L1[b]? := fun b hb => get_push hb
    have o1' : OS (L1 ++ [LBlk.cells [slV l4] 39 false 0]) l2 (xs.map slV) 39 A := o1.mono fun b hb => by
      have := hw b (o4 b hb)
      rw [k2 b (by have := a3.len; omega), k1 b this]
    obtain ⟨s', L2, A2, c1, c2, c3⟩ := o1'.app [slV l4] 24 (by simp; omega) (by simp; omega)
    have hs : srcOf (L1 ++ [LBlk.cells [slV l4] 39 false 0]) 1 1 (.slice (some ⟨L1.length, 0, none⟩) 1 1) = some [slV l4] := by
      simp [srcOf, srcCells, cellsAt]; rfl
    have hA : ∀ b, b ∉ A → b < L1.length → L2[b]? = L1[b]? := fun b hb hl => by rw [c3.keep b (by simp; omega) hb, k2 b hl]
    have fA2 : ∀ b ∈ A2, b ∈ A ∨ L1.length + 1 ≤ b := fun b hb => by
      rcases c3.foot b hb with h | h
      · exact .inl h
      · exact .inr (by simpa using h)
    have w1 := a2.within
    have nA : ∀ b ∈ F1, b ∉ A := fun b hb hc => by have := f1 b hb; have := hw b (o4 b hc); omega
    have hv : Vols L2 s' (done ++ [rowsOf S D l]) (A2 ++ F1 ++ F) := by
      refine ⟨xs ++ [l4], A2, by rw [List.map_append]; exact c2, by simp [o2], fun t x v hx hvv => ?_, fun a ha => by simp [ha]⟩
      rcases Nat.lt_or_ge t xs.length with ht | ht
      · rw [List.getElem?_append_left ht] at hx
        rw [List.getElem?_append_left (by omega)] at hvv
        obtain ⟨B, b1, b2⟩ := o3 t x v hx hvv
        refine ⟨B, b1.mono fun b hb => ?_, fun b hb => ⟨by simp [(b2 b hb).1], fun hc => ?_⟩⟩
        · have := hw b (b2 b hb).1
          rw [hA b (b2 b hb).2 (by have := a3.len; omega), k1 b this]
        · rcases fA2 b hc with h | h
          · exact (b2 b hb).2 h
          · have := hw b (b2 b hb).1; have := a3.len; omega
      · rw [List.getElem?_append_right ht] at hx
        rw [List.getElem?_append_right (by omega)] at hvv
        have hlt := get_lt hx
        simp only [List.length_cons, List.length_nil] at hlt
        rw [show t - xs.length = 0 by omega] at hx
        rw [show t - done.length = 0 by omega] at hvv
        injection hx with hx; injection hvv with hvv
        subst hx; subst hvv
        refine ⟨F1, a2.mono fun b hb => hA b (nA b hb) (w1 b hb), fun b hb => ⟨by simp [hb], fun hc => ?_⟩⟩
        rcases fA2 b hc with h | h
        · exact nA b hb h
        · have := w1 b hb; omega
    have st : Step F L (A2 ++ F1 ++ F) L2 := by
      refine ⟨by have := a3.len; have := c3.len; simp at this; omega, fun b hb hn => ?_, fun b hb => ?_⟩
      · rw [hA b (fun hc => hn (o4 b hc)) (by have := a3.len; omega), k1 b hb]
      · rcases List.mem_append.1 hb with hb | hb
        · rcases List.mem_append.1 hb with hb | hb
          · rcases fA2 b hb with h | h
            · exact .inl (o4 b h)
            · exact .inr (by have := a3.len; omega)
          · exact .inr (f1 b hb)
        · exact .inl hb
    have w2 : Within (A2 ++ F1 ++ F) L2 := fun b hb => by
      have e1 := a3.len
      have e2 := c3.len
      simp only [List.length_append, List.length_cons, List.length_nil] at e2
      rcases List.mem_append.1 hb with hb | hb
      · rcases List.mem_append.1 hb with hb | hb
        · exact c2.within b hb
        · have := w1 b hb; omega
      · have := hw b hb; omega
    have hr2 : r ∉ A2 ++ F1 ++ F := fun hc => by rcases st.foot r hc with h | h; exact hrF h; omega
    obtain ⟨s, L', F', d1, d2', d3', d4⟩ := ih (i + 1) j (l.drop (D * S)) L2 s' (done ++ [rowsOf S D l]) _ (by omega) hK (by omega) (by rw [List.length_drop]; omega) (by simp [hdone]) (by rw [st.keep r hlr hrF]; exact hr) hv hr2 w2
    refine ⟨s, L', F', ?_, ?_, st.trans d3', d4⟩
    · rw [W.f11_l15_eq, decide_eq_true (by omega), lif_true, hc, obind_some]
      rw [Int.natCast_zero] at a1
      rw [a1, W.f11_l18_eq, decide_eq_false (by omega), lif_false, size39, bytes39]
      rw [show [LBlk.cells [Value.slice l4.a l4.n l4.c] 39 false 0] = [LBlk.cells [slV l4] 39 false 0] from rfl, hs, obind_some]
      rw [show app _ 39 1 24 l2 1 _ = _ from c1, obind_some, wI64 (by omega) (by omega), show (i : Int) + 1 = ((i + 1 : Nat) : Int) by omega]
      exact d1
    · rw [volsOf, show done ++ rowsOf S D l :: volsOf D S q (List.drop (D * S) l) = done ++ [rowsOf S D l] ++ volsOf D S q (l.drop (D * S)) by simp]
      exact d2'
theorem eight_get {n i : Nat} (h : i < 8) : (eightB n)[i]? = some (n / 256 ^ (7 - i) % 256) := by
  unfold eightB
  rw [List.getElem?_map, List.getElem?_range h]
  rfl
theorem bytes_loop {k r1 r3 : Nat} {s : ByteArray} {n2 : Int} (hs : s.size ≤ 1000000000) : ∀ (q i j : Nat) (L : LHeap) (F : List Nat), i + q = 8 → q < j → Bld L r3 ((eightB s.size).take i) F →
    ∃ j' L' F', W.f11_l6 (k + 2) j s r1 n2 r3 (i : Int) L = W.f11_l6 (k + 2) (j' + 1) s r1 n2 r3 ((8 : Nat) : Int) L' ∧ Bld L' r3 (eightB s.size) F' ∧ Step F L F' L' := by
  intro q
  induction q with
  | zero =>
    intro i j L F hi hj hb
    obtain ⟨j, rfl⟩ : ∃ j', j = j' + 1 := ⟨j - 1, by omega⟩
    refine ⟨j, L, F, by rw [show i = 8 by omega], ?_, .refl _ _⟩
    rw [List.take_of_length_le (by rw [eightB_length]; omega)] at hb
    exact hb
  | succ q ih =>
    intro i j L F hi hj hb
    obtain ⟨j, rfl⟩ : ∃ j', j = j' + 1 := ⟨j - 1, by omega⟩
    obtain ⟨L1, F1, a1, a2, a3⟩ := byte_ok (k := k) (n := s.size / 256 ^ (7 - i) % 256) hb (by rw [List.length_take, eightB_length]; omega)
    obtain ⟨j', L', F', b1, b2, b3⟩ := ih (i + 1) j L1 F1 (by omega) (by omega) (by
      rw [List.take_add_one, eight_get (by omega)]; exact a2)
    refine ⟨j', L', F', ?_, b2, a3.trans b3⟩
    have e : IntKind.wrap .u8 (Int.fdiv (s.size : Int) (2 ^ min (Int.toNat (IntKind.wrap .i64 (8 * IntKind.wrap .i64 (7 - (i : Int))))) 64)) = ((s.size / 256 ^ (7 - i) % 256 : Nat) : Int) := by
      rw [wI64 (n := 7 - (i : Int)) (by omega) (by omega), wI64 (by omega) (by omega), show Int.toNat (8 * (7 - (i : Int))) = 8 * (7 - i) by omega, Nat.min_eq_left (by omega), fdiv_pow, Nat.pow_mul]
      show ((s.size / 256 ^ (7 - i) : Nat) : Int) % 256 = _
      omega
    rw [W.f11_l6_eq, decide_eq_true (by omega), lif_true, e, wI64 (n := 7 - (i : Int)) (by omega) (by omega), wI64 (n := 8 * (7 - (i : Int))) (by omega) (by omega), decide_eq_false (by omega), Bool.not_false, when_true]
    rw [show lcall Tryd.prog W.T (k + 2) 24 [.pointer (some (Addr.mk r3 0 none)), .int .u8 ((s.size / 256 ^ (7 - i) % 256 : Nat) : Int)] L = W.f24 (k + 2) (some ⟨r3, 0, none⟩) ((s.size / 256 ^ (7 - i) % 256 : Nat) : Int) L from rfl, a1, lbind_ret,
      wI64 (by omega) (by omega), show (i : Int) + 1 = ((i + 1 : Nat) : Int) by omega]
    exact b1
/-- What a stream is cut into. -/
def cutV (b : List Nat) (d r z m : Int) : List (List (List Nat)) :=
  if countE b.length d r z m = 0 then volsOf d.toNat z.toNat (countK b.length d r z m).toNat (layS b (countK b.length d r z m).toNat (d.toNat * z.toNat)) else []
theorem fit_ok {n d r z m : Int} (hn : 0 ≤ n) (h : countE n d r z m = 0) : shapeB d r z m = true ∧ countK n d r z m = volK n (d * z) ∧ 1 ≤ volK n (d * z) ∧ volK n (d * z) ≤ 96 ∧ n + 8 ≤ volK n (d * z) * (d * z) := by
  cases hs : shapeB d r z m with
  | false => rw [(count_bad (.inl hs)).1] at h; omega
  | true =>
    have ho := one_le hs
    have hs' := shapeB_iff.1 hs
    by_cases hv : volK n (d * z) ≤ 96 - m
    · exact ⟨rfl, (count_fits hs hn hv).2, volK_pos hn (by omega), by omega, (volK_spec hn (by omega)).1⟩
    · rw [(count_big hs hn (by omega)).1] at h; omega
theorem lay_eq (b : List Nat) (k one : Nat) : layS b k one = eightB b.length ++ b ++ List.replicate (k * one - (8 + b.length)) 0 := by unfold layS; rw [List.append_assoc]
theorem cut_ok {k : Nat} {b : List Nat} (hb : ∀ x ∈ b, x < 256) (hl : b.length ≤ 1000000) (d r z m : Int) (L : LHeap) :
    ∃ s L' F, W.f11 (k + 101) (strOf b) d r z m L = some (.ret (.tuple #[slV s, .int .i64 (countE b.length d r z m)]) L') ∧ Vols L' s (cutV b d r z m) F ∧ Step [] L F L' ∧ Within F L' := by
  rw [W.f11_eq]
  have hr : ∀ X : LHeap, (L ++ LBlk.cells [.int .i64 d, .int .i64 r, .int .i64 z, .int .i64 m] 23 false 0 :: X)[L.length]? = some (.cells [.int .i64 d, .int .i64 r, .int .i64 z, .int .i64 m] 23 false 0) := fun X => by simp
  have q0 : (cell (L ++ [LBlk.cells [.int .i64 d, .int .i64 r, .int .i64 z, .int .i64 m] 23 false 0]) (Addr.add ⟨L.length, 0, none⟩ 0)).bind (asI .i64) = some d := by
    rw [show Addr.add ⟨L.length, 0, none⟩ 0 = (⟨L.length, 0, none⟩ : Addr) from rfl, cell_of (hr [])]; rfl
  have q1 : (cell (L ++ [LBlk.cells [.int .i64 d, .int .i64 r, .int .i64 z, .int .i64 m] 23 false 0]) (Addr.add ⟨L.length, 0, none⟩ 1)).bind (asI .i64) = some r := by
    rw [show Addr.add ⟨L.length, 0, none⟩ 1 = (⟨L.length, 1, none⟩ : Addr) from rfl, cell_of (hr [])]; rfl
  have q2 : (cell (L ++ [LBlk.cells [.int .i64 d, .int .i64 r, .int .i64 z, .int .i64 m] 23 false 0]) (Addr.add ⟨L.length, 0, none⟩ 2)).bind (asI .i64) = some z := by
    rw [show Addr.add ⟨L.length, 0, none⟩ 2 = (⟨L.length, 2, none⟩ : Addr) from rfl, cell_of (hr [])]; rfl
  have q3 : (cell (L ++ [LBlk.cells [.int .i64 d, .int .i64 r, .int .i64 z, .int .i64 m] 23 false 0]) (Addr.add ⟨L.length, 0, none⟩ 3)).bind (asI .i64) = some m := by
    rw [show Addr.add ⟨L.length, 0, none⟩ 3 = (⟨L.length, 3, none⟩ : Addr) from rfl, cell_of (hr [])]; rfl
  rw [q0, obind_some, q1, obind_some, q2, obind_some, q3, obind_some, strOf_size, decide_eq_true (by omega), when_true]
  have st0 : Step [] L [] (L ++ [LBlk.cells [.int .i64 d, .int .i64 r, .int .i64 z, .int .i64 m] 23 false 0]) := .push _ _ _
  by_cases he : countE b.length d r z m = 0
  case neg =>
    refine ⟨⟨none, 0, 0⟩, _, [], ?_, by unfold cutV; rw [if_neg he]; exact Vols.nil _ _, st0, fun i hi => by simp at hi⟩
    rw [show (countE b.length d r z m != 0) = true by simpa using he, lif_true]
    rfl
  rw [he, show ((0 : Int) != 0) = false from rfl, lif_false]
  obtain ⟨hs, e2, e3, e4, e5⟩ := fit_ok (by omega) he
  have hs' := shapeB_iff.1 hs
  obtain ⟨D, hD⟩ : ∃ D : Nat, d = D := ⟨d.toNat, by omega⟩
  obtain ⟨S, hS⟩ : ∃ S : Nat, z = S := ⟨z.toNat, by omega⟩
  subst hD; subst hS
  obtain ⟨K, hK⟩ : ∃ K : Nat, volK b.length ((D : Int) * S) = K := ⟨(volK b.length ((D : Int) * S)).toNat, by omega⟩
  rw [hK] at e2 e3 e4 e5
  have e5' : b.length + 8 ≤ K * (D * S) := by
    have : ((b.length + 8 : Nat) : Int) ≤ ((K * (D * S) : Nat) : Int) := by push_cast; exact e5
    omega
  have hcut : cutV b D r S m = volsOf D S K (layS b K (D * S)) := by
    unfold cutV; rw [if_pos he, e2]; rfl
  rw [hcut, e2]
  have hDS : D * S ≤ 64 * 512 := Nat.mul_le_mul (by omega) (by omega)
  have hKD : K * D ≤ 96 * 64 := Nat.mul_le_mul (by omega) (by omega)
  have hall : K * (D * S) ≤ 96 * (64 * 512) := Nat.mul_le_mul (by omega) hDS
  -- the builder
  generalize hL0 : L ++ [LBlk.cells [.int .i64 (D : Int), .int .i64 r, .int .i64 (S : Int), .int .i64 m] 23 false 0] = L0 at *
  have l0 : L0.length = L.length + 1 := by rw [← hL0]; simp
  have b0 : Bld (L0 ++ [LBlk.cells [.pointer none, .slice none 0 0] 54 false 0]) L0.length ((eightB (strOf b).size).take 0) [L0.length] :=
    ⟨⟨none, 0, 0⟩, [], none, get_new, .inl rfl, OS.nil _ _, by simp, fun _ => rfl, rfl⟩
  obtain ⟨j', L1, F1, a1, a2, a3⟩ := bytes_loop (k := k + 98) (r1 := L.length) (r3 := L0.length) (s := strOf b) (n2 := (K : Int)) (by rw [strOf_size]; omega) 8 0 (k + 100) _ _ (by omega) (by omega) b0
  rw [strOf_size] at a2
  obtain ⟨L2, F2, c1, c2, c3⟩ := text_ok (k := k + 98) a2 hb (by rw [eightB_length]; omega)
  obtain ⟨L3, F3, d1, d2, d3⟩ := text_ok (k := k + 98) (m := List.replicate (K * (D * S) - (8 + b.length)) 0) c2 (fun n hn => by rw [(List.mem_replicate.1 hn).2]; omega) (by simp [eightB_length]; omega)
  have hsm : ∀ n ∈ layS b K (D * S), n < 256 := by
    intro n hn
    rw [lay_eq] at hn
    rcases List.mem_append.1 hn with hn | hn
    · rcases List.mem_append.1 hn with hn | hn
      · exact eightB_small _ n hn
      · exact hb n hn
    · rw [(List.mem_replicate.1 hn).2]; omega
  have hll := layS_length e5'
  rw [← lay_eq] at d2
  obtain ⟨L4, f1, f2⟩ := string_ok (k := k + 99) d2 hsm (by omega)
  have st1 : Step [L0.length] (L0 ++ [LBlk.cells [.pointer none, .slice none 0 0] 54 false 0]) F3 L4 := ((a3.trans c3).trans d3).trans f2
  have len1 := a3.len
  have sh : ∀ {X : LHeap} {F : List Nat}, Step [L0.length] (L0 ++ [LBlk.cells [.pointer none, .slice none 0 0] 54 false 0]) F X → X[L.length]? = some (.cells [.int .i64 (D : Int), .int .i64 r, .int .i64 (S : Int), .int .i64 m] 23 false 0) := fun st => by
    rw [st.keep L.length (by simp; omega) (by simp; omega), get_push (by omega), ← hL0]
    exact hr []
  obtain ⟨sl, L5, F5, g1, g2, g3, g4⟩ := vols_loop (k := k + 100) (r := L.length) (S := S) (D := D) (K := (K : Int)) (d2 := r) (d3 := m) (by omega) (by omega) (by omega) K 0 (k + 100) (layS b K (D * S)) L4 ⟨none, 0, 0⟩ [] []
    (by omega) (by omega) (by omega) (by omega) rfl (sh st1) (Vols.nil _ _) (by simp) (fun i hi => by simp at hi)
  rw [List.nil_append] at g2
  refine ⟨sl, L5, F5, ?_, g2, ?_, g4⟩
  · rw [Int.natCast_zero] at a1 g1
    rw [a1, W.f11_l6_eq, decide_eq_false (by omega), lif_false]
    rw [show lcall Tryd.prog W.T (k + 100) 25 [.pointer (some (Addr.mk L0.length 0 none)), .string (strOf b)] L1 = W.f25 (k + 98 + 2) (some ⟨L0.length, 0, none⟩) (strOf b) L1 from rfl, c1, lbind_ret]
    simp only [tupL_tuple, obind_some, uncons_cons, nilL_nil, asI_int]
    have y0 : ∀ {X : LHeap} {F : List Nat}, Step [L0.length] (L0 ++ [LBlk.cells [.pointer none, .slice none 0 0] 54 false 0]) F X → (cell X (Addr.add ⟨L.length, 0, none⟩ 0)).bind (asI .i64) = some (D : Int) := fun st => by
      rw [show Addr.add ⟨L.length, 0, none⟩ 0 = (⟨L.length, 0, none⟩ : Addr) from rfl, cell_of (sh st)]; rfl
    have y2 : ∀ {X : LHeap} {F : List Nat}, Step [L0.length] (L0 ++ [LBlk.cells [.pointer none, .slice none 0 0] 54 false 0]) F X → (cell X (Addr.add ⟨L.length, 0, none⟩ 2)).bind (asI .i64) = some (S : Int) := fun st => by
      rw [show Addr.add ⟨L.length, 0, none⟩ 2 = (⟨L.length, 2, none⟩ : Addr) from rfl, cell_of (sh st)]; rfl
    have st2 := a3.trans c3
    have hx : IntKind.wrap .i64 (IntKind.wrap .i64 (IntKind.wrap .i64 ((K : Int) * D) * S) - ((eightB b.length ++ b).length : Int)) = ((K * (D * S) - (8 + b.length) : Nat) : Int) := by
      rw [List.length_append, eightB_length]
      have h1 : ((K : Int) * D) = ((K * D : Nat) : Int) := by push_cast; rfl
      have h2 : (((K * D : Nat) : Int) * S) = ((K * (D * S) : Nat) : Int) := by rw [← Nat.mul_assoc]; push_cast; rfl
      rw [h1, wI64 (n := ((K * D : Nat) : Int)) (by omega) (by omega), h2, wI64 (n := ((K * (D * S) : Nat) : Int)) (by omega) (by omega), wI64 (by omega) (by omega)]
      omega
    rw [y0 st2, obind_some, y2 st2, obind_some, show lcall Tryd.prog W.T (k + 100) 27 [.pointer (some (Addr.mk L0.length 0 none))] L2 = W.f27 (k + 99 + 1) (some ⟨L0.length, 0, none⟩) L2 from rfl, len_ok c2, lbindR_ret, asI_int, obind_some,
      y2 st2, obind_some, same_self, when_true, y0 st2, obind_some, same_self, when_true, hx]
    rw [decide_eq_true (by omega), Int.toNat_natCast, Nat.ble_eq_true_of_le (show (ByteArray.mk #[0]).size * (K * (D * S) - (8 + b.length)) ≤ 140737488355328 by rw [show (ByteArray.mk #[0]).size = 1 from rfl]; omega), Nat.ble_eq_true_of_le (by omega)]
    rw [Bool.and_self, Bool.and_self, when_true, rep_zero]
    rw [show lcall Tryd.prog W.T (k + 100) 25 [.pointer (some (Addr.mk L0.length 0 none)), .string (strOf (List.replicate (K * (D * S) - (8 + b.length)) 0))] L2 = W.f25 (k + 98 + 2) (some ⟨L0.length, 0, none⟩) (strOf (List.replicate (K * (D * S) - (8 + b.length)) 0)) L2 from rfl, d1, lbindR_ret]
    simp only [tupL_tuple, obind_some, uncons_cons, nilL_nil, asI_int]
    rw [show lcall Tryd.prog W.T (k + 100) 28 [.pointer (some (Addr.mk L0.length 0 none))] L3 = W.f28 (k + 99 + 1) (some ⟨L0.length, 0, none⟩) L3 from rfl, f1, lbind_ret, asS_string, obind_some]
    exact g1
  · have st3 : Step [] L (L0.length :: []) (L0 ++ [LBlk.cells [.pointer none, .slice none 0 0] 54 false 0]) := st0.trans (.new _ _ _)
    exact ((st3.trans st1).less (G := []) fun i hi => by simp at hi).trans g3
end Go.Proofs.YtffcfaabjodpcaaDoor
end

section
set_option maxRecDepth 100000
namespace Go.Proofs.YtffcfaabjodpcaaDoor
open Go Go.Rlm
theorem Vols.len {L : LHeap} {s : Sl} {vs : List (List (List Nat))} {F : List Nat} (h : Vols L s vs F) : s.n = vs.length := by
  obtain ⟨xs, A, h1, h2, _⟩ := h
  rw [h1.len, List.length_map, h2]
theorem Vols.row {L : LHeap} {s : Sl} {vs : List (List (List Nat))} {F : List Nat} (h : Vols L s vs F) {i : Nat} {v : List (List Nat)} (hv : vs[i]? = some v) :
    ∃ a x B, idx s (i : Int) 1 = some a ∧ (cell L a).bind asSl = some x ∧ OS L x (v.map strV) 9 B ∧ ∀ b ∈ B, b ∈ F := by
  obtain ⟨xs, A, h1, h2, h3, _⟩ := h
  have hi := get_lt hv
  have hx : xs[i]? = some (xs[i]'(by omega)) := List.getElem?_eq_getElem (by omega)
  obtain ⟨B, b1, b2⟩ := h3 i _ v hx hv
  obtain ⟨a, a1, a2⟩ := h1.get (i := i) (v := slV (xs[i]'(by omega))) (by rw [List.getElem?_map, hx]; rfl)
  exact ⟨a, _, B, a1, by rw [a2]; rfl, b1, fun b hb => (b2 b hb).1⟩
theorem sub_mid {l : List Nat} {i j : Nat} (hi : i ≤ j) (hj : j ≤ l.length) : subS (strOf l) (some (i : Int)) (some (j : Int)) = some (strOf ((l.take j).drop i)) := by
  simp only [subS, bound_at (strOf l).size (show j ≤ (strOf l).size by rw [strOf_size]; exact hj), bound_at 0 hi, Option.bind_eq_bind, Option.bind_some, str_extract]
theorem byte_str {l : List Nat} (hl : ∀ n ∈ l, n < 256) {i n : Nat} (h : l[i]? = some n) : byteAt (strOf l) (i : Int) = some (n : Int) := by
  have hi := get_lt h
  have hn := hl n (List.mem_of_getElem? h)
  unfold byteAt
  rw [decide_eq_true (by omega), cond_true, Int.toNat_natCast, getElem?_pos (strOf l) i (by rw [strOf_size]; exact hi)]
  rw [List.getElem?_eq_getElem hi] at h
  injection h with h
  simp only [strOf, ByteArray.getElem_eq_getElem_data, List.getElem_toArray, List.getElem_map, h]
  rw [Option.map_some, UInt8.toNat_ofNat', Nat.mod_eq_of_lt (by omega)]
end Go.Proofs.YtffcfaabjodpcaaDoor
end

section
set_option maxRecDepth 100000
set_option linter.unusedVariables false
namespace Go.Proofs.YtffcfaabjodpcaaDoor.W
open Go Go.Rlm
/-- hamper/hamperlaw26.long -/
noncomputable def f9 (k : Nat) (l0 : Sl) (L : LHeap) : R :=
  lcall Tryd.prog T k 9 [Value.slice l0.a l0.n l0.c] L
/-- hamper/hamperref26.Same -/
noncomputable def f13 (k : Nat) (l0 : Sl) (l1 : Sl) (L : LHeap) : R :=
  lcall Tryd.prog T k 13 [Value.slice l0.a l0.n l0.c, Value.slice l1.a l1.n l1.c] L
/-- hamper/hamperlaw26.spoil -/
noncomputable def f14 (k : Nat) (l0 : Sl) (L : LHeap) : R :=
  lcall Tryd.prog T k 14 [Value.slice l0.a l0.n l0.c] L
/-- slots 0, 3, 4 -/
noncomputable def f9_l3 (k : Nat) (j3 : Nat) (l15 : Sl) (n16 : Int) (n17 : Int) (L : LHeap) : R :=
  loopAt Tryd.prog T 9 k [1, 1, 0, 1, 0] [] j3 [(0, Value.slice l15.a l15.n l15.c), (3, Value.int IntKind.i64 n16), (4, Value.int IntKind.i64 n17)] L
/-- slots 0, 3, 4, 5 -/
noncomputable def f9_l7 (k : Nat) (j3_18 : Nat) (j7 : Nat) (l19 : Sl) (n20 : Int) (n21 : Int) (n22 : Int) (L : LHeap) : R :=
  loopAt Tryd.prog T 9 k [1, 1, 0, 1, 0, 0, 1, 0, 0, 1, 1, 0] [j3_18] j7
  [(0, Value.slice l19.a l19.n l19.c), (3, Value.int IntKind.i64 n20), (4, Value.int IntKind.i64 n21), (5, Value.int IntKind.i64 n22)] L
theorem f9_eq (k : Nat) (l0 : Sl) (L : LHeap) : f9 (k + 1) l0 L =
 f9_l3 k k l0 0 0 L := by kernel_rfl
theorem f9_l3_eq (k : Nat) (j3 : Nat) (l0 : Sl) (n1 : Int) (n2 : Int) (L : LHeap) : f9_l3 k (j3 + 1) l0 n1 n2 L =
 lif (decide (n2 < (↑l0.n : Int))) (f9_l7 k j3 k l0 (IntKind.wrap IntKind.i64 (n1 + 20)) n2 0 L) (some (LR.ret (Value.bool (decide (n1 > 20000))) L)) := by kernel_rfl
theorem f9_l7_eq (k : Nat) (j3_0 : Nat) (j7 : Nat) (l1 : Sl) (n2 : Int) (n3 : Int) (n4 : Int) (L : LHeap) : f9_l7 k j3_0 (j7 + 1) l1 n2 n3 n4 L =
 obind (idx l1 n3 1) fun a5 =>
 obind (Option.bind (cell L a5) asSl) fun l6 =>
 lif (decide (n4 < (↑l6.n : Int)))
 (obind (idx l1 n3 1) fun a7 =>
 obind (Option.bind (cell L a7) asSl) fun l8 =>
 obind (idx l8 n4 1) fun a9 =>
 obind (Option.bind (cell L a9) asS) fun s10 =>
 lif (decide ((↑(ByteArray.size s10) : Int) > 1000)) (some (LR.ret (Value.bool true) L))
 (obind (idx l1 n3 1) fun a11 =>
 obind (Option.bind (cell L a11) asSl) fun l12 =>
 obind (idx l12 n4 1) fun a13 =>
 obind (Option.bind (cell L a13) asS) fun s14 =>
 lif (decide (IntKind.wrap IntKind.i64 (IntKind.wrap IntKind.i64 (n2 + 20) + (↑(ByteArray.size s14) : Int)) > 20000)) (some (LR.ret (Value.bool true) L))
 (f9_l7 k j3_0 j7 l1 (IntKind.wrap IntKind.i64 (IntKind.wrap IntKind.i64 (n2 + 20) + (↑(ByteArray.size s14) : Int))) n3
 (IntKind.wrap IntKind.i64 (n4 + 1)) L)))
 (f9_l3 k j3_0 l1 n2 (IntKind.wrap IntKind.i64 (n3 + 1)) L) := by kernel_rfl
/-- slots 0, 1, 5 -/
noncomputable def f13_l4 (k : Nat) (j4 : Nat) (l15 : Sl) (l16 : Sl) (n17 : Int) (L : LHeap) : R :=
  loopAt Tryd.prog T 13 k [1, 1, 0, 1, 0] [] j4 [(0, Value.slice l15.a l15.n l15.c), (1, Value.slice l16.a l16.n l16.c), (5, Value.int IntKind.i64 n17)] L
/-- slots 0, 1, 5, 6 -/
noncomputable def f13_l9 (k : Nat) (j4_18 : Nat) (j9 : Nat) (l19 : Sl) (l20 : Sl) (n21 : Int) (n22 : Int) (L : LHeap) : R :=
  loopAt Tryd.prog T 13 k [1, 1, 0, 1, 0, 0, 1, 0, 0, 1, 1, 0] [j4_18] j9
  [(0, Value.slice l19.a l19.n l19.c), (1, Value.slice l20.a l20.n l20.c), (5, Value.int IntKind.i64 n21), (6, Value.int IntKind.i64 n22)] L
theorem f13_eq (k : Nat) (l0 : Sl) (l1 : Sl) (L : LHeap) : f13 (k + 1) l0 l1 L =
 lif ((↑l0.n : Int) != (↑l1.n : Int)) (some (LR.ret (Value.bool false) L)) (f13_l4 k k l0 l1 0 L) := by kernel_rfl
theorem f13_l4_eq (k : Nat) (j4 : Nat) (l0 : Sl) (l1 : Sl) (n2 : Int) (L : LHeap) : f13_l4 k (j4 + 1) l0 l1 n2 L =
 lif (decide (n2 < (↑l0.n : Int)))
 (obind (idx l0 n2 1) fun a3 =>
 obind (Option.bind (cell L a3) asSl) fun l4 =>
 obind (idx l1 n2 1) fun a5 =>
 obind (Option.bind (cell L a5) asSl) fun l6 => lif ((↑l4.n : Int) != (↑l6.n : Int)) (some (LR.ret (Value.bool false) L)) (f13_l9 k j4 k l0 l1 n2 0 L))
 (some (LR.ret (Value.bool true) L)) := by kernel_rfl
theorem f13_l9_eq (k : Nat) (j4_0 : Nat) (j9 : Nat) (l1 : Sl) (l2 : Sl) (n3 : Int) (n4 : Int) (L : LHeap) : f13_l9 k j4_0 (j9 + 1) l1 l2 n3 n4 L =
 obind (idx l1 n3 1) fun a5 =>
 obind (Option.bind (cell L a5) asSl) fun l6 =>
 lif (decide (n4 < (↑l6.n : Int)))
 (obind (idx l1 n3 1) fun a7 =>
 obind (Option.bind (cell L a7) asSl) fun l8 =>
 obind (idx l8 n4 1) fun a9 =>
 obind (Option.bind (cell L a9) asS) fun s10 =>
 obind (idx l2 n3 1) fun a11 =>
 obind (Option.bind (cell L a11) asSl) fun l12 =>
 obind (idx l12 n4 1) fun a13 =>
 obind (Option.bind (cell L a13) asS) fun s14 =>
 lif (!ByteArray.toList s10 == ByteArray.toList s14) (some (LR.ret (Value.bool false) L))
 (f13_l9 k j4_0 j9 l1 l2 n3 (IntKind.wrap IntKind.i64 (n4 + 1)) L))
 (f13_l4 k j4_0 l1 l2 (IntKind.wrap IntKind.i64 (n3 + 1)) L) := by kernel_rfl
/-- slots 0, 2 -/
noncomputable def f14_l1 (k : Nat) (j1 : Nat) (l10 : Sl) (n11 : Int) (L : LHeap) : R :=
  loopAt Tryd.prog T 14 k [1, 0] [] j1 [(0, Value.slice l10.a l10.n l10.c), (2, Value.int IntKind.i64 n11)] L
/-- slots 0, 2, 3 -/
noncomputable def f14_l4 (k : Nat) (j1_12 : Nat) (j4 : Nat) (l13 : Sl) (n14 : Int) (n15 : Int) (L : LHeap) : R :=
  loopAt Tryd.prog T 14 k [1, 0, 0, 1, 0, 0, 1, 0] [j1_12] j4 [(0, Value.slice l13.a l13.n l13.c), (2, Value.int IntKind.i64 n14), (3, Value.int IntKind.i64 n15)] L
theorem f14_eq (k : Nat) (l0 : Sl) (L : LHeap) : f14 (k + 1) l0 L =
 f14_l1 k k l0 0 L := by kernel_rfl
theorem f14_l1_eq (k : Nat) (j1 : Nat) (l0 : Sl) (n1 : Int) (L : LHeap) : f14_l1 k (j1 + 1) l0 n1 L =
 lif (decide (n1 < (↑l0.n : Int))) (f14_l4 k j1 k l0 n1 0 L) (some (LR.ret (Value.tuple #[]) L)) := by kernel_rfl
theorem f14_l4_eq (k : Nat) (j1_0 : Nat) (j4 : Nat) (l1 : Sl) (n2 : Int) (n3 : Int) (L : LHeap) : f14_l4 k j1_0 (j4 + 1) l1 n2 n3 L =
 obind (idx l1 n2 1) fun a4 =>
 obind (Option.bind (cell L a4) asSl) fun l5 =>
 lif (decide (n3 < (↑l5.n : Int)))
 (obind (idx l1 n2 1) fun a6 =>
 obind (Option.bind (cell L a6) asSl) fun l7 =>
 obind (idx l7 n3 1) fun a8 =>
 obind (stores L a8 [Value.string (ByteArray.mk #[115, 112, 111, 105, 108, 116])]) fun L9 => f14_l4 k j1_0 j4 l1 n2 (IntKind.wrap IntKind.i64 (n3 + 1)) L9)
 (f14_l1 k j1_0 l1 (IntKind.wrap IntKind.i64 (n2 + 1)) L) := by kernel_rfl
end Go.Proofs.YtffcfaabjodpcaaDoor.W
end

section
set_option maxRecDepth 100000
namespace Go.Proofs.YtffcfaabjodpcaaDoor
open Go Go.Rlm
/-- Texts that can be read. -/
def TR (L : LHeap) (x : Sl) (v : List (List Nat)) (B : List Nat) : Prop :=
  x.n = v.length ∧ ((v = [] ∧ B = []) ∨ ∃ (c o : Nat) (cs : List Value) (e : TypeId) (ro : Bool) (sp : Nat), x.a = some ⟨c, o, none⟩ ∧ L[c]? = some (.cells cs e ro sp) ∧ (cs.drop o).take v.length = v.map strV ∧ o + v.length ≤ cs.length ∧
    ((x.c < OPEN ∧ x.n ≤ x.c) ∨ (x.c = OPEN ∧ sp = 1)) ∧ B = [c])
theorem TR.mono {L L' : LHeap} {x : Sl} {v : List (List Nat)} {B : List Nat} (h : TR L x v B) (hk : ∀ i ∈ B, L'[i]? = L[i]?) : TR L' x v B := by
  obtain ⟨h1, h | ⟨c, o, cs, e, ro, sp, h2, h3, h4, h5, h6, rfl⟩⟩ := h
  · exact ⟨h1, .inl h⟩
  · exact ⟨h1, .inr ⟨c, o, cs, e, ro, sp, h2, by rw [hk c (by simp), h3], h4, h5, h6, rfl⟩⟩
theorem TR.get {L : LHeap} {x : Sl} {v : List (List Nat)} {B : List Nat} (h : TR L x v B) {i : Nat} (hi : i < v.length) : ∃ a, idx x (i : Int) 1 = some a ∧ cell L a = some (strV v[i]) := by
  obtain ⟨h1, ⟨rfl, _⟩ | ⟨c, o, cs, e, ro, sp, h2, h3, h4, h5, h6, rfl⟩⟩ := h
  · simp at hi
  · refine ⟨⟨c, o + i * 1, none⟩, ?_, ?_⟩
    · have := idx_of (b := c) (o := o) (n := x.n) (c := x.c) (esz := 1) (i := i) (by omega)
      rw [← h2] at this
      exact this
    · rw [cell_of h3, Nat.mul_one]
      have : ((cs.drop o).take v.length)[i]? = (v.map strV)[i]? := by rw [h4]
      rw [List.getElem?_take, if_pos hi, List.getElem?_drop, List.getElem?_map, List.getElem?_eq_getElem hi] at this
      exact this
theorem os_tr {L : LHeap} {x : Sl} {v : List (List Nat)} {B : List Nat} (h : OS L x (v.map strV) 9 B) : TR L x v B := by
  refine ⟨by rw [h.len, List.length_map], ?_⟩
  rcases h with ⟨rfl, hv, rfl⟩ | ⟨c, rfl, h2, rfl⟩
  · exact .inl ⟨by simpa using hv, rfl⟩
  · exact .inr ⟨c, 0, v.map strV, 9, false, 1, rfl, h2, by rw [List.drop_zero, List.take_of_length_le (by simp)], by simp, .inr ⟨rfl, rfl⟩, rfl⟩
/-- Volumes that can be read. -/
def RV (L : LHeap) (s : Sl) (vs : List (List (List Nat))) (F : List Nat) : Prop :=
  s.n = vs.length ∧ ∀ (i : Nat) (v : List (List Nat)), vs[i]? = some v → ∃ a x B, idx s (i : Int) 1 = some a ∧ (∀ L' : LHeap, (∀ j ∈ F, L'[j]? = L[j]?) → (cell L' a).bind asSl = some x) ∧ TR L x v B ∧ ∀ b ∈ B, b ∈ F
theorem RV.mono {L L' : LHeap} {s : Sl} {vs : List (List (List Nat))} {F : List Nat} (h : RV L s vs F) (hk : ∀ i ∈ F, L'[i]? = L[i]?) : RV L' s vs F := by
  refine ⟨h.1, fun i v hv => ?_⟩
  obtain ⟨a, x, B, h1, h2, h3, h4⟩ := h.2 i v hv
  exact ⟨a, x, B, h1, fun L'' hk' => h2 L'' fun j hj => by rw [hk' j hj, hk j hj], h3.mono fun b hb => hk b (h4 b hb), h4⟩
theorem RV.row {L : LHeap} {s : Sl} {vs : List (List (List Nat))} {F : List Nat} (h : RV L s vs F) {i : Nat} {v : List (List Nat)} (hv : vs[i]? = some v) : ∃ a x B, idx s (i : Int) 1 = some a ∧ (cell L a).bind asSl = some x ∧ TR L x v B ∧ ∀ b ∈ B, b ∈ F := by
  obtain ⟨a, x, B, h1, h2, h3, h4⟩ := h.2 i v hv
  exact ⟨a, x, B, h1, h2 L fun _ _ => rfl, h3, h4⟩
theorem Vols.rv {L : LHeap} {s : Sl} {vs : List (List (List Nat))} {F : List Nat} (h : Vols L s vs F) : RV L s vs F := by
  refine ⟨h.len, fun i v hv => ?_⟩
  obtain ⟨a, x, B, h1, h2, h3, h4⟩ := h.row hv
  refine ⟨a, x, B, h1, fun L' hk => ?_, os_tr h3, h4⟩
  obtain ⟨a', x', B', g1, g2, g3, g4⟩ := (h.mono hk).row hv
  rw [h1] at g1
  injection g1 with g1
  subst g1
  obtain ⟨xs, A, e1, e2, e3, e4⟩ := h
  have hi := get_lt hv
  have hx : xs[i]? = some (xs[i]'(by omega)) := List.getElem?_eq_getElem (by omega)
  obtain ⟨a1, p1, p2⟩ := e1.get (i := i) (v := slV (xs[i]'(by omega))) (by rw [List.getElem?_map, hx]; rfl)
  obtain ⟨a2, q1, q2⟩ := (e1.mono (L' := L') fun b hb => hk b (e4 b hb)).get (i := i) (v := slV (xs[i]'(by omega))) (by rw [List.getElem?_map, hx]; rfl)
  rw [h1] at p1 q1
  injection p1 with p1; injection q1 with q1
  subst p1; subst q1
  rw [q2, ← p2]; exact h2
/-- What is counted of volumes. -/
def rowsC (v : List (List Nat)) : Nat := (v.map fun x => 20 + x.length).sum
def costV (v : List (List Nat)) : Nat := 20 + rowsC v
def costs (vs : List (List (List Nat))) : Nat := (vs.map costV).sum
theorem rowsC_cons (x : List Nat) (l : List (List Nat)) : rowsC (x :: l) = 20 + x.length + rowsC l := by simp [rowsC]
theorem costs_cons (v : List (List Nat)) (l : List (List (List Nat))) : costs (v :: l) = 20 + rowsC v + costs l := by simp [costs, costV]
theorem long_row {L : LHeap} {s : Sl} {vs : List (List (List Nat))} {F : List Nat} (h : RV L s vs F) {i : Nat} {v : List (List Nat)} (hv : vs[i]? = some v) {k j3 : Nat} (hvl : v.length < 9223372036854775808) :
    ∀ (q t j : Nat) (n : Int), t + q = v.length → q < j →
      (W.f9_l7 k j3 j s n (i : Int) (t : Int) L = some (.ret (.bool true) L)) ∨ (∃ n', W.f9_l7 k j3 j s n (i : Int) (t : Int) L = W.f9_l3 k j3 s n' (IntKind.wrap .i64 ((i : Int) + 1)) L ∧
        ((v.drop t = [] ∧ n' = n) ∨ (n' ≤ 20000 ∧ (0 ≤ n → n ≤ 20020 → (n' = n + (rowsC (v.drop t) : Nat) ∧ ∀ x ∈ v.drop t, x.length ≤ 1000))))) := by
  obtain ⟨a, x, B, e1, e2, e3, _⟩ := h.row hv
  intro q
  induction q with
  | zero =>
    intro t j n ht hj
    obtain ⟨j, rfl⟩ : ∃ j', j = j' + 1 := ⟨j - 1, by omega⟩
    refine .inr ⟨n, ?_, .inl ⟨List.drop_of_length_le (by omega), rfl⟩⟩
    rw [W.f9_l7_eq, e1, obind_some, e2, obind_some, e3.1, decide_eq_false (by omega), lif_false]
  | succ q ih =>
    intro t j n ht hj
    obtain ⟨j, rfl⟩ : ∃ j', j = j' + 1 := ⟨j - 1, by omega⟩
    have hlt : t < v.length := by omega
    obtain ⟨a2, g1, g2⟩ := e3.get hlt
    rw [W.f9_l7_eq, e1, obind_some, e2, obind_some, e3.1, decide_eq_true (by omega), lif_true, obind_some, e2, obind_some, g1, obind_some, g2, Option.bind_some, strV, asS_string, obind_some, strOf_size]
    by_cases h1 : (v[t].length : Int) > 1000
    · rw [decide_eq_true h1, lif_true]; exact .inl rfl
    rw [decide_eq_false h1, lif_false, obind_some, e2, obind_some, g1, obind_some, g2, Option.bind_some, strV, asS_string, obind_some, strOf_size]
    by_cases h2 : IntKind.wrap .i64 (IntKind.wrap .i64 (n + 20) + (v[t].length : Int)) > 20000
    · rw [decide_eq_true h2, lif_true]; exact .inl rfl
    rw [decide_eq_false h2, lif_false, wI64 (n := (t : Int) + 1) (by omega) (by omega), show (t : Int) + 1 = ((t + 1 : Nat) : Int) by omega]
    rcases ih (t + 1) j (IntKind.wrap .i64 (IntKind.wrap .i64 (n + 20) + (v[t].length : Int))) (by omega) (by omega) with g | ⟨n', g3, g4⟩
    · exact .inl g
    · refine .inr ⟨n', g3, .inr ⟨?_, fun h0 h00 => ?_⟩⟩
      · rcases g4 with ⟨_, rfl⟩ | ⟨g5, _⟩
        · omega
        · exact g5
      · rw [wI64 (n := n + 20) (by omega) (by omega), wI64 (n := n + 20 + (v[t].length : Int)) (by omega) (by omega)] at g4 h2
        rw [List.drop_eq_getElem_cons hlt]
        rw [rowsC_cons]
        rcases g4 with ⟨g5, rfl⟩ | ⟨g5, g6⟩
        · rw [g5]
          refine ⟨by simp [rowsC]; omega, fun y hy => ?_⟩
          simp at hy; subst hy; omega
        · obtain ⟨g7, g8⟩ := g6 (by omega) (by omega)
          refine ⟨by rw [g7]; push_cast; omega, fun y hy => ?_⟩
          rcases List.mem_cons.1 hy with rfl | hy
          · omega
          · exact g8 y hy
theorem long_rows {L : LHeap} {s : Sl} {vs : List (List (List Nat))} {F : List Nat} (h : RV L s vs F) {k : Nat} (hk : ∀ v ∈ vs, v.length < k ∧ v.length < 9223372036854775808) (hn : vs.length < 9223372036854775808) :
    ∀ (q i j : Nat) (n : Int), i + q = vs.length → q < j → ∃ b, W.f9_l3 k j s n (i : Int) L = some (.ret (.bool b) L) ∧
      (b = false → 0 ≤ n → n ≤ 20000 → ∀ p, i + p ≤ vs.length → (∀ v ∈ (vs.drop i).take p, v ≠ []) → n + costs ((vs.drop i).take p) ≤ 20000 ∧ ∀ v ∈ (vs.drop i).take p, ∀ x ∈ v, x.length ≤ 1000) := by
  intro q
  induction q with
  | zero =>
    intro i j n hi hj
    obtain ⟨j, rfl⟩ : ∃ j', j = j' + 1 := ⟨j - 1, by omega⟩
    refine ⟨decide (n > 20000), ?_, fun _ h0 h1 p hp _ => ?_⟩
    · rw [W.f9_l3_eq, h.1, decide_eq_false (by omega), lif_false]
    · rw [show p = 0 by omega, List.take_zero]
      exact ⟨by simp [costs]; omega, fun v hv => by simp at hv⟩
  | succ q ih =>
    intro i j n hi hj
    obtain ⟨j, rfl⟩ : ∃ j', j = j' + 1 := ⟨j - 1, by omega⟩
    have hlt : i < vs.length := by omega
    have hv := hk vs[i] (List.getElem_mem hlt)
    rw [W.f9_l3_eq, h.1, decide_eq_true (by omega), lif_true]
    have hrow := long_row h (List.getElem?_eq_getElem hlt) (k := k) (j3 := j) hv.2 vs[i].length 0 k (IntKind.wrap .i64 (n + 20)) (by omega) (by omega)
    rw [Int.natCast_zero, List.drop_zero] at hrow
    rcases hrow with g | ⟨n', g1, g2⟩
    · exact ⟨true, g, fun h => by cases h⟩
    · rw [wI64 (n := (i : Int) + 1) (by omega) (by omega), show (i : Int) + 1 = ((i + 1 : Nat) : Int) by omega] at g1
      obtain ⟨b, e1, e2⟩ := ih (i + 1) j n' (by omega) (by omega)
      refine ⟨b, g1.trans e1, fun hb h0 h00 p hp hne => ?_⟩
      rw [wI64 (n := n + 20) (by omega) (by omega)] at g2
      cases p with
      | zero => rw [List.take_zero]; exact ⟨by simp [costs]; omega, fun v hv => by simp at hv⟩
      | succ p =>
        rw [List.drop_eq_getElem_cons hlt, List.take_succ_cons] at hne ⊢
        have hne0 : vs[i] ≠ [] := hne _ (by simp)
        rcases g2 with ⟨g3, _⟩ | ⟨g3, g4⟩
        · exact absurd g3 hne0
        · obtain ⟨g5, g6⟩ := g4 (by omega) (by omega)
          obtain ⟨e3, e4⟩ := e2 hb (by omega) g3 p (by omega) fun v hv => hne v (by simp [hv])
          refine ⟨?_, fun v hv => ?_⟩
          · rw [costs_cons]; push_cast; omega
          · rcases List.mem_cons.1 hv with rfl | hv
            · exact g6
            · exact e4 v hv
theorem long_ok {L : LHeap} {s : Sl} {vs : List (List (List Nat))} {F : List Nat} (h : RV L s vs F) {k : Nat} (hk : ∀ v ∈ vs, v.length < k ∧ v.length < 9223372036854775808) (hk2 : vs.length < k) (hn : vs.length < 9223372036854775808) :
    ∃ b, W.f9 (k + 1) s L = some (.ret (.bool b) L) ∧ (b = false → ∀ p, p ≤ vs.length → (∀ v ∈ vs.take p, v ≠ []) → costs (vs.take p) ≤ 20000 ∧ ∀ v ∈ vs.take p, ∀ x ∈ v, x.length ≤ 1000) := by
  obtain ⟨b, e1, e2⟩ := long_rows h hk hn vs.length 0 k 0 (by omega) hk2
  refine ⟨b, by rw [W.f9_eq]; rw [Int.natCast_zero] at e1; exact e1, fun hb p hp hne => ?_⟩
  have := e2 hb (by omega) (by omega) p (by omega) (by rw [List.drop_zero]; exact hne)
  rw [List.drop_zero] at this
  exact ⟨by have := this.1; omega, this.2⟩
end Go.Proofs.YtffcfaabjodpcaaDoor
end

section
set_option maxRecDepth 100000
set_option linter.unusedVariables false
namespace Go.Proofs.YtffcfaabjodpcaaDoor.W
open Go Go.Rlm
/-- hamper/slice.Join -/
noncomputable def f17 (k : Nat) (l0 : Sl) (n1 : Int) (n2 : Int) (n3 : Int) (n4 : Int) (L : LHeap) : R :=
  lcall Tryd.prog T k 17
  [Value.slice l0.a l0.n l0.c, Value.agg #[Value.int IntKind.i64 n1, Value.int IntKind.i64 n2, Value.int IntKind.i64 n3, Value.int IntKind.i64 n4]] L
/-- slices.ContainsFunc[[]string,string] -/
noncomputable def f30 (k : Nat) (l0 : Sl) (v1 : Value) (L : LHeap) : R :=
  lcall Tryd.prog T k 30 [Value.slice l0.a l0.n l0.c, v1] L
/-- slices.IndexFunc[[]string,string] -/
noncomputable def f46 (k : Nat) (l0 : Sl) (v1 : Value) (L : LHeap) : R :=
  lcall Tryd.prog T k 46 [Value.slice l0.a l0.n l0.c, v1] L
/-- hamper/slice.Join$1 -/
noncomputable def f31 (k : Nat) (s0 : ByteArray) (r1 : Nat) (L : LHeap) : R :=
  lcall Tryd.prog T k 31 [Value.string s0, Value.pointer (some (Addr.mk r1 0 none))] L
/-- slots 0, 3, 6, 19, 20, 21 -/
noncomputable def f17_l5 (k : Nat) (j5 : Nat) (l12 : Sl) (r13 : Nat) (r14 : Nat) (l15 : Sl) (n16 : Int) (n17 : Int) (L : LHeap) : R :=
  loopAt Tryd.prog T 17 k [1, 1, 1, 0, 1, 0] [] j5
  [(0, Value.slice l12.a l12.n l12.c), (3, Value.pointer (some (Addr.mk r13 0 none))), (6, Value.pointer (some (Addr.mk r14 0 none))), (19, Value.slice l15.a l15.n l15.c),
    (20, Value.int IntKind.i64 n16), (21, Value.int IntKind.i64 n17)]
  L
/-- slots 0, 3, 9, 10, 43 -/
noncomputable def f17_l16 (k : Nat) (j16 : Nat) (l18 : Sl) (r19 : Nat) (s20 : ByteArray) (n21 : Int) (n22 : Int) (L : LHeap) : R :=
  loopAt Tryd.prog T 17 k [1, 1, 1, 1, 1, 1, 1, 0, 1, 0] [] j16
  [(0, Value.slice l18.a l18.n l18.c), (3, Value.pointer (some (Addr.mk r19 0 none))), (9, Value.string s20), (10, Value.int IntKind.u64 n21), (43, Value.int IntKind.i64 n22)] L
theorem f17_eq (k : Nat) (l0 : Sl) (n1 : Int) (n2 : Int) (n3 : Int) (n4 : Int) (L : LHeap) : f17 (k + 1) l0 n1 n2 n3 n4 L =
 obind
 (Option.bind
 (cell (L ++ [LBlk.cells [Value.int IntKind.i64 n1, Value.int IntKind.i64 n2, Value.int IntKind.i64 n3, Value.int IntKind.i64 n4] 23 false 0]) (Addr.add (Addr.mk (List.length L) 0 none) 0))
 (asI IntKind.i64))
 fun n5 =>
 obind
 (Option.bind
 (cell (L ++ [LBlk.cells [Value.int IntKind.i64 n1, Value.int IntKind.i64 n2, Value.int IntKind.i64 n3, Value.int IntKind.i64 n4] 23 false 0]) (Addr.add (Addr.mk (List.length L) 0 none) 1))
 (asI IntKind.i64))
 fun n6 =>
 obind
 (Option.bind
 (cell (L ++ [LBlk.cells [Value.int IntKind.i64 n1, Value.int IntKind.i64 n2, Value.int IntKind.i64 n3, Value.int IntKind.i64 n4] 23 false 0]) (Addr.add (Addr.mk (List.length L) 0 none) 2))
 (asI IntKind.i64))
 fun n7 =>
 obind
 (Option.bind
 (cell (L ++ [LBlk.cells [Value.int IntKind.i64 n1, Value.int IntKind.i64 n2, Value.int IntKind.i64 n3, Value.int IntKind.i64 n4] 23 false 0]) (Addr.add (Addr.mk (List.length L) 0 none) 3))
 (asI IntKind.i64))
 fun n8 =>
 lif (!shapeB n5 n6 n7 n8)
 (some
 (LR.ret (Value.tuple #[Value.string (ByteArray.mk #[]), Value.int IntKind.i64 1])
 (L ++ [LBlk.cells [Value.int IntKind.i64 n1, Value.int IntKind.i64 n2, Value.int IntKind.i64 n3, Value.int IntKind.i64 n4] 23 false 0])))
 (f17_l5 k k l0 (List.length L)
 (List.length (L ++ [LBlk.cells [Value.int IntKind.i64 n1, Value.int IntKind.i64 n2, Value.int IntKind.i64 n3, Value.int IntKind.i64 n4] 23 false 0])) l0 (↑l0.n : Int) 0
 (L ++ [LBlk.cells [Value.int IntKind.i64 n1, Value.int IntKind.i64 n2, Value.int IntKind.i64 n3, Value.int IntKind.i64 n4] 23 false 0] ++
 [LBlk.cells [Value.pointer none, Value.slice none 0 0] 54 false 0])) := by kernel_rfl
theorem f17_l5_eq (k : Nat) (j5 : Nat) (l0 : Sl) (r1 : Nat) (r2 : Nat) (l3 : Sl) (n4 : Int) (n5 : Int) (L : LHeap) : f17_l5 k (j5 + 1) l0 r1 r2 l3 n4 n5 L =
 lif (decide (n5 < n4))
 (obind (idx l3 n5 1) fun a6 =>
 obind (Option.bind (cell L a6) asSl) fun l7 =>
 obind (Option.bind (cell L (Addr.add (Addr.mk r1 0 none) 0)) (asI IntKind.i64)) fun n8 =>
 lif ((↑l7.n : Int) != n8) (some (LR.ret (Value.tuple #[Value.string (ByteArray.mk #[]), Value.int IntKind.i64 4]) L))
 (lbind (f30 k l7 (Value.func (Fn.func 31) #[] #[Value.pointer (some (Addr.mk r1 0 none))]) L) fun v9 L10 =>
 obind (asB v9) fun b11 =>
 lif b11 (some (LR.ret (Value.tuple #[Value.string (ByteArray.mk #[]), Value.int IntKind.i64 4]) L10))
 (lbind
 (lapp (callee T (lcall Tryd.prog T k)) (Value.func (Fn.func 32) #[] #[])
 [Value.slice l7.a l7.n l7.c, Value.string (ByteArray.mk #[])] L10)
 fun v12 L13 =>
 obind (asS v12) fun s14 =>
 lbind (lcall Tryd.prog T k 25 [Value.pointer (some (Addr.mk r2 0 none)), Value.string s14] L13) fun v15 L16 =>
 obind (tupL v15) fun x17 =>
 uncons x17 fun v18 vs19 =>
 obind (asI IntKind.i64 v18) fun n20 =>
 uncons vs19 fun v21 vs22 => nilL vs22 (f17_l5 k j5 l0 r1 r2 l3 n4 (IntKind.wrap IntKind.i64 (n5 + 1)) L16))))
 (lbind (lcall Tryd.prog T k 28 [Value.pointer (some (Addr.mk r2 0 none))] L) fun v23 L24 =>
 obind (asS v23) fun s25 =>
 lif (decide ((↑(ByteArray.size s25) : Int) < 8)) (some (LR.ret (Value.tuple #[Value.string (ByteArray.mk #[]), Value.int IntKind.i64 4]) L24))
 (f17_l16 k k l0 r1 s25 0 0 L24)) := by kernel_rfl
theorem f17_l16_eq (k : Nat) (j16 : Nat) (l0 : Sl) (r1 : Nat) (s2 : ByteArray) (n3 : Int) (n4 : Int) (L : LHeap) : f17_l16 k (j16 + 1) l0 r1 s2 n3 n4 L =
 lif (decide (n4 < 8))
 (obind (byteAt s2 n4) fun n5 =>
 f17_l16 k j16 l0 r1 s2 (bitop BinOp.or IntKind.u64 (IntKind.wrap IntKind.u64 (n3 * 256)) (IntKind.wrap IntKind.u64 n5)) (IntKind.wrap IntKind.i64 (n4 + 1)) L)
 (lif (decide (n3 > IntKind.wrap IntKind.u64 (IntKind.wrap IntKind.i64 ((↑(ByteArray.size s2) : Int) - 8))))
 (some (LR.ret (Value.tuple #[Value.string (ByteArray.mk #[]), Value.int IntKind.i64 4]) L))
 (obind (subS s2 (some 8) (some (IntKind.wrap IntKind.i64 (8 + IntKind.wrap IntKind.i64 n3)))) fun s6 =>
 obind (subS s2 (some (IntKind.wrap IntKind.i64 (8 + IntKind.wrap IntKind.i64 n3))) none) fun s7 =>
 obind (Option.bind (cell L (Addr.add (Addr.mk r1 0 none) 0)) (asI IntKind.i64)) fun n8 =>
 obind (Option.bind (cell L (Addr.add (Addr.mk r1 0 none) 1)) (asI IntKind.i64)) fun n9 =>
 obind (Option.bind (cell L (Addr.add (Addr.mk r1 0 none) 2)) (asI IntKind.i64)) fun n10 =>
 obind (Option.bind (cell L (Addr.add (Addr.mk r1 0 none) 3)) (asI IntKind.i64)) fun n11 =>
 when (decide ((↑(ByteArray.size s6) : Int) < 9223372036854775808))
 (lif (countE (↑(ByteArray.size s6) : Int) n8 n9 n10 n11 != 0) (some (LR.ret (Value.tuple #[Value.string (ByteArray.mk #[]), Value.int IntKind.i64 4]) L))
 (lif (countK (↑(ByteArray.size s6) : Int) n8 n9 n10 n11 != (↑l0.n : Int)) (some (LR.ret (Value.tuple #[Value.string (ByteArray.mk #[]), Value.int IntKind.i64 4]) L))
 (when (Nat.blt 0 128 && Nat.ble (ByteArray.size s7) 1000000000000)
 (lif (!ByteArray.toList (ByteArray.mk (List.toArray (Lib.trimB s7.data.toList 0))) == ByteArray.toList (ByteArray.mk #[]))
 (some (LR.ret (Value.tuple #[Value.string (ByteArray.mk #[]), Value.int IntKind.i64 4]) L)) (some (LR.ret (Value.tuple #[Value.string s6, Value.int IntKind.i64 0]) L)))))))) := by kernel_rfl
theorem f30_eq (k : Nat) (l0 : Sl) (v1 : Value) (L : LHeap) : f30 (k + 1) l0 v1 L =
 lbind (f46 k l0 v1 L) fun v2 L3 => obind (asI IntKind.i64 v2) fun n4 => some (LR.ret (Value.bool (decide (n4 ≥ 0))) L3) := by kernel_rfl
/-- slots 0, 1, 7, 8 -/
noncomputable def f46_l2 (k : Nat) (j2 : Nat) (l9 : Sl) (v10 : Value) (n11 : Int) (n12 : Int) (L : LHeap) : R :=
  loopAt Tryd.prog T 46 k [1, 0, 1, 0] [] j2 [(0, Value.slice l9.a l9.n l9.c), (1, v10), (7, Value.int IntKind.i64 n11), (8, Value.int IntKind.i64 n12)] L
theorem f46_eq (k : Nat) (l0 : Sl) (v1 : Value) (L : LHeap) : f46 (k + 1) l0 v1 L =
 f46_l2 k k l0 v1 (↑l0.n : Int) 0 L := by kernel_rfl
theorem f46_l2_eq (k : Nat) (j2 : Nat) (l0 : Sl) (v1 : Value) (n2 : Int) (n3 : Int) (L : LHeap) : f46_l2 k (j2 + 1) l0 v1 n2 n3 L =
 lif (decide (n3 < n2))
 (obind (idx l0 n3 1) fun a4 =>
 obind (Option.bind (cell L a4) asS) fun s5 =>
 lbind (lapp (callee T (lcall Tryd.prog T k)) v1 [Value.string s5] L) fun v6 L7 =>
 obind (asB v6) fun b8 => lif b8 (some (LR.ret (Value.int IntKind.i64 n3) L7)) (f46_l2 k j2 l0 v1 n2 (IntKind.wrap IntKind.i64 (n3 + 1)) L7))
 (some (LR.ret (Value.int IntKind.i64 (-1)) L)) := by kernel_rfl
theorem f31_eq (k : Nat) (s0 : ByteArray) (r1 : Nat) (L : LHeap) : f31 (k + 1) s0 r1 L =
 obind (Option.bind (cell L (Addr.add (Addr.mk r1 0 none) 2)) (asI IntKind.i64)) fun n2 => some (LR.ret (Value.bool ((↑(ByteArray.size s0) : Int) != n2)) L) := by kernel_rfl
end Go.Proofs.YtffcfaabjodpcaaDoor.W
end

section
namespace Go.Rlm
theorem shp_ok (d r z m : Int) : (Shp.mk d r z m).ok = shapeB d r z m := by
  cases h : shapeB d r z m with
  | true => exact (Shp.ok_iff _).2 (shapeB_iff.1 h)
  | false =>
    cases h2 : (Shp.mk d r z m).ok with
    | false => rfl
    | true => rw [shapeB_iff.2 ((Shp.ok_iff _).1 h2)] at h; cases h
theorem cnt_vol {n o : Nat} (ho : 0 < o) : volK (n : Int) (o : Int) = (cntK n o : Nat) := by
  unfold volK cntK
  rw [show (n : Int) + 7 + o = ((n + 8 + o - 1 : Nat) : Int) by omega]
  rfl
theorem one_eq {d r z m : Int} (h : shapeB d r z m = true) : d * z = ((Shp.mk d r z m).one : Nat) := by
  have h := shapeB_iff.1 h
  unfold Shp.one
  push_cast
  rw [Int.toNat_of_nonneg (by omega), Int.toNat_of_nonneg (by omega)]
theorem countS_eq (n d r z m : Int) : countS n ⟨d, r, z, m⟩ = (countK n d r z m, countE n d r z m) := by
  unfold countS
  rw [shp_ok]
  by_cases hs : shapeB d r z m = true ∧ 0 ≤ n
  · rw [if_pos hs]
    obtain ⟨hs, hn⟩ := hs
    have ho := one_le hs
    have e := one_eq hs
    obtain ⟨k, rfl⟩ : ∃ k : Nat, n = k := ⟨n.toNat, by omega⟩
    have hv := cnt_vol (n := k) (o := (Shp.mk d r z m).one) (by omega)
    rw [← e] at hv
    rw [Int.toNat_natCast, ← hv]
    by_cases h : volK k (d * z) + m ≤ 96
    · rw [if_pos h, (count_fits hs hn (by omega)).1, (count_fits hs hn (by omega)).2]
    · rw [if_neg h, (count_big hs hn (by omega)).1, (count_big hs hn (by omega)).2]
  · rw [if_neg hs]
    have : shapeB d r z m = false ∨ n < 0 := by
      cases h : shapeB d r z m with
      | false => exact .inl rfl
      | true => exact .inr (by rcases Int.lt_or_le n 0 with h2 | h2; exact h2; exact absurd ⟨h, h2⟩ hs)
    rw [(count_bad this).1, (count_bad this).2]
theorem numB_snoc (l : List Nat) (b : Nat) : numB (l ++ [b]) = numB l * 256 + b := by simp [numB, List.foldl_append]
theorem numB_lt : ∀ (n : Nat) (l : List Nat), l.length = n → (∀ x ∈ l, x < 256) → numB l < 256 ^ n := by
  intro n
  induction n with
  | zero => intro l h _; rw [List.length_eq_zero_iff.1 h]; decide
  | succ n ih =>
    intro l h hb
    rcases List.eq_nil_or_concat l with rfl | ⟨l', b, rfl⟩
    · simp at h
    · rw [List.concat_eq_append] at *
      have h1 := ih l' (by simpa using h) fun x hx => hb x (by simp [hx])
      have h2 := hb b (by simp)
      rw [numB_snoc, Nat.pow_succ]
      omega
theorem trim_nil (l : List UInt8) (c : UInt8) : Lib.trimB l c = [] ↔ ∀ b ∈ l, b = c := by
  unfold Lib.trimB Lib.trimLeftB Lib.trimRightB
  have key : ∀ m : List UInt8, m.dropWhile (· == c) = [] ↔ ∀ b ∈ m, b = c := by
    intro m
    induction m with
    | nil => simp
    | cons x m ih =>
      rw [List.dropWhile_cons]
      by_cases hx : (x == c) = true
      · rw [if_pos hx, ih]
        have := eq_of_beq hx
        subst this
        simp
      · rw [if_neg hx]
        simp at hx ⊢
        exact fun h => absurd h hx
  have head : ∀ m : List UInt8, (∀ b ∈ m.dropWhile (· == c), b = c) → m.dropWhile (· == c) = [] := by
    intro m
    induction m with
    | nil => intro _; rfl
    | cons x m ih =>
      rw [List.dropWhile_cons]
      by_cases hx : (x == c) = true
      · rw [if_pos hx]; exact ih
      · rw [if_neg hx]
        intro h
        exact absurd (h x (by simp)) (by simpa using hx)
  rw [key]
  constructor
  · intro h b hb
    have h1 := head l.reverse fun b hb => h b (by simpa using hb)
    rw [key] at h1
    exact h1 b (by simpa using hb)
  · intro h b hb
    have hb : b ∈ l.reverse.dropWhile (· == c) := by simpa using hb
    exact h b (by simpa using (List.dropWhile_sublist _).subset hb)
end Go.Rlm
end

section
set_option maxRecDepth 100000
namespace Go.Proofs.YtffcfaabjodpcaaDoor
open Go Go.Rlm
theorem lbind_true (v : Value) (L : LHeap) (f : Value → LHeap → R) : lbind (some (.gate true v L)) f = f v L := rfl
theorem join_flat (l : List (List UInt8)) : Lib.join l [] = l.flatten := by
  unfold Lib.join
  induction l with
  | nil => rfl
  | cons x l ih =>
    cases l with
    | nil => simp [List.intercalate]
    | cons y l =>
      have : List.intercalate [] (x :: y :: l) = x ++ List.intercalate [] (y :: l) := by simp [List.intercalate]
      rw [this, ih, List.flatten_cons, List.flatten_cons]
      simp
theorem strs_of (v : List (List Nat)) : strsOf (v.map strV) = some (v.map strOf) := by
  induction v with
  | nil => rfl
  | cons x v ih => rw [List.map_cons, List.map_cons, strV, strsOf, ih]; rfl
theorem join_str (v : List (List Nat)) : joinS' (v.map strOf) ⟨#[]⟩ = strOf v.flatten := by
  unfold joinS' 
  rw [show (ByteArray.mk #[]).data.toList = [] from rfl, join_flat, List.map_map]
  unfold strOf
  congr 2
  rw [List.map_flatten]
  rfl
theorem tr_join {L : LHeap} {x : Sl} {v : List (List Nat)} {B : List Nat} (h : TR L x v B) (hv : v ≠ []) (hl : v.flatten.length ≤ 100000000) (hn : v.length ≤ 100000000) :
    joinP [.slice x.a x.n x.c, .string ⟨#[]⟩] L = some (.gate true (.string (strOf v.flatten)) L) := by
  obtain ⟨h1, ⟨rfl, _⟩ | ⟨c, o, cs, e, ro, sp, h2, h3, h4, h5, h6, rfl⟩⟩ := h
  · exact absurd rfl hv
  · unfold joinP
    have hp : 0 < v.length := List.length_pos_iff.2 hv
    simp only [h2, h3, h1, h4, strs_of, join_str, strOf_size]
    rw [Nat.ble_eq_true_of_le (show 1 ≤ v.length by omega), Nat.ble_eq_true_of_le h5, Nat.ble_eq_true_of_le (show v.flatten.length ≤ 140737488355328 by omega), Nat.ble_eq_true_of_le (show v.length ≤ 140737488355328 by omega)]
    rcases h6 with ⟨g1, g2⟩ | ⟨g1, g2⟩
    · rw [show Nat.blt x.c OPEN = true from Nat.ble_eq_true_of_le g1, Nat.ble_eq_true_of_le (show v.length ≤ x.c by omega)]
      rfl
    · rw [g1, g2, show Nat.blt OPEN OPEN = false by decide, show Nat.beq OPEN OPEN = true from Nat.beq_refl _]
      rfl
/-- Are some rows of another length? -/
theorem other_ok {L : LHeap} {x : Sl} {v : List (List Nat)} {B : List Nat} (h : TR L x v B) {r : Nat} {d1 d2 d3 z : Int} (hr : L[r]? = some (.cells [.int .i64 d1, .int .i64 d2, .int .i64 z, .int .i64 d3] 23 false 0)) {k : Nat} (hv : v.length < 9223372036854775808) :
    ∀ (q t j : Nat), t + q = v.length → q < j → ∃ n : Int, W.f46_l2 (k + 1) j x (.func (.func 31) #[] #[.pointer (some ⟨r, 0, none⟩)]) (v.length : Int) (t : Int) L = some (.ret (.int .i64 n) L) ∧
      decide (n ≥ 0) = !((v.drop t).all fun x => decide ((x.length : Int) = z)) := by
  intro q
  induction q with
  | zero =>
    intro t j ht hj
    obtain ⟨j, rfl⟩ : ∃ j', j = j' + 1 := ⟨j - 1, by omega⟩
    refine ⟨-1, ?_, by rw [List.drop_of_length_le (by omega)]; rfl⟩
    rw [W.f46_l2_eq, decide_eq_false (by omega), lif_false]
  | succ q ih =>
    intro t j ht hj
    obtain ⟨j, rfl⟩ : ∃ j', j = j' + 1 := ⟨j - 1, by omega⟩
    have hlt : t < v.length := by omega
    obtain ⟨a, g1, g2⟩ := h.get hlt
    have hc : (cell L (Addr.add ⟨r, 0, none⟩ 2)).bind (asI .i64) = some z := by
      rw [show Addr.add ⟨r, 0, none⟩ 2 = (⟨r, 2, none⟩ : Addr) from rfl, cell_of hr]; rfl
    have hcall : lapp (callee W.T (lcall Tryd.prog W.T (k + 1))) (.func (.func 31) #[] #[.pointer (some ⟨r, 0, none⟩)]) [.string (strOf v[t])] L = some (.ret (.bool ((v[t].length : Int) != z)) L) := by
      show W.f31 (k + 1) (strOf v[t]) r L = _
      rw [W.f31_eq, hc, obind_some, strOf_size]
    rw [List.drop_eq_getElem_cons hlt, List.all_cons]
    by_cases hz : (v[t].length : Int) = z
    · obtain ⟨n, e1, e2⟩ := ih (t + 1) j (by omega) (by omega)
      refine ⟨n, ?_, by rw [decide_eq_true hz, Bool.true_and]; exact e2⟩
      rw [W.f46_l2_eq, decide_eq_true (by omega), lif_true, g1, obind_some, g2, Option.bind_some, strV, asS_string, obind_some, hcall, lbind_ret, asB_bool, obind_some, show ((v[t].length : Int) != z) = false by simpa using hz, lif_false,
        wI64 (by omega) (by omega)]
      exact e1
    · refine ⟨t, ?_, by rw [decide_eq_false hz, Bool.false_and, decide_eq_true (by omega)]; rfl⟩
      rw [W.f46_l2_eq, decide_eq_true (by omega), lif_true, g1, obind_some, g2, Option.bind_some, strV, asS_string, obind_some, hcall, lbind_ret, asB_bool, obind_some, show ((v[t].length : Int) != z) = true by simpa using hz, lif_true]
theorem contains_ok {L : LHeap} {x : Sl} {v : List (List Nat)} {B : List Nat} (h : TR L x v B) {r : Nat} {d1 d2 d3 z : Int} (hr : L[r]? = some (.cells [.int .i64 d1, .int .i64 d2, .int .i64 z, .int .i64 d3] 23 false 0)) {k : Nat} (hv : v.length < 9223372036854775808) (hk : v.length < k + 1) :
    W.f30 (k + 3) x (.func (.func 31) #[] #[.pointer (some ⟨r, 0, none⟩)]) L = some (.ret (.bool !(v.all fun x => decide ((x.length : Int) = z))) L) := by
  obtain ⟨n, e1, e2⟩ := other_ok h hr (k := k) hv v.length 0 (k + 1) (by omega) hk
  rw [W.f30_eq, W.f46_eq, h.1]
  rw [Int.natCast_zero] at e1
  rw [e1, lbind_ret, asI_int, obind_some, e2, List.drop_zero]
/-- Is a volume of this shape? -/
def goodV (d z : Int) (v : List (List Nat)) : Bool := decide ((v.length : Int) = d) && v.all fun x => decide ((x.length : Int) = z)
theorem Bld.step {L L' : LHeap} {r : Nat} {l : List Nat} {F : List Nat} (h : Bld L r l F) (hk : ∀ i ∈ F, L'[i]? = L[i]?) : Bld L' r l F := by
  obtain ⟨s, G, p, h1, h2, h3, h4, h5, rfl⟩ := h
  exact ⟨s, G, p, by rw [hk r (by simp)]; exact h1, h2, h3.mono fun i hi => hk i (by simp [hi]), h4, h5, rfl⟩
theorem join_loop {k r r2 : Nat} {s0 s : Sl} {vs : List (List (List Nat))} {A : List Nat} {d d2 z d3 : Int} (hd : 1 ≤ d ∧ d ≤ 64) (hn : vs.length < 9223372036854775808) (hvl : ∀ v ∈ vs, v.length < 9223372036854775808) (hk : 100 ≤ k)
    (hb : ∀ v ∈ vs, ∀ x ∈ v, ∀ n ∈ x, n < 256) (hB : ∀ p, p ≤ vs.length → (∀ v ∈ vs.take p, v ≠ []) → ((vs.take p).map List.flatten).flatten.length ≤ 10000000) :
    ∀ (q i j : Nat) (L : LHeap) (F : List Nat), i + q = vs.length → q < j → (∀ v ∈ vs.take i, v ≠ []) → Bld L r2 ((vs.take i).map List.flatten).flatten F → RV L s vs A → Within A L → Apart F A → r ∉ F →
      L[r]? = some (.cells [.int .i64 d, .int .i64 d2, .int .i64 z, .int .i64 d3] 23 false 0) →
      (∃ j' L' F', W.f17_l5 (k + 3) j s0 r r2 s (vs.length : Int) (i : Int) L = W.f17_l5 (k + 3) (j' + 1) s0 r r2 s (vs.length : Int) (vs.length : Int) L' ∧ Bld L' r2 (vs.map List.flatten).flatten F' ∧ Step F L F' L' ∧ (vs.drop i).all (goodV d z) = true) ∨
      (∃ L' F', W.f17_l5 (k + 3) j s0 r r2 s (vs.length : Int) (i : Int) L = some (.ret (.tuple #[.string ⟨#[]⟩, .int .i64 4]) L') ∧ Step F L F' L' ∧ (vs.drop i).all (goodV d z) = false) := by
  intro q
  induction q with
  | zero =>
    intro i j L F hi hj _ hB' _ _ _ _ _
    obtain ⟨j, rfl⟩ : ∃ j', j = j' + 1 := ⟨j - 1, by omega⟩
    refine .inl ⟨j, L, F, by rw [show i = vs.length by omega], ?_, .refl _ _, by rw [List.drop_of_length_le (by omega)]; rfl⟩
    rw [List.take_of_length_le (by omega)] at hB'
    exact hB'
  | succ q ih =>
    intro i j L F hi hj hne hbl hrv hA hap hrF hr
    obtain ⟨j, rfl⟩ : ∃ j', j = j' + 1 := ⟨j - 1, by omega⟩
    have hlt : i < vs.length := by omega
    obtain ⟨a, x, B, e1, e2, e3, e4⟩ := hrv.row (List.getElem?_eq_getElem hlt)
    have hvi := List.getElem_mem hlt
    have hc : (cell L (Addr.add ⟨r, 0, none⟩ 0)).bind (asI .i64) = some d := by
      rw [show Addr.add ⟨r, 0, none⟩ 0 = (⟨r, 0, none⟩ : Addr) from rfl, cell_of hr]; rfl
    rw [List.drop_eq_getElem_cons hlt, List.all_cons]
    by_cases hl : (vs[i].length : Int) = d
    case neg =>
      refine .inr ⟨L, F, ?_, .refl _ _, by rw [goodV, decide_eq_false hl]; rfl⟩
      rw [W.f17_l5_eq, decide_eq_true (by omega), lif_true, e1, obind_some, e2, obind_some, hc, obind_some, e3.1, show ((vs[i].length : Int) != d) = true by simpa using hl, lif_true]
    have hcon := contains_ok e3 hr (k := k) (hvl _ hvi) (by omega)
    cases hall : (vs[i].all fun x => decide ((x.length : Int) = z)) with
    | false =>
      refine .inr ⟨L, F, ?_, .refl _ _, by rw [goodV, hall, Bool.and_false, Bool.false_and]⟩
      rw [hall] at hcon
      rw [W.f17_l5_eq, decide_eq_true (by omega), lif_true, e1, obind_some, e2, obind_some, hc, obind_some, e3.1, show ((vs[i].length : Int) != d) = false by simpa using hl, lif_false, hcon, lbind_ret, asB_bool, obind_some]
      rfl
    | true =>
      rw [hall] at hcon
      have hvne : vs[i] ≠ [] := fun h => by rw [h] at hl; simp at hl; omega
      have htk : vs.take (i + 1) = vs.take i ++ [vs[i]] := by rw [List.take_add_one, List.getElem?_eq_getElem hlt]; rfl
      have hne' : ∀ v ∈ vs.take (i + 1), v ≠ [] := by
        rw [htk]; intro v hv
        rcases List.mem_append.1 hv with h | h
        · exact hne v h
        · simp at h; subst h; exact hvne
      have hfl : ((vs.take (i + 1)).map List.flatten).flatten = ((vs.take i).map List.flatten).flatten ++ vs[i].flatten := by
        rw [htk, List.map_append, List.flatten_append, List.map_cons, List.map_nil, List.flatten_cons, List.flatten_nil, List.append_nil]
      have hbd := hB (i + 1) (by omega) hne'
      rw [hfl, List.length_append] at hbd
      obtain ⟨L1, F1, t1, t2, t3⟩ := text_ok (k := k + 1) (m := vs[i].flatten) hbl (fun n hn => by
        obtain ⟨y, hy, hn⟩ := List.mem_flatten.1 hn
        exact hb _ hvi y hy n hn) (by omega)
      rw [← hfl] at t2
      have hj2 : lapp (callee W.T (lcall Tryd.prog W.T (k + 3))) (.func (.func 32) #[] #[]) [.slice x.a x.n x.c, .string ⟨#[]⟩] L = some (.gate true (.string (strOf vs[i].flatten)) L) := by
        show joinP [.slice x.a x.n x.c, .string ⟨#[]⟩] L = _
        exact tr_join e3 hvne (by omega) (by omega)
      rw [e3.1] at hj2
      have keep : W.f17_l5 (k + 3) (j + 1) s0 r r2 s (vs.length : Int) (i : Int) L = W.f17_l5 (k + 3) j s0 r r2 s (vs.length : Int) ((i + 1 : Nat) : Int) L1 := by
        rw [W.f17_l5_eq, decide_eq_true (by omega), lif_true, e1, obind_some, e2, obind_some, hc, obind_some, e3.1, show ((vs[i].length : Int) != d) = false by simpa using hl, lif_false, hcon, lbind_ret, asB_bool, obind_some, Bool.not_true, lif_false, hj2]
        rw [lbind_true, asS_string, obind_some, show lcall Tryd.prog W.T (k + 3) 25 [.pointer (some (Addr.mk r2 0 none)), .string (strOf vs[i].flatten)] L = W.f25 (k + 1 + 2) (some ⟨r2, 0, none⟩) (strOf vs[i].flatten) L from rfl, t1, lbind_ret]
        simp only [tupL_tuple, obind_some, uncons_cons, nilL_nil, asI_int]
        rw [wI64 (by omega) (by omega)]
        rfl
      have hg : goodV d z vs[i] = true := by rw [goodV, hall, decide_eq_true hl]; rfl
      have hko := t3.others hA hap
      rcases ih (i + 1) j L1 F1 (by omega) (by omega) hne' t2 (hrv.mono hko) (t3.within hA) (t3.apart hA hap) (fun hc => by
        rcases t3.foot r hc with h | h
        · exact hrF h
        · have := get_lt hr; omega) (by rw [t3.keep r (get_lt hr) hrF]; exact hr) with ⟨j', L', F', g1, g2, g3, g4⟩ | ⟨L', F', g1, g2, g3⟩
      · exact .inl ⟨j', L', F', keep.trans g1, g2, t3.trans g3, by rw [hg, g4]; rfl⟩
      · exact .inr ⟨L', F', keep.trans g1, t3.trans g2, by rw [hg, g3]; rfl⟩
end Go.Proofs.YtffcfaabjodpcaaDoor
end

section
set_option maxRecDepth 100000
namespace Go.Proofs.YtffcfaabjodpcaaDoor
open Go Go.Rlm
theorem num_loop {k r : Nat} {s0 : Sl} {l : List Nat} {L : LHeap} (hl : ∀ x ∈ l, x < 256) (h8 : 8 ≤ l.length) : ∀ (q i j : Nat), i + q = 8 → q < j →
    ∃ j', W.f17_l16 k j s0 r (strOf l) ((numB (l.take i) : Nat) : Int) (i : Int) L = W.f17_l16 k (j' + 1) s0 r (strOf l) ((numB (l.take 8) : Nat) : Int) ((8 : Nat) : Int) L := by
  intro q
  induction q with
  | zero =>
    intro i j hi hj
    obtain ⟨j, rfl⟩ : ∃ j', j = j' + 1 := ⟨j - 1, by omega⟩
    exact ⟨j, by rw [show i = 8 by omega]⟩
  | succ q ih =>
    intro i j hi hj
    obtain ⟨j, rfl⟩ : ∃ j', j = j' + 1 := ⟨j - 1, by omega⟩
    obtain ⟨j', e⟩ := ih (i + 1) j (by omega) (by omega)
    refine ⟨j', ?_⟩
    have hlt : i < l.length := by omega
    have hb := hl l[i] (List.getElem_mem hlt)
    have hx : numB (l.take i) < 256 ^ 7 := by
      have := numB_lt i (l.take i) (by rw [List.length_take]; omega) fun x hx => hl x (List.mem_of_mem_take hx)
      exact Nat.lt_of_lt_of_le this (Nat.pow_le_pow_right (by omega) (by omega))
    have ht : numB (l.take (i + 1)) = numB (l.take i) * 256 + l[i] := by
      rw [List.take_add_one, List.getElem?_eq_getElem hlt]
      exact numB_snoc _ _
    rw [ht] at e
    rw [W.f17_l16_eq, decide_eq_true (by omega), lif_true, byte_str hl (List.getElem?_eq_getElem hlt), obind_some]
    have hor : bitop .or .u64 (IntKind.wrap .u64 (((numB (l.take i) : Nat) : Int) * 256)) (IntKind.wrap .u64 ((l[i] : Nat) : Int)) = ((numB (l.take i) * 256 + l[i] : Nat) : Int) := by
      rw [wU64 (n := ((numB (l.take i) : Nat) : Int) * 256) (by omega) (by omega), wU64 (n := ((l[i] : Nat) : Int)) (by omega) (by omega), show ((numB (l.take i) : Nat) : Int) * 256 = ((2 ^ 8 * numB (l.take i) : Nat) : Int) by push_cast; omega]
      rw [bitop_or rfl (by show _ < 2 ^ 64; omega) (by show _ < 2 ^ 64; omega), ← Nat.two_pow_add_eq_or_of_lt (by omega)]
      congr 1
      omega
    rw [hor, wI64 (n := (i : Int) + 1) (by omega) (by omega), show (i : Int) + 1 = ((i + 1 : Nat) : Int) by omega]
    exact e
theorem rest_nil {l : List Nat} (hl : ∀ x ∈ l, x < 256) : (ByteArray.toList ⟨(Lib.trimB (strOf l).data.toList 0).toArray⟩ == ByteArray.toList ⟨#[]⟩) = l.all (· == 0) := by
  rw [Go.ByteArray.toList_eq, Go.ByteArray.toList_eq]
  show (Lib.trimB (strOf l).data.toList 0 == []) = _
  have e : (strOf l).data.toList = l.map UInt8.ofNat := rfl
  rw [e, Bool.eq_iff_iff]
  have key : Lib.trimB (l.map UInt8.ofNat) 0 = [] ↔ ∀ x ∈ l, x = 0 := by
    rw [trim_nil]
    constructor
    · intro h x hx
      have h1 := h (UInt8.ofNat x) (List.mem_map_of_mem hx)
      have h2 := congrArg UInt8.toNat h1
      rw [UInt8.toNat_ofNat', Nat.mod_eq_of_lt (by have := hl x hx; omega)] at h2
      exact h2
    · intro h b hb
      obtain ⟨x, hx, rfl⟩ := List.mem_map.1 hb
      rw [h x hx]; rfl
  rw [beq_iff_eq, key]
  simp
theorem all_good {d z : Int} {vs : List (List (List Nat))} : vs.all (goodV d z) = vs.all (fun v => decide ((v.length : Int) = d) && v.all fun x => decide ((x.length : Int) = z)) := rfl
theorem join_ok' {k : Nat} (hk : 100 ≤ k) {s : Sl} {vs : List (List (List Nat))} {A : List Nat} {d r z m : Int} {L : LHeap} (hrv : RV L s vs A) (hA : Within A L) (hn : vs.length < 9223372036854775808) (hnk : vs.length < k)
    (hvl : ∀ v ∈ vs, v.length < 9223372036854775808) (hb : ∀ v ∈ vs, ∀ x ∈ v, ∀ n ∈ x, n < 256) (hB : ∀ p, p ≤ vs.length → (∀ v ∈ vs.take p, v ≠ []) → ((vs.take p).map List.flatten).flatten.length ≤ 10000000) :
    ∃ L' F', W.f17 (k + 4) s d r z m L = some (.ret (.tuple #[.string (strOf (joinS vs ⟨d, r, z, m⟩).1), .int .i64 (joinS vs ⟨d, r, z, m⟩).2]) L') ∧ Step [] L F' L' := by
  rw [W.f17_eq]
  have hr : ∀ X : LHeap, (L ++ LBlk.cells [.int .i64 d, .int .i64 r, .int .i64 z, .int .i64 m] 23 false 0 :: X)[L.length]? = some (.cells [.int .i64 d, .int .i64 r, .int .i64 z, .int .i64 m] 23 false 0) := fun X => by simp
  have q0 : (cell (L ++ [LBlk.cells [.int .i64 d, .int .i64 r, .int .i64 z, .int .i64 m] 23 false 0]) (Addr.add ⟨L.length, 0, none⟩ 0)).bind (asI .i64) = some d := by
    rw [show Addr.add ⟨L.length, 0, none⟩ 0 = (⟨L.length, 0, none⟩ : Addr) from rfl, cell_of (hr [])]; rfl
  have q1 : (cell (L ++ [LBlk.cells [.int .i64 d, .int .i64 r, .int .i64 z, .int .i64 m] 23 false 0]) (Addr.add ⟨L.length, 0, none⟩ 1)).bind (asI .i64) = some r := by
    rw [show Addr.add ⟨L.length, 0, none⟩ 1 = (⟨L.length, 1, none⟩ : Addr) from rfl, cell_of (hr [])]; rfl
  have q2 : (cell (L ++ [LBlk.cells [.int .i64 d, .int .i64 r, .int .i64 z, .int .i64 m] 23 false 0]) (Addr.add ⟨L.length, 0, none⟩ 2)).bind (asI .i64) = some z := by
    rw [show Addr.add ⟨L.length, 0, none⟩ 2 = (⟨L.length, 2, none⟩ : Addr) from rfl, cell_of (hr [])]; rfl
  have q3 : (cell (L ++ [LBlk.cells [.int .i64 d, .int .i64 r, .int .i64 z, .int .i64 m] 23 false 0]) (Addr.add ⟨L.length, 0, none⟩ 3)).bind (asI .i64) = some m := by
    rw [show Addr.add ⟨L.length, 0, none⟩ 3 = (⟨L.length, 3, none⟩ : Addr) from rfl, cell_of (hr [])]; rfl
  rw [q0, obind_some, q1, obind_some, q2, obind_some, q3, obind_some]
  have st0 : Step [] L [] (L ++ [LBlk.cells [.int .i64 d, .int .i64 r, .int .i64 z, .int .i64 m] 23 false 0]) := .push _ _ _
  unfold joinS
  rw [shp_ok]
  cases hs : shapeB d r z m with
  | false => exact ⟨_, [], by rw [Bool.not_false, lif_true]; rfl, st0⟩
  | true =>
  have hs' := shapeB_iff.1 hs
  rw [Bool.not_true, lif_false, if_pos rfl]
  generalize hL0 : L ++ [LBlk.cells [.int .i64 d, .int .i64 r, .int .i64 z, .int .i64 m] 23 false 0] = L0 at *
  have l0 : L0.length = L.length + 1 := by rw [← hL0]; simp
  have st1 : Step [] L [L0.length] (L0 ++ [LBlk.cells [.pointer none, .slice none 0 0] 54 false 0]) := st0.trans (.new _ _ _)
  have b0 : Bld (L0 ++ [LBlk.cells [.pointer none, .slice none 0 0] 54 false 0]) L0.length ((vs.take 0).map List.flatten).flatten [L0.length] :=
    ⟨⟨none, 0, 0⟩, [], none, get_new, .inl rfl, OS.nil _ _, by simp, fun _ => rfl, rfl⟩
  have sh0 : (L0 ++ [LBlk.cells [.pointer none, .slice none 0 0] 54 false 0])[L.length]? = some (.cells [.int .i64 d, .int .i64 r, .int .i64 z, .int .i64 m] 23 false 0) := by
    rw [get_push (by omega), ← hL0]; exact hr []
  have hko := st1.others hA (fun i hi => by simp at hi)
  rcases join_loop (k := k) (s0 := s) (r := L.length) (r2 := L0.length) (d2 := r) (d3 := m) ⟨hs'.1, hs'.2.1⟩ hn hvl hk hb hB vs.length 0 (k + 3) _ _ (by omega) (by omega) (fun v hv => by simp at hv) b0 (hrv.mono hko) (st1.within hA)
    (fun i hi hc => by simp at hi; subst hi; have := hA _ hc; omega) (by simp; omega) sh0 with ⟨j', L1, F1, e1, e2, e3, e4⟩ | ⟨L1, F1, e1, e2, e3⟩
  case inr =>
    refine ⟨L1, F1, ?_, st1.trans e2⟩
    rw [List.drop_zero, all_good] at e3
    rw [hrv.1, e3]
    rw [Int.natCast_zero] at e1
    exact e1
  rw [List.drop_zero, all_good] at e4
  rw [e4, if_pos rfl, hrv.1]
  rw [Int.natCast_zero] at e1
  rw [e1, W.f17_l5_eq, decide_eq_false (by omega), lif_false]
  have hgood : ∀ v ∈ vs, (v.length : Int) = d ∧ ∀ x ∈ v, (x.length : Int) = z := fun v hv => by
    have := List.all_eq_true.1 e4 v hv
    simp only [Bool.and_eq_true, decide_eq_true_eq, List.all_eq_true] at this
    exact this
  have hlen := hB vs.length (Nat.le_refl _) (fun v hv => by
    rw [List.take_of_length_le (Nat.le_refl _)] at hv
    intro h
    have := (hgood v hv).1
    rw [h] at this
    simp at this
    omega)
  rw [List.take_of_length_le (Nat.le_refl _)] at hlen
  have hsm : ∀ x ∈ (vs.map List.flatten).flatten, x < 256 := fun x hx => by
    obtain ⟨l, hl, hx⟩ := List.mem_flatten.1 hx
    obtain ⟨v, hv, rfl⟩ := List.mem_map.1 hl
    obtain ⟨y, hy, hx⟩ := List.mem_flatten.1 hx
    exact hb v hv y hy x hx
  have hci := @cut_iff vs ⟨d, r, z, m⟩ (by rw [shp_ok]; exact hs) hgood hb
  generalize (vs.map List.flatten).flatten = al at *
  obtain ⟨L2, f1, f2⟩ := string_ok (k := k + 2) e2 hsm (by omega)
  rw [show lcall Tryd.prog W.T (k + 3) 28 [.pointer (some (Addr.mk L0.length 0 none))] L1 = W.f28 (k + 2 + 1) (some ⟨L0.length, 0, none⟩) L1 from rfl, f1, lbind_ret, asS_string, obind_some, strOf_size]
  have st2 : Step [L0.length] (L0 ++ [LBlk.cells [.pointer none, .slice none 0 0] 54 false 0]) F1 L2 := e3.trans f2
  have stA : Step [] L F1 L2 := st1.trans st2
  have sh : L2[L.length]? = some (.cells [.int .i64 d, .int .i64 r, .int .i64 z, .int .i64 m] 23 false 0) := by
    rw [st2.keep L.length (by simp; omega) (by simp; omega)]; exact sh0
  have y0 : (cell L2 (Addr.add ⟨L.length, 0, none⟩ 0)).bind (asI .i64) = some d := by
    rw [show Addr.add ⟨L.length, 0, none⟩ 0 = (⟨L.length, 0, none⟩ : Addr) from rfl, cell_of sh]; rfl
  have y1 : (cell L2 (Addr.add ⟨L.length, 0, none⟩ 1)).bind (asI .i64) = some r := by
    rw [show Addr.add ⟨L.length, 0, none⟩ 1 = (⟨L.length, 1, none⟩ : Addr) from rfl, cell_of sh]; rfl
  have y2 : (cell L2 (Addr.add ⟨L.length, 0, none⟩ 2)).bind (asI .i64) = some z := by
    rw [show Addr.add ⟨L.length, 0, none⟩ 2 = (⟨L.length, 2, none⟩ : Addr) from rfl, cell_of sh]; rfl
  have y3 : (cell L2 (Addr.add ⟨L.length, 0, none⟩ 3)).bind (asI .i64) = some m := by
    rw [show Addr.add ⟨L.length, 0, none⟩ 3 = (⟨L.length, 3, none⟩ : Addr) from rfl, cell_of sh]; rfl
  by_cases h8 : al.length < 8
  · refine ⟨L2, F1, ?_, stA⟩
    rw [decide_eq_true (by omega), lif_true]
    simp only [if_pos h8]
    rfl
  rw [decide_eq_false (by omega), lif_false]
  obtain ⟨j2, g⟩ := num_loop (k := k + 3) (r := L.length) (s0 := s) (L := L2) hsm (by omega) 8 0 (k + 3) (by omega) (by omega)
  rw [List.take_zero, show numB [] = 0 from rfl, Int.natCast_zero] at g
  rw [g, W.f17_l16_eq, decide_eq_false (by omega), lif_false, strOf_size]
  simp only [if_neg h8]
  have hci := hci (by omega)
  have hN := numB_lt 8 (al.take 8) (by rw [List.length_take]; omega) fun x hx => hsm x (List.mem_of_mem_take hx)
  generalize numB (al.take 8) = N at *
  rw [wI64 (n := (al.length : Int) - 8) (by omega) (by omega), wU64 (n := (al.length : Int) - 8) (by omega) (by omega)]
  by_cases hb8 : al.length - 8 < N
  · refine ⟨L2, F1, ?_, stA⟩
    rw [decide_eq_true (by omega), lif_true, if_pos hb8]
    rfl
  rw [decide_eq_false (by omega), lif_false, if_neg hb8]
  have hci := hci (by omega)
  rw [countS_eq] at hci
  rw [wI64 (n := (N : Int)) (by omega) (by omega), wI64 (n := 8 + (N : Int)) (by omega) (by omega), show 8 + (N : Int) = ((8 + N : Nat) : Int) by omega]
  have hmid := sub_mid (l := al) (i := 8) (j := 8 + N) (by omega) (by omega)
  rw [show ((8 : Nat) : Int) = 8 from rfl, show (al.take (8 + N)).drop 8 = (al.drop 8).take N by rw [List.drop_take, show 8 + N - 8 = N by omega]] at hmid
  have hbl : ((al.drop 8).take N).length = N := by rw [List.length_take, List.length_drop]; omega
  rw [hmid, obind_some, sub_drop (by omega), obind_some, y0, obind_some, y1, obind_some, y2, obind_some, y3, obind_some, strOf_size, hbl, decide_eq_true (by omega), when_true]
  by_cases c1 : countE N d r z m = 0
  case neg =>
    refine ⟨L2, F1, ?_, stA⟩
    rw [show (countE N d r z m != 0) = true by simpa using c1, lif_true, if_neg (fun h => c1 (by have := (hci.1 h).1; injection this))]
    rfl
  rw [show (countE N d r z m != 0) = false by simpa using c1, lif_false, hrv.1]
  by_cases c2 : countK N d r z m = (vs.length : Int)
  case neg =>
    refine ⟨L2, F1, ?_, stA⟩
    rw [show (countK N d r z m != (vs.length : Int)) = true by simpa using c2, lif_true, if_neg (fun h => c2 (by have := (hci.1 h).1; injection this))]
    rfl
  rw [show (countK N d r z m != (vs.length : Int)) = false by simpa using c2, lif_false]
  rw [show Nat.blt 0 128 = true from rfl, Nat.ble_eq_true_of_le (show (strOf (al.drop (8 + N))).size ≤ 1000000000000 by rw [strOf_size, List.length_drop]; omega), Bool.and_self, when_true, rest_nil fun x hx => hsm x (List.mem_of_mem_drop hx)]
  cases hz : (al.drop (8 + N)).all (· == 0) with
  | false =>
    refine ⟨L2, F1, ?_, stA⟩
    rw [Bool.not_false, lif_true, if_neg (fun h => by
      have := (hci.1 h).2
      have : (al.drop (8 + N)).all (· == 0) = true := List.all_eq_true.2 fun x hx => by simpa using this x hx
      rw [hz] at this; cases this)]
    rfl
  | true =>
    refine ⟨L2, F1, ?_, stA⟩
    rw [Bool.not_true, lif_false, if_pos (hci.2 ⟨by rw [c1, c2], fun x hx => by simpa using List.all_eq_true.1 hz x hx⟩)]
end Go.Proofs.YtffcfaabjodpcaaDoor
end

section
set_option maxRecDepth 100000
namespace Go.Proofs.YtffcfaabjodpcaaDoor
open Go Go.Rlm
theorem str_inj {a b : List Nat} (ha : ∀ x ∈ a, x < 256) (hb : ∀ x ∈ b, x < 256) (h : (strOf a).toList = (strOf b).toList) : a = b := by
  rw [Go.ByteArray.toList_eq, Go.ByteArray.toList_eq] at h
  have h : a.map UInt8.ofNat = b.map UInt8.ofNat := h
  have h2 := congrArg (List.map UInt8.toNat) h
  rw [List.map_map, List.map_map] at h2
  have key : ∀ l : List Nat, (∀ x ∈ l, x < 256) → l.map (UInt8.toNat ∘ UInt8.ofNat) = l := fun l hl => by
    conv => rhs; rw [← List.map_id l]
    apply List.map_congr_left
    intro x hx
    simp only [Function.comp, id]
    rw [UInt8.toNat_ofNat', Nat.mod_eq_of_lt (by have := hl x hx; omega)]
  rw [key a ha, key b hb] at h2
  exact h2
theorem str_same {a b : List Nat} (ha : ∀ x ∈ a, x < 256) (hb : ∀ x ∈ b, x < 256) : ((strOf a).toList == (strOf b).toList) = decide (a = b) := by
  rw [Bool.eq_iff_iff]
  simp only [beq_iff_eq, decide_eq_true_eq]
  exact ⟨str_inj ha hb, fun h => by rw [h]⟩
def Small (vs : List (List (List Nat))) : Prop := ∀ v ∈ vs, ∀ x ∈ v, ∀ n ∈ x, n < 256
theorem same_row {L : LHeap} {s t : Sl} {vs us : List (List (List Nat))} {A C : List Nat} (hv : RV L s vs A) (hu : RV L t us C) (sv : Small vs) (su : Small us) {i : Nat} {v u : List (List Nat)} (h1 : vs[i]? = some v) (h2 : us[i]? = some u) (hl : v.length = u.length)
    (hvl : v.length < 9223372036854775808) {k j4 : Nat} : ∀ (q p j : Nat), p + q = v.length → q < j →
      W.f13_l9 k j4 j s t (i : Int) (p : Int) L = bif decide (v.drop p = u.drop p) then W.f13_l4 k j4 s t (IntKind.wrap .i64 ((i : Int) + 1)) L else some (.ret (.bool false) L) := by
  obtain ⟨a1, x1, B1, e1, e2, e3, _⟩ := hv.row h1
  obtain ⟨a2, x2, B2, f1, f2, f3, _⟩ := hu.row h2
  intro q
  induction q with
  | zero =>
    intro p j hp hj
    obtain ⟨j, rfl⟩ : ∃ j', j = j' + 1 := ⟨j - 1, by omega⟩
    rw [W.f13_l9_eq, e1, obind_some, e2, obind_some, e3.1, decide_eq_false (by omega), lif_false, List.drop_of_length_le (by omega), List.drop_of_length_le (by omega), decide_eq_true rfl, cond_true]
  | succ q ih =>
    intro p j hp hj
    obtain ⟨j, rfl⟩ : ∃ j', j = j' + 1 := ⟨j - 1, by omega⟩
    have hlt : p < v.length := by omega
    have hlt2 : p < u.length := by omega
    obtain ⟨b1, g1, g2⟩ := e3.get hlt
    obtain ⟨b2, g3, g4⟩ := f3.get hlt2
    have n1 := sv v (List.mem_of_getElem? h1) v[p] (List.getElem_mem hlt)
    have n2 := su u (List.mem_of_getElem? h2) u[p] (List.getElem_mem hlt2)
    rw [W.f13_l9_eq, e1, obind_some, e2, obind_some, e3.1, decide_eq_true (by omega), lif_true, obind_some, e2, obind_some, g1, obind_some, g2, Option.bind_some, strV, asS_string, obind_some, f1, obind_some, f2, obind_some, g3, obind_some, g4, Option.bind_some, strV, asS_string, obind_some,
      str_same n1 n2, List.drop_eq_getElem_cons hlt, List.drop_eq_getElem_cons hlt2]
    by_cases hpu : v[p] = u[p]
    · rw [decide_eq_true hpu, Bool.not_true, lif_false, wI64 (n := (p : Int) + 1) (by omega) (by omega), show (p : Int) + 1 = ((p + 1 : Nat) : Int) by omega, ih (p + 1) j (by omega) (by omega)]
      congr 1
      rw [Bool.eq_iff_iff, decide_eq_true_eq, decide_eq_true_eq]
      exact ⟨fun h => by rw [hpu, h], fun h => by injection h⟩
    · rw [decide_eq_false hpu, Bool.not_false, lif_true, decide_eq_false (fun h => hpu (by injection h)), cond_false]
theorem same_rows {L : LHeap} {s t : Sl} {vs us : List (List (List Nat))} {A C : List Nat} (hv : RV L s vs A) (hu : RV L t us C) (sv : Small vs) (su : Small us) (hl : vs.length = us.length) (hn : vs.length < 9223372036854775808)
    {k : Nat} (hvl : ∀ v ∈ vs, v.length < 9223372036854775808 ∧ v.length < k) : ∀ (q i j : Nat), i + q = vs.length → q < j →
      W.f13_l4 k j s t (i : Int) L = some (.ret (.bool (decide (vs.drop i = us.drop i))) L) := by
  intro q
  induction q with
  | zero =>
    intro i j hi hj
    obtain ⟨j, rfl⟩ : ∃ j', j = j' + 1 := ⟨j - 1, by omega⟩
    rw [W.f13_l4_eq, hv.1, decide_eq_false (by omega), lif_false, List.drop_of_length_le (by omega), List.drop_of_length_le (by omega), decide_eq_true rfl]
  | succ q ih =>
    intro i j hi hj
    obtain ⟨j, rfl⟩ : ∃ j', j = j' + 1 := ⟨j - 1, by omega⟩
    have hlt : i < vs.length := by omega
    have hlt2 : i < us.length := by omega
    have h1 : vs[i]? = some vs[i] := List.getElem?_eq_getElem hlt
    have h2 : us[i]? = some us[i] := List.getElem?_eq_getElem hlt2
    obtain ⟨a1, x1, B1, e1, e2, e3, _⟩ := hv.row h1
    obtain ⟨a2, x2, B2, f1, f2, f3, _⟩ := hu.row h2
    have hvi := hvl vs[i] (List.getElem_mem hlt)
    rw [W.f13_l4_eq, hv.1, decide_eq_true (by omega), lif_true, e1, obind_some, e2, obind_some, f1, obind_some, f2, obind_some, e3.1, f3.1, List.drop_eq_getElem_cons hlt, List.drop_eq_getElem_cons hlt2]
    by_cases hle : vs[i].length = us[i].length
    · have hrow := same_row hv hu sv su h1 h2 hle hvi.1 (k := k) (j4 := j) vs[i].length 0 k (by omega) (by omega)
      rw [Int.natCast_zero, List.drop_zero, List.drop_zero, wI64 (n := (i : Int) + 1) (by omega) (by omega), show (i : Int) + 1 = ((i + 1 : Nat) : Int) by omega, ih (i + 1) j (by omega) (by omega)] at hrow
      rw [show ((vs[i].length : Int) != (us[i].length : Int)) = false by simp [hle], lif_false, hrow]
      by_cases hvu : vs[i] = us[i]
      · rw [decide_eq_true hvu, cond_true]
        congr 3
        rw [Bool.eq_iff_iff, decide_eq_true_eq, decide_eq_true_eq]
        exact ⟨fun h => by rw [hvu, h], fun h => by injection h⟩
      · rw [decide_eq_false hvu, cond_false, decide_eq_false (fun h => hvu (by injection h))]
    · rw [show ((vs[i].length : Int) != (us[i].length : Int)) = true by simp; omega, lif_true, decide_eq_false (fun h => hle (by injection h with h; rw [h]))]
theorem same_ok {L : LHeap} {s t : Sl} {vs us : List (List (List Nat))} {A C : List Nat} (hv : RV L s vs A) (hu : RV L t us C) (sv : Small vs) (su : Small us) (hn : vs.length < 9223372036854775808)
    {k : Nat} (hk : vs.length < k) (hvl : ∀ v ∈ vs, v.length < 9223372036854775808 ∧ v.length < k) : W.f13 (k + 1) s t L = some (.ret (.bool (decide (vs = us))) L) := by
  rw [W.f13_eq, hv.1, hu.1]
  by_cases hl : vs.length = us.length
  · have := same_rows hv hu sv su hl hn hvl vs.length 0 k (by omega) hk
    rw [Int.natCast_zero, List.drop_zero, List.drop_zero] at this
    rw [show ((vs.length : Int) != (us.length : Int)) = false by simp [hl], lif_false, this]
  · rw [show ((vs.length : Int) != (us.length : Int)) = true by simp; omega, lif_true, decide_eq_false (fun h => hl (by rw [h]))]
end Go.Proofs.YtffcfaabjodpcaaDoor
end

section
set_option maxRecDepth 100000
namespace Go.Proofs.YtffcfaabjodpcaaDoor
open Go Go.Rlm
theorem cutS_eq (b : List Nat) (d r z m : Int) : cutS b ⟨d, r, z, m⟩ = (cutV b d r z m, countE b.length d r z m) := by
  unfold cutS cutV
  rw [countS_eq]
  by_cases h : countE b.length d r z m = 0
  · rw [if_pos h, if_pos h, h]; rfl
  · rw [if_neg h, if_neg h]
theorem volsOf_all {D S : Nat} : ∀ (K : Nat) (l : List Nat), K * (D * S) ≤ l.length → ∀ v ∈ volsOf D S K l, v.length = D ∧ (∀ x ∈ v, x.length = S) ∧ ∀ x ∈ v, ∀ n ∈ x, n ∈ l := by
  have rows : ∀ (D : Nat) (l : List Nat), D * S ≤ l.length → (∀ x ∈ rowsOf S D l, x.length = S) ∧ ∀ x ∈ rowsOf S D l, ∀ n ∈ x, n ∈ l := by
    intro D
    induction D with
    | zero => intro l _; exact ⟨fun x hx => by simp [rowsOf] at hx, fun x hx => by simp [rowsOf] at hx⟩
    | succ D ih =>
      intro l hl
      rw [Nat.add_mul, Nat.one_mul] at hl
      obtain ⟨h1, h2⟩ := ih (l.drop S) (by rw [List.length_drop]; omega)
      rw [rowsOf]
      refine ⟨fun x hx => ?_, fun x hx n hn => ?_⟩
      · rcases List.mem_cons.1 hx with rfl | hx
        · rw [List.length_take]; omega
        · exact h1 x hx
      · rcases List.mem_cons.1 hx with rfl | hx
        · exact List.mem_of_mem_take hn
        · exact List.mem_of_mem_drop (h2 x hx n hn)
  intro K
  induction K with
  | zero => intro l _ v hv; simp [volsOf] at hv
  | succ K ih =>
    intro l hl v hv
    rw [Nat.add_mul, Nat.one_mul] at hl
    rw [volsOf] at hv
    rcases List.mem_cons.1 hv with rfl | hv
    · obtain ⟨h1, h2⟩ := rows D l (by omega)
      exact ⟨rowsOf_length S D l, h1, h2⟩
    · obtain ⟨h1, h2, h3⟩ := ih (l.drop (D * S)) (by rw [List.length_drop]; omega) v hv
      exact ⟨h1, h2, fun x hx n hn => List.mem_of_mem_drop (h3 x hx n hn)⟩
/-- What is known of a cut. -/
theorem cutV_all {b : List Nat} (hb : ∀ x ∈ b, x < 256) {d r z m : Int} (h : countE b.length d r z m = 0) :
    ((cutV b d r z m).length : Int) = countK b.length d r z m ∧ (∀ v ∈ cutV b d r z m, (v.length : Int) = d ∧ ∀ x ∈ v, (x.length : Int) = z) ∧ Small (cutV b d r z m) ∧ ((cutV b d r z m).map List.flatten).flatten.length ≤ 4000000 := by
  obtain ⟨hs, c2, c3, c4, c5⟩ := fit_ok (by omega) h
  have hs' := shapeB_iff.1 hs
  obtain ⟨D, hD⟩ : ∃ D : Nat, d = D := ⟨d.toNat, by omega⟩
  obtain ⟨S, hS⟩ : ∃ S : Nat, z = S := ⟨z.toNat, by omega⟩
  subst hD; subst hS
  obtain ⟨K, hK⟩ : ∃ K : Nat, volK b.length ((D : Int) * S) = K := ⟨(volK b.length ((D : Int) * S)).toNat, by omega⟩
  rw [hK] at c2 c3 c4 c5
  have c5' : b.length + 8 ≤ K * (D * S) := by
    have : ((b.length + 8 : Nat) : Int) ≤ ((K * (D * S) : Nat) : Int) := by push_cast; exact c5
    omega
  have hcut : cutV b D r S m = volsOf D S K (layS b K (D * S)) := by
    unfold cutV; rw [if_pos h, c2]; rfl
  have hDS : D * S ≤ 64 * 512 := Nat.mul_le_mul (by omega) (by omega)
  have hall : K * (D * S) ≤ 96 * (64 * 512) := Nat.mul_le_mul (by omega) hDS
  have hll := layS_length c5'
  have hsm2 : ∀ n ∈ layS b K (D * S), n < 256 := by
    intro n hn
    rw [lay_eq] at hn
    rcases List.mem_append.1 hn with hn | hn
    · rcases List.mem_append.1 hn with hn | hn
      · exact eightB_small _ n hn
      · exact hb n hn
    · rw [(List.mem_replicate.1 hn).2]; omega
  rw [hcut, c2]
  have hv := volsOf_all (D := D) (S := S) K (layS b K (D * S)) (by omega)
  refine ⟨by rw [volsOf_length], fun v hvm => ⟨by rw [(hv v hvm).1], fun x hx => by rw [(hv v hvm).2.1 x hx]⟩, fun v hvm x hx n hn => hsm2 n ((hv v hvm).2.2 x hx n hn), ?_⟩
  rw [volsOf_flatten, List.length_take]
  omega
theorem flat_le : ∀ vs : List (List (List Nat)), (vs.map List.flatten).flatten.length ≤ costs vs
  | [] => by simp [costs]
  | v :: vs => by
    have h1 := flat_le vs
    have h2 : ∀ v : List (List Nat), v.flatten.length ≤ rowsC v := by
      intro v
      induction v with
      | nil => simp [rowsC]
      | cons x v ih => rw [rowsC_cons, List.flatten_cons, List.length_append]; omega
    rw [List.map_cons, List.flatten_cons, List.length_append, costs_cons]
    have := h2 v
    omega
end Go.Proofs.YtffcfaabjodpcaaDoor
end

section
set_option maxRecDepth 100000
set_option linter.unusedVariables false
namespace Go.Proofs.YtffcfaabjodpcaaDoor.W
open Go Go.Rlm
/-- hamper/hamperref26.Cut -/
noncomputable def f12 (k : Nat) (s0 : ByteArray) (n1 : Int) (n2 : Int) (n3 : Int) (n4 : Int) (L : LHeap) : R :=
  lcall Tryd.prog T k 12 [Value.string s0, Value.agg #[Value.int IntKind.i64 n1, Value.int IntKind.i64 n2, Value.int IntKind.i64 n3, Value.int IntKind.i64 n4]] L
/-- slots 3, 6, 8, 9, 10 -/
noncomputable def f12_l8 (k : Nat) (j8 : Nat) (r17 : Nat) (n18 : Int) (s19 : ByteArray) (l20 : Sl) (n21 : Int) (L : LHeap) : R :=
  loopAt Tryd.prog T 12 k [1, 1, 1, 1, 1, 1, 0, 1, 0] [] j8
  [(3, Value.pointer (some (Addr.mk r17 0 none))), (6, Value.int IntKind.i64 n18), (8, Value.string s19), (9, Value.slice l20.a l20.n l20.c), (10, Value.int IntKind.i64 n21)] L
/-- slots 3, 6, 8, 9, 10, 11, 12 -/
noncomputable def f12_l12 (k : Nat) (j8_22 : Nat) (j12 : Nat) (r23 : Nat) (n24 : Int) (s25 : ByteArray) (l26 : Sl) (n27 : Int) (l28 : Sl) (n29 : Int) (L : LHeap) : R :=
  loopAt Tryd.prog T 12 k [1, 1, 1, 1, 1, 1, 0, 1, 0, 0, 1, 0, 0, 1, 0, 1, 0] [j8_22] j12
  [(3, Value.pointer (some (Addr.mk r23 0 none))), (6, Value.int IntKind.i64 n24), (8, Value.string s25), (9, Value.slice l26.a l26.n l26.c), (10, Value.int IntKind.i64 n27),
    (11, Value.slice l28.a l28.n l28.c), (12, Value.int IntKind.i64 n29)]
  L
theorem f12_eq (k : Nat) (s0 : ByteArray) (n1 : Int) (n2 : Int) (n3 : Int) (n4 : Int) (L : LHeap) : f12 (k + 1) s0 n1 n2 n3 n4 L =
 obind
 (Option.bind
 (cell (L ++ [LBlk.cells [Value.int IntKind.i64 n1, Value.int IntKind.i64 n2, Value.int IntKind.i64 n3, Value.int IntKind.i64 n4] 23 false 0]) (Addr.add (Addr.mk (List.length L) 0 none) 0))
 (asI IntKind.i64))
 fun n5 =>
 obind
 (Option.bind
 (cell (L ++ [LBlk.cells [Value.int IntKind.i64 n1, Value.int IntKind.i64 n2, Value.int IntKind.i64 n3, Value.int IntKind.i64 n4] 23 false 0]) (Addr.add (Addr.mk (List.length L) 0 none) 1))
 (asI IntKind.i64))
 fun n6 =>
 obind
 (Option.bind
 (cell (L ++ [LBlk.cells [Value.int IntKind.i64 n1, Value.int IntKind.i64 n2, Value.int IntKind.i64 n3, Value.int IntKind.i64 n4] 23 false 0]) (Addr.add (Addr.mk (List.length L) 0 none) 2))
 (asI IntKind.i64))
 fun n7 =>
 obind
 (Option.bind
 (cell (L ++ [LBlk.cells [Value.int IntKind.i64 n1, Value.int IntKind.i64 n2, Value.int IntKind.i64 n3, Value.int IntKind.i64 n4] 23 false 0]) (Addr.add (Addr.mk (List.length L) 0 none) 3))
 (asI IntKind.i64))
 fun n8 =>
 when (decide ((↑(ByteArray.size s0) : Int) < 9223372036854775808))
 (lif (countE (↑(ByteArray.size s0) : Int) n5 n6 n7 n8 != 0)
 (some
 (LR.ret (Value.tuple #[Value.slice none 0 0, Value.int IntKind.i64 (countE (↑(ByteArray.size s0) : Int) n5 n6 n7 n8)])
 (L ++ [LBlk.cells [Value.int IntKind.i64 n1, Value.int IntKind.i64 n2, Value.int IntKind.i64 n3, Value.int IntKind.i64 n4] 23 false 0])))
 (lbind
 (lcall Tryd.prog T k 29 [Value.int IntKind.i64 (↑(ByteArray.size s0) : Int)]
 (L ++ [LBlk.cells [Value.int IntKind.i64 n1, Value.int IntKind.i64 n2, Value.int IntKind.i64 n3, Value.int IntKind.i64 n4] 23 false 0]))
 fun v9 L10 =>
 obind (asS v9) fun s11 =>
 when (fitsS (ByteArray.size s11 + ByteArray.size s0))
 (obind (Option.bind (cell L10 (Addr.add (Addr.mk (List.length L) 0 none) 0)) (asI IntKind.i64)) fun n12 =>
 obind (Option.bind (cell L10 (Addr.add (Addr.mk (List.length L) 0 none) 2)) (asI IntKind.i64)) fun n13 =>
 when
 (room
 (IntKind.wrap IntKind.i64
 (IntKind.wrap IntKind.i64 (IntKind.wrap IntKind.i64 (countK (↑(ByteArray.size s0) : Int) n5 n6 n7 n8 * n12) * n13) - (↑(ByteArray.size (s11 ++ s0)) : Int)))
 (IntKind.wrap IntKind.i64
 (IntKind.wrap IntKind.i64 (IntKind.wrap IntKind.i64 (countK (↑(ByteArray.size s0) : Int) n5 n6 n7 n8 * n12) * n13) - (↑(ByteArray.size (s11 ++ s0)) : Int)))
 Tryd.prog.types[5].bytes)
 (obind
 (bytesOf
 (L10 ++
 [LBlk.cells
 (List.flatten
 (List.replicate
 (Int.toNat
 (IntKind.wrap IntKind.i64
 (IntKind.wrap IntKind.i64 (IntKind.wrap IntKind.i64 (countK (↑(ByteArray.size s0) : Int) n5 n6 n7 n8 * n12) * n13) - (↑(ByteArray.size (s11 ++ s0)) : Int))))
 [Value.int IntKind.u8 0]))
 5 false 0])
 (Sl.mk (some (Addr.mk (List.length L10) 0 none))
 (Int.toNat
 (IntKind.wrap IntKind.i64
 (IntKind.wrap IntKind.i64 (IntKind.wrap IntKind.i64 (countK (↑(ByteArray.size s0) : Int) n5 n6 n7 n8 * n12) * n13) - (↑(ByteArray.size (s11 ++ s0)) : Int))))
 (Int.toNat
 (IntKind.wrap IntKind.i64
 (IntKind.wrap IntKind.i64 (IntKind.wrap IntKind.i64 (countK (↑(ByteArray.size s0) : Int) n5 n6 n7 n8 * n12) * n13) - (↑(ByteArray.size (s11 ++ s0)) : Int))))))
 fun s14 =>
 when (fitsS (ByteArray.size (s11 ++ s0) + ByteArray.size s14))
 (f12_l8 k k (List.length L) (countK (↑(ByteArray.size s0) : Int) n5 n6 n7 n8) (s11 ++ s0 ++ s14) (Sl.mk none 0 0) 0
 (L10 ++
 [LBlk.cells
 (List.flatten
 (List.replicate
 (Int.toNat
 (IntKind.wrap IntKind.i64
 (IntKind.wrap IntKind.i64 (IntKind.wrap IntKind.i64 (countK (↑(ByteArray.size s0) : Int) n5 n6 n7 n8 * n12) * n13) -
 (↑(ByteArray.size (s11 ++ s0)) : Int))))
 [Value.int IntKind.u8 0]))
 5 false 0])))))) := by kernel_rfl
theorem f12_l8_eq (k : Nat) (j8 : Nat) (r0 : Nat) (n1 : Int) (s2 : ByteArray) (l3 : Sl) (n4 : Int) (L : LHeap) : f12_l8 k (j8 + 1) r0 n1 s2 l3 n4 L =
 lif (decide (n4 < n1)) (f12_l12 k j8 k r0 n1 s2 l3 n4 (Sl.mk none 0 0) 0 L) (some (LR.ret (Value.tuple #[Value.slice l3.a l3.n l3.c, Value.int IntKind.i64 0]) L)) := by kernel_rfl
theorem f12_l12_eq (k : Nat) (j8_0 : Nat) (j12 : Nat) (r1 : Nat) (n2 : Int) (s3 : ByteArray) (l4 : Sl) (n5 : Int) (l6 : Sl) (n7 : Int) (L : LHeap) : f12_l12 k j8_0 (j12 + 1) r1 n2 s3 l4 n5 l6 n7 L =
 obind (Option.bind (cell L (Addr.add (Addr.mk r1 0 none) 0)) (asI IntKind.i64)) fun n8 =>
 lif (decide (n7 < n8))
 (obind (Option.bind (cell L (Addr.add (Addr.mk r1 0 none) 0)) (asI IntKind.i64)) fun n9 =>
 obind (Option.bind (cell L (Addr.add (Addr.mk r1 0 none) 2)) (asI IntKind.i64)) fun n10 =>
 obind (Option.bind (cell L (Addr.add (Addr.mk r1 0 none) 2)) (asI IntKind.i64)) fun n11 =>
 obind
 (subS s3 (some (IntKind.wrap IntKind.i64 (IntKind.wrap IntKind.i64 (IntKind.wrap IntKind.i64 (n5 * n9) + n7) * n10)))
 (some (IntKind.wrap IntKind.i64 (IntKind.wrap IntKind.i64 (IntKind.wrap IntKind.i64 (IntKind.wrap IntKind.i64 (n5 * n9) + n7) * n10) + n11))))
 fun s12 =>
 obind (srcOf (L ++ [LBlk.cells [Value.string s12] 9 false 0]) Tryd.prog.types[9].size 1 (Value.slice (some (Addr.mk (List.length L) 0 none)) 1 1)) fun x13 =>
 obind (app (L ++ [LBlk.cells [Value.string s12] 9 false 0]) 9 Tryd.prog.types[9].size Tryd.prog.types[9].bytes l6 1 x13) fun x14 =>
 f12_l12 k j8_0 j12 r1 n2 s3 l4 n5 x14.fst (IntKind.wrap IntKind.i64 (n7 + 1)) x14.snd)
 (obind (srcOf (L ++ [LBlk.cells [Value.slice l6.a l6.n l6.c] 39 false 0]) Tryd.prog.types[39].size 1 (Value.slice (some (Addr.mk (List.length L) 0 none)) 1 1)) fun x15 =>
 obind (app (L ++ [LBlk.cells [Value.slice l6.a l6.n l6.c] 39 false 0]) 39 Tryd.prog.types[39].size Tryd.prog.types[39].bytes l4 1 x15) fun x16 =>
 f12_l8 k j8_0 r1 n2 s3 x16.fst (IntKind.wrap IntKind.i64 (n5 + 1)) x16.snd) := by kernel_rfl
end Go.Proofs.YtffcfaabjodpcaaDoor.W
end

section
set_option maxRecDepth 100000
set_option linter.unusedVariables false
namespace Go.Proofs.YtffcfaabjodpcaaDoor.W
open Go Go.Rlm
/-- hamper/hamperref10.Eight -/
noncomputable def f29 (k : Nat) (n0 : Int) (L : LHeap) : R :=
  lcall Tryd.prog T k 29 [Value.int IntKind.i64 n0] L
/-- slots 0, 3, 4 -/
noncomputable def f29_l3 (k : Nat) (j3 : Nat) (n6 : Int) (l7 : Sl) (n8 : Int) (L : LHeap) : R :=
  loopAt Tryd.prog T 29 k [1, 1, 0, 1, 0] [] j3 [(0, Value.int IntKind.i64 n6), (3, Value.slice l7.a l7.n l7.c), (4, Value.int IntKind.i64 n8)] L
theorem f29_eq (k : Nat) (n0 : Int) (L : LHeap) : f29 (k + 1) n0 L =
 f29_l3 k k n0 (Sl.mk (some (Addr.mk (List.length L) 0 none)) 8 8) 7
 (L ++
 [LBlk.cells
 [Value.int IntKind.u8 0, Value.int IntKind.u8 0, Value.int IntKind.u8 0, Value.int IntKind.u8 0, Value.int IntKind.u8 0, Value.int IntKind.u8 0, Value.int IntKind.u8 0, Value.int IntKind.u8 0]
 5 false 0]) := by kernel_rfl
theorem f29_l3_eq (k : Nat) (j3 : Nat) (n0 : Int) (l1 : Sl) (n2 : Int) (L : LHeap) : f29_l3 k (j3 + 1) n0 l1 n2 L =
 lif (decide (n2 ≥ 0))
 (obind (idx l1 n2 1) fun a3 =>
 obind (stores L a3 [Value.int IntKind.u8 (IntKind.wrap IntKind.u8 (Int.tmod n0 256))]) fun L4 =>
 f29_l3 k j3 (IntKind.wrap IntKind.i64 (Int.tdiv n0 256)) l1 (IntKind.wrap IntKind.i64 (n2 - 1)) L4)
 (obind (bytesOf L l1) fun s5 => some (LR.ret (Value.string s5) L)) := by kernel_rfl
end Go.Proofs.YtffcfaabjodpcaaDoor.W
end

section
set_option maxRecDepth 100000
namespace Go.Proofs.YtffcfaabjodpcaaDoor
open Go Go.Rlm
theorem ws_bytes {L : LHeap} {s : Sl} {vs : List Nat} {e : TypeId} {F : List Nat} (h : WS L s (vs.map bV) e F) (hb : ∀ n ∈ vs, n < 256) : bytesOf L s = some (strOf vs) := by
  have hs : srcCells L s s.n 1 = some (vs.map bV) := h.rd.src
  simp only [bytesOf, hs, Option.bind_eq_bind, Option.bind_some, toBytes_of vs hb]
  show some (⟨#[] ++ (vs.map UInt8.ofNat).toArray⟩ : ByteArray) = _
  rw [Array.empty_append]
  rfl
theorem eight_loop {k n : Nat} (hn : n < 1000000000) {s : Sl} : ∀ (c j : Nat) (L : LHeap) (F : List Nat), c ≤ 8 → c < j → WS L s ((List.replicate c 0 ++ (eightB n).drop c).map bV) 5 F →
    ∃ L', W.f29_l3 k j ((n / 256 ^ (8 - c) : Nat) : Int) s ((c : Int) - 1) L = some (.ret (.string (strOf (eightB n))) L') ∧ Step F L F L' := by
  intro c
  induction c with
  | zero =>
    intro j L F hc hj hw
    obtain ⟨j, rfl⟩ : ∃ j', j = j' + 1 := ⟨j - 1, by omega⟩
    refine ⟨L, ?_, .refl _ _⟩
    rw [List.replicate_zero, List.nil_append, List.drop_zero] at hw
    rw [W.f29_l3_eq, decide_eq_false (by omega), lif_false, ws_bytes hw (eightB_small n), obind_some]
  | succ c ih =>
    intro j L F hc hj hw
    obtain ⟨j, rfl⟩ : ∃ j', j = j' + 1 := ⟨j - 1, by omega⟩
    obtain ⟨a, L1, g1, g2, g3, g4⟩ := hw.put (i := c) (by simp [eightB_length]; omega) (bV (n / 256 ^ (7 - c) % 256))
    have hset : ((List.replicate (c + 1) 0 ++ (eightB n).drop (c + 1)).map bV).set c (bV (n / 256 ^ (7 - c) % 256)) = (List.replicate c 0 ++ (eightB n).drop c).map bV := by
      have hlt : c < (eightB n).length := by rw [eightB_length]; omega
      rw [← List.map_set, List.drop_eq_getElem_cons hlt]
      congr 1
      have hg := eight_get (n := n) (i := c) (by omega)
      rw [List.getElem?_eq_getElem hlt] at hg
      injection hg with hg
      rw [hg, List.replicate_succ', List.append_assoc, List.set_append_right _ _ (by simp)]
      simp
    rw [hset] at g3
    obtain ⟨L2, e1, e2⟩ := ih j L1 F (by omega) (by omega) g3
    refine ⟨L2, ?_, g4.trans e2⟩
    have h1 : n / 256 ^ (8 - c) = n / 256 ^ (7 - c) / 256 := by
      rw [Nat.div_div_eq_div_mul, ← Nat.pow_succ, show 8 - c = (7 - c).succ by omega]
    have h2 := Nat.div_le_self n (256 ^ (7 - c))
    rw [h1] at e1
    rw [show 8 - (c + 1) = 7 - c by omega]
    generalize n / 256 ^ (7 - c) = x at *
    rw [show ((c + 1 : Nat) : Int) - 1 = (c : Int) by omega, W.f29_l3_eq, decide_eq_true (by omega), lif_true, g1, obind_some]
    rw [show IntKind.wrap .u8 (Int.tmod (x : Int) 256) = ((x % 256 : Nat) : Int) by
      rw [show (256 : Int) = ((256 : Nat) : Int) from rfl, tmod_nat, wU8 (by omega) (by omega)]]
    rw [show [Value.int .u8 ((x % 256 : Nat) : Int)] = [bV (x % 256)] from rfl, g2, obind_some]
    rw [show Int.tdiv (x : Int) 256 = ((x / 256 : Nat) : Int) from tdiv_nat x 256, wI64 (n := ((x / 256 : Nat) : Int)) (by omega) (by omega), wI64 (by omega) (by omega)]
    exact e1
theorem eight_ok {k n : Nat} (hn : n < 1000000000) (hk : 9 ≤ k) (L : LHeap) : ∃ L', W.f29 (k + 1) (n : Int) L = some (.ret (.string (strOf (eightB n))) L') ∧ Step [] L [] L' := by
  rw [W.f29_eq]
  have hw : WS (L ++ [LBlk.cells ([0, 0, 0, 0, 0, 0, 0, 0].map bV) 5 false 0]) ⟨some ⟨L.length, 0, none⟩, 8, 8⟩ ((List.replicate 8 0 ++ (eightB n).drop 8).map bV) 5 [L.length] := by
    rw [List.drop_of_length_le (by rw [eightB_length]; omega), List.append_nil]
    exact WS.lit (by simp)
  obtain ⟨L', e1, e2⟩ := eight_loop (k := k) hn 8 k _ _ (by omega) (by omega) hw
  refine ⟨L', ?_, ((Step.new [] L _).trans e2).less fun i hi => by simp at hi⟩
  rw [show n / 256 ^ (8 - 8) = n by simp] at e1
  exact e1
theorem ref_rows {k j8 r S D v : Nat} {l4 : Sl} {n2 d2 d3 : Int} {l : List Nat} (hS : S ≤ 512) (hD : D ≤ 64) (hv : v ≤ 96) (hl : (v * D + D) * S ≤ l.length) : ∀ (q i j : Nat) (L : LHeap) (l6 : Sl) (done : List (List Nat)) (F4 : List Nat), i + q = D → q < j → done.length = i →
    L[r]? = some (.cells [.int .i64 (D : Int), .int .i64 d2, .int .i64 (S : Int), .int .i64 d3] 23 false 0) → OS L l6 (done.map strV) 9 F4 → r ∉ F4 →
    ∃ j' l6' L' F4', W.f12_l12 k j8 j r n2 (strOf l) l4 (v : Int) l6 (i : Int) L = W.f12_l12 k j8 (j' + 1) r n2 (strOf l) l4 (v : Int) l6' (D : Int) L' ∧ OS L' l6' ((done ++ rowsOf S q (l.drop ((v * D + i) * S))).map strV) 9 F4' ∧ Step F4 L F4' L' := by
  intro q
  induction q with
  | zero =>
    intro i j L l6 done F4 hi hj _ _ ho _
    obtain ⟨j, rfl⟩ : ∃ j', j = j' + 1 := ⟨j - 1, by omega⟩
    exact ⟨j, l6, L, F4, by rw [show i = D by omega], by rw [rowsOf, List.append_nil]; exact ho, .refl _ _⟩
  | succ q ih =>
    intro i j L l6 done F4 hi hj hdone hr ho hrF
    obtain ⟨j, rfl⟩ : ∃ j', j = j' + 1 := ⟨j - 1, by omega⟩
    have hlr := get_lt hr
    have b1 : v * D ≤ 96 * 64 := Nat.mul_le_mul hv hD
    have b2 : (v * D + i) * S ≤ (96 * 64 + 64) * 512 := Nat.mul_le_mul (by omega) hS
    have b3 : (v * D + i) * S + S ≤ (v * D + D) * S := by
      have : (v * D + (i + 1)) * S ≤ (v * D + D) * S := Nat.mul_le_mul_right _ (by omega)
      rw [← Nat.add_assoc, Nat.add_mul (v * D + i) 1 S, Nat.one_mul] at this
      exact this
    have hnext : (v * D + (i + 1)) * S = (v * D + i) * S + S := by rw [← Nat.add_assoc, Nat.add_mul (v * D + i) 1 S, Nat.one_mul]
    obtain ⟨y0, _, y2, _⟩ : (Rlm.cell L (Addr.add ⟨r, 0, none⟩ 0)).bind (asI .i64) = some (D : Int) ∧ True ∧ (Rlm.cell L (Addr.add ⟨r, 0, none⟩ 2)).bind (asI .i64) = some (S : Int) ∧ True := by
      refine ⟨?_, trivial, ?_, trivial⟩
      · rw [show Addr.add ⟨r, 0, none⟩ 0 = (⟨r, 0, none⟩ : Addr) from rfl, cell_of hr]; rfl
      · rw [show Addr.add ⟨r, 0, none⟩ 2 = (⟨r, 2, none⟩ : Addr) from rfl, cell_of hr]; rfl
    generalize hx : (v * D + i) * S = x at *
    obtain ⟨l6', L1, F1, a1, a2, a3⟩ := (ho.mono (L' := L ++ [.cells [.string (strOf ((l.drop x).take S))] 9 false 0]) fun b hb => get_push (ho.within b hb)).app [strV ((l.drop x).take S)] 16 (by simp; omega) (by simp; omega)
    have hs : srcOf (L ++ [LBlk.cells [.string (strOf ((l.drop x).take S))] 9 false 0]) 1 1 (.slice (some ⟨L.length, 0, none⟩) 1 1) = some [strV ((l.drop x).take S)] := by
      simp [srcOf, srcCells, cellsAt]; rfl
    have st : Step F4 L F1 L1 := (Step.push F4 L _).trans a3
    have hr1 : L1[r]? = L[r]? := st.keep r hlr hrF
    obtain ⟨j', l5, L2, F2, c1, c2, c3⟩ := ih (i + 1) j L1 l6' (done ++ [(l.drop x).take S]) F1 (by omega) (by omega) (by simp [hdone]) (hr1.trans hr) (by rw [List.map_append]; exact a2)
      (fun hc => by rcases st.foot r hc with h | h; exact hrF h; omega)
    refine ⟨j', l5, L2, F2, ?_, ?_, st.trans c3⟩
    · have e1 : IntKind.wrap .i64 (IntKind.wrap .i64 (IntKind.wrap .i64 ((v : Int) * D) + (i : Int)) * S) = (x : Int) := by
        rw [show (v : Int) * D = ((v * D : Nat) : Int) by push_cast; rfl, wI64 (n := ((v * D : Nat) : Int)) (by omega) (by omega), wI64 (n := ((v * D : Nat) : Int) + i) (by omega) (by omega), show (((v * D : Nat) : Int) + i) * S = ((v * D + i) * S : Nat) by push_cast; rfl, hx, wI64 (by omega) (by omega)]
      have e2 : subS (strOf l) (some (x : Int)) (some ((x : Int) + S)) = some (strOf ((l.drop x).take S)) := by
        have := sub_mid (l := l) (i := x) (j := x + S) (by omega) (by omega)
        rw [show ((x + S : Nat) : Int) = (x : Int) + S by omega, List.drop_take, show x + S - x = S by omega] at this
        exact this
      rw [W.f12_l12_eq, y0, obind_some, decide_eq_true (by omega), lif_true, obind_some, y2, obind_some, obind_some, e1, wI64 (n := (x : Int) + S) (by omega) (by omega), e2, obind_some, size9, bytes9, hs, obind_some]
      rw [show app _ 9 1 16 l6 1 _ = _ from a1, obind_some, wI64 (n := (i : Int) + 1) (by omega) (by omega), show (i : Int) + 1 = ((i + 1 : Nat) : Int) by omega, c1]
    · rw [hnext] at c2
      rw [rowsOf, List.drop_drop, show done ++ List.take S (List.drop x l) :: rowsOf S q (List.drop (x + S) l) = done ++ [(l.drop x).take S] ++ rowsOf S q (l.drop (x + S)) by simp]
      exact c2
theorem ref_vols {k r S D : Nat} {K d2 d3 : Int} {l : List Nat} (hS : S ≤ 512) (hD : D ≤ 64) (hk : 100 ≤ k) : ∀ (q i j : Nat) (L : LHeap) (l2 : Sl) (done : List (List (List Nat))) (F : List Nat), (i : Int) + q = K → K ≤ 96 → q < j → i * (D * S) + q * (D * S) ≤ l.length → done.length = i →
    L[r]? = some (.cells [.int .i64 (D : Int), .int .i64 d2, .int .i64 (S : Int), .int .i64 d3] 23 false 0) → Vols L l2 done F → r ∉ F → Within F L →
    ∃ s L' F', W.f12_l8 k j r K (strOf l) l2 (i : Int) L = some (.ret (.tuple #[slV s, .int .i64 0]) L') ∧ Vols L' s (done ++ volsOf D S q (l.drop (i * (D * S)))) F' ∧ Step F L F' L' ∧ Within F' L' := by
  intro q
  induction q with
  | zero =>
    intro i j L l2 done F hi hK hj _ _ _ ho _ hw
    obtain ⟨j, rfl⟩ : ∃ j', j = j' + 1 := ⟨j - 1, by omega⟩
    refine ⟨l2, L, F, ?_, by rw [volsOf, List.append_nil]; exact ho, .refl _ _, hw⟩
    rw [W.f12_l8_eq, decide_eq_false (by omega), lif_false]
    rfl
  | succ q ih =>
    intro i j L l2 done F hi hK hj hl hdone hr ho hrF hw
    obtain ⟨j, rfl⟩ : ∃ j', j = j' + 1 := ⟨j - 1, by omega⟩
    rw [Nat.add_mul, Nat.one_mul] at hl
    have hlr := get_lt hr
    have hc : (Rlm.cell L (Addr.add ⟨r, 0, none⟩ 0)).bind (asI .i64) = some (D : Int) := by
      rw [show Addr.add ⟨r, 0, none⟩ 0 = (⟨r, 0, none⟩ : Addr) from rfl, cell_of hr]; rfl
    obtain ⟨j', l4, L1, F1, a1, a2, a3⟩ := ref_rows (k := k) (j8 := j) (r := r) (l4 := l2) (n2 := K) (v := i) (l := l) hS hD (by omega) (by rw [Nat.add_mul (i * D) D S, Nat.mul_assoc]; omega) D 0 k L ⟨none, 0, 0⟩ [] [] (by omega) (by omega) rfl hr (OS.nil _ _) (by simp)
    rw [List.nil_append, Nat.add_zero, Nat.mul_assoc] at a2
    -- everything that was there is there
    have k1 : ∀ b, b < L.length → L1[b]? = L[b]? := fun b hb => a3.keep b hb (by simp)
    have f1 : ∀ b ∈ F1, L.length ≤ b := fun b hb => by rcases a3.foot b hb with h | h; simp at h; exact h
    obtain ⟨xs, A, o1, o2, o3, o4⟩ := ho
    have k2 : ∀ b, b < L1.length → (L1 ++ [LBlk.cells [slV l4] 39 false 0])[b]? = L1[b]? := fun b hb => get_push hb
    have o1' : OS (L1 ++ [LBlk.cells [slV l4] 39 false 0]) l2 (xs.map slV) 39 A := o1.mono fun b hb => by
      have := hw b (o4 b hb)
      rw [k2 b (by have := a3.len; omega), k1 b this]
    obtain ⟨s', L2, A2, c1, c2, c3⟩ := o1'.app [slV l4] 24 (by simp; omega) (by simp; omega)
    have hs : srcOf (L1 ++ [LBlk.cells [slV l4] 39 false 0]) 1 1 (.slice (some ⟨L1.length, 0, none⟩) 1 1) = some [slV l4] := by
      simp [srcOf, srcCells, cellsAt]; rfl
    have hA : ∀ b, b ∉ A → b < L1.length → L2[b]? = L1[b]? := fun b hb hl => by rw [c3.keep b (by simp; omega) hb, k2 b hl]
    have fA2 : ∀ b ∈ A2, b ∈ A ∨ L1.length + 1 ≤ b := fun b hb => by
      rcases c3.foot b hb with h | h
      · exact .inl h
      · exact .inr (by simpa using h)
    have w1 := a2.within
    have nA : ∀ b ∈ F1, b ∉ A := fun b hb hc => by have := f1 b hb; have := hw b (o4 b hc); omega
    have hv : Vols L2 s' (done ++ [rowsOf S D (l.drop (i * (D * S)))]) (A2 ++ F1 ++ F) := by
      refine ⟨xs ++ [l4], A2, by rw [List.map_append]; exact c2, by simp [o2], fun t x v hx hvv => ?_, fun a ha => by simp [ha]⟩
      rcases Nat.lt_or_ge t xs.length with ht | ht
      · rw [List.getElem?_append_left ht] at hx
        rw [List.getElem?_append_left (by omega)] at hvv
        obtain ⟨B, b1, b2⟩ := o3 t x v hx hvv
        refine ⟨B, b1.mono fun b hb => ?_, fun b hb => ⟨by simp [(b2 b hb).1], fun hc => ?_⟩⟩
        · have := hw b (b2 b hb).1
          rw [hA b (b2 b hb).2 (by have := a3.len; omega), k1 b this]
        · rcases fA2 b hc with h | h
          · exact (b2 b hb).2 h
          · have := hw b (b2 b hb).1; have := a3.len; omega
      · rw [List.getElem?_append_right ht] at hx
        rw [List.getElem?_append_right (by omega)] at hvv
        have hlt := get_lt hx
        simp only [List.length_cons, List.length_nil] at hlt
        rw [show t - xs.length = 0 by omega] at hx
        rw [show t - done.length = 0 by omega] at hvv
        injection hx with hx; injection hvv with hvv
        subst hx; subst hvv
        refine ⟨F1, a2.mono fun b hb => hA b (nA b hb) (w1 b hb), fun b hb => ⟨by simp [hb], fun hc => ?_⟩⟩
        rcases fA2 b hc with h | h
        · exact nA b hb h
        · have := w1 b hb; omega
    have st : Step F L (A2 ++ F1 ++ F) L2 := by
      refine ⟨by have := a3.len; have := c3.len; simp at this; omega, fun b hb hn => ?_, fun b hb => ?_⟩
      · rw [hA b (fun hc => hn (o4 b hc)) (by have := a3.len; omega), k1 b hb]
      · rcases List.mem_append.1 hb with hb | hb
        · rcases List.mem_append.1 hb with hb | hb
          · rcases fA2 b hb with h | h
            · exact .inl (o4 b h)
            · exact .inr (by have := a3.len; omega)
          · exact .inr (f1 b hb)
        · exact .inl hb
    have w2 : Within (A2 ++ F1 ++ F) L2 := fun b hb => by
      have e1 := a3.len
      have e2 := c3.len
      simp only [List.length_append, List.length_cons, List.length_nil] at e2
      rcases List.mem_append.1 hb with hb | hb
      · rcases List.mem_append.1 hb with hb | hb
        · exact c2.within b hb
        · have := w1 b hb; omega
      · have := hw b hb; omega
    have hr2 : r ∉ A2 ++ F1 ++ F := fun hc => by rcases st.foot r hc with h | h; exact hrF h; omega
    obtain ⟨s, L', F', d1, d2', d3', d4⟩ := ih (i + 1) j L2 s' (done ++ [rowsOf S D (l.drop (i * (D * S)))]) _ (by omega) hK (by omega) (by rw [Nat.add_mul i 1 (D * S), Nat.one_mul]; omega) (by simp [hdone]) (by rw [st.keep r hlr hrF]; exact hr) hv hr2 w2
    refine ⟨s, L', F', ?_, ?_, st.trans d3', d4⟩
    · rw [W.f12_l8_eq, decide_eq_true (by omega), lif_true]
      rw [Int.natCast_zero] at a1
      have hc1 : (Rlm.cell L1 (Addr.add ⟨r, 0, none⟩ 0)).bind (asI .i64) = some (D : Int) := by
        rw [show Addr.add ⟨r, 0, none⟩ 0 = (⟨r, 0, none⟩ : Addr) from rfl, cell_of ((k1 r hlr).trans hr)]; rfl
      rw [a1, W.f12_l12_eq, hc1, obind_some, decide_eq_false (by omega), lif_false, size39, bytes39]
      rw [show [LBlk.cells [Value.slice l4.a l4.n l4.c] 39 false 0] = [LBlk.cells [slV l4] 39 false 0] from rfl, hs, obind_some]
      rw [show app _ 39 1 24 l2 1 _ = _ from c1, obind_some, wI64 (by omega) (by omega), show (i : Int) + 1 = ((i + 1 : Nat) : Int) by omega]
      exact d1
    · rw [volsOf, List.drop_drop]
      rw [Nat.add_mul i 1 (D * S), Nat.one_mul] at d2'
      simpa using d2'
theorem refcut_ok {k : Nat} {b : List Nat} (hb : ∀ x ∈ b, x < 256) (hl : b.length ≤ 1000000) (d r z m : Int) (L : LHeap) :
    ∃ s L' F, W.f12 (k + 101) (strOf b) d r z m L = some (.ret (.tuple #[slV s, .int .i64 (countE b.length d r z m)]) L') ∧ Vols L' s (cutV b d r z m) F ∧ Step [] L F L' ∧ Within F L' := by
  rw [W.f12_eq]
  have hr : (L ++ [LBlk.cells [.int .i64 d, .int .i64 r, .int .i64 z, .int .i64 m] 23 false 0])[L.length]? = some (.cells [.int .i64 d, .int .i64 r, .int .i64 z, .int .i64 m] 23 false 0) := get_new
  have st0 : Step [] L [] (L ++ [LBlk.cells [.int .i64 d, .int .i64 r, .int .i64 z, .int .i64 m] 23 false 0]) := .push _ _ _
  generalize L ++ [LBlk.cells [.int .i64 d, .int .i64 r, .int .i64 z, .int .i64 m] 23 false 0] = L0 at *
  have rd : ∀ {X : LHeap}, X[L.length]? = some (.cells [.int .i64 d, .int .i64 r, .int .i64 z, .int .i64 m] 23 false 0) → (cell X (Addr.add ⟨L.length, 0, none⟩ 0)).bind (asI .i64) = some d ∧ (cell X (Addr.add ⟨L.length, 0, none⟩ 1)).bind (asI .i64) = some r ∧ (cell X (Addr.add ⟨L.length, 0, none⟩ 2)).bind (asI .i64) = some z ∧ (cell X (Addr.add ⟨L.length, 0, none⟩ 3)).bind (asI .i64) = some m := fun h => by
    refine ⟨?_, ?_, ?_, ?_⟩
    · rw [show Addr.add ⟨L.length, 0, none⟩ 0 = (⟨L.length, 0, none⟩ : Addr) from rfl, cell_of h]; rfl
    · rw [show Addr.add ⟨L.length, 0, none⟩ 1 = (⟨L.length, 1, none⟩ : Addr) from rfl, cell_of h]; rfl
    · rw [show Addr.add ⟨L.length, 0, none⟩ 2 = (⟨L.length, 2, none⟩ : Addr) from rfl, cell_of h]; rfl
    · rw [show Addr.add ⟨L.length, 0, none⟩ 3 = (⟨L.length, 3, none⟩ : Addr) from rfl, cell_of h]; rfl
  obtain ⟨q0, q1, q2, q3⟩ := rd hr
  rw [q0, obind_some, q1, obind_some, q2, obind_some, q3, obind_some, strOf_size, decide_eq_true (by omega), when_true]
  by_cases he : countE b.length d r z m = 0
  case neg =>
    refine ⟨⟨none, 0, 0⟩, _, [], ?_, by unfold cutV; rw [if_neg he]; exact Vols.nil _ _, st0, fun i hi => by simp at hi⟩
    rw [show (countE b.length d r z m != 0) = true by simpa using he, lif_true]
    rfl
  rw [he, show ((0 : Int) != 0) = false from rfl, lif_false]
  obtain ⟨hs, e2, e3, e4, e5⟩ := fit_ok (by omega) he
  have hs' := shapeB_iff.1 hs
  obtain ⟨D, hD⟩ : ∃ D : Nat, d = D := ⟨d.toNat, by omega⟩
  obtain ⟨S, hS⟩ : ∃ S : Nat, z = S := ⟨z.toNat, by omega⟩
  subst hD; subst hS
  obtain ⟨K, hK⟩ : ∃ K : Nat, volK b.length ((D : Int) * S) = K := ⟨(volK b.length ((D : Int) * S)).toNat, by omega⟩
  rw [hK] at e2 e3 e4 e5
  have e5' : b.length + 8 ≤ K * (D * S) := by
    have : ((b.length + 8 : Nat) : Int) ≤ ((K * (D * S) : Nat) : Int) := by push_cast; exact e5
    omega
  have hcut : cutV b D r S m = volsOf D S K (layS b K (D * S)) := by
    unfold cutV; rw [if_pos he, e2]; rfl
  rw [hcut, e2]
  have hDS : D * S ≤ 64 * 512 := Nat.mul_le_mul (by omega) (by omega)
  have hKD : K * D ≤ 96 * 64 := Nat.mul_le_mul (by omega) (by omega)
  have hall : K * (D * S) ≤ 96 * (64 * 512) := Nat.mul_le_mul (by omega) hDS
  have hll := layS_length e5'
  obtain ⟨L1, t1, t2⟩ := eight_ok (k := k + 99) (n := b.length) (by omega) (by omega) L0
  rw [show lcall Tryd.prog W.T (k + 100) 29 [.int .i64 (b.length : Int)] L0 = W.f29 (k + 99 + 1) (b.length : Int) L0 from rfl, t1, lbind_ret, asS_string, obind_some, strOf_size, eightB_length, fitsS_ok (by omega), when_true]
  have hr1 : L1[L.length]? = some (.cells [.int .i64 (D : Int), .int .i64 r, .int .i64 (S : Int), .int .i64 m] 23 false 0) := by rw [t2.keep _ (get_lt hr) (by simp)]; exact hr
  obtain ⟨w0, w1, w2, w3⟩ := rd hr1
  have hx : IntKind.wrap .i64 (IntKind.wrap .i64 (IntKind.wrap .i64 ((K : Int) * D) * S) - (((strOf (eightB b.length ++ b)).size : Nat) : Int)) = ((K * (D * S) - (8 + b.length) : Nat) : Int) := by
    rw [strOf_size, List.length_append, eightB_length]
    have h1 : ((K : Int) * D) = ((K * D : Nat) : Int) := by push_cast; rfl
    have h2 : (((K * D : Nat) : Int) * S) = ((K * (D * S) : Nat) : Int) := by rw [← Nat.mul_assoc]; push_cast; rfl
    rw [h1, wI64 (n := ((K * D : Nat) : Int)) (by omega) (by omega), h2, wI64 (n := ((K * (D * S) : Nat) : Int)) (by omega) (by omega), wI64 (by omega) (by omega)]
    omega
  rw [w0, obind_some, w2, obind_some, str_app, hx, Int.toNat_natCast, bytes5, room_ok (by omega) (by omega), when_true]
  have hmade := WS.made (L := L1) (n := K * (D * S) - (8 + b.length)) (v := Value.int .u8 0) (e := 5)
  have hbytes := ws_bytes (vs := List.replicate (K * (D * S) - (8 + b.length)) 0) (by rw [List.map_replicate]; exact hmade) (fun n hn => by rw [(List.mem_replicate.1 hn).2]; omega)
  rw [hbytes, obind_some, strOf_size, strOf_size, fitsS_ok (by simp [eightB_length]; omega), when_true, str_app, ← lay_eq]
  have st1 : Step [] L1 [] (L1 ++ [LBlk.cells (List.flatten (List.replicate (K * (D * S) - (8 + b.length)) [Value.int .u8 0])) 5 false 0]) := .push _ _ _
  have hr2 : (L1 ++ [LBlk.cells (List.flatten (List.replicate (K * (D * S) - (8 + b.length)) [Value.int .u8 0])) 5 false 0])[L.length]? = some (.cells [.int .i64 (D : Int), .int .i64 r, .int .i64 (S : Int), .int .i64 m] 23 false 0) := by
    rw [get_push (get_lt hr1)]; exact hr1
  obtain ⟨sl, L5, F5, g1, g2, g3, g4⟩ := ref_vols (k := k + 100) (r := L.length) (S := S) (D := D) (K := (K : Int)) (d2 := r) (d3 := m) (l := layS b K (D * S)) (by omega) (by omega) (by omega) K 0 (k + 100) _ ⟨none, 0, 0⟩ [] []
    (by omega) (by omega) (by omega) (by omega) rfl hr2 (Vols.nil _ _) (by simp) (fun i hi => by simp at hi)
  rw [List.nil_append, Nat.zero_mul, List.drop_zero] at g2
  rw [Int.natCast_zero] at g1
  exact ⟨sl, L5, F5, g1, g2, ((st0.trans t2).trans st1).trans g3, g4⟩
end Go.Proofs.YtffcfaabjodpcaaDoor
end

section
set_option maxRecDepth 100000
set_option linter.unusedVariables false
namespace Go.Proofs.YtffcfaabjodpcaaDoor.W
open Go Go.Rlm
/-- hamper/hamperref26.Join -/
noncomputable def f18 (k : Nat) (l0 : Sl) (n1 : Int) (n2 : Int) (n3 : Int) (n4 : Int) (L : LHeap) : R :=
  lcall Tryd.prog T k 18
  [Value.slice l0.a l0.n l0.c, Value.agg #[Value.int IntKind.i64 n1, Value.int IntKind.i64 n2, Value.int IntKind.i64 n3, Value.int IntKind.i64 n4]] L
/-- slots 0, 3, 6, 7 -/
noncomputable def f18_l5 (k : Nat) (j5 : Nat) (l23 : Sl) (r24 : Nat) (s25 : ByteArray) (n26 : Int) (L : LHeap) : R :=
  loopAt Tryd.prog T 18 k [1, 1, 1, 0, 1, 0] [] j5
  [(0, Value.slice l23.a l23.n l23.c), (3, Value.pointer (some (Addr.mk r24 0 none))), (6, Value.string s25), (7, Value.int IntKind.i64 n26)] L
/-- slots 0, 3, 6, 7, 8 -/
noncomputable def f18_l10 (k : Nat) (j5_27 : Nat) (j10 : Nat) (l28 : Sl) (r29 : Nat) (s30 : ByteArray) (n31 : Int) (n32 : Int) (L : LHeap) : R :=
  loopAt Tryd.prog T 18 k [1, 1, 1, 0, 1, 0, 0, 1, 0, 0, 1, 1, 0] [j5_27] j10
  [(0, Value.slice l28.a l28.n l28.c), (3, Value.pointer (some (Addr.mk r29 0 none))), (6, Value.string s30), (7, Value.int IntKind.i64 n31), (8, Value.int IntKind.i64 n32)] L
/-- slots 0, 3, 6, 9, 10 -/
noncomputable def f18_l19 (k : Nat) (j19 : Nat) (l33 : Sl) (r34 : Nat) (s35 : ByteArray) (n36 : Int) (n37 : Int) (L : LHeap) : R :=
  loopAt Tryd.prog T 18 k [1, 1, 1, 1, 1, 1, 0, 1, 0] [] j19
  [(0, Value.slice l33.a l33.n l33.c), (3, Value.pointer (some (Addr.mk r34 0 none))), (6, Value.string s35), (9, Value.int IntKind.i64 n36), (10, Value.int IntKind.i64 n37)] L
theorem f18_eq (k : Nat) (l0 : Sl) (n1 : Int) (n2 : Int) (n3 : Int) (n4 : Int) (L : LHeap) : f18 (k + 1) l0 n1 n2 n3 n4 L =
 obind
 (Option.bind
 (cell (L ++ [LBlk.cells [Value.int IntKind.i64 n1, Value.int IntKind.i64 n2, Value.int IntKind.i64 n3, Value.int IntKind.i64 n4] 23 false 0]) (Addr.add (Addr.mk (List.length L) 0 none) 0))
 (asI IntKind.i64))
 fun n5 =>
 obind
 (Option.bind
 (cell (L ++ [LBlk.cells [Value.int IntKind.i64 n1, Value.int IntKind.i64 n2, Value.int IntKind.i64 n3, Value.int IntKind.i64 n4] 23 false 0]) (Addr.add (Addr.mk (List.length L) 0 none) 1))
 (asI IntKind.i64))
 fun n6 =>
 obind
 (Option.bind
 (cell (L ++ [LBlk.cells [Value.int IntKind.i64 n1, Value.int IntKind.i64 n2, Value.int IntKind.i64 n3, Value.int IntKind.i64 n4] 23 false 0]) (Addr.add (Addr.mk (List.length L) 0 none) 2))
 (asI IntKind.i64))
 fun n7 =>
 obind
 (Option.bind
 (cell (L ++ [LBlk.cells [Value.int IntKind.i64 n1, Value.int IntKind.i64 n2, Value.int IntKind.i64 n3, Value.int IntKind.i64 n4] 23 false 0]) (Addr.add (Addr.mk (List.length L) 0 none) 3))
 (asI IntKind.i64))
 fun n8 =>
 lif (!shapeB n5 n6 n7 n8)
 (some
 (LR.ret (Value.tuple #[Value.string (ByteArray.mk #[]), Value.int IntKind.i64 1])
 (L ++ [LBlk.cells [Value.int IntKind.i64 n1, Value.int IntKind.i64 n2, Value.int IntKind.i64 n3, Value.int IntKind.i64 n4] 23 false 0])))
 (f18_l5 k k l0 (List.length L) (ByteArray.mk #[]) 0
 (L ++ [LBlk.cells [Value.int IntKind.i64 n1, Value.int IntKind.i64 n2, Value.int IntKind.i64 n3, Value.int IntKind.i64 n4] 23 false 0])) := by kernel_rfl
theorem f18_l5_eq (k : Nat) (j5 : Nat) (l0 : Sl) (r1 : Nat) (s2 : ByteArray) (n3 : Int) (L : LHeap) : f18_l5 k (j5 + 1) l0 r1 s2 n3 L =
 lif (decide (n3 < (↑l0.n : Int)))
 (obind (idx l0 n3 1) fun a4 =>
 obind (Option.bind (cell L a4) asSl) fun l5 =>
 obind (Option.bind (cell L (Addr.add (Addr.mk r1 0 none) 0)) (asI IntKind.i64)) fun n6 =>
 lif ((↑l5.n : Int) != n6) (some (LR.ret (Value.tuple #[Value.string (ByteArray.mk #[]), Value.int IntKind.i64 4]) L)) (f18_l10 k j5 k l0 r1 s2 n3 0 L))
 (lif (decide ((↑(ByteArray.size s2) : Int) < 8)) (some (LR.ret (Value.tuple #[Value.string (ByteArray.mk #[]), Value.int IntKind.i64 4]) L))
 (f18_l19 k k l0 r1 s2 0 0 L)) := by kernel_rfl
theorem f18_l10_eq (k : Nat) (j5_0 : Nat) (j10 : Nat) (l1 : Sl) (r2 : Nat) (s3 : ByteArray) (n4 : Int) (n5 : Int) (L : LHeap) : f18_l10 k j5_0 (j10 + 1) l1 r2 s3 n4 n5 L =
 obind (Option.bind (cell L (Addr.add (Addr.mk r2 0 none) 0)) (asI IntKind.i64)) fun n6 =>
 lif (decide (n5 < n6))
 (obind (idx l1 n4 1) fun a7 =>
 obind (Option.bind (cell L a7) asSl) fun l8 =>
 obind (idx l8 n5 1) fun a9 =>
 obind (Option.bind (cell L a9) asS) fun s10 =>
 obind (Option.bind (cell L (Addr.add (Addr.mk r2 0 none) 2)) (asI IntKind.i64)) fun n11 =>
 lif ((↑(ByteArray.size s10) : Int) != n11) (some (LR.ret (Value.tuple #[Value.string (ByteArray.mk #[]), Value.int IntKind.i64 4]) L))
 (obind (idx l1 n4 1) fun a12 =>
 obind (Option.bind (cell L a12) asSl) fun l13 =>
 obind (idx l13 n5 1) fun a14 =>
 obind (Option.bind (cell L a14) asS) fun s15 =>
 when (fitsS (ByteArray.size s3 + ByteArray.size s15)) (f18_l10 k j5_0 j10 l1 r2 (s3 ++ s15) n4 (IntKind.wrap IntKind.i64 (n5 + 1)) L)))
 (f18_l5 k j5_0 l1 r2 s3 (IntKind.wrap IntKind.i64 (n4 + 1)) L) := by kernel_rfl
theorem f18_l19_eq (k : Nat) (j19 : Nat) (l0 : Sl) (r1 : Nat) (s2 : ByteArray) (n3 : Int) (n4 : Int) (L : LHeap) : f18_l19 k (j19 + 1) l0 r1 s2 n3 n4 L =
 lif (decide (n4 < 8))
 (obind (byteAt s2 n4) fun n5 =>
 lif (decide (IntKind.wrap IntKind.i64 (IntKind.wrap IntKind.i64 (n3 * 256) + IntKind.wrap IntKind.i64 n5) > (↑(ByteArray.size s2) : Int)))
 (some (LR.ret (Value.tuple #[Value.string (ByteArray.mk #[]), Value.int IntKind.i64 4]) L))
 (f18_l19 k j19 l0 r1 s2 (IntKind.wrap IntKind.i64 (IntKind.wrap IntKind.i64 (n3 * 256) + IntKind.wrap IntKind.i64 n5)) (IntKind.wrap IntKind.i64 (n4 + 1)) L))
 (lif (decide (n3 > IntKind.wrap IntKind.i64 ((↑(ByteArray.size s2) : Int) - 8))) (some (LR.ret (Value.tuple #[Value.string (ByteArray.mk #[]), Value.int IntKind.i64 4]) L))
 (obind (subS s2 (some 8) (some (IntKind.wrap IntKind.i64 (8 + n3)))) fun s6 =>
 obind (Option.bind (cell L (Addr.add (Addr.mk r1 0 none) 0)) (asI IntKind.i64)) fun n7 =>
 obind (Option.bind (cell L (Addr.add (Addr.mk r1 0 none) 1)) (asI IntKind.i64)) fun n8 =>
 obind (Option.bind (cell L (Addr.add (Addr.mk r1 0 none) 2)) (asI IntKind.i64)) fun n9 =>
 obind (Option.bind (cell L (Addr.add (Addr.mk r1 0 none) 3)) (asI IntKind.i64)) fun n10 =>
 lbind
 (lcall Tryd.prog T k 12
 [Value.string s6, Value.agg #[Value.int IntKind.i64 n7, Value.int IntKind.i64 n8, Value.int IntKind.i64 n9, Value.int IntKind.i64 n10]] L)
 fun v11 L12 =>
 obind (tupL v11) fun x13 =>
 uncons x13 fun v14 vs15 =>
 obind (asSl v14) fun l16 =>
 uncons vs15 fun v17 vs18 =>
 obind (asI IntKind.i64 v17) fun n19 =>
 nilL vs18
 (lif (n19 != 0) (some (LR.ret (Value.tuple #[Value.string (ByteArray.mk #[]), Value.int IntKind.i64 4]) L12))
 (lbind (lcall Tryd.prog T k 13 [Value.slice l16.a l16.n l16.c, Value.slice l0.a l0.n l0.c] L12) fun v20 L21 =>
 obind (asB v20) fun b22 =>
 lif (!b22) (some (LR.ret (Value.tuple #[Value.string (ByteArray.mk #[]), Value.int IntKind.i64 4]) L21))
 (some (LR.ret (Value.tuple #[Value.string s6, Value.int IntKind.i64 0]) L21)))))) := by kernel_rfl
end Go.Proofs.YtffcfaabjodpcaaDoor.W
end

section
set_option maxRecDepth 100000
namespace Go.Proofs.YtffcfaabjodpcaaDoor
open Go Go.Rlm
def failR (L : LHeap) : R := some (.ret (.tuple #[.string ⟨#[]⟩, .int .i64 4]) L)
theorem rj_row {L : LHeap} {s : Sl} {vs : List (List (List Nat))} {A : List Nat} (h : RV L s vs A) {i : Nat} {v : List (List Nat)} (hv : vs[i]? = some v) {r : Nat} {d2 d3 : Int} {D S : Nat} (hr : L[r]? = some (.cells [.int .i64 (D : Int), .int .i64 d2, .int .i64 (S : Int), .int .i64 d3] 23 false 0))
    (hl : v.length = D) (hD : D ≤ 64) (hS : S ≤ 512) {k j5 : Nat} : ∀ (q t j : Nat) (acc : List Nat), t + q = D → q < j → acc.length + q * S ≤ 20000000 →
      W.f18_l10 k j5 j s r (strOf acc) (i : Int) (t : Int) L = bif (v.drop t).all (fun x => decide ((x.length : Int) = (S : Int))) then W.f18_l5 k j5 s r (strOf (acc ++ (v.drop t).flatten)) (IntKind.wrap .i64 ((i : Int) + 1)) L else failR L := by
  obtain ⟨a, x, B, e1, e2, e3, _⟩ := h.row hv
  have y0 : (cell L (Addr.add ⟨r, 0, none⟩ 0)).bind (asI .i64) = some (D : Int) := by
    rw [show Addr.add ⟨r, 0, none⟩ 0 = (⟨r, 0, none⟩ : Addr) from rfl, cell_of hr]; rfl
  have y2 : (cell L (Addr.add ⟨r, 0, none⟩ 2)).bind (asI .i64) = some (S : Int) := by
    rw [show Addr.add ⟨r, 0, none⟩ 2 = (⟨r, 2, none⟩ : Addr) from rfl, cell_of hr]; rfl
  intro q
  induction q with
  | zero =>
    intro t j acc ht hj _
    obtain ⟨j, rfl⟩ : ∃ j', j = j' + 1 := ⟨j - 1, by omega⟩
    rw [W.f18_l10_eq, y0, obind_some, decide_eq_false (by omega), lif_false, List.drop_of_length_le (by omega), List.flatten_nil, List.append_nil]
    rfl
  | succ q ih =>
    intro t j acc ht hj hb
    obtain ⟨j, rfl⟩ : ∃ j', j = j' + 1 := ⟨j - 1, by omega⟩
    have hlt : t < v.length := by omega
    rw [Nat.add_mul, Nat.one_mul] at hb
    obtain ⟨a2, g1, g2⟩ := e3.get hlt
    rw [W.f18_l10_eq, y0, obind_some, decide_eq_true (by omega), lif_true, e1, obind_some, e2, obind_some, g1, obind_some, g2, Option.bind_some, strV, asS_string, obind_some, y2, obind_some, strOf_size, List.drop_eq_getElem_cons hlt, List.all_cons]
    by_cases hz : (v[t].length : Int) = (S : Int)
    · rw [show ((v[t].length : Int) != (S : Int)) = false by simpa using hz, lif_false, obind_some, e2, obind_some, g1, obind_some, g2, Option.bind_some, strV, asS_string, obind_some, strOf_size, strOf_size, fitsS_ok (by omega), when_true, wI64 (n := (t : Int) + 1) (by omega) (by omega),
        show (t : Int) + 1 = ((t + 1 : Nat) : Int) by omega, str_app, ih (t + 1) j _ (by omega) (by omega) (by rw [List.length_append]; omega), decide_eq_true hz, Bool.true_and, List.flatten_cons, List.append_assoc]
    · rw [show ((v[t].length : Int) != (S : Int)) = true by simpa using hz, lif_true, decide_eq_false hz, Bool.false_and]
      rfl
theorem rj_rows {L : LHeap} {s : Sl} {vs : List (List (List Nat))} {A : List Nat} (h : RV L s vs A) {r : Nat} {d2 d3 : Int} {D S : Nat} (hr : L[r]? = some (.cells [.int .i64 (D : Int), .int .i64 d2, .int .i64 (S : Int), .int .i64 d3] 23 false 0))
    (hD : 1 ≤ D ∧ D ≤ 64) (hS : S ≤ 512) {k : Nat} (hk : 100 ≤ k) (hn : vs.length < 9223372036854775808)
    (hB : ∀ p, p ≤ vs.length → (∀ v ∈ vs.take p, v ≠ []) → ((vs.take p).map List.flatten).flatten.length ≤ 10000000) : ∀ (q i j : Nat), i + q = vs.length → q < j → (∀ v ∈ vs.take i, v ≠ []) →
      (∃ j', W.f18_l5 k j s r (strOf ((vs.take i).map List.flatten).flatten) (i : Int) L = W.f18_l5 k (j' + 1) s r (strOf (vs.map List.flatten).flatten) (vs.length : Int) L ∧ (vs.drop i).all (goodV D S) = true) ∨
      (W.f18_l5 k j s r (strOf ((vs.take i).map List.flatten).flatten) (i : Int) L = failR L ∧ (vs.drop i).all (goodV D S) = false) := by
  intro q
  induction q with
  | zero =>
    intro i j hi hj _
    refine .inl ⟨j - 1, ?_, by rw [List.drop_of_length_le (by omega)]; rfl⟩
    rw [show j - 1 + 1 = j by omega, List.take_of_length_le (by omega), show i = vs.length by omega]
  | succ q ih =>
    intro i j hi hj hne
    obtain ⟨j, rfl⟩ : ∃ j', j = j' + 1 := ⟨j - 1, by omega⟩
    have hlt : i < vs.length := by omega
    have h1 : vs[i]? = some vs[i] := List.getElem?_eq_getElem hlt
    obtain ⟨a, x, B, e1, e2, e3, _⟩ := h.row h1
    have y0 : (cell L (Addr.add ⟨r, 0, none⟩ 0)).bind (asI .i64) = some (D : Int) := by
      rw [show Addr.add ⟨r, 0, none⟩ 0 = (⟨r, 0, none⟩ : Addr) from rfl, cell_of hr]; rfl
    rw [List.drop_eq_getElem_cons hlt, List.all_cons]
    by_cases hl : vs[i].length = D
    case neg =>
      refine .inr ⟨?_, by rw [goodV, decide_eq_false (by omega)]; rfl⟩
      rw [W.f18_l5_eq, h.1, decide_eq_true (by omega), lif_true, e1, obind_some, e2, obind_some, y0, obind_some, e3.1, show ((vs[i].length : Int) != (D : Int)) = true by simp; omega, lif_true]
      rfl
    have hbd := hB i (by omega) hne
    have hDS : D * S ≤ 64 * 512 := Nat.mul_le_mul (by omega) hS
    have hrow := rj_row h h1 hr hl hD.2 hS (k := k) (j5 := j) D 0 k ((vs.take i).map List.flatten).flatten (by omega) (by omega) (by omega)
    rw [Int.natCast_zero, List.drop_zero] at hrow
    have hvne : vs[i] ≠ [] := fun h => by rw [h] at hl; simp at hl; omega
    have htk : vs.take (i + 1) = vs.take i ++ [vs[i]] := by rw [List.take_add_one, List.getElem?_eq_getElem hlt]; rfl
    have hfl : ((vs.take (i + 1)).map List.flatten).flatten = ((vs.take i).map List.flatten).flatten ++ vs[i].flatten := by
      rw [htk, List.map_append, List.flatten_append, List.map_cons, List.map_nil, List.flatten_cons, List.flatten_nil, List.append_nil]
    have hstep : W.f18_l5 k (j + 1) s r (strOf ((vs.take i).map List.flatten).flatten) (i : Int) L = W.f18_l10 k j k s r (strOf ((vs.take i).map List.flatten).flatten) (i : Int) 0 L := by
      rw [W.f18_l5_eq, h.1, decide_eq_true (by omega), lif_true, e1, obind_some, e2, obind_some, y0, obind_some, e3.1, show ((vs[i].length : Int) != (D : Int)) = false by simp [hl], lif_false]
    rw [hstep, hrow]
    have hg : goodV D S vs[i] = vs[i].all fun x => decide ((x.length : Int) = (S : Int)) := by rw [goodV, decide_eq_true (by omega), Bool.true_and]
    rw [hg]
    cases hall : (vs[i].all fun x => decide ((x.length : Int) = (S : Int))) with
    | false => exact .inr ⟨rfl, rfl⟩
    | true =>
      rw [cond_true, ← hfl, wI64 (by omega) (by omega), show (i : Int) + 1 = ((i + 1 : Nat) : Int) by omega, Bool.true_and]
      exact ih (i + 1) j (by omega) (by omega) fun v hv => by
        rw [htk] at hv
        rcases List.mem_append.1 hv with h | h
        · exact hne v h
        · simp at h; subst h; exact hvne
theorem numB_ge (l m : List Nat) : numB l ≤ numB (l ++ m) := by
  have key : ∀ (q : Nat) (m : List Nat), m.length = q → numB l ≤ numB (l ++ m) := by
    intro q
    induction q with
    | zero => intro m hm; rw [List.length_eq_zero_iff.1 hm, List.append_nil]; exact Nat.le_refl _
    | succ q ih =>
      intro m hm
      rcases List.eq_nil_or_concat m with rfl | ⟨m', b, rfl⟩
      · simp at hm
      · rw [List.concat_eq_append] at *
        have := ih m' (by simpa using hm)
        rw [← List.append_assoc, numB_snoc]
        omega
  exact key _ m rfl
theorem num_mono (l : List Nat) {i j : Nat} (h : i ≤ j) : numB (l.take i) ≤ numB (l.take j) := by
  have : l.take j = l.take i ++ (l.take j).drop i := by
    conv => lhs; rw [← List.take_append_drop i (l.take j)]
    rw [List.take_take, Nat.min_eq_left h]
  rw [this]
  exact numB_ge _ _
theorem rj_num {k r : Nat} {s0 : Sl} {l : List Nat} {L : LHeap} (hl : ∀ x ∈ l, x < 256) (h8 : 8 ≤ l.length) (hlen : l.length ≤ 10000000) : ∀ (q i j : Nat), i + q = 8 → q < j → numB (l.take i) ≤ l.length →
    (∃ j', W.f18_l19 k j s0 r (strOf l) ((numB (l.take i) : Nat) : Int) (i : Int) L = W.f18_l19 k (j' + 1) s0 r (strOf l) ((numB (l.take 8) : Nat) : Int) ((8 : Nat) : Int) L ∧ numB (l.take 8) ≤ l.length) ∨
    (W.f18_l19 k j s0 r (strOf l) ((numB (l.take i) : Nat) : Int) (i : Int) L = failR L ∧ l.length < numB (l.take 8)) := by
  intro q
  induction q with
  | zero =>
    intro i j hi hj hle
    refine .inl ⟨j - 1, ?_, by rw [show 8 = i by omega]; exact hle⟩
    rw [show j - 1 + 1 = j by omega, show i = 8 by omega]
  | succ q ih =>
    intro i j hi hj hle
    obtain ⟨j, rfl⟩ : ∃ j', j = j' + 1 := ⟨j - 1, by omega⟩
    have hlt : i < l.length := by omega
    have hb := hl l[i] (List.getElem_mem hlt)
    have ht : numB (l.take (i + 1)) = numB (l.take i) * 256 + l[i] := by
      rw [List.take_add_one, List.getElem?_eq_getElem hlt]
      exact numB_snoc _ _
    have hmono := num_mono l (i := i + 1) (j := 8) (by omega)
    rw [W.f18_l19_eq, decide_eq_true (by omega), lif_true, byte_str hl (List.getElem?_eq_getElem hlt), obind_some]
    have hn : IntKind.wrap .i64 (IntKind.wrap .i64 (((numB (l.take i) : Nat) : Int) * 256) + IntKind.wrap .i64 ((l[i] : Nat) : Int)) = ((numB (l.take (i + 1)) : Nat) : Int) := by
      rw [wI64 (n := ((numB (l.take i) : Nat) : Int) * 256) (by omega) (by omega), wI64 (n := ((l[i] : Nat) : Int)) (by omega) (by omega), wI64 (by omega) (by omega)]
      omega
    rw [hn, strOf_size]
    by_cases hgt : l.length < numB (l.take (i + 1))
    · exact .inr ⟨by rw [decide_eq_true (by omega), lif_true]; rfl, by omega⟩
    · rw [decide_eq_false (by omega), lif_false, wI64 (n := (i : Int) + 1) (by omega) (by omega), show (i : Int) + 1 = ((i + 1 : Nat) : Int) by omega]
      exact ih (i + 1) j (by omega) (by omega) (by omega)
theorem refjoin_ok {k : Nat} (hk : 100 ≤ k) {s : Sl} {vs : List (List (List Nat))} {A : List Nat} {d r z m : Int} {L : LHeap} (hrv : RV L s vs A) (hA : Within A L) (hn : vs.length < 9223372036854775808) (hnk : vs.length < k)
    (hvl : ∀ v ∈ vs, v.length < 9223372036854775808) (hb : Small vs) (hB : ∀ p, p ≤ vs.length → (∀ v ∈ vs.take p, v ≠ []) → ((vs.take p).map List.flatten).flatten.length ≤ 1000000) :
    ∃ L', W.f18 (k + 102) s d r z m L = some (.ret (.tuple #[.string (strOf (joinS vs ⟨d, r, z, m⟩).1), .int .i64 (joinS vs ⟨d, r, z, m⟩).2]) L') ∧ Step [] L [] L' := by
  rw [W.f18_eq]
  have hr : (L ++ [LBlk.cells [.int .i64 d, .int .i64 r, .int .i64 z, .int .i64 m] 23 false 0])[L.length]? = some (.cells [.int .i64 d, .int .i64 r, .int .i64 z, .int .i64 m] 23 false 0) := get_new
  have st0 : Step [] L [] (L ++ [LBlk.cells [.int .i64 d, .int .i64 r, .int .i64 z, .int .i64 m] 23 false 0]) := .push _ _ _
  have hrv0 := hrv.mono (L' := L ++ [LBlk.cells [.int .i64 d, .int .i64 r, .int .i64 z, .int .i64 m] 23 false 0]) fun i hi => get_push (hA i hi)
  have hA0 := st0.within hA
  generalize L ++ [LBlk.cells [.int .i64 d, .int .i64 r, .int .i64 z, .int .i64 m] 23 false 0] = L0 at *
  have rd : ∀ {X : LHeap}, X[L.length]? = some (.cells [.int .i64 d, .int .i64 r, .int .i64 z, .int .i64 m] 23 false 0) → (cell X (Addr.add ⟨L.length, 0, none⟩ 0)).bind (asI .i64) = some d ∧ (cell X (Addr.add ⟨L.length, 0, none⟩ 1)).bind (asI .i64) = some r ∧ (cell X (Addr.add ⟨L.length, 0, none⟩ 2)).bind (asI .i64) = some z ∧ (cell X (Addr.add ⟨L.length, 0, none⟩ 3)).bind (asI .i64) = some m := fun h => by
    refine ⟨?_, ?_, ?_, ?_⟩
    · rw [show Addr.add ⟨L.length, 0, none⟩ 0 = (⟨L.length, 0, none⟩ : Addr) from rfl, cell_of h]; rfl
    · rw [show Addr.add ⟨L.length, 0, none⟩ 1 = (⟨L.length, 1, none⟩ : Addr) from rfl, cell_of h]; rfl
    · rw [show Addr.add ⟨L.length, 0, none⟩ 2 = (⟨L.length, 2, none⟩ : Addr) from rfl, cell_of h]; rfl
    · rw [show Addr.add ⟨L.length, 0, none⟩ 3 = (⟨L.length, 3, none⟩ : Addr) from rfl, cell_of h]; rfl
  obtain ⟨q0, q1, q2, q3⟩ := rd hr
  rw [q0, obind_some, q1, obind_some, q2, obind_some, q3, obind_some]
  unfold joinS
  rw [shp_ok]
  cases hs : shapeB d r z m with
  | false => exact ⟨_, by rw [Bool.not_false, lif_true]; rfl, st0⟩
  | true =>
  have hs' := shapeB_iff.1 hs
  rw [Bool.not_true, lif_false, if_pos rfl]
  obtain ⟨D, hD⟩ : ∃ D : Nat, d = D := ⟨d.toNat, by omega⟩
  obtain ⟨S, hS⟩ : ∃ S : Nat, z = S := ⟨z.toNat, by omega⟩
  subst hD; subst hS
  have hrows := rj_rows hrv0 hr (by omega) (by omega) (k := k + 101) (by omega) hn (fun p hp hne => by have := hB p hp hne; omega) vs.length 0 (k + 101) (by omega) (by omega) (fun v hv => by simp at hv)
  rw [Int.natCast_zero, List.take_zero, List.map_nil, List.flatten_nil, List.drop_zero, all_good] at hrows
  rcases hrows with ⟨j', e1, e4⟩ | ⟨e1, e4⟩
  case inr => exact ⟨L0, by rw [e4]; exact e1, st0⟩
  rw [e4, if_pos rfl]
  have hgood : ∀ v ∈ vs, (v.length : Int) = D ∧ ∀ x ∈ v, (x.length : Int) = S := fun v hv => by
    have := List.all_eq_true.1 e4 v hv
    simp only [Bool.and_eq_true, decide_eq_true_eq, List.all_eq_true] at this
    exact this
  have hlen := hB vs.length (Nat.le_refl _) (fun v hv => by
    rw [List.take_of_length_le (Nat.le_refl _)] at hv
    intro h
    have := (hgood v hv).1
    rw [h] at this
    simp at this
    omega)
  rw [List.take_of_length_le (Nat.le_refl _)] at hlen
  have hsm : ∀ x ∈ (vs.map List.flatten).flatten, x < 256 := fun x hx => by
    obtain ⟨l, hl, hx⟩ := List.mem_flatten.1 hx
    obtain ⟨v, hv, rfl⟩ := List.mem_map.1 hl
    obtain ⟨y, hy, hx⟩ := List.mem_flatten.1 hx
    exact hb v hv y hy x hx
  rw [show (ByteArray.mk #[]) = strOf [] from rfl, e1, W.f18_l5_eq, hrv0.1, decide_eq_false (by omega), lif_false, strOf_size]
  have hvk : vs.length < k + 101 := by omega
  generalize (vs.map List.flatten).flatten = al at *
  by_cases h8 : al.length < 8
  · refine ⟨L0, ?_, st0⟩
    rw [decide_eq_true (by omega), lif_true]
    simp only [if_pos h8]
    rfl
  rw [decide_eq_false (by omega), lif_false]
  simp only [if_neg h8]
  have hnum := rj_num (k := k + 101) (r := L.length) (s0 := s) (L := L0) hsm (by omega) (by omega) 8 0 (k + 101) (by omega) (by omega) (by rw [List.take_zero]; exact Nat.zero_le _)
  rw [List.take_zero, show numB [] = 0 from rfl, Int.natCast_zero] at hnum
  have hN := numB_lt 8 (al.take 8) (by rw [List.length_take]; omega) fun x hx => hsm x (List.mem_of_mem_take hx)
  rcases hnum with ⟨j2, g, g2⟩ | ⟨g, g2⟩
  case inr => exact ⟨L0, by rw [g, if_pos (by omega)]; rfl, st0⟩
  rw [g, W.f18_l19_eq, decide_eq_false (by omega), lif_false, strOf_size]
  generalize numB (al.take 8) = N at *
  rw [wI64 (n := (al.length : Int) - 8) (by omega) (by omega)]
  by_cases hb8 : al.length - 8 < N
  · refine ⟨L0, ?_, st0⟩
    rw [decide_eq_true (by omega), lif_true, if_pos hb8]
    rfl
  rw [decide_eq_false (by omega), lif_false, if_neg hb8]
  rw [wI64 (n := 8 + (N : Int)) (by omega) (by omega), show 8 + (N : Int) = ((8 + N : Nat) : Int) by omega]
  have hmid := sub_mid (l := al) (i := 8) (j := 8 + N) (by omega) (by omega)
  rw [show ((8 : Nat) : Int) = 8 from rfl, show (al.take (8 + N)).drop 8 = (al.drop 8).take N by rw [List.drop_take, show 8 + N - 8 = N by omega]] at hmid
  have hbl : ((al.drop 8).take N).length = N := by rw [List.length_take, List.length_drop]; omega
  have hsb : ∀ x ∈ (al.drop 8).take N, x < 256 := fun x hx => hsm x (List.mem_of_mem_drop (List.mem_of_mem_take hx))
  rw [hmid, obind_some, q0, obind_some, q1, obind_some, q2, obind_some, q3, obind_some, cutS_eq]
  generalize (al.drop 8).take N = u at *
  obtain ⟨t, L2, F2, t1, t2, t3, t4⟩ := refcut_ok (k := k) hsb (by omega) D r S m L0
  rw [show lcall Tryd.prog W.T (k + 101) 12 [.string (strOf u), .agg #[.int .i64 (D : Int), .int .i64 r, .int .i64 (S : Int), .int .i64 m]] L0 = W.f12 (k + 101) (strOf u) D r S m L0 from rfl, t1, lbind_ret]
  simp only [tupL_tuple, obind_some, uncons_cons, nilL_nil, asI_int]
  rw [show asSl (slV t) = some t from rfl, obind_some]
  have stA : Step [] L [] L2 := (st0.trans t3).less fun i hi => by simp at hi
  by_cases he : countE u.length D r S m = 0
  case neg =>
    refine ⟨L2, ?_, stA⟩
    rw [show (countE u.length D r S m != 0) = true by simpa using he, lif_true, if_neg (fun h => he (by injection h))]
    rfl
  rw [show (countE u.length D r S m != 0) = false by simpa using he, lif_false]
  obtain ⟨c1, c2, c3, c4⟩ := cutV_all hsb he
  have hrv2 := hrv0.mono (t3.others hA0 (fun i hi => by simp at hi))
  have hfit := fit_ok (by omega) he
  have hsame := same_ok t2.rv hrv2 c3 hb (by have := hfit.2.1; have := hfit.2.2.2.1; omega) (k := k + 100) (by have := hfit.2.1; have := hfit.2.2.2.1; omega) fun v hv => by have := (c2 v hv).1; omega
  rw [show lcall Tryd.prog W.T (k + 101) 13 [.slice t.a t.n t.c, .slice s.a s.n s.c] L2 = W.f13 (k + 100 + 1) t s L2 from rfl, hsame, lbind_ret, asB_bool, obind_some]
  by_cases hc : cutV u D r S m = vs
  · refine ⟨L2, ?_, stA⟩
    rw [decide_eq_true hc, Bool.not_true, lif_false, if_pos (by rw [hc, he])]
  · refine ⟨L2, ?_, stA⟩
    rw [decide_eq_false hc, Bool.not_false, lif_true, if_neg (fun h => hc (by injection h))]
    rfl
end Go.Proofs.YtffcfaabjodpcaaDoor
end

section
namespace Go.Rlm
open Go.Joins Go.ChangeShapes Go.WideShapes Go.RowKit Go.Deep
theorem wf_i64 {n : Int} (h : (Lit.int .i64 n).wf = true) : -9223372036854775808 ≤ n ∧ n < 9223372036854775808 := by
  simp [Lit.wf, IntKind.min, IntKind.max, IntKind.bits, IntKind.signed] at h
  omega
theorem open_four {H : Type} {enc : TypeId × Value → H} {P : Program} {w : World} {base : Nat} {spare : Nat → Bool} {held : Bool} {r : Reach} {b0 : Nat} {t ti : TypeId} {f0 f1 f2 f3 : Field} {v : Value} {d : DataW H} {p : List MemPlace}
    (hs : P.underlying t = some (.struct #[f0, f1, f2, f3])) (hone : oneCellFields P #[f0, f1, f2, f3] = true) (hC : P.cellsOf t = 4) (hi : P.underlying ti = some (.int .i64)) (e0 : f0.type = ti) (e1 : f1.type = ti) (e2 : f2.type = ti) (e3 : f3.type = ti)
    (hv : Value.okWide P w r b0 t v) (h : DataW.Trod enc P w base spare held t v d p) :
    ∃ a b c e : Int, v = .agg #[.int .i64 a, .int .i64 b, .int .i64 c, .int .i64 e] ∧ p = [] ∧ (Lit.int .i64 a).wf = true ∧ (Lit.int .i64 b).wf = true ∧ (Lit.int .i64 c).wf = true ∧ (Lit.int .i64 e).wf = true := by
  obtain ⟨v0, v1, v2, v3, y0, y1, y2, y3, n, rfl, rfl, rfl, h0, h1, h2, h3⟩ := open_agg4 hs hone hC hv h
  rw [e0] at h0; rw [e1] at h1; rw [e2] at h2; rw [e3] at h3
  obtain ⟨a, ea, rfl, wa⟩ := DataW.trod_int hi h0
  obtain ⟨b, eb, rfl, wb⟩ := DataW.trod_int hi h1
  obtain ⟨c, ec, rfl, wc⟩ := DataW.trod_int hi h2
  obtain ⟨e, ee, rfl, we⟩ := DataW.trod_int hi h3
  injection ea with ea; injection eb with eb; injection ec with ec; injection ee with ee
  subst ea; subst eb; subst ec; subst ee
  exact ⟨a, b, c, e, rfl, rfl, wa, wb, wc, we⟩
end Go.Rlm
end

section
namespace Go.Rlm
open Go.Joins Go.ChangeShapes Go.WideShapes Go.RowKit Go.Deep
/-- What came in: cells of any kind, az the machine has them and az the world has them. -/
theorem Rep.inputV {P : Program} {m : RMap} {L : LHeap} {w : World} (h : Rep P m L w) (hno : ∀ r, ¬ mine L r) {x : Addr} {vs us : List Value} (hlen : vs.length = us.length)
    (hc : ∀ (i : Nat) (v : Value), us[i]? = some v → w.cell? (x.add i) = some v) (hf : ∀ (i : Nat) (v u : Value), vs[i]? = some v → us[i]? = some u → VR m v u) (hone : ∀ v ∈ vs, one v = true) (n c : Nat) (hcap : c < OPEN) :
    ∃ m', MExt m m' ∧ Rep P m' (L ++ [inp vs]) w ∧ (∀ r, ¬ mine (L ++ [inp vs]) r) ∧ VR m' (.slice (some ⟨L.length, 0, x.spot⟩) n c) (.slice (some x) n c) ∧ (vs ≠ [] → x.spot = none) := by
  have hfr : m L.length = none := h.fresh _ (Nat.le_refl _)
  have hext := MExt.ins (m := m) (r := L.length) ⟨x.block, x.off, 0, 0⟩ hfr
  have hnow := not_own_inp hno vs
  have hat : (⟨x.block, x.off, 0, 0⟩ : Info).at ⟨L.length, 0, x.spot⟩ = x := by cases x; simp [Info.at]
  have hself : ins m L.length ⟨x.block, x.off, 0, 0⟩ L.length = some ⟨x.block, x.off, 0, 0⟩ := by simp [Rlm.ins]
  have hspot : vs ≠ [] → x.spot = none := by
    intro hne
    cases vs with
    | nil => exact absurd rfl hne
    | cons v vs =>
      have := hc 0 (us[0]'(by simp at hlen; omega)) (List.getElem?_eq_getElem (by simp at hlen; omega))
      simp only [Addr.add, if_true, World.cell?] at this
      split at this
      · split at this
        · cases this
        · rename_i hs
          cases hx : x.spot with
          | none => rfl
          | some s => rw [hx] at hs; simp at hs
      · cases this
  refine ⟨ins m L.length ⟨x.block, x.off, 0, 0⟩, hext, ⟨fun r hr => ?_, fun r cs e ro sp hr => ?_, fun r r' i i' ho => absurd (Or.inl ho) (hnow r), h.loops.keep hext (fun r b hab hr => ?_) fun _ _ _ h => h⟩, hnow, ?_, hspot⟩
  · simp only [List.length_append, List.length_singleton] at hr
    simp only [Rlm.ins]
    rw [if_neg (by omega)]
    exact h.fresh r (by omega)
  · rcases Nat.lt_trichotomy r L.length with hl | hl | hl
    · rw [List.getElem?_append_left hl] at hr
      obtain ⟨i, h1, h2⟩ := h.row r cs e ro sp hr
      refine ⟨i, hext _ _ h1, ⟨?_, h2.ones⟩⟩
      obtain ⟨cp, e', fz, k1, k2, k3, k4⟩ := h2.there
      exact ⟨cp, e', fz, k1, fun j v hj => let ⟨v', q1, q2⟩ := k2 j v hj; ⟨v', q1, q2.mono hext⟩, k3, k4⟩
    · subst hl
      rw [List.getElem?_append_right (Nat.le_refl _)] at hr
      cases vs with
      | nil => simp [inp] at hr
      | cons v vs =>
        simp [inp] at hr
        obtain ⟨rfl, rfl, rfl, rfl⟩ := hr
        have hs := hspot (by simp)
        have cellAt : ∀ (i : Nat) (u : Value), us[i]? = some u → ∃ cp e' fz, w.heap[x.block]? = some (.cells cp e' fz) ∧ cp[x.off + i]? = some u := by
          intro i u hu
          have := hc i u hu
          have e : x.add i = ⟨x.block, x.off + i, none⟩ := by
            unfold Addr.add
            split
            · rename_i h0; subst h0; cases x; simp_all
            · rfl
          rw [e] at this
          simp only [World.cell?] at this
          split at this
          · rename_i cp e' fz hw
            simp at this
            exact ⟨cp, e', fz, hw, this⟩
          · cases this
        obtain ⟨cp, e', fz, hw, _⟩ := cellAt 0 (us[0]'(by simp at hlen; omega)) (List.getElem?_eq_getElem (by simp at hlen; omega))
        refine ⟨_, hself, ⟨⟨cp, e', fz, hw, fun j u hu => ?_, fun h => (by cases h), fun h => absurd rfl h⟩, fun u hu => hone u hu⟩⟩
        have hju : us[j]? = some (us[j]'(by have := (List.getElem?_eq_some_iff.1 hu).1; omega)) := List.getElem?_eq_getElem (by have := (List.getElem?_eq_some_iff.1 hu).1; omega)
        obtain ⟨cp', e'', fz', hw', hu'⟩ := cellAt j _ hju
        rw [hw] at hw'
        injection hw' with hw'
        injection hw' with q1 q2 q3
        subst q1
        exact ⟨_, hu', (hf j u _ hu hju).mono hext⟩
    · rw [List.getElem?_append_right (Nat.le_of_lt hl)] at hr
      have : r - L.length ≠ 0 := by omega
      match hk : r - L.length, this with
      | k + 1, _ => rw [hk] at hr; simp at hr
  · exact absurd (Or.inr ⟨b, hab, hr⟩) (hnow r)
  · have := VR.slice (m := ins m L.length ⟨x.block, x.off, 0, 0⟩) (a := ⟨L.length, 0, x.spot⟩) (n := n) (c := c) hself hcap
    rwa [hat] at this
/-- In the world: a slice of slices of texts. -/
def IsVols (w : World) (a : Option Addr) (len cap : Nat) (vs : List (List (List Nat))) : Prop :=
  len = vs.length ∧ len ≤ cap ∧ cap ≤ maxLen ∧ (∀ v ∈ vs, v.length ≤ maxLen ∧ ∀ x ∈ v, ∀ n ∈ x, n < 256) ∧
    ((a = none ∧ cap = 0) ∨ ∃ (x : Addr) (rs : List (Option Addr × Nat × Nat)), a = some x ∧ rs.length = len ∧ (∀ (i : Nat) (r : Option Addr × Nat × Nat), rs[i]? = some r → w.cell? (x.add i) = some (.slice r.1 r.2.1 r.2.2)) ∧
      ∀ (i : Nat) (r : Option Addr × Nat × Nat) (v : List (List Nat)), rs[i]? = some r → vs[i]? = some v → IsCells w r.1 r.2.1 r.2.2 1 (v.map fun l => .string (strOf l)) ∧ r.2.1 ≤ r.2.2)
def numsOf (s : ByteArray) : List Nat := s.data.toList.map UInt8.toNat
theorem numsOf_str (s : ByteArray) : strOf (numsOf s) = s := by
  unfold strOf numsOf
  rw [List.map_map, show (UInt8.ofNat ∘ UInt8.toNat) = id from funext fun c => UInt8.ofNat_toNat, List.map_id]
theorem numsOf_small (s : ByteArray) : ∀ n ∈ numsOf s, n < 256 := by
  intro n hn
  obtain ⟨c, _, rfl⟩ := List.mem_map.1 hn
  exact c.toNat_lt
theorem open_texts {H : Type} {enc : TypeId × Value → H} {P : Program} {w : World} {base : Nat} {spare : Nat → Bool} {held : Bool} {t e : TypeId} {fuel : Nat} {cs : List Value} {x : DataW H × List MemPlace}
    (ht : P.underlying t = some (.slice e)) (he : P.underlying e = some .string) (hC : P.cellsOf e = 1) (h : DataW.trod enc P w base spare held fuel t cs = some x) :
    ∃ (a : Option Addr) (len cap : Nat) (v : List (List Nat)), cs = [.slice a len cap] ∧ len ≤ cap ∧ v.length ≤ maxLen ∧ (∀ y ∈ v, ∀ n ∈ y, n < 256) ∧ IsCells w a len cap 1 (v.map fun l => .string (strOf l)) := by
  rcases DataW.trod_slice ht h with ⟨rfl, _⟩ | ⟨a, len, cap, elems, rest, n, _, rfl, _, _, hl, hm, hlen, hel, _, _⟩
  · exact ⟨none, 0, 0, [], rfl, Nat.le_refl _, by simp, fun y hy => by simp at hy, .inl ⟨rfl, rfl, rfl, rfl⟩⟩
  · have each : ∀ i, i < len → ∃ s : ByteArray, w.cell? (a.add i) = some (.string s) := by
      intro i hi
      have h1 := hel i hi
      rw [hC, Nat.mul_one, List.getElem?_eq_getElem (by omega), Option.bind_eq_some_iff] at h1
      obtain ⟨cs', h2, h3⟩ := h1
      obtain ⟨s, rfl, _, _⟩ := DataW.trod_string he h3
      exact ⟨s, cell_of_cells?_one h2⟩
    obtain ⟨ss, s1, s2⟩ := choose_list each
    refine ⟨some a, len, cap, ss.map numsOf, rfl, hl, by rw [List.length_map]; omega, fun y hy => ?_, .inr ⟨a, rfl, hm, by simp [s1], fun i v hv => ?_⟩⟩
    · obtain ⟨s, _, rfl⟩ := List.mem_map.1 hy
      exact numsOf_small s
    · rw [List.map_map, List.getElem?_map] at hv
      cases hs : ss[i]? with
      | none => rw [hs] at hv; cases hv
      | some s =>
        rw [hs] at hv
        injection hv with hv
        rw [s2 i s hs, ← hv]
        show _ = some (Value.string (strOf (numsOf s)))
        rw [numsOf_str]
theorem open_rows {H : Type} {enc : TypeId × Value → H} {P : Program} {w : World} {r : Reach} {b0 : Nat} {t e e2 : TypeId} {v : Value} {d : DataW H} {p : List MemPlace}
    (ht : P.underlying t = some (.slice e)) (he : P.underlying e = some (.slice e2)) (he2 : P.underlying e2 = some .string) (hC : P.cellsOf e = 1) (hC2 : P.cellsOf e2 = 1)
    (_hv : Value.okWide P w r b0 t v) (h : DataW.Trod enc P w 0 (fun _ => true) true t v d p) : ∃ (a : Option Addr) (len cap : Nat) (vs : List (List (List Nat))), v = .slice a len cap ∧ IsVols w a len cap vs := by
  obtain ⟨a0, len0, cap0, rfl⟩ := okWide_slice ht _hv
  obtain ⟨fuel, hf⟩ := h
  rcases DataW.trod_slice ht hf with ⟨hcs, _⟩ | ⟨a, len, cap, elems, rest, n, _, hcs, _, _, hl, hm, hlen, hel, _, _⟩
  · simp [Value.cells] at hcs
    obtain ⟨rfl, rfl, rfl⟩ := hcs
    exact ⟨none, 0, 0, [], rfl, rfl, Nat.le_refl _, by simp, fun v hv => by simp at hv, .inl ⟨rfl, rfl⟩⟩
  · have each : ∀ i, i < len → ∃ q : (Option Addr × Nat × Nat) × List (List Nat), w.cell? (a.add i) = some (.slice q.1.1 q.1.2.1 q.1.2.2) ∧ IsCells w q.1.1 q.1.2.1 q.1.2.2 1 (q.2.map fun l => .string (strOf l)) ∧ q.1.2.1 ≤ q.1.2.2 ∧
        q.2.length ≤ maxLen ∧ ∀ y ∈ q.2, ∀ n ∈ y, n < 256 := by
      intro i hi
      have h1 := hel i hi
      rw [hC, Nat.mul_one, List.getElem?_eq_getElem (by omega), Option.bind_eq_some_iff] at h1
      obtain ⟨cs', h2, h3⟩ := h1
      obtain ⟨a', len', cap', v', rfl, g1, g2, g3, g4⟩ := open_texts he he2 hC2 h3
      exact ⟨((a', len', cap'), v'), cell_of_cells?_one h2, g4, g1, g2, g3⟩
    obtain ⟨qs, s1, s2⟩ := choose_list each
    simp [Value.cells] at hcs
    obtain ⟨rfl, rfl, rfl⟩ := hcs
    refine ⟨some a, _, _, qs.map (·.2), rfl, by simp [s1], hl, hm, fun v hv => ?_, .inr ⟨a, qs.map (·.1), rfl, by simp [s1], fun i r hr => ?_, fun i r v hr hv => ?_⟩⟩
    · obtain ⟨q, hq, rfl⟩ := List.mem_map.1 hv
      obtain ⟨i, hi⟩ := List.getElem?_of_mem hq
      exact ⟨(s2 i q hi).2.2.2.1, (s2 i q hi).2.2.2.2⟩
    · rw [List.getElem?_map] at hr
      cases hq : qs[i]? with
      | none => rw [hq] at hr; cases hr
      | some q => rw [hq] at hr; injection hr with hr; subst hr; exact (s2 i q hq).1
    · rw [List.getElem?_map] at hr hv
      cases hq : qs[i]? with
      | none => rw [hq] at hr; cases hr
      | some q =>
        rw [hq] at hr hv
        injection hr with hr; injection hv with hv
        subst hr; subst hv
        exact ⟨(s2 i q hq).2.1, (s2 i q hq).2.2.1⟩
end Go.Rlm
end

section
set_option maxRecDepth 100000
namespace Go.Proofs.YtffcfaabjodpcaaDoor
open Go Go.Rlm
theorem text_in {P : Program} {m : RMap} {L : LHeap} {w : World} (h : Rep P m L w) (hno : ∀ r, ¬ mine L r) {a : Option Addr} {len cap : Nat} {v : List (List Nat)} (hc : IsCells w a len cap 1 (v.map fun l => .string (strOf l))) (hle : len ≤ cap) :
    ∃ m' L' x B, MExt m m' ∧ Rep P m' L' w ∧ (∀ r, ¬ mine L' r) ∧ VR m' (slV x) (.slice a len cap) ∧ TR L' x v B ∧ Within B L' ∧ (∀ i, i < L.length → L'[i]? = L[i]?) ∧ L.length ≤ L'.length := by
  rcases hc with ⟨rfl, rfl, rfl, hv⟩ | ⟨x, rfl, h1, h2, h3⟩
  · have hv0 : v = [] := by simpa using hv
    subst hv0
    exact ⟨m, L, ⟨none, 0, 0⟩, [], .refl m, h, hno, .flat1 rfl, ⟨rfl, .inl ⟨rfl, rfl⟩⟩, fun i hi => by simp at hi, fun _ _ => rfl, Nat.le_refl _⟩
  · rw [Nat.mul_one, List.length_map] at h2
    subst h2
    have hcap : cap < OPEN := Nat.lt_of_le_of_lt h1 (by decide)
    obtain ⟨m', g1, g2, g3, g4, g5⟩ := h.input hno h3 (fun u hu => by obtain ⟨l, _, rfl⟩ := List.mem_map.1 hu; rfl) v.length cap hcap
    refine ⟨m', _, ⟨some ⟨L.length, 0, x.spot⟩, v.length, cap⟩, if v = [] then [] else [L.length], g1, g2, g3, g4, ⟨rfl, ?_⟩, ?_, fun i hi => get_push hi, by simp⟩
    · cases v with
      | nil => exact .inl ⟨rfl, by simp⟩
      | cons u v =>
        exact .inr ⟨L.length, 0, (u :: v).map strV, 0, true, 0, by rw [g5 (by simp)], by rw [get_new]; rfl, by rw [List.drop_zero, List.take_of_length_le (by simp)], by simp, .inl ⟨hcap, hle⟩, by simp⟩
    · intro i hi
      split at hi
      · simp at hi
      · simp at hi; subst hi; simp
theorem texts_in {P : Program} {w : World} : ∀ (rs : List (Option Addr × Nat × Nat)) (vs : List (List (List Nat))) {m : RMap} {L : LHeap}, Rep P m L w → (∀ r, ¬ mine L r) → rs.length = vs.length →
    (∀ (i : Nat) (r : Option Addr × Nat × Nat) (v : List (List Nat)), rs[i]? = some r → vs[i]? = some v → IsCells w r.1 r.2.1 r.2.2 1 (v.map fun l => .string (strOf l)) ∧ r.2.1 ≤ r.2.2) →
    ∃ (m' : RMap) (L' : LHeap) (xs : List Sl), MExt m m' ∧ Rep P m' L' w ∧ (∀ r, ¬ mine L' r) ∧ xs.length = rs.length ∧ (∀ i, i < L.length → L'[i]? = L[i]?) ∧ L.length ≤ L'.length ∧
      ∀ (i : Nat) (x : Sl) (r : Option Addr × Nat × Nat) (v : List (List Nat)), xs[i]? = some x → rs[i]? = some r → vs[i]? = some v → VR m' (slV x) (.slice r.1 r.2.1 r.2.2) ∧ ∃ B, TR L' x v B ∧ Within B L'
  | [], vs, m, L, h, hno, _, _ => ⟨m, L, [], .refl m, h, hno, rfl, fun _ _ => rfl, Nat.le_refl _, fun i x r v hx => by simp at hx⟩
  | r :: rs, [], m, L, h, hno, hl, _ => by simp at hl
  | r :: rs, v :: vs, m, L, h, hno, hl, hc => by
    obtain ⟨c1, c2⟩ := hc 0 r v rfl rfl
    obtain ⟨m1, L1, x, B, a1, a2, a3, a4, a5, a6, a7, a8⟩ := text_in h hno c1 c2
    obtain ⟨m2, L2, xs, b1, b2, b3, b4, b5, b6, b7⟩ := texts_in rs vs a2 a3 (by simpa using hl) fun i r v hr hv => hc (i + 1) r v (by simpa using hr) (by simpa using hv)
    refine ⟨m2, L2, x :: xs, a1.trans b1, b2, b3, by simp [b4], fun i hi => by rw [b5 i (by omega), a7 i hi], by omega, fun i y r' v' hy hr hv => ?_⟩
    cases i with
    | zero =>
      simp at hy hr hv
      subst hy; subst hr; subst hv
      exact ⟨a4.mono b1, B, a5.mono fun b hb => b5 b (a6 b hb), fun b hb => Nat.lt_of_lt_of_le (a6 b hb) b6⟩
    | succ i => exact b7 i y r' v' (by simpa using hy) (by simpa using hr) (by simpa using hv)
theorem vols_in {P : Program} {m : RMap} {L : LHeap} {w : World} (h : Rep P m L w) (hno : ∀ r, ¬ mine L r) {a : Option Addr} {len cap : Nat} {vs : List (List (List Nat))} (hc : IsVols w a len cap vs) :
    ∃ m' L' s F, MExt m m' ∧ Rep P m' L' w ∧ (∀ r, ¬ mine L' r) ∧ VR m' (slV s) (.slice a len cap) ∧ RV L' s vs F ∧ Within F L' := by
  obtain ⟨h1, h2, h3, h4, h5⟩ := hc
  rcases h5 with ⟨rfl, rfl⟩ | ⟨x, rs, rfl, k1, k2, k3⟩
  · have hv : vs = [] := List.length_eq_zero_iff.1 (by omega)
    subst hv
    refine ⟨m, L, ⟨none, 0, 0⟩, [], .refl m, h, hno, ?_, ⟨rfl, fun i v hv => by simp at hv⟩, fun i hi => by simp at hi⟩
    rw [h1]
    exact .flat1 rfl
  · obtain ⟨m1, L1, xs, b1, b2, b3, b4, b5, b6, b7⟩ := texts_in rs vs h hno (by omega) k3
    have hcap : cap < OPEN := Nat.lt_of_le_of_lt h3 (by decide)
    obtain ⟨m2, g1, g2, g3, g4, g5⟩ := b2.inputV b3 (x := x) (vs := xs.map slV) (us := rs.map fun r => .slice r.1 r.2.1 r.2.2) (by simp [b4]) (fun i u hu => by
      rw [List.getElem?_map] at hu
      cases hr : rs[i]? with
      | none => rw [hr] at hu; cases hu
      | some r => rw [hr] at hu; injection hu with hu; subst hu; exact k2 i r hr) (fun i v u hv hu => by
      rw [List.getElem?_map] at hu hv
      cases hr : rs[i]? with
      | none => rw [hr] at hu; cases hu
      | some r =>
        cases hx : xs[i]? with
        | none => rw [hx] at hv; cases hv
        | some y =>
          rw [hr] at hu; rw [hx] at hv
          injection hu with hu; injection hv with hv
          subst hu; subst hv
          have hi := get_lt hr
          exact (b7 i y r (vs[i]'(by omega)) hx hr (List.getElem?_eq_getElem (by omega))).1) (fun v hv => by obtain ⟨y, _, rfl⟩ := List.mem_map.1 hv; rfl) len cap hcap
    refine ⟨m2, _, ⟨some ⟨L1.length, 0, x.spot⟩, len, cap⟩, List.range (L1.length + 1), b1.trans g1, g2, g3, g4, ⟨h1, fun i v hv => ?_⟩, fun i hi => by simpa using hi⟩
    have hi := get_lt hv
    have hx : xs[i]? = some (xs[i]'(by omega)) := List.getElem?_eq_getElem (by omega)
    have hr : rs[i]? = some (rs[i]'(by omega)) := List.getElem?_eq_getElem (by omega)
    obtain ⟨_, B, t1, t2⟩ := b7 i _ _ v hx hr hv
    have hne : xs ≠ [] := fun e => by
      have := congrArg List.length e
      rw [List.length_nil] at this
      omega
    refine ⟨⟨L1.length, 0 + i * 1, none⟩, xs[i]'(by omega), B, ?_, fun L' hk => ?_, t1.mono fun b hb => get_push (t2 b hb), fun b hb => by have := t2 b hb; simp; omega⟩
    · rw [g5 (by simpa using hne)]
      exact idx_of (by omega)
    · have hb : L'[L1.length]? = some (inp (xs.map slV)) := by rw [hk L1.length (by simp)]; exact get_new
      have : inp (xs.map slV) = .cells (xs.map slV) 0 true 0 := by
        cases xs with
        | nil => exact absurd rfl hne
        | cons y ys => rfl
      rw [this] at hb
      rw [cell_of hb, Nat.zero_add, Nat.mul_one, List.getElem?_map, hx]
      rfl
end Go.Proofs.YtffcfaabjodpcaaDoor
end

section
set_option maxRecDepth 100000
namespace Go.Proofs.YtffcfaabjodpcaaDoor
open Go Go.Rlm
theorem shape_cell {L : LHeap} {r : Nat} {d d2 z d3 : Int} (h : L[r]? = some (.cells [.int .i64 d, .int .i64 d2, .int .i64 z, .int .i64 d3] 23 false 0)) :
    (cell L (Addr.add ⟨r, 0, none⟩ 0)).bind (asI .i64) = some d ∧ (cell L (Addr.add ⟨r, 0, none⟩ 1)).bind (asI .i64) = some d2 ∧ (cell L (Addr.add ⟨r, 0, none⟩ 2)).bind (asI .i64) = some z ∧ (cell L (Addr.add ⟨r, 0, none⟩ 3)).bind (asI .i64) = some d3 := by
  refine ⟨?_, ?_, ?_, ?_⟩
  · rw [show Addr.add ⟨r, 0, none⟩ 0 = (⟨r, 0, none⟩ : Addr) from rfl, cell_of h]; rfl
  · rw [show Addr.add ⟨r, 0, none⟩ 1 = (⟨r, 1, none⟩ : Addr) from rfl, cell_of h]; rfl
  · rw [show Addr.add ⟨r, 0, none⟩ 2 = (⟨r, 2, none⟩ : Addr) from rfl, cell_of h]; rfl
  · rw [show Addr.add ⟨r, 0, none⟩ 3 = (⟨r, 3, none⟩ : Addr) from rfl, cell_of h]; rfl
end Go.Proofs.YtffcfaabjodpcaaDoor
end

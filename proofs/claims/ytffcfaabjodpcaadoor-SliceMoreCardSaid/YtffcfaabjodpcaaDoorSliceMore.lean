/- What is proved: 'Rows.SliceMoreCardSaid': whatever comes in, the law SliceMore returns true and leaves it as it was; the listed package variables are tied to the program's text. No conditions. The law's printed form is run over the entries of the machine's table; the model follows the logical machine (RlmS18). -/
import Derived.Test.YtffcfaabjodpcaaDoorTie
import Derived.Test.YtffcfaabjodpcaaDoorCards
import Derived.WalkKit
import Derived.ProofKit
import Derived.OpenShut
import Derived.ShutString
import Derived.ChangeOld
import Derived.Below
import Derived.LaidMore
import Derived.Lay
import Derived.SevenTiedAt
import Derived.Stop.Joined
import Derived.Test.YtffcfaabjodpcaaDoorSliceMoreM2
namespace Go.Proofs.YtffcfaabjodpcaaDoor.SliceMore
set_option maxRecDepth 100000
open Go.ChangeShapes Go.WideShapes Go.ChangeAt Go.RowKit Go.Rlm
set_option linter.unusedVariables false

theorem own : ownKnob Tryd.prog.godebug = none := by kernel_rfl
theorem laidOut : laidOutB Tryd.prog = true := by kernel_rfl

theorem run (n more d r z m : Int) : V.f8 200 n more d r z m = ok (.bool true) := by
  rw [V.f8_eq]
  by_cases h1 : n < 0
  · rw [decide_eq_true h1, lif_true]
  rw [decide_eq_false h1, lif_false]
  by_cases h2 : n > 1099511627776
  · rw [decide_eq_true h2, lif_true]
  obtain ⟨q, hq⟩ : ∃ q : Nat, IntKind.wrap .i64 (Int.tmod (IntKind.wrap .u64 more) 100000) = q ∧ q < 100000 := by
    have hw : 0 ≤ IntKind.wrap .u64 more := by show 0 ≤ more % _; exact Int.emod_nonneg _ (by decide)
    have h3 := Int.tmod_nonneg 100000 hw
    have h4 := Int.tmod_lt_of_pos (IntKind.wrap .u64 more) (show (0 : Int) < 100000 by omega)
    refine ⟨(Int.tmod (IntKind.wrap .u64 more) 100000).toNat, ?_, by omega⟩
    rw [wI64 (by omega) (by omega)]
    omega
  rw [decide_eq_false h2, lif_false, decide_eq_true (by omega), when_true, hq.1, wI64 (n := n + q) (by omega) (by omega), decide_eq_true (by omega), when_true]
  have hn : 0 ≤ n := by omega
  have hn2 : 0 ≤ n + q := by omega
  cases hs : shapeB d r z m with
  | false =>
    rw [(count_bad (.inl hs)).1, (count_bad (.inl hs)).1]
    rfl
  | true =>
    have ho := one_le hs
    have hm := volK_mono (n' := n + q) hn (by omega) (by omega : 0 < d * z)
    have hs' := shapeB_iff.1 hs
    by_cases h5 : volK n (d * z) > 96 - m
    · rw [(count_big hs hn h5).1, (count_big hs hn2 (by omega)).1]
      rfl
    · obtain ⟨c1, c2⟩ := count_fits hs hn (by omega)
      rw [c1, c2, show ((0 : Int) == 40) = false from rfl, lif_false, show ((0 : Int) == 0) = true from rfl, lif_true, show ((0 : Int) != 0) = false from rfl]
      rw [wI64 (n := d + 1) (by omega) (by omega), wI64 (n := z + 2) (by omega) (by omega)]
      have wide : lif (countE n (d + 1) r (z + 2) m != 0) (lif (!shapeB (d + 1) r (z + 2) m) (ok (.bool true)) (lif (countE n (d + 1) r (z + 2) m == 0) (ok (.bool (decide (countK n (d + 1) r (z + 2) m ≤ volK n (d * z))))) (ok (.bool false))))
          (lif (countE n (d + 1) r (z + 2) m == 0) (ok (.bool (decide (countK n (d + 1) r (z + 2) m ≤ volK n (d * z))))) (ok (.bool false))) = ok (.bool true) := by
        cases hw : shapeB (d + 1) r (z + 2) m with
        | false => rw [(count_bad (.inl hw)).1]; rfl
        | true =>
          have hle : d * z ≤ (d + 1) * (z + 2) := by
            rw [Int.add_mul, Int.mul_add, Int.one_mul]; omega
          have h6 := volK_anti hn hle (by omega)
          obtain ⟨c3, c4⟩ := count_fits hw hn (by omega)
          rw [c3, c4, show ((0 : Int) == 0) = true from rfl, lif_true, show ((0 : Int) != 0) = false from rfl, lif_false, decide_eq_true h6]
      rw [when_true, lif_false, wide]
      by_cases h7 : volK (n + q) (d * z) > 96 - m
      · rw [(count_big hs hn2 h7).1]
        rfl
      · obtain ⟨c5, c6⟩ := count_fits hs hn2 (by omega)
        rw [c5, c6, show ((0 : Int) == 0) = true from rfl, lif_true, decide_eq_false (by omega), lif_false]

theorem walk {w : World} (_hL : laidMetH Tryd.prog Rows.sliceMoreRow.laid w) {n more d r z m : Int} (_ : (Lit.int .i64 n).wf = true) (_ : (Lit.int .i64 more).wf = true)
    (_ : (Lit.int .i64 d).wf = true) (_ : (Lit.int .i64 r).wf = true) (_ : (Lit.int .i64 z).wf = true) (_ : (Lit.int .i64 m).wf = true) :
    Calls Tryd.prog 8 #[.int .i64 n, .int .i64 more, .agg #[.int .i64 d, .int .i64 r, .int .i64 z, .int .i64 m]] w fun e w' => e = .returned (.bool true) ∧ Below w.heap.size w w' :=
  pure_walk (G := Keep.none) specV X.mixed X.named (args := [.int .i64 n, .int .i64 more, .agg #[.int .i64 d, .int .i64 r, .int .i64 z, .int .i64 m]]) rfl (run n more d r z m) trivial
set_option maxRecDepth 100000 in
theorem lifted (os : Os) (started : os.Started) (H : Type) (enc : TypeId × Value → H) :
    ReturnsInHanded {} Tryd.checked os 8 .any (fun w args => (Rows.sliceMoreSpec.pre enc Tryd.prog Tryd.f8 Rows.sliceMoreRow.domain false w args ∧ laidMetH Tryd.prog Rows.sliceMoreRow.laid w) ∧ sizedMet enc Tryd.prog Tryd.f8 (OpenSpec.ofChange Rows.sliceMoreSpec) false w args)
      (Rows.sliceMoreSpec.post enc Tryd.prog Tryd.f8 false true false false) := by
  refine returnsInHanded_of_change_and (C := Tryd.checked) (X := fun w _ => laidMetH Tryd.prog Rows.sliceMoreRow.laid w) (fun _ _ _ hh h => h.of_heap hh) own started (by kernel_rfl) Tryd.func8
    (ChangeSpec.witness_shaped (enc := enc) (C := Tryd.checked) (os := os) (X := fun w _ => laidMetH Tryd.prog Rows.sliceMoreRow.laid w) false (World.laidAll Tryd.prog os Rows.sliceMoreRow.laid) #[.int .i64 0, .int .i64 0, .agg #[.int .i64 0, .int .i64 0, .int .i64 0, .int .i64 0]] 8 (World.laidAll_os _ _ _)
      (World.shaped_of_ZipB (by kernel_rfl) (by kernel_rfl)) (by kernel_rfl) (by kernel_rfl) (by kernel_rfl)
      (by rw [MakeChecks.laidMetH_plain _ _ _ (by kernel_rfl)]; exact laidMet_laidAll _ (by kernel_rfl) (by kernel_rfl))) ?_
  intro W base args ds gs before hval0 hW hcnd _ hL _
  have hval : ∀ (j : Nat) t v, Tryd.f8.params[j]? = some t → args[j]? = some v → Value.okWide Tryd.prog W .any base t v := hval0
  have hW' := hW
  obtain ⟨p, q, hA0, hV, rfl, hfz, hnd⟩ := hW
  have hA : DataW.TrodAll enc Tryd.prog W 0 (fun _ => true) true Tryd.f8.params.toList args.toList ds p := hA0
  rw [Tryd.params8] at hA hval
  obtain ⟨v0, vs0, d0, ds0, p0, q0, hargs, rfl, rfl, h0, r0⟩ := trodAll_cons hA
  obtain ⟨v1, vs1, d1, ds1, p1, q1, rfl, rfl, rfl, h1, r1⟩ := trodAll_cons r0
  obtain ⟨v2, vs2, d2, ds2, p2, q2, rfl, rfl, rfl, h2, r2⟩ := trodAll_cons r1
  obtain ⟨rfl, rfl, rfl⟩ := trodAll_nil r2
  obtain rfl : args = #[v0, v1, v2] := by cases args; simp_all
  obtain ⟨rfl, rfl⟩ := trodVars_none hV
  obtain ⟨a0, rfl, rfl, rfl, w0⟩ := open_int Tryd.underlying3 (hval 0 3 v0 rfl rfl) h0
  obtain ⟨a1, rfl, rfl, rfl, w1⟩ := open_int Tryd.underlying3 (hval 1 3 v1 rfl rfl) h1
  have k2 := h2
  obtain ⟨z2a, z2b, z2c, z2d, rfl, hp2, w2a, w2b, w2c, w2d⟩ := open_four Tryd.underlying23 (by kernel_rfl) (by kernel_rfl) Tryd.underlying3 rfl rfl rfl rfl (hval 2 23 v2 rfl rfl) h2
  have lt2 : ∀ x ∈ p2, x.block < W.heap.size := by rw [hp2]; intro x hx; cases hx
  clear hA0 hval0
  refine (walk hL w0 w1 w2a w2b w2c w2d).mono fun e W' ⟨he, bel⟩ => ?_
  subst he
  exact ⟨_, rfl, _, _, _, [], _, [], hW', trodAll_mk1 (shut_bool Tryd.underlying4 _), (trodAll_cons_mk (shut_int Tryd.underlying3 w0) (trodAll_cons_mk (shut_int Tryd.underlying3 w1) (trodAll_cons_mk (Below.trod laidOut (by kernel_rfl) (of_decide_eq_true (by kernel_rfl)) k2 bel lt2) trodAll_mk0))), rfl, bel.frame _, fun h => by cases h⟩

theorem over : Rows.sliceMoreRow.holds Tryd.pinned (OpenSpec.ofChange Rows.sliceMoreSpec) :=
  OpenClaim.holds_of_wide 8 Tryd.f8 rfl rfl rfl rfl rfl rfl rfl ⟨rfl, rfl, rfl, rfl, rfl⟩ rfl rfl rfl rfl rfl (by kernel_rfl) Tryd.func8 (by kernel_rfl)
    (of_decide_eq_true (by kernel_rfl)) (by unfold Func.isWrapper; first | (rw [if_pos (by decide +kernel)]; kernel_rfl) | (rw [if_neg (by decide +kernel)]; exact ⟨rfl, rfl⟩))
    (fun os started H enc _ => lifted os started H enc)

theorem card : Rows.SliceMoreCardSaid :=
  Claim7.holds_tied_plain_at .later [] [.data, .data, .data, .data, .sentinel, .sentinel, .pinned] true (true, "3633c592ac90e686a30edb5d61e8924d1895e88b1559acd4bd5b79dd51f22322") true over (fun _ h => by cases h) (by kernel_rfl) (fun _ h => by cases h) sliceMore_row_tie rfl ⟨rfl, rfl⟩ (by kernel_rfl) rfl
    (fun f fn hf hfn => by
      obtain rfl : f = 8 := Option.some.inj ((show Tryd.prog.funcNamed "hamper/hamperlaw26.SliceMore" = some 8 by kernel_rfl).symm.trans hf) |>.symm
      obtain rfl : fn = Tryd.f8 := (Option.some.inj (Tryd.func8.symm.trans hfn)).symm
      exact ⟨by kernel_rfl, fun j t ht => by
        rw [Tryd.params8] at ht
        have hm : t ∈ [3, 23] := by
          have := Array.mem_of_getElem? ht
          simp at this ⊢; omega
        have hall : ([3, 23].all fun u => !Tryd.prog.wantsStandIn u) = true := by kernel_rfl
        exact (show Tryd.prog.wantsStandIn t = false by simpa using List.all_eq_true.1 hall t hm)⟩)
    (by kernel_rfl)

end Go.Proofs.YtffcfaabjodpcaaDoor.SliceMore
namespace Go.Proofs.YtffcfaabjodpcaaDoor

/-- The statement. -/
theorem sliceMore_holds : Rows.SliceMoreCardSaid := SliceMore.card

end Go.Proofs.YtffcfaabjodpcaaDoor
#print axioms Go.Proofs.YtffcfaabjodpcaaDoor.sliceMore_holds

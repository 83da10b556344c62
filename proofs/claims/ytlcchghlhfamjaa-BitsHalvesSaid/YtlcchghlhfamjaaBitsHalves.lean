/- What is proved: 'Rows.BitsHalvesSaid': whatever comes in, the law BitsHalves returns true and leaves it as it was. No conditions. The law's printed form is run over the contracts of what it calls; the model follows the logical machine (RlmS18). -/
import Derived.Test.YtlcchghlhfamjaaRows
import Derived.WalkKit
import Derived.ProofKit
import Derived.OpenShut
import Derived.ShutString
import Derived.ChangeOld
import Derived.Below
import Derived.Test.YtlcchghlhfamjaaRlmArgs
import Derived.Test.YtlcchghlhfamjaaBitsLaw
namespace Go.Proofs.Ytlcchghlhfamjaa.BitsHalves
open Go.ChangeShapes Go.WideShapes Go.ChangeAt Go.RowKit Go.Rlm Go.Proofs.Ytlcchghlhfamjaa.X
set_option linter.unusedVariables false

theorem own : ownKnob Try.prog.godebug = none := by kernel_rfl
theorem laidOut : laidOutB Try.prog = true := by kernel_rfl
theorem mixed : Try.prog.follows .mixedOrders = true := by kernel_rfl
theorem named : Try.prog.funcs.all (fun fn => !(fn.name == "runtime.NumGoroutine")) = true := by kernel_rfl

theorem round {k b c n m : Nat} (hn : n ≤ 32) (hm : m ≤ n) (h0 : 0 < n) (hbc : b ≠ c) (hk : 50 ≤ k) :
    ∀ (z j : Nat) (r : List Bool) (L : LHeap), r.length ≤ z → z < j → r.length < 2 ^ 40 → BR L b r → BR L c r →
      ∃ L', f8_l9 k j (n : Int) (m : Int) (some ⟨b, 0, none⟩) (some ⟨c, 0, none⟩) L = some (.ret (.bool true) L') := by
  intro z
  induction z with
  | zero =>
    intro j r L hz hj hr hb hc
    obtain ⟨j, rfl⟩ : ∃ j', j = j' + 1 := ⟨j - 1, by omega⟩
    refine ⟨L, ?_⟩
    rw [f8_l9_eq]
    simp only [left_ok hb (show 1 ≤ k by omega), left_ok hc (show 1 ≤ k by omega), lbind_ret, asI_int, obind_some]
    rw [decide_eq_false (by omega)]
    simp
  | succ z ih =>
    intro j r L hz hj hr hb hc
    obtain ⟨j, rfl⟩ : ∃ j', j = j' + 1 := ⟨j - 1, by omega⟩
    by_cases hlt : r.length < n
    · refine ⟨L, ?_⟩
      rw [f8_l9_eq]
      simp only [left_ok hb (show 1 ≤ k by omega), left_ok hc (show 1 ≤ k by omega), lbind_ret, asI_int, obind_some]
      rw [decide_eq_false (by omega)]
      simp
    have c1 : takeCnt r (n : Int) = n := by unfold takeCnt; rw [if_neg (by omega), if_neg (by omega)]; rfl
    have e1 : takeErr r (n : Int) = 0 := by unfold takeErr; rw [if_neg (by omega), if_neg (by omega)]
    have c2 : takeCnt r ((n - m : Nat) : Int) = n - m := by unfold takeCnt; rw [if_neg (by omega), if_neg (by omega)]; rfl
    have e2 : takeErr r ((n - m : Nat) : Int) = 0 := by unfold takeErr; rw [if_neg (by omega), if_neg (by omega)]
    have c3 : takeCnt (r.drop (n - m)) (m : Int) = m := by unfold takeCnt; rw [if_neg (by omega), if_neg (by simp; omega)]; rfl
    have e3 : takeErr (r.drop (n - m)) (m : Int) = 0 := by unfold takeErr; rw [if_neg (by omega), if_neg (by simp; omega)]
    obtain ⟨L1, a1, a2, a3⟩ := take_ok (k := k) (n := (n : Int)) hb (by omega)
    have hc1 : BR L1 c r := hc.mono (a3.keep c hc.lt (by simpa using hbc.symm))
    obtain ⟨L2, b1, b2, b3⟩ := take_ok (k := k) (n := ((n - m : Nat) : Int)) hc1 (by omega)
    rw [c2] at b2
    obtain ⟨L3, d1, d2, d3⟩ := take_ok (k := k) (n := (m : Int)) b2 (by omega)
    rw [c3, List.drop_drop, show n - m + m = n by omega] at d2
    rw [c1] at a2
    have a2' : BR L3 b (r.drop n) := (a2.mono (b3.keep b a2.lt (by simpa using hbc))).mono (d3.keep b (Nat.lt_of_lt_of_le a2.lt b3.len) (by simpa using hbc))
    obtain ⟨L4, q⟩ := ih j (r.drop n) L3 (by simp; omega) (by omega) (by simp; omega) a2' d2
    refine ⟨L4, ?_⟩
    have hv : takeVal r (n : Int) = takeVal r ((n - m : Nat) : Int) * 2 ^ m + takeVal (r.drop (n - m)) (m : Int) := by
      simp only [takeVal, c1, c2, c3]
      have h1 : r.take n = r.take (n - m) ++ (r.drop (n - m)).take m := by
        rw [← List.take_add]; congr 1; omega
      have h2 : ((r.drop (n - m)).take m).length = m := by simp; omega
      rw [h1, valOf_append, h2]
    have l1 := takeVal_lt r (n : Int)
    have l2 := takeVal_lt r ((n - m : Nat) : Int)
    have l3 : takeVal (r.drop (n - m)) (m : Int) < 2 ^ m := by
      have := valOf_lt ((r.drop (n - m)).take m)
      simp only [takeVal, c3]
      rwa [show ((r.drop (n - m)).take m).length = m by simp; omega] at this
    simp only [taken, e1] at a1
    simp only [taken, e2] at b1
    simp only [taken, e3] at d1
    generalize takeVal r (n : Int) = x at *
    generalize takeVal r ((n - m : Nat) : Int) = y at *
    generalize takeVal (r.drop (n - m)) (m : Int) = w at *
    have hor : x = 2 ^ m * y ||| w := by
      rw [← Nat.two_pow_add_eq_or_of_lt l3, hv, Nat.mul_comm]
    have g1 : bitop BinOp.or IntKind.u64 (IntKind.wrap IntKind.u64 (IntKind.wrap IntKind.u64 (y : Int) * 2 ^ min (Int.toNat (IntKind.wrap IntKind.u64 (m : Int))) 64)) (IntKind.wrap IntKind.u64 (w : Int)) = (x : Int) := by
      rw [wU64 (n := (m : Int)) (by omega) (by omega), show min (Int.toNat (m : Int)) 64 = m by simp; omega, wU64 (n := (y : Int)) (by omega) (by omega), wU64 (n := (w : Int)) (by omega) (by omega)]
      have e : (y : Int) * 2 ^ m = ((2 ^ m * y : Nat) : Int) := by push_cast; rw [Int.mul_comm]
      have hy : 2 ^ m * y ≤ x := by rw [hv, Nat.mul_comm]; omega
      rw [e, wU64 (by omega) (by omega), bitop_or (k := .u64) rfl (by simp only [IntKind.bits]; omega) (by simp only [IntKind.bits]; omega), ← hor]
    rw [f8_l9_eq]
    simp only [left_ok hb (show 1 ≤ k by omega), lbind_ret, asI_int, obind_some]
    rw [decide_eq_true (by omega), decide_eq_true (by omega), wI64 (n := (n : Int) - (m : Int)) (by omega) (by omega), show (n : Int) - (m : Int) = ((n - m : Nat) : Int) by omega]
    simp only [lif_true, a1, b1, d1, lbind_ret, tupL_tuple, uncons_cons, nilL_nil, asI_int, obind_some, bne_self_eq_false, lif_false]
    rw [g1, wU64 (n := (m : Int)) (by omega) (by omega), wU64 (n := (x : Int)) (by omega) (by omega)]
    simp only [ndec (Int.natCast_nonneg _), when_true, bne_self_eq_false, lif_false]
    exact q

theorem run {v n low : Int} {s : ByteArray} {L : LHeap} (hv : ∃ x : Nat, v = x ∧ x < 4294967296) (hlow : low < 2 ^ 63) :
    ∃ L', lcall Try.prog X.T 20001 8 [.int .u32 v, .int .i64 n, .int .i64 low, .string s] L = some (.ret (.bool true) L') := by
  obtain ⟨x, rfl, hx⟩ := hv
  show ∃ L', f8 20001 (x : Int) n low s L = _
  rw [f8_eq]
  obtain ⟨L1, w1, w2⟩ := works_ok (k := 20000) (L := L) (by omega)
  obtain ⟨L2, w3, w4⟩ := works_ok (k := 20000) (L := L1) (by omega)
  simp only [w1, w3, lbind_ret, asB_bool, obind_some, Bool.not_true, lif_false]
  by_cases g1 : n < 0
  · rw [decide_eq_true g1]; exact ⟨L2, rfl⟩
  by_cases g2 : n > 32
  · rw [decide_eq_false g1, decide_eq_true g2]; exact ⟨L2, rfl⟩
  by_cases g3 : low < 0
  · rw [decide_eq_false g1, decide_eq_false g2, decide_eq_true g3]; exact ⟨L2, rfl⟩
  by_cases g4 : low > n
  · rw [decide_eq_false g1, decide_eq_false g2, decide_eq_false g3, decide_eq_true g4]; exact ⟨L2, rfl⟩
  obtain ⟨n, rfl⟩ : ∃ a : Nat, n = a := ⟨n.toNat, by omega⟩
  obtain ⟨m, rfl⟩ : ∃ a : Nat, low = a := ⟨low.toNat, by omega⟩
  rw [decide_eq_false g1, decide_eq_false g2, decide_eq_false g3, decide_eq_false g4, wU64 (n := (n : Int)) (by omega) (by omega), wU64 (n := (m : Int)) (by omega) (by omega), wU64 (n := (x : Int)) (by omega) (by omega)]
  simp only [lif_false, ndec (Int.natCast_nonneg _), when_true]
  rw [show min (Int.toNat (n : Int)) 64 = n by simp; omega, show min (Int.toNat (m : Int)) 64 = m by simp; omega, fdiv_pow, fdiv_pow]
  by_cases g5 : x / 2 ^ n ≠ 0
  · rw [show (((x / 2 ^ n : Nat) : Int) != 0) = true by simp only [bne_iff_ne, ne_eq]; omega]; exact ⟨L2, rfl⟩
  have g5 := Decidable.not_not.1 g5
  rw [g5]
  simp only [Int.natCast_zero, bne_self_eq_false, lif_false]
  by_cases g6 : s.size > 2000
  · rw [decide_eq_true (by omega)]; exact ⟨L2, rfl⟩
  rw [decide_eq_false (by omega)]
  simp only [lif_false]
  have hxn : x < 2 ^ n := by
    rcases Nat.div_eq_zero_iff.1 g5 with h | h
    · have := Nat.two_pow_pos n; omega
    · exact h
  have hdl : x / 2 ^ m ≤ x := Nat.div_le_self _ _
  have hml : x % 2 ^ m ≤ x := Nat.mod_le _ _
  have hpm := Nat.two_pow_pos m
  have hpm2 : 2 ^ m ≤ 2 ^ 32 := Nat.pow_le_pow_right (by omega) (by omega)
  have hd : x / 2 ^ m < 2 ^ (n - m) := by
    rw [Nat.div_lt_iff_lt_mul hpm, ← Nat.pow_add, show n - m + m = n by omega]; exact hxn
  have hmod : x % 2 ^ m < 2 ^ m := Nat.mod_lt _ hpm
  have hF := BW.new L1
  have s1 := Step.new [] L1 (LBlk.cells [Value.slice none 0 0, Value.int IntKind.i64 0] 26 false 0)
  generalize L1 ++ [LBlk.cells [Value.slice none 0 0, Value.int IntKind.i64 0] 26 false 0] = A1 at *
  have hG := BW.new A1
  have s2 := Step.new [] A1 (LBlk.cells [Value.slice none 0 0, Value.int IntKind.i64 0] 26 false 0)
  generalize A1 ++ [LBlk.cells [Value.slice none 0 0, Value.int IntKind.i64 0] 26 false 0] = A2 at *
  have ap0 : Apart [L1.length] [A1.length] := (s2.apart hF.within (none_apart _)).symm
  have hF' : BW A2 L1.length [] [L1.length] := hF.mono (s2.others hF.within (none_apart _))
  have pk1 : putOk x (n : Int) = true := by simp [putOk, hxn]; omega
  have pk2 : putOk (x / 2 ^ m) ((n - m : Nat) : Int) = true := by simp [putOk, hd]; omega
  have pk3 : putOk (x % 2 ^ m) (m : Int) = true := by simp [putOk, hmod]; omega
  obtain ⟨B1, F1, a1, a2, a3⟩ := put_ok (k := 20000) (v := x) (n := (n : Int)) hF' hx (by simp) (by omega)
  have hG1 : BW B1 A1.length [] [A1.length] := hG.mono (a3.others hG.within ap0)
  have ap1 := a3.apart hG.within ap0
  obtain ⟨B2, G2, b1, b2, b3⟩ := put_ok (k := 20000) (v := x / 2 ^ m) (n := ((n - m : Nat) : Int)) hG1 (by omega) (by simp) (by omega)
  have hF2 : BW B2 L1.length _ F1 := a2.mono (b3.others a2.within ap1.symm)
  have ap2 := b3.apart a2.within ap1.symm
  obtain ⟨B3, G3, d1, d2, d3⟩ := put_ok (k := 20000) (v := x % 2 ^ m) (n := (m : Int)) b2 (by omega) (by have := putBits_le (x / 2 ^ m) ((n - m : Nat) : Int); simp; omega) (by omega)
  have hF3 : BW B3 L1.length _ F1 := hF2.mono (d3.others hF2.within ap2)
  obtain ⟨vs, p1, p2⟩ := bytes_ok (k := 20000) hF3 (by omega)
  obtain ⟨us, p3, p4⟩ := bytes_ok (k := 20000) d2 (by omega)
  rw [putRes, if_pos pk1] at a1
  rw [putRes, if_pos pk2] at b1
  rw [putRes, if_pos pk3] at d1
  have heq : vs = us := by
    refine p1.unique ?_
    rw [putBits, if_pos pk1]
    rw [putBits, if_pos pk2, putBits, if_pos pk3] at p3
    rw [List.nil_append, Int.toNat_natCast, bitsOf_split x n m (by omega)]
    rw [List.nil_append, Int.toNat_natCast, Int.toNat_natCast, bitsOf_mod] at p3
    exact p3
  subst heq
  obtain ⟨C1, e1, e2, e3⟩ := open_ok (k := 20000) (s := s) (L := B3) (by omega) (by omega)
  obtain ⟨C2, h1, h2, h3⟩ := open_ok (k := 20000) (s := s) (L := C1) (by omega) (by omega)
  have e2' : BR C2 B3.length (unpack s) := e2.mono (h3.keep _ e2.lt (by simp))
  have hne : B3.length ≠ C1.length := by have := e2.lt; omega
  have t1 : IntKind.wrap IntKind.u32 ((x / 2 ^ m : Nat) : Int) = ((x / 2 ^ m : Nat) : Int) := by
    generalize x / 2 ^ m = z at *
    rw [wU32] <;> omega
  have t2 : IntKind.wrap IntKind.u64 (1 * 2 ^ m) = ((2 ^ m : Nat) : Int) := by
    rw [show (1 : Int) * 2 ^ m = ((2 ^ m : Nat) : Int) by push_cast; omega, wU64 (by omega) (by omega)]
  have t3 : IntKind.wrap IntKind.u32 (Int.tmod (x : Int) ((2 ^ m : Nat) : Int)) = ((x % 2 ^ m : Nat) : Int) := by
    rw [tmod_nat]
    generalize x % 2 ^ m = z at *
    rw [wU32] <;> omega
  have t4 : IntKind.wrap IntKind.i64 ((n : Int) - (m : Int)) = ((n - m : Nat) : Int) := by rw [wI64] <;> omega
  simp only [t1, t2, t3, t4, a1, b1, d1, p2, p4, e1, h1, lbind_ret, asI_int, asS_string, asP_pointer, obind_some, bne_self_eq_false, lif_false, when_true, BEq.rfl, Bool.not_true]
  rw [decide_eq_false (show ¬ (((2 ^ m : Nat) : Int) = 0) by omega)]
  simp only [Bool.not_false, when_true]
  by_cases hn0 : n = 0
  · subst hn0
    refine ⟨C2, ?_⟩
    rw [show f8_l9 20000 20000 ((0 : Nat) : Int) (m : Int) (some ⟨B3.length, 0, none⟩) (some ⟨C1.length, 0, none⟩) C2 = _ from f8_l9_eq 20000 19999 _ _ _ _ _]
    simp only [left_ok e2' (show 1 ≤ 20000 by omega), left_ok h2 (show 1 ≤ 20000 by omega), lbind_ret, asI_int, obind_some]
    rw [decide_eq_true (by omega), decide_eq_false (by omega)]
    simp
  · exact round (by omega) (by omega) (by omega) hne (by omega) (unpack s).length 20000 (unpack s) C2 (Nat.le_refl _) (by simp; omega) (by simp; omega) e2' h2

theorem walk {w : World} {v n low : Int} {s : ByteArray} (hv : (Lit.int .u32 v).wf = true) (hn : (Lit.int .i64 n).wf = true) (hl : (Lit.int .i64 low).wf = true) (hs : s.size ≤ maxLen) :
    Calls Try.prog 8 #[.int .u32 v, .int .i64 n, .int .i64 low, .string s] w fun e w' => e = .returned (.bool true) ∧ Below w.heap.size w w' := by
  have hlow : low < 2 ^ 63 := by simp [Lit.wf, IntKind.min, IntKind.max, IntKind.bits, IntKind.signed] at hl; omega
  obtain ⟨L', h⟩ := run (v := v) (n := n) (low := low) (s := s) (L := []) (wf_u32 hv) hlow
  exact law_walk mixed named h Rep.empty (.cons (.flat1 rfl) (.cons (.flat1 rfl) (.cons (.flat1 rfl) (.cons (.flat1 rfl) .nil)))) fun _ => own_nil

set_option maxRecDepth 100000 in
theorem lifted (os : Os) (started : os.Started) (H : Type) (enc : TypeId × Value → H) :
    ReturnsInHanded {} Try.checked os 8 .any (Rows.bitsHalvesSpec.pre6 enc Try.prog Try.f8 Rows.bitsHalvesRow.domain false) (Rows.bitsHalvesSpec.post enc Try.prog Try.f8 false true false false) := by
  refine returnsInHanded_of_change (C := Try.checked) own started (by kernel_rfl) Try.func8
    (ChangeSpec.witness6 (enc := enc) (C := Try.checked) false ⟨#[], #[.int .u32 0, .int .i64 0, .int .i64 0, .string ByteArray.empty], []⟩ 8 (by kernel_rfl) (by kernel_rfl) (by kernel_rfl) (by kernel_rfl)) ?_
  intro W base args ds gs before hval0 hW hcnd _
  have hval : ∀ (j : Nat) t v, Try.f8.params[j]? = some t → args[j]? = some v → Value.okWide Try.prog W .any base t v := hval0
  have hW' := hW
  obtain ⟨p, q, hA0, hV, rfl, hfz, hnd⟩ := hW
  have hA : DataW.TrodAll enc Try.prog W 0 (fun _ => true) true Try.f8.params.toList args.toList ds p := hA0
  rw [Try.params8] at hA hval
  obtain ⟨v0, vs0, d0, ds0, p0, q0, hargs, rfl, rfl, h0, r0⟩ := trodAll_cons hA
  obtain ⟨v1, vs1, d1, ds1, p1, q1, rfl, rfl, rfl, h1, r1⟩ := trodAll_cons r0
  obtain ⟨v2, vs2, d2, ds2, p2, q2, rfl, rfl, rfl, h2, r2⟩ := trodAll_cons r1
  obtain ⟨v3, vs3, d3, ds3, p3, q3, rfl, rfl, rfl, h3, r3⟩ := trodAll_cons r2
  obtain ⟨rfl, rfl, rfl⟩ := trodAll_nil r3
  obtain rfl : args = #[v0, v1, v2, v3] := by cases args; simp_all
  obtain ⟨rfl, rfl⟩ := trodVars_none hV
  obtain ⟨a0, rfl, rfl, rfl, w0⟩ := open_int Try.underlying32 (hval 0 32 v0 rfl rfl) h0
  obtain ⟨a1, rfl, rfl, rfl, w1⟩ := open_int Try.underlying3 (hval 1 3 v1 rfl rfl) h1
  obtain ⟨a2, rfl, rfl, rfl, w2⟩ := open_int Try.underlying3 (hval 2 3 v2 rfl rfl) h2
  obtain ⟨a3, rfl, rfl, rfl, w3⟩ := Go.ChangeMaps.open_string Try.underlying9 (hval 3 9 v3 rfl rfl) h3
  clear hA0 hval0
  refine (walk w0 w1 w2 w3).mono fun e W' ⟨he, bel⟩ => ?_
  subst he
  exact ⟨_, rfl, _, _, _, [], _, [], hW', trodAll_mk1 (shut_bool Try.underlying4 _), (trodAll_cons_mk (shut_int Try.underlying32 w0) (trodAll_cons_mk (shut_int Try.underlying3 w1) (trodAll_cons_mk (shut_int Try.underlying3 w2) (trodAll_cons_mk (Go.ChangeMaps.shut_string Try.underlying9 w3) trodAll_mk0)))), rfl, bel.frame _, fun h => by cases h⟩

theorem over : Rows.bitsHalvesRow.holds Try.pinned (OpenSpec.ofChange Rows.bitsHalvesSpec) :=
  OpenClaim.holds_of_wide 8 Try.f8 rfl rfl rfl rfl rfl rfl rfl ⟨rfl, rfl, rfl, rfl, rfl⟩ rfl rfl rfl rfl rfl (by kernel_rfl) Try.func8 (by kernel_rfl)
    (of_decide_eq_true (by kernel_rfl)) (by unfold Func.isWrapper; first | (rw [if_pos (by decide +kernel)]; kernel_rfl) | (rw [if_neg (by decide +kernel)]; exact ⟨rfl, rfl⟩))
    (fun os started H enc _ => lifted os started H enc)

end Go.Proofs.Ytlcchghlhfamjaa.BitsHalves
namespace Go.Proofs.Ytlcchghlhfamjaa

/-- The statement. -/
theorem bitsHalves_holds : Rows.BitsHalvesSaid := BitsHalves.over

end Go.Proofs.Ytlcchghlhfamjaa
#print axioms Go.Proofs.Ytlcchghlhfamjaa.bitsHalves_holds

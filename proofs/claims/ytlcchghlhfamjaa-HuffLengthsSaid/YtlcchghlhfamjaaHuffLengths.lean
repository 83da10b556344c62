/- What is proved: 'Rows.HuffLengthsSaid': whatever comes in, the law HuffLengths returns true and leaves it as it was. No conditions. The law's printed form is run over the contracts of what it calls; the model follows the logical machine (RlmS18). -/
import Derived.Test.YtlcchghlhfamjaaRows
import Derived.WalkKit
import Derived.ProofKit
import Derived.OpenShut
import Derived.ShutString
import Derived.ChangeOld
import Derived.Below
import Derived.Test.YtlcchghlhfamjaaRlmArgs
import Derived.Test.YtlcchghlhfamjaaHuffRef
namespace Go.Proofs.Ytlcchghlhfamjaa.HuffLengths
open Go.ChangeShapes Go.WideShapes Go.ChangeAt Go.RowKit Go.Rlm Go.Proofs.Ytlcchghlhfamjaa.X
set_option linter.unusedVariables false

theorem own : ownKnob Try.prog.godebug = none := by kernel_rfl
theorem laidOut : laidOutB Try.prog = true := by kernel_rfl
theorem mixed : Try.prog.follows .mixedOrders = true := by kernel_rfl
theorem named : Try.prog.funcs.all (fun fn => !(fn.name == "runtime.NumGoroutine")) = true := by kernel_rfl

theorem inner {k j5 : Nat} {l1 l2 s : Sl} {z : Int} (hz : 0 ≤ z ∧ z < 10) : ∀ (m i j : Nat) (vs : List Value) (F : List Nat) (L : LHeap), i + m = vs.length → vs.length < 2 ^ 40 → m < j → WS L s vs 3 F →
    ∃ L', f9_l12 k j5 j l1 l2 z s (i : Int) L = f9_l5 k j5 l1 l2 (z + 1) L' ∧ Step F L F L' := by
  intro m
  induction m with
  | zero =>
    intro i j vs F L hi hl hj hw
    obtain ⟨j, rfl⟩ : ∃ j', j = j' + 1 := ⟨j - 1, by omega⟩
    have hn := hw.rd.len
    refine ⟨L, ?_, .refl _ _⟩
    rw [f9_l12_eq, decide_eq_false (by omega), lif_false, wI64 (n := z + 1) (by omega) (by omega)]
  | succ m ih =>
    intro i j vs F L hi hl hj hw
    obtain ⟨j, rfl⟩ : ∃ j', j = j' + 1 := ⟨j - 1, by omega⟩
    have hn := hw.rd.len
    obtain ⟨a, L1, c1, c2, c3, c4⟩ := hw.put (i := i) (by omega) (iV (-7))
    obtain ⟨L2, d1, d2⟩ := ih (i + 1) j _ F L1 (by simp; omega) (by simp; omega) (by omega) c3
    refine ⟨L2, ?_, c4.trans d2⟩
    have c2 : stores L a [Value.int .i64 (-7)] = some L1 := c2
    rw [← d1, f9_l12_eq, decide_eq_true (by omega)]
    simp only [lif_true, c1, obind_some, c2]
    rw [wI64 (n := (i : Int) + 1) (by omega) (by omega)]
    rfl

theorem outer {k : Nat} {l x : Sl} {zs : List Int} {A F : List Nat} (hs : zs.length ≤ 600) (hk : 3000 ≤ k) : ∀ (m i j : Nat) (L : LHeap), i + m = 2 → m < j → Rd L l (zs.map iV) A → WS L x (zs.map iV) 3 F → ∃ L', f9_l5 k j l x (i : Int) L = some (.ret (.bool true) L') := by
  intro m
  induction m with
  | zero =>
    intro i j L hi hj hl hx
    obtain ⟨j, rfl⟩ : ∃ j', j = j' + 1 := ⟨j - 1, by omega⟩
    have b1 := ints_ok (k := k) hx.rd hl (by omega) (by omega)
    obtain ⟨L2, c1, c2⟩ := awake_ok (k := k) (L := L) (by omega)
    refine ⟨L2, ?_⟩
    rw [f9_l5_eq, decide_eq_false (by omega), lif_false, b1]
    simp only [lbind_ret, asB_bool, obind_some, decide_true, lif_true, c1]
  | succ m ih =>
    intro i j L hi hj hl hx
    obtain ⟨j, rfl⟩ : ∃ j', j = j' + 1 := ⟨j - 1, by omega⟩
    obtain ⟨s, L1, F1, a1, a2, a3⟩ := lengths_ok (k := k) hx.rd (by omega) (by omega)
    have hl1 := hl.mono (a3.others hl.within (none_apart _))
    have hx1 := hx.mono (a3.others hx.within (none_apart _))
    obtain ⟨t, L2, F2, b1, b2, b3⟩ := lengthsR_ok (k := k) hl1 (by omega) (by omega)
    have hl2 := hl1.mono (b3.others hl1.within (none_apart _))
    have hx2 := hx1.mono (b3.others hx1.within (none_apart _))
    have a22 := a2.mono (b3.others a2.within (none_apart _))
    have hrl : (lenRes zs).length ≤ 600 := by
      unfold lenRes
      split
      · rw [lengthsOf_length]; exact hs
      · simp
    have c1 := ints_ok (k := k) a22.rd b2.rd (by omega) (by omega)
    have apx : Apart F1 F := a3.apart hx.within (none_apart _)
    have apl : Apart F1 A := a3.apart hl.within (none_apart _)
    obtain ⟨L3, d1, d2⟩ := inner (k := k) (j5 := j) (l1 := l) (l2 := x) (s := s) (z := (i : Int)) ⟨by omega, by omega⟩ (lenRes zs).length 0 k _ F1 L2 (by simp) (by simp; omega) (by omega) a22
    obtain ⟨L4, e1⟩ := ih (i + 1) j L3 (by omega) (by omega) (hl2.mono (d2.others hl2.within apl)) (hx2.mono (d2.others hx2.within apx))
    refine ⟨L4, ?_⟩
    have e1 : f9_l5 k j l x ((i : Int) + 1) L3 = some (.ret (.bool true) L4) := e1
    rw [show ((0 : Nat) : Int) = 0 from rfl, e1] at d1
    rw [f9_l5_eq, decide_eq_true (by omega)]
    simp only [lif_true, a1, b1, lbind_ret, tupL_tuple, uncons_cons, nilL_nil, asSl_slice, asI_int, asB_bool, obind_some, bne_self_eq_false, lif_false, c1, decide_true, Bool.not_true]
    exact d1

theorem run {k : Nat} (hk : 3000 ≤ k) {l : Sl} {zs : List Int} {A : List Nat} {L : LHeap} (hl : Rd L l (zs.map iV) A) : ∃ L', lcall Try.prog X.T (k + 1) 9 [.slice l.a l.n l.c] L = some (.ret (.bool true) L') := by
  show ∃ L', f9 (k + 1) l L = _
  have hn := hl.len
  simp only [List.length_map] at hn
  rw [f9_eq]
  by_cases h1 : zs.length > 600
  · obtain ⟨L1, w1, w2⟩ := awake_ok (k := k) (L := L) (by omega)
    rw [decide_eq_true (by omega)]
    exact ⟨L1, by simp only [lif_true, w1, lbind_ret, asB_bool, obind_some]⟩
  rw [decide_eq_false (by omega), lif_false]
  obtain ⟨x, L1, F1, c1, c2, c3, _⟩ := copy_ok (L := L) (vs := zs.map iV) 3 8 (by simp; omega) (by simp; omega)
  have hsrc := (hl.mono (L' := L ++ [LBlk.cells [] 3 false 0]) fun i hi => get_push (hl.within i hi)).src
  rw [List.length_map, ← hn] at c1
  obtain ⟨L2, e⟩ := outer (k := k) (l := l) (x := x) (zs := zs) (by omega) (by omega) 2 0 k L1 (by omega) (by omega) (hl.mono (c3.others hl.within (none_apart _))) c2
  refine ⟨L2, ?_⟩
  simp only [size3, bytes3, hsrc, obind_some, c1]
  exact e

theorem walk {w : World} {a : Option Addr} {len cap : Nat} {zs : List Int} (hl : zs.length = len) (hc : IsCells w a len cap 1 (zs.map (.int .i64 ·))) (hz : ∀ n ∈ zs, (Lit.int .i64 n).wf = true) :
    Calls Try.prog 9 #[.slice a len cap] w fun e w' => e = .returned (.bool true) ∧ Below w.heap.size w w' := by
  obtain ⟨m, L, l, A, _, hr, hno, hv, hi, hn, _, _⟩ := (Rep.empty (P := Try.prog) (w := w)).arg (fun _ => own_nil) hc (ints_flat _ zs)
  obtain ⟨L', h⟩ := run (Nat.le_refl 3000) hi.rd
  exact law_walk mixed named h hr (.cons hv .nil) hno

set_option maxRecDepth 100000 in
theorem lifted (os : Os) (started : os.Started) (H : Type) (enc : TypeId × Value → H) :
    ReturnsInHanded {} Try.checked os 9 .any (Rows.huffLengthsSpec.pre6 enc Try.prog Try.f9 Rows.huffLengthsRow.domain false) (Rows.huffLengthsSpec.post enc Try.prog Try.f9 false true false false) := by
  refine returnsInHanded_of_change (C := Try.checked) own started (by kernel_rfl) Try.func9
    (ChangeSpec.witness6 (enc := enc) (C := Try.checked) false ⟨#[], #[.slice none 0 0], []⟩ 8 (by kernel_rfl) (by kernel_rfl) (by kernel_rfl) (by kernel_rfl)) ?_
  intro W base args ds gs before hval0 hW hcnd _
  have hval : ∀ (j : Nat) t v, Try.f9.params[j]? = some t → args[j]? = some v → Value.okWide Try.prog W .any base t v := hval0
  have hW' := hW
  obtain ⟨p, q, hA0, hV, rfl, hfz, hnd⟩ := hW
  have hA : DataW.TrodAll enc Try.prog W 0 (fun _ => true) true Try.f9.params.toList args.toList ds p := hA0
  rw [Try.params9] at hA hval
  obtain ⟨v0, vs0, d0, ds0, p0, q0, hargs, rfl, rfl, h0, r0⟩ := trodAll_cons hA
  obtain ⟨rfl, rfl, rfl⟩ := trodAll_nil r0
  obtain rfl : args = #[v0] := by cases args; simp_all
  obtain ⟨rfl, rfl⟩ := trodVars_none hV
  obtain ⟨a0, len0, cap0, rfl⟩ := okWide_slice Try.underlying38 (hval 0 38 v0 rfl rfl)
  have k0 := h0
  have lt0 : ∀ x ∈ p0, x.block < W.heap.size := by obtain ⟨m, hm⟩ := k0; exact DataW.trod_lt m _ _ _ hm
  obtain ⟨z0, l0, w0, u0⟩ := open_cells Try.underlying38 Try.underlying3 (by kernel_rfl) h0
  clear hA0 hval0
  refine (walk l0 w0 u0).mono fun e W' ⟨he, bel⟩ => ?_
  subst he
  exact ⟨_, rfl, _, _, _, [], _, [], hW', trodAll_mk1 (shut_bool Try.underlying4 _), (trodAll_cons_mk (Below.trod laidOut (by kernel_rfl) (of_decide_eq_true (by kernel_rfl)) k0 bel lt0) trodAll_mk0), rfl, bel.frame _, fun h => by cases h⟩

theorem over : Rows.huffLengthsRow.holds Try.pinned (OpenSpec.ofChange Rows.huffLengthsSpec) :=
  OpenClaim.holds_of_wide 9 Try.f9 rfl rfl rfl rfl rfl rfl rfl ⟨rfl, rfl, rfl, rfl, rfl⟩ rfl rfl rfl rfl rfl (by kernel_rfl) Try.func9 (by kernel_rfl)
    (of_decide_eq_true (by kernel_rfl)) (by unfold Func.isWrapper; first | (rw [if_pos (by decide +kernel)]; kernel_rfl) | (rw [if_neg (by decide +kernel)]; exact ⟨rfl, rfl⟩))
    (fun os started H enc _ => lifted os started H enc)

end Go.Proofs.Ytlcchghlhfamjaa.HuffLengths
namespace Go.Proofs.Ytlcchghlhfamjaa

/-- The statement. -/
theorem huffLengths_holds : Rows.HuffLengthsSaid := HuffLengths.over

end Go.Proofs.Ytlcchghlhfamjaa
#print axioms Go.Proofs.Ytlcchghlhfamjaa.huffLengths_holds

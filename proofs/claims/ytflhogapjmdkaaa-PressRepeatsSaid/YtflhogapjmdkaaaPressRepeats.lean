/- What is proved: 'Rows.PressRepeatsSaid': whatever comes in, the law PressRepeats returns true and leaves it as it was. No conditions. The law's printed form is run over the contracts of what it calls; the model follows the logical machine (RlmS18). -/
import Derived.Test.YtflhogapjmdkaaaRows
import Derived.WalkKit
import Derived.ProofKit
import Derived.OpenShut
import Derived.ShutString
import Derived.ChangeOld
import Derived.Below
import Derived.Test.YtflhogapjmdkaaaPressRepeatsM4
namespace Go.Proofs.Ytflhogapjmdkaaa.PressRepeats
set_option maxRecDepth 100000
open Go.ChangeShapes Go.WideShapes Go.ChangeAt Go.RowKit Go.Rlm Go.Proofs.Ytflhogapjmdkaaa.X
set_option linter.unusedVariables false

theorem own : ownKnob Try.prog.godebug = none := by kernel_rfl
theorem laidOut : laidOutB Try.prog = true := by kernel_rfl
theorem mixed : Try.prog.follows .mixedOrders = true := by kernel_rfl
theorem named : Try.prog.funcs.all (fun fn => !(fn.name == "runtime.NumGoroutine")) = true := by kernel_rfl

theorem run {k : Nat} {s : ByteArray} {n1 : Int} {L : LHeap} (hk : 9000 ≤ k) : ∃ L', lcall Try.prog T k 11 [.string s, .int .i64 n1] L = some (.ret (.bool true) L') := by
  show ∃ L', f11 k s n1 L = _
  obtain ⟨k, rfl⟩ : ∃ k', k = k' + 1 := ⟨k - 1, by omega⟩
  rw [f11_eq]
  obtain ⟨L1, a1, a2⟩ := works_ok (k := k) (L := L) (by omega)
  rw [a1, lbind_ret, asB_bool, obind_some, Bool.not_true, lif_false]
  obtain ⟨L2, b1, b2⟩ := works_ok (k := k) (L := L1) (by omega)
  rw [toList_beq]
  by_cases h0 : s = ⟨#[]⟩
  · rw [decide_eq_true h0, lif_true, b1, lbind_ret, asB_bool, obind_some]
    exact ⟨L2, rfl⟩
  rw [decide_eq_false h0, lif_false]
  by_cases h1 : s.size > 100
  · rw [decide_eq_true (by omega), lif_true, b1, lbind_ret, asB_bool, obind_some]
    exact ⟨L2, rfl⟩
  rw [decide_eq_false (by omega), lif_false]
  obtain ⟨m, hm⟩ := wrapU_nat n1
  have hmod : m % 60 < 60 := Nat.mod_lt _ (by omega)
  rw [hm, show (60 : Int) = ((60 : Nat) : Int) from rfl, tmod_nat, wI64 (by omega) (by omega)]
  generalize m % 60 = n at *
  have hbl := bytesL_len s
  have hle : n * s.size ≤ 60 * s.size := Nat.mul_le_mul_right _ (by omega)
  have hsz : (repS n s).size = n * s.size := by rw [repS, strOf_size, repL_length, hbl]
  have hbs : bytesL (repS n s) = repL n (bytesL s) := bytesL_strOf (repL_small (bytesL_lt s))
  rw [many_ok (by omega) (by omega) (by omega), lbind_ret, asS_string, obind_some]
  obtain ⟨L3, c1, c2⟩ := press_ok (k := k) (s := repS n s) (L := L1) (by omega) (by omega)
  rw [c1, lbind_ret, asS_string, obind_some]
  have hpos : 0 < s.size := by
    rcases Nat.eq_zero_or_pos s.size with h | h
    · exact absurd (by rw [← strOf_bytesL s, List.eq_nil_of_length_eq_zero (hbl.trans h)]; rfl) h0
    · exact h
  have hag := repL_again n (bytesL s)
  have hpr := pressL_again hag (by omega) (by omega) (repL_small (bytesL_lt s)) (by rw [repL_length, hbl]; omega)
  have hps : (pressS (repS n s)).size = (pressL (repL n (bytesL s))).length := by rw [pressS, strOf_size, hbs]
  rw [repL_length, hbl] at hpr
  refine ⟨L3, ?_⟩
  rw [hsz, hps, show (258 : Int) = ((258 : Nat) : Int) from rfl, tdiv_nat]
  have hd : n * s.size / 258 ≤ 60 := by omega
  rw [wI64 (n := ((n * s.size / 258 : Nat) : Int)) (by omega) (by omega), wI64 (n := (s.size : Int) + _) (by omega) (by omega), wI64 (n := (s.size : Int) + _ + 4) (by omega) (by omega), wI64 (n := 7 * _) (by omega) (by omega), wI64 (n := 300 + _) (by omega) (by omega), decide_eq_true (by omega)]

theorem walk {w : World} {s : ByteArray} {n1 : Int} (hs : s.size ≤ maxLen) (hn : (Lit.int .i64 n1).wf = true) :
    Calls Try.prog 11 #[.string s, .int .i64 n1] w fun e w' => e = .returned (.bool true) ∧ Below w.heap.size w w' := by
  obtain ⟨L', h⟩ := run (k := 9000) (s := s) (n1 := n1) (L := []) (by omega)
  exact law_walk specOk mixed named h (Rep.empty (P := Try.prog) (w := w)) (.cons (.flat1 rfl) (.cons (.flat1 rfl) .nil)) (fun _ => own_nil)
set_option maxRecDepth 100000 in
theorem lifted (os : Os) (started : os.Started) (H : Type) (enc : TypeId × Value → H) :
    ReturnsInHanded {} Try.checked os 11 .any (Rows.pressRepeatsSpec.pre6 enc Try.prog Try.f11 Rows.pressRepeatsRow.domain false) (Rows.pressRepeatsSpec.post enc Try.prog Try.f11 false true false false) := by
  refine returnsInHanded_of_change (C := Try.checked) own started (by kernel_rfl) Try.func11
    (ChangeSpec.witness6 (enc := enc) (C := Try.checked) false ⟨#[], #[.string ByteArray.empty, .int .i64 0], []⟩ 8 (by kernel_rfl) (by kernel_rfl) (by kernel_rfl) (by kernel_rfl)) ?_
  intro W base args ds gs before hval0 hW hcnd _
  have hval : ∀ (j : Nat) t v, Try.f11.params[j]? = some t → args[j]? = some v → Value.okWide Try.prog W .any base t v := hval0
  have hW' := hW
  obtain ⟨p, q, hA0, hV, rfl, hfz, hnd⟩ := hW
  have hA : DataW.TrodAll enc Try.prog W 0 (fun _ => true) true Try.f11.params.toList args.toList ds p := hA0
  rw [Try.params11] at hA hval
  obtain ⟨v0, vs0, d0, ds0, p0, q0, hargs, rfl, rfl, h0, r0⟩ := trodAll_cons hA
  obtain ⟨v1, vs1, d1, ds1, p1, q1, rfl, rfl, rfl, h1, r1⟩ := trodAll_cons r0
  obtain ⟨rfl, rfl, rfl⟩ := trodAll_nil r1
  obtain rfl : args = #[v0, v1] := by cases args; simp_all
  obtain ⟨rfl, rfl⟩ := trodVars_none hV
  obtain ⟨a0, rfl, rfl, rfl, w0⟩ := Go.ChangeMaps.open_string Try.underlying9 (hval 0 9 v0 rfl rfl) h0
  obtain ⟨a1, rfl, rfl, rfl, w1⟩ := open_int Try.underlying3 (hval 1 3 v1 rfl rfl) h1
  clear hA0 hval0
  refine (walk w0 w1).mono fun e W' ⟨he, bel⟩ => ?_
  subst he
  exact ⟨_, rfl, _, _, _, [], _, [], hW', trodAll_mk1 (shut_bool Try.underlying4 _), (trodAll_cons_mk (Go.ChangeMaps.shut_string Try.underlying9 w0) (trodAll_cons_mk (shut_int Try.underlying3 w1) trodAll_mk0)), rfl, bel.frame _, fun h => by cases h⟩

theorem over : Rows.pressRepeatsRow.holds Try.pinned (OpenSpec.ofChange Rows.pressRepeatsSpec) :=
  OpenClaim.holds_of_wide 11 Try.f11 rfl rfl rfl rfl rfl rfl rfl ⟨rfl, rfl, rfl, rfl, rfl⟩ rfl rfl rfl rfl rfl (by kernel_rfl) Try.func11 (by kernel_rfl)
    (of_decide_eq_true (by kernel_rfl)) (by unfold Func.isWrapper; first | (rw [if_pos (by decide +kernel)]; kernel_rfl) | (rw [if_neg (by decide +kernel)]; exact ⟨rfl, rfl⟩))
    (fun os started H enc _ => lifted os started H enc)

end Go.Proofs.Ytflhogapjmdkaaa.PressRepeats
namespace Go.Proofs.Ytflhogapjmdkaaa

/-- The statement. -/
theorem pressRepeats_holds : Rows.PressRepeatsSaid := PressRepeats.over

end Go.Proofs.Ytflhogapjmdkaaa
#print axioms Go.Proofs.Ytflhogapjmdkaaa.pressRepeats_holds

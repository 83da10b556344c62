/- What is proved: 'Rows.BlockOnlySaid': whatever comes in, the law BlockOnly returns true and leaves it as it was. No conditions. The law's printed form is run over the contracts of what it calls; the model follows the logical machine (RlmS18). -/
import Derived.Test.YtflhogapjmdkaaaRows
import Derived.WalkKit
import Derived.ProofKit
import Derived.OpenShut
import Derived.ShutString
import Derived.ChangeOld
import Derived.Below
import Derived.Test.YtflhogapjmdkaaaBlockOnlyM4
namespace Go.Proofs.Ytflhogapjmdkaaa.BlockOnly
open Go.ChangeShapes Go.WideShapes Go.ChangeAt Go.RowKit Go.Rlm Go.Proofs.Ytflhogapjmdkaaa.X
set_option linter.unusedVariables false

theorem own : ownKnob Try.prog.godebug = none := by kernel_rfl
theorem laidOut : laidOutB Try.prog = true := by kernel_rfl
theorem mixed : Try.prog.follows .mixedOrders = true := by kernel_rfl
theorem named : Try.prog.funcs.all (fun fn => !(fn.name == "runtime.NumGoroutine")) = true := by kernel_rfl

theorem run {k : Nat} {s : ByteArray} {L : LHeap} (hk : 400000 ≤ k) : ∃ L', lcall Try.prog T k 7 [.string s] L = some (.ret (.bool true) L') := by
  show ∃ L', f7 k s L = _
  obtain ⟨k, rfl⟩ : ∃ k', k = k' + 1 := ⟨k - 1, by omega⟩
  rw [f7_eq]
  by_cases h : s.size > 600
  · obtain ⟨L', a1, _⟩ := awake_ok (k := k) (L := L) (by omega)
    rw [decide_eq_true (by omega), lif_true, a1]
    exact ⟨L', rfl⟩
  · obtain ⟨L1, a1, a2⟩ := awake_ok (k := k) (L := L) (by omega)
    rw [decide_eq_false (by omega), lif_false, a1]
    simp only [lbind_ret, asB_bool, obind_some, Bool.not_true, lif_false]
    have hu := unpack_ok (k := k) (s := s) (L := L1) (by omega) (by omega)
    match hx : unpackB (bytesL s) with
    | none =>
      rw [hx] at hu
      obtain ⟨L2, b1, b2⟩ := hu
      rw [b1]
      exact ⟨L2, rfl⟩
    | some ts =>
      rw [hx] at hu
      obtain ⟨l, L2, F2, b1, b2, b3⟩ := hu
      obtain ⟨g1, g2⟩ := unpack_wf hx
      rw [bytesL_length] at g2
      have hf : Fit ts := ⟨by omega, fun t ht => (g1 t ht).2⟩
      have hs : ∀ t ∈ ts, tokShape t = true := fun t ht => (g1 t ht).1
      rw [b1]
      simp only [lbind_ret, tupL_tuple, uncons_cons, nilL_nil, asSl_slice, asI_int, obind_some]
      rw [show ((0 : Int) != 0) = false from rfl, lif_false]
      have hl := OZ.rt b2
      obtain ⟨L3, c1, c2⟩ := pack_ok (k := k) hl hf (by omega)
      have hl3 := hl.mono (c2.others hl.within fun i hi => by cases hi)
      rw [c1, (packStr_ok hs).2]
      simp only [lbind_ret, tupL_tuple, uncons_cons, nilL_nil, asS_string, asI_int, obind_some]
      obtain ⟨m, L4, F4, d1, d2, d3⟩ := back_ok (k := k) (L := L3) hf hs (by omega)
      have hl4 := hl3.mono (d3.others hl3.within fun i hi => by cases hi)
      rw [d1]
      simp only [lbind_ret, tupL_tuple, uncons_cons, nilL_nil, asSl_slice, asI_int, obind_some]
      rw [show ((0 : Int) == 0) = true from rfl, lif_true, lif_true, same_ok (k := k) hl4 (OZ.rt d2) (by omega) (by omega) (by omega), decide_eq_true rfl]
      exact ⟨L4, rfl⟩

theorem walk {w : World} {s : ByteArray} (hs : s.size ≤ maxLen) : Calls Try.prog 7 #[.string s] w fun e w' => e = .returned (.bool true) ∧ Below w.heap.size w w' := by
  obtain ⟨L', h⟩ := run (k := 400000) (s := s) (L := []) (by omega)
  exact law_walk specOk mixed named h Rep.empty (.cons (.flat1 rfl) .nil) fun _ => own_nil

set_option maxRecDepth 100000 in
theorem lifted (os : Os) (started : os.Started) (H : Type) (enc : TypeId × Value → H) :
    ReturnsInHanded {} Try.checked os 7 .any (Rows.blockOnlySpec.pre6 enc Try.prog Try.f7 Rows.blockOnlyRow.domain false) (Rows.blockOnlySpec.post enc Try.prog Try.f7 false true false false) := by
  refine returnsInHanded_of_change (C := Try.checked) own started (by kernel_rfl) Try.func7
    (ChangeSpec.witness6 (enc := enc) (C := Try.checked) false ⟨#[], #[.string ByteArray.empty], []⟩ 8 (by kernel_rfl) (by kernel_rfl) (by kernel_rfl) (by kernel_rfl)) ?_
  intro W base args ds gs before hval0 hW hcnd _
  have hval : ∀ (j : Nat) t v, Try.f7.params[j]? = some t → args[j]? = some v → Value.okWide Try.prog W .any base t v := hval0
  have hW' := hW
  obtain ⟨p, q, hA0, hV, rfl, hfz, hnd⟩ := hW
  have hA : DataW.TrodAll enc Try.prog W 0 (fun _ => true) true Try.f7.params.toList args.toList ds p := hA0
  rw [Try.params7] at hA hval
  obtain ⟨v0, vs0, d0, ds0, p0, q0, hargs, rfl, rfl, h0, r0⟩ := trodAll_cons hA
  obtain ⟨rfl, rfl, rfl⟩ := trodAll_nil r0
  obtain rfl : args = #[v0] := by cases args; simp_all
  obtain ⟨rfl, rfl⟩ := trodVars_none hV
  obtain ⟨a0, rfl, rfl, rfl, w0⟩ := Go.ChangeMaps.open_string Try.underlying9 (hval 0 9 v0 rfl rfl) h0
  clear hA0 hval0
  refine (walk w0).mono fun e W' ⟨he, bel⟩ => ?_
  subst he
  exact ⟨_, rfl, _, _, _, [], _, [], hW', trodAll_mk1 (shut_bool Try.underlying4 _), (trodAll_cons_mk (Go.ChangeMaps.shut_string Try.underlying9 w0) trodAll_mk0), rfl, bel.frame _, fun h => by cases h⟩

theorem over : Rows.blockOnlyRow.holds Try.pinned (OpenSpec.ofChange Rows.blockOnlySpec) :=
  OpenClaim.holds_of_wide 7 Try.f7 rfl rfl rfl rfl rfl rfl rfl ⟨rfl, rfl, rfl, rfl, rfl⟩ rfl rfl rfl rfl rfl (by kernel_rfl) Try.func7 (by kernel_rfl)
    (of_decide_eq_true (by kernel_rfl)) (by unfold Func.isWrapper; first | (rw [if_pos (by decide +kernel)]; kernel_rfl) | (rw [if_neg (by decide +kernel)]; exact ⟨rfl, rfl⟩))
    (fun os started H enc _ => lifted os started H enc)

end Go.Proofs.Ytflhogapjmdkaaa.BlockOnly
namespace Go.Proofs.Ytflhogapjmdkaaa

/-- The statement. -/
theorem blockOnly_holds : Rows.BlockOnlySaid := BlockOnly.over

end Go.Proofs.Ytflhogapjmdkaaa
#print axioms Go.Proofs.Ytflhogapjmdkaaa.blockOnly_holds

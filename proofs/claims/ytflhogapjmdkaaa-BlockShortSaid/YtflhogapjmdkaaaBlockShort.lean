/- What is proved: 'Rows.BlockShortSaid': whatever comes in, the law BlockShort returns true and leaves it as it was. No conditions. The law's printed form is run over the contracts of what it calls; the model follows the logical machine (RlmS18). -/
import Derived.Test.YtflhogapjmdkaaaRows
import Derived.WalkKit
import Derived.ProofKit
import Derived.OpenShut
import Derived.ShutString
import Derived.ChangeOld
import Derived.Below
import Derived.Test.YtflhogapjmdkaaaM4
namespace Go.Proofs.Ytflhogapjmdkaaa.BlockShort
open Go.ChangeShapes Go.WideShapes Go.ChangeAt Go.RowKit Go.Rlm Go.Proofs.Ytflhogapjmdkaaa.X
set_option linter.unusedVariables false

theorem own : ownKnob Try.prog.godebug = none := by kernel_rfl
theorem laidOut : laidOutB Try.prog = true := by kernel_rfl
theorem mixed : Try.prog.follows .mixedOrders = true := by kernel_rfl
theorem named : Try.prog.funcs.all (fun fn => !(fn.name == "runtime.NumGoroutine")) = true := by kernel_rfl

theorem run {k : Nat} {l : Sl} {ts : List Tok} {A : List Nat} {L : LHeap} (hi : Inp L l 5 (toksCells ts) A) (hw : ∀ t ∈ ts, t.wf) (hk : 9000 ≤ k) : ∃ L', lcall Try.prog T k 8 [.slice l.a l.n l.c] L = some (.ret (.bool true) L') := by
  show ∃ L', f8 k l L = _
  obtain ⟨k, rfl⟩ : ∃ k', k = k' + 1 := ⟨k - 1, by omega⟩
  have hl := inp_rt hi
  have hn := hl.len
  rw [f8_eq]
  by_cases h : ts.length > 300
  · obtain ⟨L', a1, _⟩ := awake_ok (k := k) (L := L) (by omega)
    rw [decide_eq_true (by omega), lif_true, a1]
    exact ⟨L', rfl⟩
  · obtain ⟨L1, a1, a2⟩ := awake_ok (k := k) (L := L) (by omega)
    rw [decide_eq_false (by omega), lif_false, a1]
    simp only [lbind_ret, asB_bool, obind_some, Bool.not_true, lif_false]
    obtain ⟨L2, b1, b2⟩ := pack_ok (k := k) (hl.mono (a2.others hl.within fun i hi => by cases hi)) ⟨by omega, hw⟩ (by omega)
    rw [b1]
    simp only [lbind_ret, tupL_tuple, uncons_cons, nilL_nil, asS_string, asI_int, obind_some]
    by_cases hs : ∀ t ∈ ts, tokShape t = true
    · have hsz := packStr_size (ts := ts) (by omega)
      rw [(packStr_ok hs).2, show ((0 : Int) != 0) = false from rfl, lif_false, show ((0 : Int) == 0) = true from rfl, lif_true, wI64 (by rw [wI64] <;> omega) (by rw [wI64] <;> omega), wI64 (by omega) (by omega), decide_eq_true (by omega)]
      exact ⟨L2, rfl⟩
    · rw [(packStr_bad hs).2, (packStr_bad hs).1, show ((4 : Int) != 0) = true from rfl, lif_true, str_beq, decide_eq_true rfl, lif_true]
      exact ⟨L2, rfl⟩

theorem walk {w : World} {a : Option Addr} {len cap : Nat} {zs : List Tok} (hl : zs.length = len) (hc : IsCells w a len cap 5 (toksCells zs)) (hz : ∀ t ∈ zs, t.wf) :
    Calls Try.prog 8 #[.slice a len cap] w fun e w' => e = .returned (.bool true) ∧ Below w.heap.size w w' := by
  obtain ⟨m, L, l, A, _, hr, hno, hv, hi, hn, _, _⟩ := (Rep.empty (P := Try.prog) (w := w)).arg (fun _ => own_nil) hc (toksCells_flat zs)
  obtain ⟨L', h⟩ := run (k := 9000) hi hz (by omega)
  exact law_walk specOk mixed named h hr (.cons hv .nil) hno

set_option maxRecDepth 100000 in
theorem lifted (os : Os) (started : os.Started) (H : Type) (enc : TypeId × Value → H) :
    ReturnsInHanded {} Try.checked os 8 .any (Rows.blockShortSpec.pre6 enc Try.prog Try.f8 Rows.blockShortRow.domain false) (Rows.blockShortSpec.post enc Try.prog Try.f8 false true false false) := by
  refine returnsInHanded_of_change (C := Try.checked) own started (by kernel_rfl) Try.func8
    (ChangeSpec.witness6 (enc := enc) (C := Try.checked) false ⟨#[], #[.slice none 0 0], []⟩ 8 (by kernel_rfl) (by kernel_rfl) (by kernel_rfl) (by kernel_rfl)) ?_
  intro W base args ds gs before hval0 hW hcnd _
  have hval : ∀ (j : Nat) t v, Try.f8.params[j]? = some t → args[j]? = some v → Value.okWide Try.prog W .any base t v := hval0
  have hW' := hW
  obtain ⟨p, q, hA0, hV, rfl, hfz, hnd⟩ := hW
  have hA : DataW.TrodAll enc Try.prog W 0 (fun _ => true) true Try.f8.params.toList args.toList ds p := hA0
  rw [Try.params8] at hA hval
  obtain ⟨v0, vs0, d0, ds0, p0, q0, hargs, rfl, rfl, h0, r0⟩ := trodAll_cons hA
  obtain ⟨rfl, rfl, rfl⟩ := trodAll_nil r0
  obtain rfl : args = #[v0] := by cases args; simp_all
  obtain ⟨rfl, rfl⟩ := trodVars_none hV
  obtain ⟨a0, len0, cap0, rfl⟩ := okWide_slice Try.underlying22 (hval 0 22 v0 rfl rfl)
  have k0 := h0
  have lt0 : ∀ x ∈ p0, x.block < W.heap.size := by obtain ⟨m, hm⟩ := k0; exact DataW.trod_lt m _ _ _ hm
  obtain ⟨z0, l0, w0, u0⟩ := open_tokens Try.underlying22 Try.underlying29 (by kernel_rfl) ⟨rfl, rfl, rfl, rfl, rfl⟩ ⟨by kernel_rfl, by kernel_rfl, by kernel_rfl, by kernel_rfl, by kernel_rfl⟩ Try.underlying5 Try.underlying5 Try.underlying3 Try.underlying3 Try.underlying3 h0
  clear hA0 hval0
  refine (walk l0 w0 u0).mono fun e W' ⟨he, bel⟩ => ?_
  subst he
  exact ⟨_, rfl, _, _, _, [], _, [], hW', trodAll_mk1 (shut_bool Try.underlying4 _), (trodAll_cons_mk (Below.trod laidOut (by kernel_rfl) (of_decide_eq_true (by kernel_rfl)) k0 bel lt0) trodAll_mk0), rfl, bel.frame _, fun h => by cases h⟩

theorem over : Rows.blockShortRow.holds Try.pinned (OpenSpec.ofChange Rows.blockShortSpec) :=
  OpenClaim.holds_of_wide 8 Try.f8 rfl rfl rfl rfl rfl rfl rfl ⟨rfl, rfl, rfl, rfl, rfl⟩ rfl rfl rfl rfl rfl (by kernel_rfl) Try.func8 (by kernel_rfl)
    (of_decide_eq_true (by kernel_rfl)) (by unfold Func.isWrapper; first | (rw [if_pos (by decide +kernel)]; kernel_rfl) | (rw [if_neg (by decide +kernel)]; exact ⟨rfl, rfl⟩))
    (fun os started H enc _ => lifted os started H enc)

end Go.Proofs.Ytflhogapjmdkaaa.BlockShort
namespace Go.Proofs.Ytflhogapjmdkaaa

/-- The statement. -/
theorem blockShort_holds : Rows.BlockShortSaid := BlockShort.over

end Go.Proofs.Ytflhogapjmdkaaa
#print axioms Go.Proofs.Ytflhogapjmdkaaa.blockShort_holds

/- What is proved: 'Rows.SliceBackCardSaid': whatever comes in, the law SliceBack returns true and leaves it as it was; the listed package variables are tied to the program's text. No conditions. The law's printed form is run over the entries of the machine's table; the model follows the logical machine (RlmS18). -/
import Derived.Test.YtffcfaabjodpcaaDoorTie
import Derived.Test.YtffcfaabjodpcaaDoorCards
import Derived.WalkKit
import Derived.ProofKit
import Derived.OpenShut
import Derived.ShutString
import Derived.ChangeOld
import Derived.Below
import Derived.LaidMore
import Derived.Lay
import Derived.SevenTiedAt
import Derived.Stop.Joined
import Derived.Test.YtffcfaabjodpcaaDoorSliceBackM3
namespace Go.Proofs.YtffcfaabjodpcaaDoor.SliceBack
set_option maxRecDepth 100000
open Go.ChangeShapes Go.WideShapes Go.ChangeAt Go.RowKit Go.Rlm
set_option linter.unusedVariables false

theorem own : ownKnob Tryd.prog.godebug = none := by kernel_rfl
theorem laidOut : laidOutB Tryd.prog = true := by kernel_rfl

theorem le_sums : ∀ (vs : List (List (List Nat))), ∀ v ∈ vs, v.length ≤ (vs.map List.length).sum
  | [], v, h => by simp at h
  | u :: vs, v, h => by
    rw [List.map_cons, List.sum_cons]
    rcases List.mem_cons.1 h with rfl | h
    · omega
    · have := le_sums vs v h; omega

theorem walk {w : World} (hL : laidMetH Tryd.prog Rows.sliceBackRow.laid w) {s : ByteArray} {d r z m : Int} {a : Option Addr} {len cap : Nat} {vs : List (List (List Nat))} (_ : s.size ≤ maxLen) (_ : (Lit.int .i64 d).wf = true) (_ : (Lit.int .i64 r).wf = true) (_ : (Lit.int .i64 z).wf = true) (_ : (Lit.int .i64 m).wf = true)
    (hV : IsVols w a len cap vs) :
    Calls Tryd.prog 5 #[.string s, .agg #[.int .i64 d, .int .i64 r, .int .i64 z, .int .i64 m], .slice a len cap] w fun e w' => e = .returned (.bool true) ∧ Below w.heap.size w w' := by
  obtain ⟨mm, L, l, F, _, hr, hno, hv, hrv, hF⟩ := vols_in (Rep.empty (P := Tryd.prog) (w := w)) (fun _ => own_nil) hV
  obtain ⟨h1, h2, h3, h4, _⟩ := hV
  have hm : maxLen = 9223372036854775807 := rfl
  obtain ⟨L', h⟩ := back_ok' (k := 4000000 + vs.length + (vs.map List.length).sum + 1) (by omega) (nb_small s) (d := d) (r := r) (z := z) (m := m) hrv hF (by omega) (by omega)
    (fun v hv => ⟨by have := (h4 v hv).1; omega, by have := le_sums vs v hv; omega⟩) fun v hv x hx n hn => (h4 v hv).2 x hx n hn
  rw [nb_str] at h
  exact law_walk specW X.mixed X.named h hr (globs_of hL) (.cons (.flat1 rfl) (.cons (VR.flat rfl) (.cons hv .nil))) hno
set_option maxRecDepth 100000 in
theorem lifted (os : Os) (started : os.Started) (H : Type) (enc : TypeId × Value → H) :
    ReturnsInHanded {} Tryd.checked os 5 .any (fun w args => (Rows.sliceBackSpec.pre enc Tryd.prog Tryd.f5 Rows.sliceBackRow.domain false w args ∧ laidMetH Tryd.prog Rows.sliceBackRow.laid w) ∧ sizedMet enc Tryd.prog Tryd.f5 (OpenSpec.ofChange Rows.sliceBackSpec) false w args)
      (Rows.sliceBackSpec.post enc Tryd.prog Tryd.f5 false true false false) := by
  refine returnsInHanded_of_change_and (C := Tryd.checked) (X := fun w _ => laidMetH Tryd.prog Rows.sliceBackRow.laid w) (fun _ _ _ hh h => h.of_heap hh) own started (by kernel_rfl) Tryd.func5
    (ChangeSpec.witness_shaped (enc := enc) (C := Tryd.checked) (os := os) (X := fun w _ => laidMetH Tryd.prog Rows.sliceBackRow.laid w) false (World.laidAll Tryd.prog os Rows.sliceBackRow.laid) #[.string ByteArray.empty, .agg #[.int .i64 0, .int .i64 0, .int .i64 0, .int .i64 0], .slice none 0 0] 8 (World.laidAll_os _ _ _)
      (World.shaped_of_ZipB (by kernel_rfl) (by kernel_rfl)) (by kernel_rfl) (by kernel_rfl) (by kernel_rfl)
      (by rw [MakeChecks.laidMetH_plain _ _ _ (by kernel_rfl)]; exact laidMet_laidAll _ (by kernel_rfl) (by kernel_rfl))) ?_
  intro W base args ds gs before hval0 hW hcnd _ hL _
  have hval : ∀ (j : Nat) t v, Tryd.f5.params[j]? = some t → args[j]? = some v → Value.okWide Tryd.prog W .any base t v := hval0
  have hW' := hW
  obtain ⟨p, q, hA0, hV, rfl, hfz, hnd⟩ := hW
  have hA : DataW.TrodAll enc Tryd.prog W 0 (fun _ => true) true Tryd.f5.params.toList args.toList ds p := hA0
  rw [Tryd.params5] at hA hval
  obtain ⟨v0, vs0, d0, ds0, p0, q0, hargs, rfl, rfl, h0, r0⟩ := trodAll_cons hA
  obtain ⟨v1, vs1, d1, ds1, p1, q1, rfl, rfl, rfl, h1, r1⟩ := trodAll_cons r0
  obtain ⟨v2, vs2, d2, ds2, p2, q2, rfl, rfl, rfl, h2, r2⟩ := trodAll_cons r1
  obtain ⟨rfl, rfl, rfl⟩ := trodAll_nil r2
  obtain rfl : args = #[v0, v1, v2] := by cases args; simp_all
  obtain ⟨rfl, rfl⟩ := trodVars_none hV
  obtain ⟨a0, rfl, rfl, rfl, w0⟩ := Go.ChangeMaps.open_string Tryd.underlying9 (hval 0 9 v0 rfl rfl) h0
  have k1 := h1
  obtain ⟨z1a, z1b, z1c, z1d, rfl, hp1, w1a, w1b, w1c, w1d⟩ := open_four Tryd.underlying23 (by kernel_rfl) (by kernel_rfl) Tryd.underlying3 rfl rfl rfl rfl (hval 1 23 v1 rfl rfl) h1
  have lt1 : ∀ x ∈ p1, x.block < W.heap.size := by rw [hp1]; intro x hx; cases hx
  have k2 := h2
  have lt2 : ∀ x ∈ p2, x.block < W.heap.size := by obtain ⟨m, hm⟩ := k2; exact DataW.trod_lt m _ _ _ hm
  obtain ⟨a2, len2, cap2, vs2, rfl, l2⟩ := open_rows Tryd.underlying24 Tryd.underlying39 Tryd.underlying9 (by kernel_rfl) (by kernel_rfl) (hval 2 24 v2 rfl rfl) h2
  clear hA0 hval0
  refine (walk hL w0 w1a w1b w1c w1d l2).mono fun e W' ⟨he, bel⟩ => ?_
  subst he
  exact ⟨_, rfl, _, _, _, [], _, [], hW', trodAll_mk1 (shut_bool Tryd.underlying4 _), (trodAll_cons_mk (Go.ChangeMaps.shut_string Tryd.underlying9 w0) (trodAll_cons_mk (Below.trod laidOut (by kernel_rfl) (of_decide_eq_true (by kernel_rfl)) k1 bel lt1) (trodAll_cons_mk (Below.trod laidOut (by kernel_rfl) (of_decide_eq_true (by kernel_rfl)) k2 bel lt2) trodAll_mk0))), rfl, bel.frame _, fun h => by cases h⟩

theorem over : Rows.sliceBackRow.holds Tryd.pinned (OpenSpec.ofChange Rows.sliceBackSpec) :=
  OpenClaim.holds_of_wide 5 Tryd.f5 rfl rfl rfl rfl rfl rfl rfl ⟨rfl, rfl, rfl, rfl, rfl⟩ rfl rfl rfl rfl rfl (by kernel_rfl) Tryd.func5 (by kernel_rfl)
    (of_decide_eq_true (by kernel_rfl)) (by unfold Func.isWrapper; first | (rw [if_pos (by decide +kernel)]; kernel_rfl) | (rw [if_neg (by decide +kernel)]; exact ⟨rfl, rfl⟩))
    (fun os started H enc _ => lifted os started H enc)

theorem card : Rows.SliceBackCardSaid :=
  Claim7.holds_tied_plain_at .later [] [.data, .data, .data, .data, .sentinel, .sentinel, .pinned] true (true, "3633c592ac90e686a30edb5d61e8924d1895e88b1559acd4bd5b79dd51f22322") true over (fun _ h => by cases h) (by kernel_rfl) (fun _ h => by cases h) sliceBack_row_tie rfl ⟨rfl, rfl⟩ (by kernel_rfl) rfl
    (fun f fn hf hfn => by
      obtain rfl : f = 5 := Option.some.inj ((show Tryd.prog.funcNamed "hamper/hamperlaw26.SliceBack" = some 5 by kernel_rfl).symm.trans hf) |>.symm
      obtain rfl : fn = Tryd.f5 := (Option.some.inj (Tryd.func5.symm.trans hfn)).symm
      exact ⟨by kernel_rfl, fun j t ht => by
        rw [Tryd.params5] at ht
        have hm : t ∈ [9, 23, 24] := by
          have := Array.mem_of_getElem? ht
          simpa using this
        have hall : ([9, 23, 24].all fun u => !Tryd.prog.wantsStandIn u) = true := by kernel_rfl
        exact (show Tryd.prog.wantsStandIn t = false by simpa using List.all_eq_true.1 hall t hm)⟩)
    (by kernel_rfl)

end Go.Proofs.YtffcfaabjodpcaaDoor.SliceBack
namespace Go.Proofs.YtffcfaabjodpcaaDoor

/-- The statement. -/
theorem sliceBack_holds : Rows.SliceBackCardSaid := SliceBack.card

end Go.Proofs.YtffcfaabjodpcaaDoor
#print axioms Go.Proofs.YtffcfaabjodpcaaDoor.sliceBack_holds

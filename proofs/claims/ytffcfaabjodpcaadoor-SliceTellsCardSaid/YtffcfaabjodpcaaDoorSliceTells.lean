/- What is proved: 'Rows.SliceTellsCardSaid': whatever comes in, the law SliceTells returns true and leaves it as it was; the listed package variables are tied to the program's text. No conditions. The law's printed form is run over the entries of the machine's table; the model follows the logical machine (RlmS18). -/
import Derived.Test.YtffcfaabjodpcaaDoorTie
import Derived.Test.YtffcfaabjodpcaaDoorCards
import Derived.WalkKit
import Derived.ProofKit
import Derived.OpenShut
import Derived.ShutString
import Derived.ChangeOld
import Derived.Below
import Derived.LaidMore
import Derived.Lay
import Derived.SevenTiedAt
import Derived.Stop.Joined
import Derived.Test.YtffcfaabjodpcaaDoorSliceTellsM4
namespace Go.Proofs.YtffcfaabjodpcaaDoor.SliceTells
set_option maxRecDepth 100000
open Go.ChangeShapes Go.WideShapes Go.ChangeAt Go.RowKit Go.Rlm
set_option linter.unusedVariables false

theorem own : ownKnob Tryd.prog.godebug = none := by kernel_rfl
theorem laidOut : laidOutB Tryd.prog = true := by kernel_rfl

theorem le_sums : ∀ (vs : List (List (List Nat))), ∀ v ∈ vs, v.length ≤ (vs.map List.length).sum
  | [], v, h => by simp at h
  | u :: vs, v, h => by
    rw [List.map_cons, List.sum_cons]
    rcases List.mem_cons.1 h with rfl | h
    · omega
    · have := le_sums vs v h; omega

theorem walk {w : World} (hL : laidMetH Tryd.prog Rows.sliceTellsRow.laid w) {s : ByteArray} {n d r z m : Int} {a : Option Addr} {len cap : Nat} {vs : List (List (List Nat))} (_ : s.size ≤ maxLen) (hn : (Lit.int .i64 n).wf = true) (_ : (Lit.int .i64 d).wf = true) (_ : (Lit.int .i64 r).wf = true) (_ : (Lit.int .i64 z).wf = true) (_ : (Lit.int .i64 m).wf = true)
    (hV : IsVols w a len cap vs) :
    Calls Tryd.prog 3 #[.string s, .int .i64 n, .agg #[.int .i64 d, .int .i64 r, .int .i64 z, .int .i64 m], .slice a len cap] w fun e w' => e = .returned (.bool true) ∧ Below w.heap.size w w' := by
  obtain ⟨mm, L, l, F, _, hr, hno, hv, hrv, hF⟩ := vols_in (Rep.empty (P := Tryd.prog) (w := w)) (fun _ => own_nil) hV
  obtain ⟨h1, h2, h3, h4, _⟩ := hV
  have hm : maxLen = 9223372036854775807 := rfl
  have hw : n < 9223372036854775808 := (wf_i64 hn).2
  obtain ⟨L', h⟩ := tells_ok' (k := 4000000 + vs.length + (vs.map List.length).sum + 1) (by omega) (nb_small s) (n := n) (d := d) (r := r) (z := z) (m := m) hw hrv hF (by omega) (by omega)
    (fun v hv => ⟨by have := (h4 v hv).1; omega, by have := le_sums vs v hv; omega⟩) fun v hv x hx n hn => (h4 v hv).2 x hx n hn
  rw [nb_str] at h
  exact law_walk specW X.mixed X.named h hr (globs_of hL) (.cons (.flat1 rfl) (.cons (.flat1 rfl) (.cons (VR.flat rfl) (.cons hv .nil)))) hno
set_option maxRecDepth 100000 in
theorem lifted (os : Os) (started : os.Started) (H : Type) (enc : TypeId × Value → H) :
    ReturnsInHanded {} Tryd.checked os 3 .any (fun w args => (Rows.sliceTellsSpec.pre enc Tryd.prog Tryd.f3 Rows.sliceTellsRow.domain false w args ∧ laidMetH Tryd.prog Rows.sliceTellsRow.laid w) ∧ sizedMet enc Tryd.prog Tryd.f3 (OpenSpec.ofChange Rows.sliceTellsSpec) false w args)
      (Rows.sliceTellsSpec.post enc Tryd.prog Tryd.f3 false true false false) := by
  refine returnsInHanded_of_change_and (C := Tryd.checked) (X := fun w _ => laidMetH Tryd.prog Rows.sliceTellsRow.laid w) (fun _ _ _ hh h => h.of_heap hh) own started (by kernel_rfl) Tryd.func3
    (ChangeSpec.witness_shaped (enc := enc) (C := Tryd.checked) (os := os) (X := fun w _ => laidMetH Tryd.prog Rows.sliceTellsRow.laid w) false (World.laidAll Tryd.prog os Rows.sliceTellsRow.laid) #[.string ByteArray.empty, .int .i64 0, .agg #[.int .i64 0, .int .i64 0, .int .i64 0, .int .i64 0], .slice none 0 0] 8 (World.laidAll_os _ _ _)
      (World.shaped_of_ZipB (by kernel_rfl) (by kernel_rfl)) (by kernel_rfl) (by kernel_rfl) (by kernel_rfl)
      (by rw [MakeChecks.laidMetH_plain _ _ _ (by kernel_rfl)]; exact laidMet_laidAll _ (by kernel_rfl) (by kernel_rfl))) ?_
  intro W base args ds gs before hval0 hW hcnd _ hL _
  have hval : ∀ (j : Nat) t v, Tryd.f3.params[j]? = some t → args[j]? = some v → Value.okWide Tryd.prog W .any base t v := hval0
  have hW' := hW
  obtain ⟨p, q, hA0, hV, rfl, hfz, hnd⟩ := hW
  have hA : DataW.TrodAll enc Tryd.prog W 0 (fun _ => true) true Tryd.f3.params.toList args.toList ds p := hA0
  rw [Tryd.params3] at hA hval
  obtain ⟨v0, vs0, d0, ds0, p0, q0, hargs, rfl, rfl, h0, r0⟩ := trodAll_cons hA
  obtain ⟨v1, vs1, d1, ds1, p1, q1, rfl, rfl, rfl, h1, r1⟩ := trodAll_cons r0
  obtain ⟨v2, vs2, d2, ds2, p2, q2, rfl, rfl, rfl, h2, r2⟩ := trodAll_cons r1
  obtain ⟨v3, vs3, d3, ds3, p3, q3, rfl, rfl, rfl, h3, r3⟩ := trodAll_cons r2
  obtain ⟨rfl, rfl, rfl⟩ := trodAll_nil r3
  obtain rfl : args = #[v0, v1, v2, v3] := by cases args; simp_all
  obtain ⟨rfl, rfl⟩ := trodVars_none hV
  obtain ⟨a0, rfl, rfl, rfl, w0⟩ := Go.ChangeMaps.open_string Tryd.underlying9 (hval 0 9 v0 rfl rfl) h0
  obtain ⟨a1, rfl, rfl, rfl, w1⟩ := open_int Tryd.underlying3 (hval 1 3 v1 rfl rfl) h1
  have k2 := h2
  obtain ⟨z2a, z2b, z2c, z2d, rfl, hp2, w2a, w2b, w2c, w2d⟩ := open_four Tryd.underlying23 (by kernel_rfl) (by kernel_rfl) Tryd.underlying3 rfl rfl rfl rfl (hval 2 23 v2 rfl rfl) h2
  have lt2 : ∀ x ∈ p2, x.block < W.heap.size := by rw [hp2]; intro x hx; cases hx
  have k3 := h3
  have lt3 : ∀ x ∈ p3, x.block < W.heap.size := by obtain ⟨m, hm⟩ := k3; exact DataW.trod_lt m _ _ _ hm
  obtain ⟨a3, len3, cap3, vs3, rfl, l3⟩ := open_rows Tryd.underlying24 Tryd.underlying39 Tryd.underlying9 (by kernel_rfl) (by kernel_rfl) (hval 3 24 v3 rfl rfl) h3
  clear hA0 hval0
  refine (walk hL w0 w1 w2a w2b w2c w2d l3).mono fun e W' ⟨he, bel⟩ => ?_
  subst he
  exact ⟨_, rfl, _, _, _, [], _, [], hW', trodAll_mk1 (shut_bool Tryd.underlying4 _), (trodAll_cons_mk (Go.ChangeMaps.shut_string Tryd.underlying9 w0) (trodAll_cons_mk (shut_int Tryd.underlying3 w1) (trodAll_cons_mk (Below.trod laidOut (by kernel_rfl) (of_decide_eq_true (by kernel_rfl)) k2 bel lt2) (trodAll_cons_mk (Below.trod laidOut (by kernel_rfl) (of_decide_eq_true (by kernel_rfl)) k3 bel lt3) trodAll_mk0)))), rfl, bel.frame _, fun h => by cases h⟩

theorem over : Rows.sliceTellsRow.holds Tryd.pinned (OpenSpec.ofChange Rows.sliceTellsSpec) :=
  OpenClaim.holds_of_wide 3 Tryd.f3 rfl rfl rfl rfl rfl rfl rfl ⟨rfl, rfl, rfl, rfl, rfl⟩ rfl rfl rfl rfl rfl (by kernel_rfl) Tryd.func3 (by kernel_rfl)
    (of_decide_eq_true (by kernel_rfl)) (by unfold Func.isWrapper; first | (rw [if_pos (by decide +kernel)]; kernel_rfl) | (rw [if_neg (by decide +kernel)]; exact ⟨rfl, rfl⟩))
    (fun os started H enc _ => lifted os started H enc)

theorem card : Rows.SliceTellsCardSaid :=
  Claim7.holds_tied_plain_at .later [] [.data, .data, .data, .data, .sentinel, .sentinel, .pinned] true (true, "3633c592ac90e686a30edb5d61e8924d1895e88b1559acd4bd5b79dd51f22322") true over (fun _ h => by cases h) (by kernel_rfl) (fun _ h => by cases h) sliceTells_row_tie rfl ⟨rfl, rfl⟩ (by kernel_rfl) rfl
    (fun f fn hf hfn => by
      obtain rfl : f = 3 := Option.some.inj ((show Tryd.prog.funcNamed "hamper/hamperlaw26.SliceTells" = some 3 by kernel_rfl).symm.trans hf) |>.symm
      obtain rfl : fn = Tryd.f3 := (Option.some.inj (Tryd.func3.symm.trans hfn)).symm
      exact ⟨by kernel_rfl, fun j t ht => by
        rw [Tryd.params3] at ht
        have hm : t ∈ [9, 3, 23, 24] := by
          have := Array.mem_of_getElem? ht
          simpa using this
        have hall : ([9, 3, 23, 24].all fun u => !Tryd.prog.wantsStandIn u) = true := by kernel_rfl
        exact (show Tryd.prog.wantsStandIn t = false by simpa using List.all_eq_true.1 hall t hm)⟩)
    (by kernel_rfl)

end Go.Proofs.YtffcfaabjodpcaaDoor.SliceTells
namespace Go.Proofs.YtffcfaabjodpcaaDoor

/-- The statement. -/
theorem sliceTells_holds : Rows.SliceTellsCardSaid := SliceTells.card

end Go.Proofs.YtffcfaabjodpcaaDoor
#print axioms Go.Proofs.YtffcfaabjodpcaaDoor.sliceTells_holds

/- What is proved: 'Rows.SlicePlacesCardSaid': whatever comes in, the law SlicePlaces returns true and leaves it as it was; the listed package variables are tied to the program's text. No conditions. The law's printed form is run over the entries of the machine's table; the model follows the logical machine (RlmS18). -/
import Derived.Test.YtffcfaabjodpcaaGreatDoorTie
import Derived.Test.YtffcfaabjodpcaaGreatDoorCards
import Derived.WalkKit
import Derived.ProofKit
import Derived.OpenShut
import Derived.ShutString
import Derived.ChangeOld
import Derived.Below
import Derived.LaidMore
import Derived.Lay
import Derived.SevenTiedAt
import Derived.Stop.Joined
import Derived.Test.YtffcfaabjodpcaaGreatDoorSlicePlacesM4
namespace Go.Proofs.YtffcfaabjodpcaaGreatDoor.SlicePlaces
set_option maxRecDepth 100000
open Go.ChangeShapes Go.WideShapes Go.ChangeAt Go.RowKit Go.Rlm
set_option linter.unusedVariables false

theorem own : ownKnob Tryz.prog.godebug = none := by kernel_rfl
theorem laidOut : laidOutB Tryz.prog = true := by kernel_rfl

theorem walk {w : World} (hL : laidMetH Tryz.prog Rows.slicePlacesRow.laid w) {b : ByteArray} {i k d r z m : Int} (_ : b.size ≤ maxLen) (_ : (Lit.int .i64 i).wf = true) (_ : (Lit.int .i64 k).wf = true)
    (_ : (Lit.int .i64 d).wf = true) (_ : (Lit.int .i64 r).wf = true) (_ : (Lit.int .i64 z).wf = true) (_ : (Lit.int .i64 m).wf = true) {s : ByteArray} (_ : s.size ≤ maxLen) :
    Calls Tryz.prog 3 #[.agg #[.string b, .int .i64 i, .int .i64 k, .int .i64 d, .int .i64 r, .int .i64 z, .int .i64 m], .string s] w fun e w' => e = .returned (.bool true) ∧ Below w.heap.size w w' :=
  pure_walk (G := globs) specPi X.mixed X.named (args := [.agg #[.string b, .int .i64 i, .int .i64 k, .int .i64 d, .int .i64 r, .int .i64 z, .int .i64 m], .string s]) rfl (places_ok 200 ⟨b, i, k, d, r, z, m⟩ s) (globs_of hL)

set_option maxRecDepth 100000 in
theorem lifted (os : Os) (started : os.Started) (H : Type) (enc : TypeId × Value → H) :
    ReturnsInHanded {} Tryz.checked os 3 .any (fun w args => (Rows.slicePlacesSpec.pre enc Tryz.prog Tryz.f3 Rows.slicePlacesRow.domain false w args ∧ laidMetH Tryz.prog Rows.slicePlacesRow.laid w) ∧ sizedMet enc Tryz.prog Tryz.f3 (OpenSpec.ofChange Rows.slicePlacesSpec) false w args)
      (Rows.slicePlacesSpec.post enc Tryz.prog Tryz.f3 false true false false) := by
  refine returnsInHanded_of_change_and (C := Tryz.checked) (X := fun w _ => laidMetH Tryz.prog Rows.slicePlacesRow.laid w) (fun _ _ _ hh h => h.of_heap hh) own started (by kernel_rfl) Tryz.func3
    (ChangeSpec.witness_shaped (enc := enc) (C := Tryz.checked) (os := os) (X := fun w _ => laidMetH Tryz.prog Rows.slicePlacesRow.laid w) false (World.laidAll Tryz.prog os Rows.slicePlacesRow.laid) #[.agg #[.string ByteArray.empty, .int .i64 0, .int .i64 0, .int .i64 0, .int .i64 0, .int .i64 0, .int .i64 0], .string ByteArray.empty] 8 (World.laidAll_os _ _ _)
      (World.shaped_of_ZipB (by kernel_rfl) (by kernel_rfl)) (by kernel_rfl) (by kernel_rfl) (by kernel_rfl)
      (by rw [MakeChecks.laidMetH_plain _ _ _ (by kernel_rfl)]; exact laidMet_laidAll _ (by kernel_rfl) (by kernel_rfl))) ?_
  intro W base args ds gs before hval0 hW hcnd _ hL _
  have hval : ∀ (j : Nat) t v, Tryz.f3.params[j]? = some t → args[j]? = some v → Value.okWide Tryz.prog W .any base t v := hval0
  have hW' := hW
  obtain ⟨p, q, hA0, hV, rfl, hfz, hnd⟩ := hW
  have hA : DataW.TrodAll enc Tryz.prog W 0 (fun _ => true) true Tryz.f3.params.toList args.toList ds p := hA0
  rw [Tryz.params3] at hA hval
  obtain ⟨v0, vs0, d0, ds0, p0, q0, hargs, rfl, rfl, h0, r0⟩ := trodAll_cons hA
  obtain ⟨v1, vs1, d1, ds1, p1, q1, rfl, rfl, rfl, h1, r1⟩ := trodAll_cons r0
  obtain ⟨rfl, rfl, rfl⟩ := trodAll_nil r1
  obtain rfl : args = #[v0, v1] := by cases args; simp_all
  obtain ⟨rfl, rfl⟩ := trodVars_none hV
  have k0 := h0
  obtain ⟨s0, z0a, z0b, z0c, z0d, z0e, z0f, rfl, hp0, w0s, w0a, w0b, w0c, w0d, w0e, w0f⟩ := open_place Tryz.underlying25 Tryz.underlying23 Tryz.underlying9 Tryz.underlying3 rfl rfl (by kernel_rfl) (hval 0 25 v0 rfl rfl) h0
  have lt0 : ∀ x ∈ p0, x.block < W.heap.size := by rw [hp0]; intro x hx; cases hx
  obtain ⟨a1, rfl, rfl, rfl, w1⟩ := Go.ChangeMaps.open_string Tryz.underlying9 (hval 1 9 v1 rfl rfl) h1
  clear hA0 hval0
  refine (walk hL w0s w0a w0b w0c w0d w0e w0f w1).mono fun e W' ⟨he, bel⟩ => ?_
  subst he
  exact ⟨_, rfl, _, _, _, [], _, [], hW', trodAll_mk1 (shut_bool Tryz.underlying4 _), (trodAll_cons_mk (Below.trod laidOut (by kernel_rfl) (of_decide_eq_true (by kernel_rfl)) k0 bel lt0) (trodAll_cons_mk (Go.ChangeMaps.shut_string Tryz.underlying9 w1) trodAll_mk0)), rfl, bel.frame _, fun h => by cases h⟩

theorem jf0 : (Rows.slicePlacesRow.inPlace == Tryz.prog.inPlace 3) = true := by kernel_rfl
theorem jf1 : (Rows.slicePlacesRow.unfollowed == Tryz.prog.unfollowed 3) = true := by kernel_rfl
theorem jf2 : (Rows.slicePlacesRow.recurses == Tryz.prog.recurses 3) = true := by kernel_rfl
theorem jf3 : (Rows.slicePlacesRow.named == Tryz.prog.varsNamed 3) = true := by kernel_rfl
theorem jf4 : mapsRowed Tryz.prog = true := by kernel_rfl
theorem joined : joinedFacts Tryz.prog 3 Tryz.f3 Rows.slicePlacesSpec Rows.slicePlacesRow = true := by
  unfold joinedFacts
  rw [jf0, jf1, jf2, jf3, jf4, laidOut]
  kernel_rfl

theorem over : Rows.slicePlacesRow.holds Tryz.pinned (OpenSpec.ofChange Rows.slicePlacesSpec) :=
  OpenClaim.holds_of_wide 3 Tryz.f3 rfl rfl rfl rfl rfl rfl rfl ⟨rfl, rfl, rfl, rfl, rfl⟩ rfl rfl rfl rfl rfl (by kernel_rfl) Tryz.func3 joined
    (of_decide_eq_true (by kernel_rfl)) (by unfold Func.isWrapper; first | (rw [if_pos (by decide +kernel)]; kernel_rfl) | (rw [if_neg (by decide +kernel)]; exact ⟨rfl, rfl⟩))
    (fun os started H enc _ => lifted os started H enc)

theorem card : Rows.SlicePlacesCardSaid :=
  Claim7.holds_tied_plain_at .later [] [.data, .data, .data, .data, .sentinel, .sentinel, .pinned] true (true, "87da0c133125941093e37766539c3545a86e0c770fbc9fe8750c7282488bfea4") true over (fun _ h => by cases h) (by kernel_rfl) (fun _ h => by cases h) slicePlaces_row_tie rfl ⟨rfl, rfl⟩ (by kernel_rfl) rfl
    (fun f fn hf hfn => by
      obtain rfl : f = 3 := Option.some.inj ((show Tryz.prog.funcNamed "hamper/hamperlaw26.SlicePlaces" = some 3 by kernel_rfl).symm.trans hf) |>.symm
      obtain rfl : fn = Tryz.f3 := (Option.some.inj (Tryz.func3.symm.trans hfn)).symm
      exact ⟨by kernel_rfl, fun j t ht => by
        rw [Tryz.params3] at ht
        have hm : t ∈ [25, 9] := by
          have := Array.mem_of_getElem? ht
          simpa using this
        have hall : ([25, 9].all fun u => !Tryz.prog.wantsStandIn u) = true := by kernel_rfl
        exact (show Tryz.prog.wantsStandIn t = false by simpa using List.all_eq_true.1 hall t hm)⟩)
    (by kernel_rfl)

end Go.Proofs.YtffcfaabjodpcaaGreatDoor.SlicePlaces
namespace Go.Proofs.YtffcfaabjodpcaaGreatDoor

/-- The statement. -/
theorem slicePlaces_holds : Rows.SlicePlacesCardSaid := SlicePlaces.card

end Go.Proofs.YtffcfaabjodpcaaGreatDoor
#print axioms Go.Proofs.YtffcfaabjodpcaaGreatDoor.slicePlaces_holds

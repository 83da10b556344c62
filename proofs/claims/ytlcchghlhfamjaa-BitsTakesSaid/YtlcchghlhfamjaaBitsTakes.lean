/- What is proved: 'Rows.BitsTakesSaid': whatever bytes and numbers come in, the law BitsTakes returns true and leaves them as they were. No conditions. The law's printed form is run over the contracts of the readers (BitsR); the model follows the logical machine (RlmS18). -/
import Derived.Test.YtlcchghlhfamjaaRows
import Derived.WalkKit
import Derived.ProofKit
import Derived.OpenShut
import Derived.ShutString
import Derived.ChangeOld
import Derived.Below
import Derived.Test.YtlcchghlhfamjaaRlmArgs
import Derived.Test.YtlcchghlhfamjaaBitsR
namespace Go.Proofs.Ytlcchghlhfamjaa.BitsTakes
open Go.ChangeShapes Go.WideShapes Go.ChangeAt Go.RowKit Go.Rlm Go.Proofs.Ytlcchghlhfamjaa.X
set_option linter.unusedVariables false

theorem own : ownKnob Try.prog.godebug = none := by kernel_rfl
theorem laidOut : laidOutB Try.prog = true := by kernel_rfl
theorem mixed : Try.prog.follows .mixedOrders = true := by kernel_rfl
theorem named : Try.prog.funcs.all (fun fn => !(fn.name == "runtime.NumGoroutine")) = true := by kernel_rfl

theorem round {k b x : Nat} {l : Sl} {zs : List Int} {A : List Nat} (hl : l.n = zs.length) (h1000 : zs.length ≤ 1000) (hk : 50000 ≤ k) :
    ∀ (m i j : Nat) (r : List Bool) (F : List Nat) (L : LHeap), i + m = zs.length → m < j → r.length ≤ 40000 → BR L b r → RR L x r F → b ∉ F → b ∉ A → Apart F A → Inp L l 1 (zs.map (.int .i64 ·)) A →
      ∃ L', f4_l6 k j l (some ⟨b, 0, none⟩) (some ⟨x, 0, none⟩) (i : Int) L = some (.ret (.bool true) L') := by
  intro m
  induction m with
  | zero =>
    intro i j r F L him hj hr hb hF hbF hbA hFA hA
    obtain ⟨j, rfl⟩ : ∃ j', j = j' + 1 := ⟨j - 1, by omega⟩
    refine ⟨L, ?_⟩
    rw [f4_l6_eq, decide_eq_false (by omega)]
    simp [left_ok hb (show 1 ≤ k by omega), rleft_ok hF (show 1 ≤ k by omega), end_ok hb (show 20 ≤ k by omega), rend_ok hF (by omega) (show r.length + 5 ≤ k by omega)]
  | succ m ih =>
    intro i j r F L him hj hr hb hF hbF hbA hFA hA
    obtain ⟨j, rfl⟩ : ∃ j', j = j' + 1 := ⟨j - 1, by omega⟩
    have hi : i < zs.length := by omega
    have hg : (zs.map (Value.int .i64 ·))[i * 1]? = some (.int .i64 zs[i]) := by simp [hi]
    obtain ⟨c, i1, i2⟩ := hA.get (i := i) (by omega) (by omega)
    obtain ⟨L1, a1, a2, a3⟩ := take_ok (k := k) (n := zs[i]) hb (by omega)
    have sb : Apart [b] A := fun y hy => by simp at hy; subst hy; exact hbA
    have sf : Apart [b] F := fun y hy => by simp at hy; subst hy; exact hbF
    have hA1 := a3.others hA.within sb
    have hF1 : RR L1 x r F := hF.mono (a3.others hF.within sf)
    obtain ⟨L2, F2, b1, b2, b3⟩ := rtake_ok (k := k) (n := zs[i]) hF1 (by omega)
    have hbF2 : b ∉ F2 := fun h => by
      rcases b3.foot b h with q | q
      · exact hbF q
      · have := a2.lt; omega
    have hb2 : BR L2 b (r.drop (takeCnt r zs[i])) := a2.mono (b3.keep b a2.lt hbF)
    have hA0 : Inp L1 l 1 (zs.map (.int .i64 ·)) A := hA.mono hA1
    have hA2 : Inp L2 l 1 (zs.map (.int .i64 ·)) A := hA0.mono (b3.others hA0.within hFA)
    have hr2 : (r.drop (takeCnt r zs[i])).length ≤ 40000 := by simp; omega
    obtain ⟨L4, e1⟩ := ih (i + 1) j _ F2 L2 (by omega) (by omega) hr2 hb2 b2 hbF2 hbA (b3.apart hA0.within hFA) hA2
    refine ⟨L4, ?_⟩
    have c0 : ∀ o, cell L ⟨c, o, none⟩ = (zs.map (Value.int .i64 ·))[o]? := i2 L fun _ _ => rfl
    have c1 : ∀ o, cell L1 ⟨c, o, none⟩ = (zs.map (Value.int .i64 ·))[o]? := i2 L1 hA1
    rw [f4_l6_eq, decide_eq_true (by omega)]
    simp only [lif_true, lif_false, i1, obind_some, c0, c1, hg, Option.bind_some, asI_int, a1, b1, lbind_ret, taken, tupL_tuple, uncons_cons, nilL_nil, bne_self_eq_false,
      left_ok hb2 (show 1 ≤ k by omega), rleft_ok b2 (show 1 ≤ k by omega), end_ok hb2 (show 20 ≤ k by omega), rend_ok b2 (by omega) (show (r.drop (takeCnt r zs[i])).length + 5 ≤ k by omega), asB_bool, BEq.rfl, Bool.not_true]
    rw [wI64 (n := (i : Int) + 1) (by omega) (by omega)]
    exact e1

theorem run {s : ByteArray} {l : Sl} {zs : List Int} {A : List Nat} {L : LHeap} (hl : l.n = zs.length) (hA : Inp L l 1 (zs.map (.int .i64 ·)) A) :
    ∃ L', lcall Try.prog X.T 50001 4 [.string s, .slice l.a l.n l.c] L = some (.ret (.bool true) L') := by
  show ∃ L', f4 50001 s l L = _
  rw [f4_eq]
  by_cases h : s.size > 5000
  · rw [decide_eq_true (by omega)]
    exact ⟨L, rfl⟩
  by_cases h2 : zs.length > 1000
  · rw [decide_eq_false (by omega), decide_eq_true (by omega)]
    exact ⟨L, rfl⟩
  · rw [decide_eq_false (by omega), decide_eq_false (by omega)]
    obtain ⟨L1, a1, a2, a3⟩ := open_ok (k := 50000) (s := s) (L := L) (by omega) (by omega)
    obtain ⟨L2, F, b1, b2, b3⟩ := ropen_ok (k := 50000) (s := s) (L := L1) (by omega) (by omega)
    simp only [lif_false, a1, b1, lbind_ret, asP_pointer, obind_some]
    have none3 : ∀ (H : List Nat), Apart [] H := fun H i hi => by simp at hi
    have hA1 : Inp L1 l 1 (zs.map (.int .i64 ·)) A := hA.mono (a3.others hA.within (none3 _))
    have hlt : L.length < L1.length := a2.lt
    refine round hl (by omega) (by omega) zs.length 0 50000 (unpack s) F L2 (by omega) (by omega) (by simp; omega) (a2.mono (b3.keep _ hlt (by simp))) b2 ?_ ?_ (b3.apart hA1.within (none3 _)) (hA1.mono (b3.others hA1.within (none3 _)))
    · intro h
      rcases b3.foot _ h with q | q
      · simp at q
      · omega
    · intro h
      have := hA.within _ h
      omega

theorem walk {w : World} {s : ByteArray} {a : Option Addr} {len cap : Nat} {zs : List Int} (hs : s.size ≤ maxLen) (hl : zs.length = len) (hc : IsCells w a len cap 1 (zs.map (.int .i64 ·))) (hz : ∀ n ∈ zs, (Lit.int .i64 n).wf = true) :
    Calls Try.prog 4 #[.string s, .slice a len cap] w fun e w' => e = .returned (.bool true) ∧ Below w.heap.size w w' := by
  obtain ⟨m, L, l, A, _, hr, hno, hv, hi, hn, _, _⟩ := (Rep.empty (P := Try.prog) (w := w)).arg (fun _ => own_nil) hc (ints_flat _ zs)
  obtain ⟨L', h⟩ := run (s := s) (by omega) hi
  exact law_walk mixed named h hr (.cons (.flat1 rfl) (.cons hv .nil)) hno

set_option maxRecDepth 100000 in
theorem lifted (os : Os) (started : os.Started) (H : Type) (enc : TypeId × Value → H) :
    ReturnsInHanded {} Try.checked os 4 .any (Rows.bitsTakesSpec.pre6 enc Try.prog Try.f4 Rows.bitsTakesRow.domain false) (Rows.bitsTakesSpec.post enc Try.prog Try.f4 false true false false) := by
  refine returnsInHanded_of_change (C := Try.checked) own started (by kernel_rfl) Try.func4
    (ChangeSpec.witness6 (enc := enc) (C := Try.checked) false ⟨#[], #[.string ByteArray.empty, .slice none 0 0], []⟩ 8 (by kernel_rfl) (by kernel_rfl) (by kernel_rfl) (by kernel_rfl)) ?_
  intro W base args ds gs before hval0 hW hcnd _
  have hval : ∀ (j : Nat) t v, Try.f4.params[j]? = some t → args[j]? = some v → Value.okWide Try.prog W .any base t v := hval0
  have hW' := hW
  obtain ⟨p, q, hA0, hV, rfl, hfz, hnd⟩ := hW
  have hA : DataW.TrodAll enc Try.prog W 0 (fun _ => true) true Try.f4.params.toList args.toList ds p := hA0
  rw [Try.params4] at hA hval
  obtain ⟨v0, vs0, d0, ds0, p0, q0, hargs, rfl, rfl, h0, r0⟩ := trodAll_cons hA
  obtain ⟨v1, vs1, d1, ds1, p1, q1, rfl, rfl, rfl, h1, r1⟩ := trodAll_cons r0
  obtain ⟨rfl, rfl, rfl⟩ := trodAll_nil r1
  obtain rfl : args = #[v0, v1] := by cases args; simp_all
  obtain ⟨rfl, rfl⟩ := trodVars_none hV
  obtain ⟨a0, rfl, rfl, rfl, w0⟩ := Go.ChangeMaps.open_string Try.underlying9 (hval 0 9 v0 rfl rfl) h0
  obtain ⟨a1, len1, cap1, rfl⟩ := okWide_slice Try.underlying38 (hval 1 38 v1 rfl rfl)
  have k1 := h1
  have lt1 : ∀ x ∈ p1, x.block < W.heap.size := by obtain ⟨m, hm⟩ := k1; exact DataW.trod_lt m _ _ _ hm
  obtain ⟨z1, l1, w1, u1⟩ := open_cells Try.underlying38 Try.underlying3 (by kernel_rfl) h1
  clear hA0 hval0
  refine (walk w0 l1 w1 u1).mono fun e W' ⟨he, bel⟩ => ?_
  subst he
  exact ⟨_, rfl, _, _, _, [], _, [], hW', trodAll_mk1 (shut_bool Try.underlying4 _), (trodAll_cons_mk (Go.ChangeMaps.shut_string Try.underlying9 w0) (trodAll_cons_mk (Below.trod laidOut (by kernel_rfl) (of_decide_eq_true (by kernel_rfl)) k1 bel lt1) trodAll_mk0)), rfl, bel.frame _, fun h => by cases h⟩

theorem over : Rows.bitsTakesRow.holds Try.pinned (OpenSpec.ofChange Rows.bitsTakesSpec) :=
  OpenClaim.holds_of_wide 4 Try.f4 rfl rfl rfl rfl rfl rfl rfl ⟨rfl, rfl, rfl, rfl, rfl⟩ rfl rfl rfl rfl rfl (by kernel_rfl) Try.func4 (by kernel_rfl)
    (of_decide_eq_true (by kernel_rfl)) (by unfold Func.isWrapper; first | (rw [if_pos (by decide +kernel)]; kernel_rfl) | (rw [if_neg (by decide +kernel)]; exact ⟨rfl, rfl⟩))
    (fun os started H enc _ => lifted os started H enc)

end Go.Proofs.Ytlcchghlhfamjaa.BitsTakes
namespace Go.Proofs.Ytlcchghlhfamjaa

/-- The statement. -/
theorem bitsTakes_holds : Rows.BitsTakesSaid := BitsTakes.over

end Go.Proofs.Ytlcchghlhfamjaa
#print axioms Go.Proofs.Ytlcchghlhfamjaa.bitsTakes_holds

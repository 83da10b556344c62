/- What is proved: 'Rows.PressPlainSaid': whatever comes in, the law PressPlain returns true and leaves it as it was. No conditions. The law's printed form is run over the contracts of what it calls; the model follows the logical machine (RlmS18). -/
import Derived.Test.YtflhogapjmdkaaaRows
import Derived.WalkKit
import Derived.ProofKit
import Derived.OpenShut
import Derived.ShutString
import Derived.ChangeOld
import Derived.Below
import Derived.Test.YtflhogapjmdkaaaPressPlainM5
namespace Go.Proofs.Ytflhogapjmdkaaa.PressPlain
set_option maxRecDepth 100000
open Go.ChangeShapes Go.WideShapes Go.ChangeAt Go.RowKit Go.Rlm Go.Proofs.Ytflhogapjmdkaaa.X
set_option linter.unusedVariables false

theorem own : ownKnob Try.prog.godebug = none := by kernel_rfl
theorem laidOut : laidOutB Try.prog = true := by kernel_rfl
theorem mixed : Try.prog.follows .mixedOrders = true := by kernel_rfl
theorem named : Try.prog.funcs.all (fun fn => !(fn.name == "runtime.NumGoroutine")) = true := by kernel_rfl

theorem run {k : Nat} {s : ByteArray} {n1 n2 : Int} {L : LHeap} (hn2 : 0 ≤ n2 ∧ n2 < 256) (hk : 260000 ≤ k) : ∃ L', lcall Try.prog T k 12 [.string s, .int .i64 n1, .int .u8 n2] L = some (.ret (.bool true) L') := by
  show ∃ L', f12 k s n1 n2 L = _
  obtain ⟨k, rfl⟩ : ∃ k', k = k' + 1 := ⟨k - 1, by omega⟩
  rw [f12_eq]
  obtain ⟨L1, a1, a2⟩ := works_ok (k := k) (L := L) (by omega)
  rw [a1, lbind_ret, asB_bool, obind_some, Bool.not_true, lif_false]
  obtain ⟨L2, b1, b2⟩ := works_ok (k := k) (L := L1) (by omega)
  by_cases h1 : s.size > 3000
  · rw [decide_eq_true (by omega), lif_true, b1, lbind_ret, asB_bool, obind_some]
    exact ⟨L2, rfl⟩
  rw [decide_eq_false (by omega), lif_false]
  have hbl := bytesL_len s
  have hsm := bytesL_lt s
  obtain ⟨L3, c1, c2⟩ := press_ok (k := k) (s := s) (L := L1) (by omega) (by omega)
  rw [c1, lbind_ret, asS_string, obind_some, fitsS_ok (by show 1 + s.size < _; omega), when_true, show ByteArray.mk #[0] ++ s = strOf (0 :: bytesL s) from cons_str 0 (by omega) s, expand_stored hsm (by omega), if_neg (by omega), lbind_ret, tupL_tuple, obind_some, uncons_cons, asS_string, obind_some,
    uncons_cons, asI_int, obind_some, nilL_nil, show ((0 : Int) != 0) = false from rfl, lif_false, strOf_bytesL, toList_beq, decide_eq_true rfl, Bool.not_true, lif_false]
  have hpl := pressL_small hsm (by omega)
  have hple := pressL_le (bytesL s)
  unfold pressS
  by_cases hc : (packB (findToks (bytesL s))).length < (bytesL s).length
  · -- said by tokens
    have hp : pressL (bytesL s) = 1 :: packB (findToks (bytesL s)) := by unfold pressL; rw [if_pos hc]
    have hfit := findToks_fit hsm (by omega)
    have hup := unpack_pack hfit (findToks_shape hsm)
    have hb1 := packB_ge (findToks (bytesL s)) hfit.1
    rw [hp] at hpl hple ⊢
    generalize packB (findToks (bytesL s)) = B at *
    have hB : ∀ x ∈ B, x < 256 := fun x hx => hpl x (by simp [hx])
    have hby : byteAt (strOf (1 :: B)) 0 = some 1 := by
      obtain ⟨y, y1, y2, y3⟩ := bytesL_at (s := strOf (1 :: B)) (i := 0) (by rw [strOf_size]; simp)
      rw [bytesL_strOf hpl] at y1
      simp at y1
      subst y1
      exact y2
    have hsz : (strOf (1 :: B)).size = B.length + 1 := by rw [strOf_size]; rfl
    have hne : B ≠ [] := by intro h; rw [h] at hb1; simp at hb1
    have hsub : subS (strOf (1 :: B)) none (some (IntKind.wrap .i64 (((strOf (1 :: B)).size : Int) - 1))) = some (strOf (1 :: B.dropLast)) := by
      rw [hsz, wI64 (by omega) (by omega), show ((B.length + 1 : Nat) : Int) - 1 = ((B.length : Nat) : Int) by omega]
      simp only [subS, bound_at (strOf (1 :: B)).size (show B.length ≤ (strOf (1 :: B)).size by omega), bound_out (Nat.zero_le _), Option.bind_eq_bind, Option.bind_some]
      rw [strOf_extract hpl, List.drop_zero, Nat.sub_zero, List.dropLast_eq_take]
      obtain ⟨m, hm⟩ : ∃ m, B.length = m + 1 := ⟨B.length - 1, by cases B with | nil => exact absurd rfl hne | cons _ _ => simp⟩
      rw [hm, List.take_succ_cons, Nat.add_sub_cancel]
    obtain ⟨L4, d1, d2⟩ := expand_bad (k := k) (b := B.dropLast) (limit := IntKind.wrap .i64 ((s.size : Int) + 9)) (L := L3) (fun x hx => hB x (List.dropLast_subset B hx)) (unpack_shorter hup hne) (by simp; omega) (by simp; omega)
    rw [hby, obind_some, show ((1 : Int) == 0) = false from rfl, lif_false, hsub, obind_some, d1, lbind_ret, tupL_tuple, obind_some, uncons_cons, asS_string, obind_some, uncons_cons, asI_int, obind_some, nilL_nil, bytes_one, obind_some, fitsS_ok (by rw [hsz, strOf_size]; simp; omega), when_true,
      strOf_app, List.cons_append]
    obtain ⟨L5, e1, e2⟩ := expand_bad (k := k) (b := B ++ [n2.toNat]) (limit := IntKind.wrap .i64 ((s.size : Int) + 9)) (L := L4 ++ [LBlk.cells [Value.int .u8 n2] 5 false 0]) (fun x hx => by
      rcases List.mem_append.1 hx with hx | hx
      · exact hB x hx
      · simp at hx; omega) (unpack_longer hup n2.toNat) (by simp; omega) (by simp; omega)
    rw [e1, lbind_ret, tupL_tuple, obind_some, uncons_cons, asS_string, obind_some, uncons_cons, asI_int, obind_some, nilL_nil, show ((4 : Int) == 4) = true from rfl, lif_true, lif_true, hsz, wI64 (by omega) (by omega), decide_eq_true (by omega)]
    exact ⟨L5, rfl⟩
  · -- stored
    have hp : pressL (bytesL s) = 0 :: bytesL s := by unfold pressL; rw [if_neg hc]
    rw [hp] at hpl hple ⊢
    have hsz : (strOf (0 :: bytesL s)).size = s.size + 1 := by rw [strOf_size, List.length_cons, hbl]
    have hby : byteAt (strOf (0 :: bytesL s)) 0 = some 0 := by
      obtain ⟨y, y1, y2, y3⟩ := bytesL_at (s := strOf (0 :: bytesL s)) (i := 0) (by omega)
      rw [bytesL_strOf hpl] at y1
      simp at y1
      subst y1
      exact y2
    obtain ⟨m, hm⟩ := wrapU_nat n1
    have hw : IntKind.wrap .u64 (((strOf (0 :: bytesL s)).size : Nat) : Int) = ((s.size + 1 : Nat) : Int) := by rw [hsz, wU64 (by omega) (by omega)]
    have hmod : m % (s.size + 1) < s.size + 1 := Nat.mod_lt _ (by omega)
    rw [hby, obind_some, show ((0 : Int) == 0) = true from rfl, lif_true, hw, decide_eq_false (by omega), Bool.not_false, when_true, hm, tmod_nat, wI64 (n := ((m % (s.size + 1) : Nat) : Int)) (by omega) (by omega), hsz]
    generalize m % (s.size + 1) = q at *
    rw [wI64 (by omega) (by omega), wI64 (by omega) (by omega), show ((s.size + 1 : Nat) : Int) - (q : Int) = ((s.size - q + 1 : Nat) : Int) by omega, show (s.size : Int) - (q : Int) = ((s.size - q : Nat) : Int) by omega]
    have hsub : subS (strOf (0 :: bytesL s)) none (some ((s.size - q + 1 : Nat) : Int)) = some (strOf (0 :: (bytesL s).take (s.size - q))) := by
      simp only [subS, bound_at (strOf (0 :: bytesL s)).size (show s.size - q + 1 ≤ (strOf (0 :: bytesL s)).size by omega), bound_out (Nat.zero_le _), Option.bind_eq_bind, Option.bind_some]
      rw [strOf_extract hpl, List.drop_zero, Nat.sub_zero, List.take_succ_cons]
    have hsub2 : subS s none (some ((s.size - q : Nat) : Int)) = some (strOf ((bytesL s).take (s.size - q))) := by
      simp only [subS, bound_at s.size (show s.size - q ≤ s.size by omega), bound_out (Nat.zero_le _), Option.bind_eq_bind, Option.bind_some]
      have := strOf_extract hsm 0 (s.size - q)
      rw [strOf_bytesL, List.drop_zero, Nat.sub_zero] at this
      rw [this]
    rw [hsub, obind_some, expand_stored (fun x hx => hsm x (List.mem_of_mem_take hx)) (by omega), if_neg (by simp), lbind_ret, tupL_tuple, obind_some, uncons_cons, asS_string, obind_some, uncons_cons, asI_int, obind_some, nilL_nil, show ((0 : Int) == 0) = true from rfl, lif_true, hsub2, obind_some, toList_beq,
      decide_eq_true rfl]
    exact ⟨L3, rfl⟩

theorem walk {w : World} {s : ByteArray} {n1 n2 : Int} (hs : s.size ≤ maxLen) (hn : (Lit.int .i64 n1).wf = true) (hb : (Lit.int .u8 n2).wf = true) :
    Calls Try.prog 12 #[.string s, .int .i64 n1, .int .u8 n2] w fun e w' => e = .returned (.bool true) ∧ Below w.heap.size w w' := by
  obtain ⟨L', h⟩ := run (k := 260000) (s := s) (n1 := n1) (n2 := n2) (L := []) (wf_u8 hb) (by omega)
  exact law_walk specOk mixed named h (Rep.empty (P := Try.prog) (w := w)) (.cons (.flat1 rfl) (.cons (.flat1 rfl) (.cons (.flat1 rfl) .nil))) (fun _ => own_nil)
set_option maxRecDepth 100000 in
theorem lifted (os : Os) (started : os.Started) (H : Type) (enc : TypeId × Value → H) :
    ReturnsInHanded {} Try.checked os 12 .any (Rows.pressPlainSpec.pre6 enc Try.prog Try.f12 Rows.pressPlainRow.domain false) (Rows.pressPlainSpec.post enc Try.prog Try.f12 false true false false) := by
  refine returnsInHanded_of_change (C := Try.checked) own started (by kernel_rfl) Try.func12
    (ChangeSpec.witness6 (enc := enc) (C := Try.checked) false ⟨#[], #[.string ByteArray.empty, .int .i64 0, .int .u8 0], []⟩ 8 (by kernel_rfl) (by kernel_rfl) (by kernel_rfl) (by kernel_rfl)) ?_
  intro W base args ds gs before hval0 hW hcnd _
  have hval : ∀ (j : Nat) t v, Try.f12.params[j]? = some t → args[j]? = some v → Value.okWide Try.prog W .any base t v := hval0
  have hW' := hW
  obtain ⟨p, q, hA0, hV, rfl, hfz, hnd⟩ := hW
  have hA : DataW.TrodAll enc Try.prog W 0 (fun _ => true) true Try.f12.params.toList args.toList ds p := hA0
  rw [Try.params12] at hA hval
  obtain ⟨v0, vs0, d0, ds0, p0, q0, hargs, rfl, rfl, h0, r0⟩ := trodAll_cons hA
  obtain ⟨v1, vs1, d1, ds1, p1, q1, rfl, rfl, rfl, h1, r1⟩ := trodAll_cons r0
  obtain ⟨v2, vs2, d2, ds2, p2, q2, rfl, rfl, rfl, h2, r2⟩ := trodAll_cons r1
  obtain ⟨rfl, rfl, rfl⟩ := trodAll_nil r2
  obtain rfl : args = #[v0, v1, v2] := by cases args; simp_all
  obtain ⟨rfl, rfl⟩ := trodVars_none hV
  obtain ⟨a0, rfl, rfl, rfl, w0⟩ := Go.ChangeMaps.open_string Try.underlying9 (hval 0 9 v0 rfl rfl) h0
  obtain ⟨a1, rfl, rfl, rfl, w1⟩ := open_int Try.underlying3 (hval 1 3 v1 rfl rfl) h1
  obtain ⟨a2, rfl, rfl, rfl, w2⟩ := open_int Try.underlying5 (hval 2 5 v2 rfl rfl) h2
  clear hA0 hval0
  refine (walk w0 w1 w2).mono fun e W' ⟨he, bel⟩ => ?_
  subst he
  exact ⟨_, rfl, _, _, _, [], _, [], hW', trodAll_mk1 (shut_bool Try.underlying4 _), (trodAll_cons_mk (Go.ChangeMaps.shut_string Try.underlying9 w0) (trodAll_cons_mk (shut_int Try.underlying3 w1) (trodAll_cons_mk (shut_int Try.underlying5 w2) trodAll_mk0))), rfl, bel.frame _, fun h => by cases h⟩

theorem over : Rows.pressPlainRow.holds Try.pinned (OpenSpec.ofChange Rows.pressPlainSpec) :=
  OpenClaim.holds_of_wide 12 Try.f12 rfl rfl rfl rfl rfl rfl rfl ⟨rfl, rfl, rfl, rfl, rfl⟩ rfl rfl rfl rfl rfl (by kernel_rfl) Try.func12 (by kernel_rfl)
    (of_decide_eq_true (by kernel_rfl)) (by unfold Func.isWrapper; first | (rw [if_pos (by decide +kernel)]; kernel_rfl) | (rw [if_neg (by decide +kernel)]; exact ⟨rfl, rfl⟩))
    (fun os started H enc _ => lifted os started H enc)

end Go.Proofs.Ytflhogapjmdkaaa.PressPlain
namespace Go.Proofs.Ytflhogapjmdkaaa

/-- The statement. -/
theorem pressPlain_holds : Rows.PressPlainSaid := PressPlain.over

end Go.Proofs.Ytflhogapjmdkaaa
#print axioms Go.Proofs.Ytflhogapjmdkaaa.pressPlain_holds

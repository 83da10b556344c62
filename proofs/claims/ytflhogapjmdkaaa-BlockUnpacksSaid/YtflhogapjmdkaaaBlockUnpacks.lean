/- What is proved: 'Rows.BlockUnpacksSaid': whatever comes in, the law BlockUnpacks returns true and leaves it as it was. No conditions. The law's printed form is run over the contracts of what it calls; the model follows the logical machine (RlmS18). -/
import Derived.Test.YtflhogapjmdkaaaRows
import Derived.WalkKit
import Derived.ProofKit
import Derived.OpenShut
import Derived.ShutString
import Derived.ChangeOld
import Derived.Below
import Derived.Test.YtflhogapjmdkaaaBlockUnpacksM5
namespace Go.Proofs.Ytflhogapjmdkaaa.BlockUnpacks
set_option maxRecDepth 100000
open Go.ChangeShapes Go.WideShapes Go.ChangeAt Go.RowKit Go.Rlm Go.Proofs.Ytflhogapjmdkaaa.X
set_option linter.unusedVariables false

theorem own : ownKnob Try.prog.godebug = none := by kernel_rfl
theorem laidOut : laidOutB Try.prog = true := by kernel_rfl
theorem mixed : Try.prog.follows .mixedOrders = true := by kernel_rfl
theorem named : Try.prog.funcs.all (fun fn => !(fn.name == "runtime.NumGoroutine")) = true := by kernel_rfl

/-- What came out is written over. -/
theorem mark_loop {k j4 : Nat} {s : ByteArray} {n2 : Int} : ∀ (m i j : Nat) (l : Sl) (vs : List Value) (F : List Nat) (L : LHeap), i + m = l.n → l.n < 2 ^ 40 → m < j → OZ L l vs 29 5 F →
    ∃ L', f4_l11 k j4 j s n2 l (i : Int) L = f4_l4 k j4 s (IntKind.wrap .i64 (n2 + 1)) L' := by
  intro m
  induction m with
  | zero =>
    intro i j l vs F L hi hn hj h
    obtain ⟨j, rfl⟩ : ∃ j', j = j' + 1 := ⟨j - 1, by omega⟩
    rw [f4_l11_eq, decide_eq_false (by omega), lif_false]
    exact ⟨L, rfl⟩
  | succ m ih =>
    intro i j l vs F L hi hn hj h
    obtain ⟨j, rfl⟩ : ∃ j', j = j' + 1 := ⟨j - 1, by omega⟩
    have hil : i < l.n := by omega
    rw [f4_l11_eq, decide_eq_true (by omega), lif_true, wI64 (n := (i : Int) + 1) (by omega) (by omega), show (i : Int) + 1 = ((i + 1 : Nat) : Int) by omega]
    obtain ⟨h1, h2, ⟨rfl, _, _⟩ | ⟨c, h3, h4, rfl⟩⟩ := h
    · simp at hil
    · have hix : idx l (i : Int) 5 = some ⟨c, i * 5, none⟩ := by
        rw [h3, idx_of hil]
        simp
      have hlt : i * 5 < vs.length := by rw [← h1]; exact Nat.mul_lt_mul_of_pos_right hil (by omega)
      rw [hix, obind_some, mk_add, stores_of h4 (by simp; omega), obind_some]
      refine ih (i + 1) j l _ [c] _ (by omega) hn (by omega) ⟨?_, h2, .inr ⟨c, h3, get_set_self h4, rfl⟩⟩
      simp only [setAll, List.length_set]
      exact h1

theorem round {k : Nat} {s : ByteArray} (hs : s.size ≤ 600) (hk : 400000 ≤ k) : ∀ (m n j : Nat) (L : LHeap), n + m = 2 → m < j → ∃ L', f4_l4 k j s (n : Int) L = some (.ret (.bool true) L') := by
  intro m
  induction m with
  | zero =>
    intro n j L hn hj
    obtain ⟨j, rfl⟩ : ∃ j', j = j' + 1 := ⟨j - 1, by omega⟩
    rw [f4_l4_eq, decide_eq_false (by omega), lif_false]
    obtain ⟨L', a1, _⟩ := awake_ok (k := k) (L := L) (by omega)
    rw [a1]
    exact ⟨L', rfl⟩
  | succ m ih =>
    intro n j L hn hj
    obtain ⟨j, rfl⟩ : ∃ j', j = j' + 1 := ⟨j - 1, by omega⟩
    rw [f4_l4_eq, decide_eq_true (by omega), lif_true]
    have next : ∀ M, ∃ L', f4_l4 k j s (IntKind.wrap .i64 ((n : Int) + 1)) M = some (.ret (.bool true) L') := fun M => by
      rw [wI64 (by omega) (by omega), show (n : Int) + 1 = ((n + 1 : Nat) : Int) by omega]
      exact ih (n + 1) j M (by omega) (by omega)
    have a := unpack_ok (k := k) (s := s) (L := L) (by omega) (by omega)
    match hx : unpackB (bytesL s) with
    | none =>
      rw [hx] at a
      obtain ⟨L1, a1, a2⟩ := a
      have b := runpack_ok (k := k) (s := s) (L := L1) (by omega) (by omega)
      rw [hx] at b
      obtain ⟨L2, b1, b2⟩ := b
      rw [a1, lbind_ret, tupL_tuple, obind_some, uncons_cons, asSl_slice, obind_some, uncons_cons, asI_int, obind_some, nilL_nil]
      rw [b1, lbind_ret, tupL_tuple, obind_some, uncons_cons, asSl_slice, obind_some, uncons_cons, asI_int, obind_some, nilL_nil]
      have e : RT L2 ⟨none, 0, 0⟩ [] [] := ⟨rfl, .inl ⟨rfl, rfl⟩⟩
      rw [show ((4 : Int) != 4) = false from rfl, lif_false, same_ok (k := k) e e (by simp) (by simp) (by simp; omega), lbind_ret, asB_bool, obind_some, decide_eq_true rfl, Bool.not_true, lif_false]
      obtain ⟨L3, c1⟩ := mark_loop (k := k) (j4 := j) (s := s) (n2 := (n : Int)) 0 0 k ⟨none, 0, 0⟩ [] [] L2 rfl (by decide) (by omega) (OZ.nil _ _ (by omega))
      have c1' : f4_l11 k j k s (n : Int) ⟨none, 0, 0⟩ 0 L2 = f4_l4 k j s (IntKind.wrap .i64 ((n : Int) + 1)) L3 := c1
      rw [c1']
      exact next L3
    | some ts =>
      rw [hx] at a
      obtain ⟨l, L1, F1, a1, a2, a3⟩ := a
      obtain ⟨g1, g2⟩ := unpack_wf hx
      rw [bytesL_length] at g2
      have b := runpack_ok (k := k) (s := s) (L := L1) (by omega) (by omega)
      rw [hx] at b
      obtain ⟨l2, L2, F2, b1, b2, b3⟩ := b
      have a2' := a2.mono (b3.others a2.within fun i hi => by cases hi)
      rw [a1, lbind_ret, tupL_tuple, obind_some, uncons_cons, asSl_slice, obind_some, uncons_cons, asI_int, obind_some, nilL_nil]
      rw [b1, lbind_ret, tupL_tuple, obind_some, uncons_cons, asSl_slice, obind_some, uncons_cons, asI_int, obind_some, nilL_nil]
      rw [show ((0 : Int) != 0) = false from rfl, lif_false, same_ok (k := k) (OZ.rt a2') (OZ.rt b2) (by omega) (by omega) (by omega), lbind_ret, asB_bool, obind_some, decide_eq_true rfl, Bool.not_true, lif_false]
      have hn := (OZ.rt a2').len
      obtain ⟨L3, c1⟩ := mark_loop (k := k) (j4 := j) (s := s) (n2 := (n : Int)) l.n 0 k l _ F1 L2 (by omega) (by omega) (by omega) a2'
      have c1' : f4_l11 k j k s (n : Int) l 0 L2 = f4_l4 k j s (IntKind.wrap .i64 ((n : Int) + 1)) L3 := c1
      rw [c1']
      exact next L3

theorem run {k : Nat} {s : ByteArray} {L : LHeap} (hk : 400001 ≤ k) : ∃ L', lcall Try.prog T k 4 [.string s] L = some (.ret (.bool true) L') := by
  show ∃ L', f4 k s L = _
  obtain ⟨k, rfl⟩ : ∃ k', k = k' + 1 := ⟨k - 1, by omega⟩
  rw [f4_eq]
  by_cases h : s.size > 600
  · obtain ⟨L', a1, _⟩ := awake_ok (k := k) (L := L) (by omega)
    rw [decide_eq_true (by omega), lif_true, a1]
    exact ⟨L', rfl⟩
  · rw [decide_eq_false (by omega), lif_false]
    exact round (k := k) (by omega) (by omega) 2 0 k L rfl (by omega)

theorem walk {w : World} {s : ByteArray} (hs : s.size ≤ maxLen) : Calls Try.prog 4 #[.string s] w fun e w' => e = .returned (.bool true) ∧ Below w.heap.size w w' := by
  obtain ⟨L', h⟩ := run (k := 400001) (s := s) (L := []) (by omega)
  exact law_walk specOk mixed named h Rep.empty (.cons (.flat1 rfl) .nil) fun _ => own_nil

set_option maxRecDepth 100000 in
theorem lifted (os : Os) (started : os.Started) (H : Type) (enc : TypeId × Value → H) :
    ReturnsInHanded {} Try.checked os 4 .any (Rows.blockUnpacksSpec.pre6 enc Try.prog Try.f4 Rows.blockUnpacksRow.domain false) (Rows.blockUnpacksSpec.post enc Try.prog Try.f4 false true false false) := by
  refine returnsInHanded_of_change (C := Try.checked) own started (by kernel_rfl) Try.func4
    (ChangeSpec.witness6 (enc := enc) (C := Try.checked) false ⟨#[], #[.string ByteArray.empty], []⟩ 8 (by kernel_rfl) (by kernel_rfl) (by kernel_rfl) (by kernel_rfl)) ?_
  intro W base args ds gs before hval0 hW hcnd _
  have hval : ∀ (j : Nat) t v, Try.f4.params[j]? = some t → args[j]? = some v → Value.okWide Try.prog W .any base t v := hval0
  have hW' := hW
  obtain ⟨p, q, hA0, hV, rfl, hfz, hnd⟩ := hW
  have hA : DataW.TrodAll enc Try.prog W 0 (fun _ => true) true Try.f4.params.toList args.toList ds p := hA0
  rw [Try.params4] at hA hval
  obtain ⟨v0, vs0, d0, ds0, p0, q0, hargs, rfl, rfl, h0, r0⟩ := trodAll_cons hA
  obtain ⟨rfl, rfl, rfl⟩ := trodAll_nil r0
  obtain rfl : args = #[v0] := by cases args; simp_all
  obtain ⟨rfl, rfl⟩ := trodVars_none hV
  obtain ⟨a0, rfl, rfl, rfl, w0⟩ := Go.ChangeMaps.open_string Try.underlying9 (hval 0 9 v0 rfl rfl) h0
  clear hA0 hval0
  refine (walk w0).mono fun e W' ⟨he, bel⟩ => ?_
  subst he
  exact ⟨_, rfl, _, _, _, [], _, [], hW', trodAll_mk1 (shut_bool Try.underlying4 _), (trodAll_cons_mk (Go.ChangeMaps.shut_string Try.underlying9 w0) trodAll_mk0), rfl, bel.frame _, fun h => by cases h⟩

theorem over : Rows.blockUnpacksRow.holds Try.pinned (OpenSpec.ofChange Rows.blockUnpacksSpec) :=
  OpenClaim.holds_of_wide 4 Try.f4 rfl rfl rfl rfl rfl rfl rfl ⟨rfl, rfl, rfl, rfl, rfl⟩ rfl rfl rfl rfl rfl (by kernel_rfl) Try.func4 (by kernel_rfl)
    (of_decide_eq_true (by kernel_rfl)) (by unfold Func.isWrapper; first | (rw [if_pos (by decide +kernel)]; kernel_rfl) | (rw [if_neg (by decide +kernel)]; exact ⟨rfl, rfl⟩))
    (fun os started H enc _ => lifted os started H enc)

end Go.Proofs.Ytflhogapjmdkaaa.BlockUnpacks
namespace Go.Proofs.Ytflhogapjmdkaaa

/-- The statement. -/
theorem blockUnpacks_holds : Rows.BlockUnpacksSaid := BlockUnpacks.over

end Go.Proofs.Ytflhogapjmdkaaa
#print axioms Go.Proofs.Ytflhogapjmdkaaa.blockUnpacks_holds

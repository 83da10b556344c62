/- What is proved: 'Rows.HuffTwiceSaid': whatever comes in, the law HuffTwice returns true and leaves it as it was. No conditions. The law's printed form is run over the contracts of what it calls; the model follows the logical machine (RlmS18). -/
import Derived.Test.YtlcchghlhfamjaaRows
import Derived.WalkKit
import Derived.ProofKit
import Derived.OpenShut
import Derived.ShutString
import Derived.ChangeOld
import Derived.Below
import Derived.Test.YtlcchghlhfamjaaRlmArgs
import Derived.Test.YtlcchghlhfamjaaHuffRef
namespace Go.Proofs.Ytlcchghlhfamjaa.HuffTwice
open Go.ChangeShapes Go.WideShapes Go.ChangeAt Go.RowKit Go.Rlm Go.Proofs.Ytlcchghlhfamjaa.X
set_option linter.unusedVariables false

theorem own : ownKnob Try.prog.godebug = none := by kernel_rfl
theorem laidOut : laidOutB Try.prog = true := by kernel_rfl
theorem mixed : Try.prog.follows .mixedOrders = true := by kernel_rfl
theorem named : Try.prog.funcs.all (fun fn => !(fn.name == "runtime.NumGoroutine")) = true := by kernel_rfl

/-- Doubled. -/
def twice (fs : List Int) : List Int := fs.map fun f => 2 * f
def dbl : HT → HT
  | .leaf w i => .leaf (2 * w) i
  | .node l r => .node (dbl l) (dbl r)
theorem dbl_wt (t : HT) : (dbl t).wt = 2 * t.wt := by
  induction t with
  | leaf w i => rfl
  | node l r ihl ihr => simp only [dbl, HT.wt, ihl, ihr]; omega
theorem dbl_lay (t : HT) : ∀ n out, (dbl t).lay n out = t.lay n out := by
  induction t with
  | leaf w i => intro n out; rfl
  | node l r ihl ihr => intro n out; simp only [dbl, HT.lay, ihl, ihr]
theorem getD_dbl (ws : List Nat) (i : Nat) : (ws.map fun w => 2 * w).getD i 0 = 2 * ws.getD i 0 := by
  rw [List.getD_eq_getElem?_getD, List.getD_eq_getElem?_getD, List.getElem?_map]
  cases ws[i]? <;> rfl
theorem minLoop_dbl (ws : List Nat) : ∀ m i a, minLoop (ws.map fun w => 2 * w) m i a = minLoop ws m i a := by
  intro m
  induction m with
  | zero => intro i a; rfl
  | succ m ih =>
    intro i a
    simp only [minLoop, getD_dbl, ih]
    congr 1
    by_cases h : ws.getD i 0 < ws.getD a 0
    · rw [if_pos h, if_pos (by omega)]
    · rw [if_neg h, if_neg (by omega)]
theorem least_dbl (ts : List HT) : least (ts.map dbl) = least ts := by
  unfold least minAt
  have : (ts.map dbl).map HT.wt = (ts.map HT.wt).map fun w => 2 * w := by
    rw [List.map_map, List.map_map]
    apply List.map_congr_left
    intro t _
    exact dbl_wt t
  rw [this, minLoop_dbl, List.length_map]
theorem rest_dbl (ts : List HT) : rest (ts.map dbl) = (rest ts).map dbl := by
  unfold rest
  rw [least_dbl, map_erase]
theorem pick_dbl {ts : List HT} (h : ts ≠ []) : pick (ts.map dbl) = dbl (pick ts) := by
  have hl := least_lt h
  unfold pick
  rw [least_dbl, List.getD_eq_getElem?_getD, List.getD_eq_getElem?_getD, List.getElem?_map, List.getElem?_eq_getElem hl]
  rfl
theorem join_dbl {ts : List HT} (h : 2 ≤ ts.length) : join (ts.map dbl) = (join ts).map dbl := by
  have h1 : ts ≠ [] := by intro h0; subst h0; simp at h
  have h2 : rest ts ≠ [] := by intro h0; have := rest_length h1; rw [h0] at this; simp at this; omega
  unfold join
  rw [pick_dbl h1, rest_dbl, rest_dbl, pick_dbl h2, List.map_append]
  rfl
theorem joinAll_dbl : ∀ (m : Nat) (ts : List HT), ts.length = m + 1 → joinAll m (ts.map dbl) = (joinAll m ts).map dbl
  | 0, ts, _ => rfl
  | m + 1, ts, h => by
    simp only [joinAll]
    rw [join_dbl (by omega), joinAll_dbl m (join ts) (by rw [join_length (by omega)]; omega)]
theorem leaves_dbl (fs : List Int) (i : Nat) : leavesFrom i (twice fs) = (leavesFrom i fs).map dbl := by
  induction fs generalizing i with
  | nil => rfl
  | cons f fs ih =>
    simp only [twice, List.map_cons, leavesFrom]
    have ih := ih (i + 1)
    rw [twice] at ih
    by_cases h : f > 0
    · rw [if_pos h, if_pos (by omega), ih, List.map_cons, dbl]
      congr 2
      omega
    · rw [if_neg h, if_neg (by omega), ih]
theorem lensOf_dbl (fs : List Int) : lensOf (twice fs) = lensOf fs := by
  have hl : (twice fs).length = fs.length := by simp [twice]
  rcases Nat.lt_or_ge (leavesFrom 0 fs).length 2 with h | h
  · rcases Nat.eq_zero_or_pos (leavesFrom 0 fs).length with h0 | h0
    · have h0 := List.eq_nil_of_length_eq_zero h0
      rw [lensOf_nil h0, lensOf_nil (by rw [leaves_dbl, h0]; rfl), hl]
    · obtain ⟨t, ht⟩ := List.length_eq_one_iff.1 (show (leavesFrom 0 fs).length = 1 by omega)
      rw [lensOf_one ht, lensOf_one (t := dbl t) (by rw [leaves_dbl, ht]; rfl), hl, dbl_lay]
  · obtain ⟨m, hm⟩ : ∃ m, (leavesFrom 0 fs).length = m + 2 := ⟨(leavesFrom 0 fs).length - 2, by omega⟩
    obtain ⟨t, ht⟩ := List.length_eq_one_iff.1 (joinAll_length (m + 1) (leavesFrom 0 fs) (by omega))
    rw [lensOf_more hm ht, lensOf_more (m := m) (t := dbl t) (by rw [leaves_dbl, List.length_map, hm]) (by rw [leaves_dbl, joinAll_dbl _ _ (by omega), ht]; rfl), hl, dbl_lay]
theorem lensLoop_fit {n : Nat} {fs : List Int} (h : fits (lensOf fs) = true) : lensLoop n fs = lensOf fs := by
  cases n with
  | zero => rfl
  | succ n => simp only [lensLoop, h, if_true]

theorem twice_take {fs : List Int} {i : Nat} (h : i < fs.length) : twice (fs.take (i + 1)) = twice (fs.take i) ++ [2 * fs[i]] := by
  unfold twice; rw [take_succ_int h, List.map_append]; rfl

theorem collect2 {k : Nat} {l : Sl} {fs : List Int} {A : List Nat} (hs : fs.length ≤ 512) (hn : l.n = fs.length) : ∀ (m i j : Nat) (x : Sl) (F : List Nat) (L : LHeap), i + m = fs.length → m < j → OS L x ((twice (fs.take i)).map iV) 3 F → Rd L l (fs.map iV) A → Apart F A → (∀ f ∈ fs.take i, 0 ≤ f ∧ f ≤ 536870912) →
    (∃ L', f11_l5 k j l x (i : Int) L = some (.ret (.bool true) L')) ∨ ((∀ f ∈ fs, 0 ≤ f ∧ f ≤ 536870912) ∧ ∃ x' L' F', f11_l5 k j l x (i : Int) L = f11_l5 k (j - m) l x' (fs.length : Int) L' ∧ OS L' x' ((twice fs).map iV) 3 F' ∧ Rd L' l (fs.map iV) A ∧ Apart F' A) := by
  intro m
  induction m with
  | zero =>
    intro i j x F L hi hj ho hl hF hall
    obtain rfl : i = fs.length := by omega
    rw [List.take_length] at ho hall
    exact .inr ⟨hall, x, L, F, rfl, ho, hl, hF⟩
  | succ m ih =>
    intro i j x F L hi hj ho hl hF hall
    obtain ⟨j, rfl⟩ : ∃ j', j = j' + 1 := ⟨j - 1, by omega⟩
    have hiz : i < fs.length := by omega
    obtain ⟨a, a1, a2⟩ := hl.here (i := i) (v := iV fs[i]) (by simp [hiz])
    rw [f11_l5_eq, decide_eq_true (by omega), show j + 1 - (m + 1) = j - m by omega]
    simp only [lif_true, a1, a2, iV, obind_some, Option.bind_some, asI_int]
    by_cases h0 : fs[i] < 0
    · rw [decide_eq_true h0]
      exact .inl ⟨L, rfl⟩
    rw [decide_eq_false h0, lif_false]
    by_cases h1 : fs[i] > 536870912
    · rw [decide_eq_true h1]
      exact .inl ⟨L, rfl⟩
    rw [decide_eq_false h1, lif_false, wI64 (n := 2 * fs[i]) (by omega) (by omega), wI64 (n := (i : Int) + 1) (by omega) (by omega)]
    have htl : (twice (fs.take i)).length = i := by simp [twice]; omega
    obtain ⟨x', L1, F1, c1, c2, c3⟩ := (ho.mono (L' := L ++ [LBlk.cells [Value.int .i64 (2 * fs[i])] 3 false 0]) fun q hq => get_push (ho.within q hq)).app [Value.int .i64 (2 * fs[i])] 8 (by simp [htl]; omega) (by simp [htl]; omega)
    have c2 : OS L1 x' ((twice (fs.take i)).map iV ++ [2 * fs[i]].map iV) 3 F1 := c2
    rw [← List.map_append, ← twice_take hiz] at c2
    have st : Step F L F1 L1 := (Step.push F L _).trans c3
    have c1 : Rlm.app (L ++ [LBlk.cells [Value.int .i64 (2 * fs[i])] 3 false 0]) 3 1 8 x 1 [Value.int .i64 (2 * fs[i])] = some (x', L1) := c1
    simp only [size3, bytes3, src_new, obind_some, c1]
    refine ih (i + 1) j x' F1 L1 (by omega) (by omega) c2 (hl.mono (st.others hl.within hF)) (st.apart hl.within hF) (fun f hf => ?_)
    rw [take_succ_int hiz] at hf
    rcases List.mem_append.1 hf with hf | hf
    · exact hall f hf
    · simp at hf; omega

theorem run {k : Nat} (hk : 3000 ≤ k) {l : Sl} {fs : List Int} {A : List Nat} {L : LHeap} (hl : Rd L l (fs.map iV) A) : ∃ L', lcall Try.prog X.T (k + 1) 11 [.slice l.a l.n l.c] L = some (.ret (.bool true) L') := by
  show ∃ L', f11 (k + 1) l L = _
  have hn := hl.len
  simp only [List.length_map] at hn
  obtain ⟨L1, w1, w2⟩ := awake_ok (k := k) (L := L) (by omega)
  rw [f11_eq]
  by_cases h1 : fs.length > 512
  · rw [decide_eq_true (by omega)]
    exact ⟨L1, by simp only [lif_true, w1, lbind_ret, asB_bool, obind_some]⟩
  rw [decide_eq_false (by omega)]
  have hl1 := hl.mono (w2.others hl.within (none_apart _))
  simp only [lif_false, w1, lbind_ret, asB_bool, obind_some, Bool.not_true]
  rcases collect2 (k := k) (by omega) hn fs.length 0 k ⟨none, 0, 0⟩ [] L1 (by omega) (by omega) (.nil _ _) hl1 (none_apart _) (fun f hf => by simp at hf) with ⟨L2, e⟩ | ⟨hall, x, L2, F, e, ho, hl2, hF⟩
  · exact ⟨L2, e⟩
  have e : f11_l5 k k l ⟨none, 0, 0⟩ 0 L1 = f11_l5 k (k - fs.length) l x (fs.length : Int) L2 := e
  obtain ⟨j, hj⟩ : ∃ j, k - fs.length = j + 1 := ⟨k - fs.length - 1, by omega⟩
  rw [e, hj, f11_l5_eq, decide_eq_false (by omega), lif_false]
  have hok1 : lenOk fs = true := by
    simp only [lenOk, Bool.and_eq_true, decide_eq_true_eq, Bool.not_eq_true', List.any_eq_false]
    exact ⟨by omega, fun f hf => by have := hall f hf; simp [bad]; omega⟩
  have htl : (twice fs).length = fs.length := by simp [twice]
  have hok2 : lenOk (twice fs) = true := by
    simp only [lenOk, Bool.and_eq_true, decide_eq_true_eq, Bool.not_eq_true', List.any_eq_false]
    refine ⟨by omega, fun f hf => ?_⟩
    simp only [twice, List.mem_map] at hf
    obtain ⟨g, hg, rfl⟩ := hf
    have := hall g hg; simp [bad]; omega
  obtain ⟨s, L3, F3, a1, a2, a3⟩ := lengths_ok (k := k) hl2 (by omega) (by omega)
  have ho3 := ho.mono (a3.others ho.within (none_apart _))
  have hl3 := hl2.mono (a3.others hl2.within (none_apart _))
  obtain ⟨t, L4, F4, b1, b2, b3⟩ := lengths_ok (k := k) ho3.ws.rd (by omega) (by omega)
  have hl4 := hl3.mono (b3.others hl3.within (none_apart _))
  have a24 := a2.mono (b3.others a2.within (none_apart _))
  obtain ⟨u, L5, F5, c1, c2, c3⟩ := lengthsR_ok (k := k) hl4 (by omega) (by omega)
  have a25 := a24.mono (c3.others a24.within (none_apart _))
  have b25 := b2.mono (c3.others b2.within (none_apart _))
  rw [lenRes, if_pos hok1] at a25
  rw [lenRes, if_pos hok2] at b25
  have e1 : lenErr fs = 0 := by rw [lenErr, if_pos hok1]
  have e2 : lenErr (twice fs) = 0 := by rw [lenErr, if_pos hok2]
  rw [e1] at a1 c1
  rw [e2] at b1
  have d1 := ints_ok (k := k) a25.rd b25.rd (by rw [lengthsOf_length]; omega) (by rw [lengthsOf_length]; omega)
  refine ⟨L5, ?_⟩
  simp only [a1, b1, c1, lbind_ret, tupL_tuple, uncons_cons, nilL_nil, asSl_slice, asI_int, asB_bool, obind_some, hok1, Bool.true_and, BEq.rfl, lif_true]
  cases hfit : fits (lensOf fs) with
  | false => rfl
  | true =>
    have : lengthsOf fs = lengthsOf (twice fs) := by
      unfold lengthsOf
      rw [lensLoop_fit hfit, lensLoop_fit (by rw [lensOf_dbl]; exact hfit), lensOf_dbl]
    simp only [Bool.not_true, lif_false, d1, lbind_ret, asB_bool, obind_some, this, decide_true]

theorem walk {w : World} {a : Option Addr} {len cap : Nat} {zs : List Int} (hl : zs.length = len) (hc : IsCells w a len cap 1 (zs.map (.int .i64 ·))) (hz : ∀ n ∈ zs, (Lit.int .i64 n).wf = true) :
    Calls Try.prog 11 #[.slice a len cap] w fun e w' => e = .returned (.bool true) ∧ Below w.heap.size w w' := by
  obtain ⟨m, L, l, A, _, hr, hno, hv, hi, hn, _, _⟩ := (Rep.empty (P := Try.prog) (w := w)).arg (fun _ => own_nil) hc (ints_flat _ zs)
  obtain ⟨L', h⟩ := run (Nat.le_refl 3000) hi.rd
  exact law_walk mixed named h hr (.cons hv .nil) hno

set_option maxRecDepth 100000 in
theorem lifted (os : Os) (started : os.Started) (H : Type) (enc : TypeId × Value → H) :
    ReturnsInHanded {} Try.checked os 11 .any (Rows.huffTwiceSpec.pre6 enc Try.prog Try.f11 Rows.huffTwiceRow.domain false) (Rows.huffTwiceSpec.post enc Try.prog Try.f11 false true false false) := by
  refine returnsInHanded_of_change (C := Try.checked) own started (by kernel_rfl) Try.func11
    (ChangeSpec.witness6 (enc := enc) (C := Try.checked) false ⟨#[], #[.slice none 0 0], []⟩ 8 (by kernel_rfl) (by kernel_rfl) (by kernel_rfl) (by kernel_rfl)) ?_
  intro W base args ds gs before hval0 hW hcnd _
  have hval : ∀ (j : Nat) t v, Try.f11.params[j]? = some t → args[j]? = some v → Value.okWide Try.prog W .any base t v := hval0
  have hW' := hW
  obtain ⟨p, q, hA0, hV, rfl, hfz, hnd⟩ := hW
  have hA : DataW.TrodAll enc Try.prog W 0 (fun _ => true) true Try.f11.params.toList args.toList ds p := hA0
  rw [Try.params11] at hA hval
  obtain ⟨v0, vs0, d0, ds0, p0, q0, hargs, rfl, rfl, h0, r0⟩ := trodAll_cons hA
  obtain ⟨rfl, rfl, rfl⟩ := trodAll_nil r0
  obtain rfl : args = #[v0] := by cases args; simp_all
  obtain ⟨rfl, rfl⟩ := trodVars_none hV
  obtain ⟨a0, len0, cap0, rfl⟩ := okWide_slice Try.underlying38 (hval 0 38 v0 rfl rfl)
  have k0 := h0
  have lt0 : ∀ x ∈ p0, x.block < W.heap.size := by obtain ⟨m, hm⟩ := k0; exact DataW.trod_lt m _ _ _ hm
  obtain ⟨z0, l0, w0, u0⟩ := open_cells Try.underlying38 Try.underlying3 (by kernel_rfl) h0
  clear hA0 hval0
  refine (walk l0 w0 u0).mono fun e W' ⟨he, bel⟩ => ?_
  subst he
  exact ⟨_, rfl, _, _, _, [], _, [], hW', trodAll_mk1 (shut_bool Try.underlying4 _), (trodAll_cons_mk (Below.trod laidOut (by kernel_rfl) (of_decide_eq_true (by kernel_rfl)) k0 bel lt0) trodAll_mk0), rfl, bel.frame _, fun h => by cases h⟩

theorem over : Rows.huffTwiceRow.holds Try.pinned (OpenSpec.ofChange Rows.huffTwiceSpec) :=
  OpenClaim.holds_of_wide 11 Try.f11 rfl rfl rfl rfl rfl rfl rfl ⟨rfl, rfl, rfl, rfl, rfl⟩ rfl rfl rfl rfl rfl (by kernel_rfl) Try.func11 (by kernel_rfl)
    (of_decide_eq_true (by kernel_rfl)) (by unfold Func.isWrapper; first | (rw [if_pos (by decide +kernel)]; kernel_rfl) | (rw [if_neg (by decide +kernel)]; exact ⟨rfl, rfl⟩))
    (fun os started H enc _ => lifted os started H enc)

end Go.Proofs.Ytlcchghlhfamjaa.HuffTwice
namespace Go.Proofs.Ytlcchghlhfamjaa

/-- The statement. -/
theorem huffTwice_holds : Rows.HuffTwiceSaid := HuffTwice.over

end Go.Proofs.Ytlcchghlhfamjaa
#print axioms Go.Proofs.Ytlcchghlhfamjaa.huffTwice_holds

/- What is proved: 'Rows.HuffPrefixSaid': whatever comes in, the law HuffPrefix returns true and leaves it as it was. No conditions. The law's printed form is run over the contracts of what it calls; the model follows the logical machine (RlmS18). -/
import Derived.Test.YtlcchghlhfamjaaRows
import Derived.WalkKit
import Derived.ProofKit
import Derived.OpenShut
import Derived.ShutString
import Derived.ChangeOld
import Derived.Below
import Derived.Test.YtlcchghlhfamjaaRlmArgs
import Derived.Test.YtlcchghlhfamjaaHuffBits
namespace Go.Proofs.Ytlcchghlhfamjaa.HuffPrefix
open Go.ChangeShapes Go.WideShapes Go.ChangeAt Go.RowKit Go.Rlm Go.Proofs.Ytlcchghlhfamjaa.X
set_option linter.unusedVariables false

theorem own : ownKnob Try.prog.godebug = none := by kernel_rfl
theorem laidOut : laidOutB Try.prog = true := by kernel_rfl
theorem mixed : Try.prog.follows .mixedOrders = true := by kernel_rfl
theorem named : Try.prog.funcs.all (fun fn => !(fn.name == "runtime.NumGoroutine")) = true := by kernel_rfl

theorem less_txt : ∀ (a b : List Bool), a.length = b.length → Op.bytesLess (a.map fun x => if x then (49 : UInt8) else 48) (b.map fun x => if x then (49 : UInt8) else 48) = decide (bitNum a < bitNum b) := by
  have num : ∀ (x : Bool) (a : List Bool), bitNum (x :: a) = x.toNat * 2 ^ a.length + bitNum a := fun x a => by
    have := bitNum_append [x] a
    simpa [bitNum] using this
  intro a
  induction a with
  | nil => intro b hb; obtain rfl := List.eq_nil_of_length_eq_zero hb.symm; simp [Op.bytesLess, bitNum]
  | cons x a ih =>
    intro b hb
    cases b with
    | nil => simp at hb
    | cons y b =>
      simp only [List.length_cons, Nat.add_right_cancel_iff] at hb
      have ha := bitNum_lt a
      have hbb := bitNum_lt b
      rw [num, num, hb]
      rw [hb] at ha
      simp only [List.map_cons]
      cases x <;> cases y
      · simp only [Op.bytesLess]; simp [ih b hb]
      · simp only [Op.bytesLess]; simp; omega
      · simp only [Op.bytesLess]; simp; omega
      · simp only [Op.bytesLess]; simp [ih b hb]

/-- Of two codes the later one stands behind, bit by bit. -/
theorem later {zs : List Int} (hm : may zs = true) {i q : Nat} (hi : i < zs.length) (hq : q < zs.length) (zi : 0 < zs[i]) (h : zs[i] < zs[q] ∨ (zs[i] = zs[q] ∧ i < q)) :
    codeAt zs i < codeAt zs q / 2 ^ (zs[q].toNat - zs[i].toNat) := by
  obtain ⟨hok, _, _⟩ := may_ok hm
  have gi : zs.getD i 0 = zs[i] := by rw [List.getD_eq_getElem?_getD, List.getElem?_eq_getElem hi]; rfl
  have gq : zs.getD q 0 = zs[q] := by rw [List.getD_eq_getElem?_getD, List.getElem?_eq_getElem hq]; rfl
  have ci : codeAt zs i = fc zs zs[i].toNat + cnt (zs.take i) zs[i].toNat := by unfold codeAt; rw [gi, if_pos zi]
  have cq : codeAt zs q = fc zs zs[q].toNat + cnt (zs.take q) zs[q].toNat := by unfold codeAt; rw [gq, if_pos (by omega)]
  have hlt := cnt_take_lt hi (n := zs[i].toNat) (by omega)
  rcases h with h | ⟨h1, h2⟩
  · obtain ⟨d, hd⟩ : ∃ d, zs[q].toNat - zs[i].toNat = d + 1 := ⟨zs[q].toNat - zs[i].toNat - 1, by omega⟩
    have := fc_far (zs := zs) (n := zs[i].toNat) (by omega) d
    rw [show zs[i].toNat + (d + 1) = zs[q].toNat by omega] at this
    have hge : fc zs zs[i].toNat + cnt zs zs[i].toNat ≤ codeAt zs q / 2 ^ (d + 1) := by
      rw [Nat.le_div_iff_mul_le (Nat.two_pow_pos _)]; omega
    rw [hd]; omega
  · rw [show zs[q].toNat - zs[i].toNat = 0 by omega, Nat.pow_zero, Nat.div_one]
    have h3 := cnt_take_succ hi zs[i].toNat
    rw [if_pos (by omega)] at h3
    have h4 := cnt_take_le (zs.take q) (i + 1) zs[i].toNat
    rw [List.take_take, show min (i + 1) q = i + 1 by omega] at h4
    rw [cq, ← h1]; omega

theorem ok_pair {zs : List Int} (hm : may zs = true) {i q : Nat} (hi : i < zs.length) (hq : q < zs.length) (zi : 0 < zs[i]) (h : zs[i] < zs[q] ∨ (zs[i] = zs[q] ∧ i < q)) :
    subS (txt (bitsOf (codeAt zs q) zs[q].toNat)) none (some ((zs[i].toNat : Nat) : Int)) = some (txt (bitsOf (codeAt zs q / 2 ^ (zs[q].toNat - zs[i].toNat)) zs[i].toNat)) ∧
    (Op.bytesLess (txt (bitsOf (codeAt zs q / 2 ^ (zs[q].toNat - zs[i].toNat)) zs[i].toNat)).toList (txt (bitsOf (codeAt zs i) zs[i].toNat)).toList ||
      (txt (bitsOf (codeAt zs q / 2 ^ (zs[q].toNat - zs[i].toNat)) zs[i].toNat)).toList == (txt (bitsOf (codeAt zs i) zs[i].toNat)).toList) = false := by
  have hl := later hm hi hq zi h
  have hci := codeAt_lt hm hi zi
  have hcq := codeAt_lt hm hq (by omega)
  generalize hv : codeAt zs q / 2 ^ (zs[q].toNat - zs[i].toNat) = v at *
  have hv2 : v < 2 ^ zs[i].toNat := by
    rw [← hv, Nat.div_lt_iff_lt_mul (Nat.two_pow_pos _), ← Nat.pow_add, show zs[i].toNat + (zs[q].toNat - zs[i].toNat) = zs[q].toNat by omega]
    exact hcq
  constructor
  · have hs := bitsOf_split (codeAt zs q) zs[q].toNat (zs[q].toNat - zs[i].toNat) (by omega)
    rw [hv, show zs[q].toNat - (zs[q].toNat - zs[i].toNat) = zs[i].toNat by omega] at hs
    simp only [subS, bound, Option.bind_eq_bind, txt_size, bitsOf_length]
    rw [show (decide ((0 : Int) ≤ ((zs[i].toNat : Nat) : Int)) && decide (((zs[i].toNat : Nat) : Int) ≤ ((zs[q].toNat : Nat) : Int))) = true by simp only [Bool.and_eq_true, decide_eq_true_eq]; omega]
    simp only [cond_true, Option.bind_some, Int.toNat_natCast]
    rw [Nat.ble_eq_true_of_le (Nat.zero_le _)]
    simp only [cond_true, Option.bind_some]
    rw [txt_extract, List.drop_zero, hs, List.take_left' (by simp)]
  · rw [txt_inj, toList_data, toList_data]
    have := less_txt (bitsOf v zs[i].toNat) (bitsOf (codeAt zs i) zs[i].toNat) (by simp)
    simp only [txt]
    rw [this, bitNum_bitsOf, bitNum_bitsOf, Nat.mod_eq_of_lt hv2, Nat.mod_eq_of_lt hci, decide_eq_false (by omega), Bool.false_or]
    refine decide_eq_false (fun he => ?_)
    have h2 := congrArg bitNum he
    rw [bitNum_bitsOf, bitNum_bitsOf, Nat.mod_eq_of_lt hv2, Nat.mod_eq_of_lt hci] at h2
    omega

theorem inner {k j7 i : Nat} {l lc : Sl} {zs : List Int} {A C : List Nat} {L : LHeap} (hm : may zs = true) (hi : i < zs.length) (zi : 0 < zs[i]) (hl : Rd L l (zs.map iV) A) (hc : Rd L lc ((codesOf zs).map uV) C) (hk : 50 ≤ k) :
    ∀ (m q j : Nat), q + m = zs.length → m < j → f12_l16 k j7 j l lc (i : Int) (txt (bitsOf (codeAt zs i) zs[i].toNat)) (q : Int) L = f12_l7 k j7 l lc ((i + 1 : Nat) : Int) L := by
  obtain ⟨hok, h512, _⟩ := may_ok hm
  have hcn := hc.len
  simp only [List.length_map, codesOf_length] at hcn
  have ri := okLen_mem hok (List.getElem_mem hi)
  intro m
  induction m with
  | zero =>
    intro q j hq hj
    obtain ⟨j, rfl⟩ : ∃ j', j = j' + 1 := ⟨j - 1, by omega⟩
    rw [f12_l16_eq, decide_eq_false (by omega), wI64 (n := (i : Int) + 1) (by omega) (by omega)]
    rfl
  | succ m ih =>
    intro q j hq hj
    obtain ⟨j, rfl⟩ : ∃ j', j = j' + 1 := ⟨j - 1, by omega⟩
    have hqz : q < zs.length := by omega
    have rq := okLen_mem hok (List.getElem_mem hqz)
    obtain ⟨a, a1, a2⟩ := hl.here (i := q) (v := iV zs[q]) (by simp [hqz])
    obtain ⟨b, b1, b2⟩ := hl.here (i := i) (v := iV zs[i]) (by simp [hi])
    obtain ⟨c, c1, c2⟩ := hc.here (i := q) (v := uV (codeAt zs q)) (by rw [List.getElem?_map, codesOf_get hqz]; rfl)
    have hr := ih (q + 1) j (by omega) (by omega)
    have hc16 := codeAt_le hm q
    have h40 := bits40_ok (k := k) (v := codeAt zs q) (n := zs[q].toNat) (L := L) (by omega) (by omega) (by omega)
    rw [show ((zs[q].toNat : Nat) : Int) = zs[q] by omega] at h40
    rw [f12_l16_eq, decide_eq_true (by omega), wI64 (n := (q : Int) + 1) (by omega) (by omega)]
    rw [lif_true]
    by_cases h1 : q = i
    · rw [show ((q : Int) == (i : Int)) = true by rw [h1]; simp, lif_true]
      exact hr
    rw [show ((q : Int) == (i : Int)) = false by simp; omega, lif_false, a1, obind_some, a2, b1]
    simp only [iV, Option.bind_some, asI_int, obind_some, b2, a1, a2]
    by_cases h2 : zs[q] = 0
    · rw [show (zs[q] == 0) = true by simpa using h2, lif_true]
      exact hr
    rw [show (zs[q] == 0) = false by simpa using h2, lif_false]
    by_cases h3 : zs[q] < zs[i]
    · rw [decide_eq_true h3, lif_true]
      exact hr
    rw [decide_eq_false h3, lif_false]
    have hsz : (((txt (bitsOf (codeAt zs i) zs[i].toNat)).size : Nat) : Int) = ((zs[i].toNat : Nat) : Int) := by rw [txt_size, bitsOf_length]
    by_cases h4 : zs[q] = zs[i]
    · rw [show (zs[q] == zs[i]) = true by simpa using h4, lif_true]
      by_cases h5 : q < i
      · rw [decide_eq_true (show (q : Int) < (i : Int) by omega), lif_true]
        exact hr
      · rw [decide_eq_false (show ¬ ((q : Int) < (i : Int)) by omega), lif_false]
        obtain ⟨s1, s2⟩ := ok_pair hm hi hqz zi (.inr ⟨h4.symm, by omega⟩)
        simp only [c1, c2, uV, Option.bind_some, asI_int, obind_some]
        rw [h40, lbindR_ret, asS_string, obind_some, hsz, s1, obind_some, s2, lif_false]
        exact hr
    · rw [show (zs[q] == zs[i]) = false by simpa using h4, lif_false]
      obtain ⟨s1, s2⟩ := ok_pair hm hi hqz zi (.inl (by omega))
      simp only [c1, c2, uV, Option.bind_some, asI_int, obind_some]
      rw [h40, lbindR_ret, asS_string, obind_some, hsz, s1, obind_some, s2, lif_false]
      exact hr

theorem outer {k : Nat} {l lc : Sl} {zs : List Int} {A C : List Nat} {L : LHeap} (hm : may zs = true) (hl : Rd L l (zs.map iV) A) (hc : Rd L lc ((codesOf zs).map uV) C) (hk : zs.length + 60 ≤ k) :
    ∀ (m i j : Nat), i + m = zs.length → m < j → f12_l7 k j l lc (i : Int) L = some (.ret (.bool true) L) := by
  obtain ⟨hok, h512, _⟩ := may_ok hm
  have hcn := hc.len
  simp only [List.length_map, codesOf_length] at hcn
  intro m
  induction m with
  | zero =>
    intro i j hi hj
    obtain ⟨j, rfl⟩ : ∃ j', j = j' + 1 := ⟨j - 1, by omega⟩
    rw [f12_l7_eq, decide_eq_false (by omega)]
    rfl
  | succ m ih =>
    intro i j hi hj
    obtain ⟨j, rfl⟩ : ∃ j', j = j' + 1 := ⟨j - 1, by omega⟩
    have hiz : i < zs.length := by omega
    have ri := okLen_mem hok (List.getElem_mem hiz)
    have gi : zs.getD i 0 = zs[i] := by rw [List.getD_eq_getElem?_getD, List.getElem?_eq_getElem hiz]; rfl
    obtain ⟨a, a1, a2⟩ := hl.here (i := i) (v := iV zs[i]) (by simp [hiz])
    obtain ⟨c, c1, c2⟩ := hc.here (i := i) (v := uV (codeAt zs i)) (by rw [List.getElem?_map, codesOf_get hiz]; rfl)
    have hr := ih (i + 1) j (by omega) (by omega)
    rw [f12_l7_eq, decide_eq_true (by omega), lif_true]
    rw [a1, obind_some, a2]
    simp only [iV, Option.bind_some, asI_int, obind_some, a1, a2, c1, c2, uV]
    by_cases hz : zs[i] = 0
    · have hc0 : codeAt zs i = 0 := by unfold codeAt; rw [gi, if_neg (by omega)]
      rw [show (zs[i] == 0) = true by simpa using hz, lif_true, hc0, wI64 (n := (i : Int) + 1) (by omega) (by omega)]
      exact hr
    have zi : 0 < zs[i] := by omega
    have hc16 := codeAt_le hm i
    have hclt := codeAt_lt hm hiz zi
    have h40 := bits40_ok (k := k) (v := codeAt zs i) (n := zs[i].toNat) (L := L) (by omega) (by omega) (by omega)
    rw [show ((zs[i].toNat : Nat) : Int) = zs[i] by omega] at h40
    have hp : 2 ^ zs[i].toNat ≤ 2 ^ 15 := Nat.pow_le_pow_right (by omega) (by omega)
    have e1 : IntKind.wrap .u32 (1 * 2 ^ min zs[i].toNat 32) = ((2 ^ zs[i].toNat : Nat) : Int) := by
      rw [show min zs[i].toNat 32 = zs[i].toNat by omega, show (1 : Int) * 2 ^ zs[i].toNat = ((2 ^ zs[i].toNat : Nat) : Int) by push_cast; omega]
      generalize 2 ^ zs[i].toNat = P at *
      rw [wU32] <;> omega
    rw [show (zs[i] == 0) = false by simpa using hz, lif_false, h40, lbindR_ret, asS_string, obind_some]
    simp only [c1, c2, a1, a2, uV, iV, Option.bind_some, asI_int, obind_some, e1]
    rw [ndec (by omega), when_true, decide_eq_false (show ¬ ((codeAt zs i : Int) ≥ ((2 ^ zs[i].toNat : Nat) : Int)) by omega), lif_false]
    have := inner (k := k) (j7 := j) hm hiz zi hl hc (by omega) zs.length 0 k (by omega) (by omega)
    rw [hr] at this
    exact this

theorem run {k : Nat} (hk : 3000 ≤ k) {l : Sl} {zs : List Int} {A : List Nat} {L : LHeap} (hl : Rd L l (zs.map iV) A) : ∃ L', lcall Try.prog X.T (k + 1) 12 [.slice l.a l.n l.c] L = some (.ret (.bool true) L') := by
  show ∃ L', f12 (k + 1) l L = _
  have hn := hl.len
  simp only [List.length_map] at hn
  obtain ⟨L1, w1, w2⟩ := awake_ok (k := k) (L := L) (by omega)
  rw [f12_eq]
  by_cases h1 : zs.length > 200
  · rw [decide_eq_true (by omega)]
    exact ⟨L1, by simp only [lif_true, w1, lbind_ret, asB_bool, obind_some]⟩
  rw [decide_eq_false (by omega)]
  have hl1 := hl.mono (w2.others hl.within (none_apart _))
  obtain ⟨t, L2, F, a1, a2, a3⟩ := codes_ok (k := k) hl1 (by omega) (by omega)
  have hl2 := hl1.mono (a3.others hl1.within (none_apart _))
  simp only [lif_false, w1, lbind_ret, asB_bool, obind_some, Bool.not_true, a1, tupL_tuple, uncons_cons, nilL_nil, asSl_slice, asI_int]
  cases hm : may zs with
  | false =>
    have htn := a2.rd.len
    rw [codesRes, hm] at htn
    have htn : t.n = 0 := htn
    obtain ⟨L3, b1, b2⟩ := may_okay (k := k) hl2 (by omega) (by omega)
    rw [hm] at b1
    refine ⟨L3, ?_⟩
    rw [codesErr, hm, htn]
    simp only [show ((if false = true then (0 : Int) else 4) != 0) = true from rfl, lif_true, show (((0 : Nat) : Int) == 0) = true from rfl, b1, lbind_ret, asB_bool, obind_some, Bool.not_false]
  | true =>
    rw [codesRes, if_pos hm] at a2
    rw [codesErr, if_pos hm]
    have e := outer (k := k) hm hl2 a2.rd (by omega) zs.length 0 k (by omega) (by omega)
    refine ⟨L2, ?_⟩
    simp only [bne_self_eq_false, lif_false]
    exact e

theorem walk {w : World} {a : Option Addr} {len cap : Nat} {zs : List Int} (hl : zs.length = len) (hc : IsCells w a len cap 1 (zs.map (.int .i64 ·))) (hz : ∀ n ∈ zs, (Lit.int .i64 n).wf = true) :
    Calls Try.prog 12 #[.slice a len cap] w fun e w' => e = .returned (.bool true) ∧ Below w.heap.size w w' := by
  obtain ⟨m, L, l, A, _, hr, hno, hv, hi, hn, _, _⟩ := (Rep.empty (P := Try.prog) (w := w)).arg (fun _ => own_nil) hc (ints_flat _ zs)
  obtain ⟨L', h⟩ := run (Nat.le_refl 3000) hi.rd
  exact law_walk mixed named h hr (.cons hv .nil) hno

set_option maxRecDepth 100000 in
theorem lifted (os : Os) (started : os.Started) (H : Type) (enc : TypeId × Value → H) :
    ReturnsInHanded {} Try.checked os 12 .any (Rows.huffPrefixSpec.pre6 enc Try.prog Try.f12 Rows.huffPrefixRow.domain false) (Rows.huffPrefixSpec.post enc Try.prog Try.f12 false true false false) := by
  refine returnsInHanded_of_change (C := Try.checked) own started (by kernel_rfl) Try.func12
    (ChangeSpec.witness6 (enc := enc) (C := Try.checked) false ⟨#[], #[.slice none 0 0], []⟩ 8 (by kernel_rfl) (by kernel_rfl) (by kernel_rfl) (by kernel_rfl)) ?_
  intro W base args ds gs before hval0 hW hcnd _
  have hval : ∀ (j : Nat) t v, Try.f12.params[j]? = some t → args[j]? = some v → Value.okWide Try.prog W .any base t v := hval0
  have hW' := hW
  obtain ⟨p, q, hA0, hV, rfl, hfz, hnd⟩ := hW
  have hA : DataW.TrodAll enc Try.prog W 0 (fun _ => true) true Try.f12.params.toList args.toList ds p := hA0
  rw [Try.params12] at hA hval
  obtain ⟨v0, vs0, d0, ds0, p0, q0, hargs, rfl, rfl, h0, r0⟩ := trodAll_cons hA
  obtain ⟨rfl, rfl, rfl⟩ := trodAll_nil r0
  obtain rfl : args = #[v0] := by cases args; simp_all
  obtain ⟨rfl, rfl⟩ := trodVars_none hV
  obtain ⟨a0, len0, cap0, rfl⟩ := okWide_slice Try.underlying38 (hval 0 38 v0 rfl rfl)
  have k0 := h0
  have lt0 : ∀ x ∈ p0, x.block < W.heap.size := by obtain ⟨m, hm⟩ := k0; exact DataW.trod_lt m _ _ _ hm
  obtain ⟨z0, l0, w0, u0⟩ := open_cells Try.underlying38 Try.underlying3 (by kernel_rfl) h0
  clear hA0 hval0
  refine (walk l0 w0 u0).mono fun e W' ⟨he, bel⟩ => ?_
  subst he
  exact ⟨_, rfl, _, _, _, [], _, [], hW', trodAll_mk1 (shut_bool Try.underlying4 _), (trodAll_cons_mk (Below.trod laidOut (by kernel_rfl) (of_decide_eq_true (by kernel_rfl)) k0 bel lt0) trodAll_mk0), rfl, bel.frame _, fun h => by cases h⟩

theorem over : Rows.huffPrefixRow.holds Try.pinned (OpenSpec.ofChange Rows.huffPrefixSpec) :=
  OpenClaim.holds_of_wide 12 Try.f12 rfl rfl rfl rfl rfl rfl rfl ⟨rfl, rfl, rfl, rfl, rfl⟩ rfl rfl rfl rfl rfl (by kernel_rfl) Try.func12 (by kernel_rfl)
    (of_decide_eq_true (by kernel_rfl)) (by unfold Func.isWrapper; first | (rw [if_pos (by decide +kernel)]; kernel_rfl) | (rw [if_neg (by decide +kernel)]; exact ⟨rfl, rfl⟩))
    (fun os started H enc _ => lifted os started H enc)

end Go.Proofs.Ytlcchghlhfamjaa.HuffPrefix
namespace Go.Proofs.Ytlcchghlhfamjaa

/-- The statement. -/
theorem huffPrefix_holds : Rows.HuffPrefixSaid := HuffPrefix.over

end Go.Proofs.Ytlcchghlhfamjaa
#print axioms Go.Proofs.Ytlcchghlhfamjaa.huffPrefix_holds

/- What is proved: 'Rows.HuffTakesSaid': whatever comes in, the law HuffTakes returns true and leaves it as it was. No conditions. The law's printed form is run over the contracts of what it calls; the model follows the logical machine (RlmS18). -/
import Derived.Test.YtlcchghlhfamjaaRows
import Derived.WalkKit
import Derived.ProofKit
import Derived.OpenShut
import Derived.ShutString
import Derived.ChangeOld
import Derived.Below
import Derived.Test.YtlcchghlhfamjaaRlmArgs
import Derived.Test.YtlcchghlhfamjaaHuffBits
namespace Go.Proofs.Ytlcchghlhfamjaa.HuffTakes
open Go.ChangeShapes Go.WideShapes Go.ChangeAt Go.RowKit Go.Rlm Go.Proofs.Ytlcchghlhfamjaa.X
set_option linter.unusedVariables false

theorem own : ownKnob Try.prog.godebug = none := by kernel_rfl
theorem laidOut : laidOutB Try.prog = true := by kernel_rfl
theorem mixed : Try.prog.follows .mixedOrders = true := by kernel_rfl
theorem named : Try.prog.funcs.all (fun fn => !(fn.name == "runtime.NumGoroutine")) = true := by kernel_rfl

theorem round2 {k b x : Nat} {l : Sl} {zs : List Int} {all : List Bool} {F A : List Nat} (hm : may zs = true) (hxF : x ∉ F) (hxA : x ∉ A) (hall : all.length ≤ 1000) (hk : 3000 ≤ k) :
    ∀ (m i j n : Nat) (L : LHeap), i + m = 600 → m < j → n ≤ all.length → CO L b zs F → BR L x (all.drop n) → Rd L l (zs.map iV) A →
      ∃ L', f17_l27 k j l (some ⟨b, 0, none⟩) (some ⟨x, 0, none⟩) (txt all) (n : Int) (i : Int) L = some (.ret (.bool true) L') := by
  obtain ⟨hok, h512, _⟩ := may_ok hm
  intro m
  induction m with
  | zero =>
    intro i j n L hi hj hn hC hX hl
    obtain ⟨j, rfl⟩ : ∃ j', j = j' + 1 := ⟨j - 1, by omega⟩
    obtain ⟨L1, w1, w2⟩ := awake_ok (k := k) (L := L) (by omega)
    refine ⟨L1, ?_⟩
    rw [f17_l27_eq, decide_eq_false (by omega)]
    simp only [lif_false, w1, lbind_ret, asB_bool, obind_some]
  | succ m ih =>
    intro i j n L hi hj hn hC hX hl
    obtain ⟨j, rfl⟩ : ∃ j', j = j' + 1 := ⟨j - 1, by omega⟩
    obtain ⟨L1, a1, a2, a3⟩ := ctake_ok (k := k) hC hm hX hxF (by omega)
    have hC1 := hC.mono (a3.others hC.within (one_apart hxF)) a3.len
    have hl1 := hl.mono (a3.others hl.within (one_apart hxA))
    obtain ⟨L2, b1, b2⟩ := rtake47_ok (k := k) hm hl1 hn (by omega) (by omega)
    have hC2 := hC1.mono (b2.others hC1.within (none_apart _)) b2.len
    have hl2 := hl1.mono (b2.others hl1.within (none_apart _))
    have a22 := a2.mono (b2.keep x a2.lt (by simp))
    rw [f17_l27_eq, decide_eq_true (by omega)]
    cases hd : (readSym zs (all.drop n)).1 with
    | none =>
      rw [hd] at a1 b1
      obtain ⟨L3, w1, w2⟩ := awake_ok (k := k) (L := L2) (by omega)
      refine ⟨L3, ?_⟩
      simp only [decSym, decErr] at a1
      simp only [takenRef] at b1
      simp only [lif_true, a1, b1, lbind_ret, tupL_tuple, uncons_cons, nilL_nil, asI_int, asB_bool, obind_some, show ((4 : Int) == 0) = false from rfl, BEq.rfl, Bool.not_true, lif_false, Bool.not_false, bne_self_eq_false, w1]
    | some q =>
      obtain ⟨q1, q2, q3⟩ := readSym_some (zs := zs) (r := all.drop n) (i := q) (rest := (readSym zs (all.drop n)).2) (by rw [← hd])
      have hg : zs.getD q 0 = zs[q] := by rw [List.getD_eq_getElem?_getD, List.getElem?_eq_getElem q1]; rfl
      have hr := okLen_mem hok (List.getElem_mem q1)
      obtain ⟨z, hz⟩ : ∃ z : Nat, zs.getD q 0 = (z : Int) := ⟨zs[q].toNat, by omega⟩
      have hlen : (symBits zs q).length = z := by rw [symBits, bitsOf_length, hz, Int.toNat_natCast]
      have hll : (all.drop n).length = z + (readSym zs (all.drop n)).2.length := by
        conv => lhs; rw [q3]
        rw [List.length_append, hlen]
      rw [List.length_drop] at hll
      have hrest : (readSym zs (all.drop n)).2 = all.drop (n + z) := by
        have h1 : (all.drop n).drop z = (readSym zs (all.drop n)).2 := by
          conv => lhs; rw [q3]
          rw [← hlen, List.drop_left]
        rw [← h1, List.drop_drop]
      rw [hrest] at a22
      rw [hd] at a1 b1
      obtain ⟨L3, e⟩ := ih (i + 1) j (n + z) L2 (by omega) (by omega) (by omega) hC2 a22 hl2
      refine ⟨L3, ?_⟩
      simp only [decSym, decErr] at a1
      simp only [takenRef, hz] at b1
      simp only [lif_true, a1, b1, lbind_ret, tupL_tuple, uncons_cons, nilL_nil, asI_int, asB_bool, obind_some, BEq.rfl, Bool.not_true, lif_false, bne_self_eq_false]
      rw [wI64 (n := (i : Int) + 1) (by omega) (by omega)]
      exact e

theorem round1 {k b w : Nat} {l ls lc : Sl} {s : ByteArray} {zs ss : List Int} {F A B C : List Nat} (hm : may zs = true) (hzl : l.n = zs.length) (hsl : ls.n = ss.length) (h60 : ss.length ≤ 60) (hs60 : s.size ≤ 60) (hk : 4000 ≤ k) :
    ∀ (m i j : Nat) (bs : List Bool) (G : List Nat) (L : LHeap), i + m = ss.length → m < j → bs.length ≤ 15 * i → CO L b zs F → BW L w bs G → Rd L l (zs.map iV) A → Rd L ls (ss.map iV) B → Rd L lc ((codesOf zs).map uV) C → Apart G F → Apart G A → Apart G B → Apart G C →
      ∃ L', f17_l12 k j l ls s (some ⟨b, 0, none⟩) lc w (txt bs) (i : Int) L = some (.ret (.bool true) L') := by
  obtain ⟨hok, h512, _⟩ := may_ok hm
  intro m
  induction m with
  | zero =>
    intro i j bs G L hi hj hb hC hW hl hs hc a1 a2 a3 a4
    obtain ⟨j, rfl⟩ : ∃ j', j = j' + 1 := ⟨j - 1, by omega⟩
    obtain ⟨vs, q1, q2⟩ := bytes_ok (k := k) hW (by omega)
    have h8 := q1.1
    have t1 := text_ok (k := k) (s := Go.Rlm.strOf vs) (L := L) (by rw [strOf_size]; omega) (by rw [strOf_size]; omega)
    rw [q1.unpack] at t1
    obtain ⟨L1, b1, b2, b3⟩ := open_ok (k := k) (s := s) (L := L) (by omega) (by omega)
    have t2 := text_ok (k := k) (s := s) (L := L1) (by omega) (by omega)
    have hC1 := hC.mono (b3.others hC.within (none_apart _)) b3.len
    have hl1 := hl.mono (b3.others hl.within (none_apart _))
    obtain ⟨L2, e⟩ := round2 (k := k) (b := b) (x := L.length) (l := l) (all := unpack s) hm (fun h => by have := hC.within _ h; omega) (fun h => by have := hl.within _ h; omega) (by rw [unpack_length]; omega) (by omega) 600 0 k 0 L1 (by omega) (by omega) (by omega) hC1 (by simpa using b2) hl1
    refine ⟨L2, ?_⟩
    have hsub : subS (txt (bs ++ List.replicate (8 * vs.length - bs.length) false)) none (some ((bs.length : Nat) : Int)) = some (txt bs) := by
      simp only [subS, bound, Option.bind_eq_bind, txt_size]
      rw [show (decide ((0 : Int) ≤ ((bs.length : Nat) : Int)) && decide (((bs.length : Nat) : Int) ≤ ((bs ++ List.replicate (8 * vs.length - bs.length) false).length : Int))) = true by simp only [Bool.and_eq_true, decide_eq_true_eq, List.length_append]; omega]
      simp only [cond_true, Option.bind_some, Int.toNat_natCast]
      rw [Nat.ble_eq_true_of_le (Nat.zero_le _)]
      simp only [cond_true, Option.bind_some]
      rw [txt_extract, List.drop_zero, List.take_left]
    rw [f17_l12_eq, decide_eq_false (by omega)]
    simp only [lif_false, q2, t1, bits_ok hW (show 1 ≤ k by omega), lbind_ret, asS_string, asI_int, obind_some, txt_size, bne_self_eq_false, hsub, BEq.rfl, Bool.not_true]
    rw [decide_eq_false (show ¬ (((bs ++ List.replicate (8 * vs.length - bs.length) false).length : Int) < (bs.length : Int)) by simp only [List.length_append]; omega)]
    simp only [lif_false, b1, t2, lbind_ret, asP_pointer, asS_string, obind_some]
    exact e
  | succ m ih =>
    intro i j bs G L hi hj hb hC hW hl hs hc a1 a2 a3 a4
    obtain ⟨j, rfl⟩ : ∃ j', j = j' + 1 := ⟨j - 1, by omega⟩
    have hiz : i < ss.length := by omega
    obtain ⟨c, c1, c2⟩ := hs.here (i := i) (v := iV ss[i]) (by simp [hiz])
    obtain ⟨L1, G1, d1, d2, d3⟩ := cput_ok (k := k) (s := ss[i]) hC hm hW (by omega) (by omega)
    have hC1 := hC.mono (d3.others hC.within a1) d3.len
    have hl1 := hl.mono (d3.others hl.within a2)
    have hs1 := hs.mono (d3.others hs.within a3)
    have hc1 := hc.mono (d3.others hc.within a4)
    have b1 := d3.apart hC.within a1
    have b2 := d3.apart hl.within a2
    have b3 := d3.apart hs.within a3
    have b4 := d3.apart hc.within a4
    have hsp := symPut_le hm ss[i]
    obtain ⟨L3, e⟩ := ih (i + 1) j (bs ++ symPut zs ss[i]) G1 L1 (by omega) (by omega) (by simp; omega) hC1 d2 hl1 hs1 hc1 b1 b2 b3 b4
    refine ⟨L3, ?_⟩
    rw [f17_l12_eq, decide_eq_true (by omega)]
    simp only [lif_true, c1, c2, iV, Option.bind_some, asI_int, obind_some]
    rw [wI64 (n := (i : Int) + 1) (by omega) (by omega)]
    generalize hsi : ss[i] = v at *
    by_cases h0 : v ≥ 0
    · rw [decide_eq_true h0]
      by_cases h1 : v < (zs.length : Int)
      · rw [decide_eq_true (show v < (l.n : Int) by omega)]
        obtain ⟨q, rfl⟩ : ∃ q : Nat, v = q := ⟨v.toNat, by omega⟩
        have hq : q < zs.length := by omega
        have hg : zs.getD q 0 = zs[q] := by rw [List.getD_eq_getElem?_getD, List.getElem?_eq_getElem hq]; rfl
        obtain ⟨f, f1, f2⟩ := hl.here (i := q) (v := iV zs[q]) (by simp [hq])
        obtain ⟨f', f3, f4⟩ := hl1.here (i := q) (v := iV zs[q]) (by simp [hq])
        obtain ⟨g, g1, g2⟩ := hc1.here (i := q) (v := uV (codeAt zs q)) (by rw [List.getElem?_map, codesOf_get hq]; rfl)
        obtain rfl : f = f' := Option.some.inj (f1.symm.trans f3)
        have hr := okLen_mem hok (List.getElem_mem hq)
        simp only [lif_true, f1, f2, iV, Option.bind_some, asI_int, obind_some, d1, lbind_ret]
        by_cases hz : zs[q] > 0
        · have hyes : symOk zs (q : Int) = true := by rw [symOk, Int.toNat_natCast, hg]; simp only [Bool.and_eq_true, decide_eq_true_eq]; omega
          have hput : symPut zs (q : Int) = bitsOf (codeAt zs q) zs[q].toNat := by rw [symPut, if_pos hyes, Int.toNat_natCast, symBits, hg]
          have hc16 := codeAt_le hm q
          have hb40 := bits40_ok (k := k) (v := codeAt zs q) (n := zs[q].toNat) (L := L1) (by omega) (by omega) (by omega)
          rw [show ((zs[q].toNat : Nat) : Int) = zs[q] by omega] at hb40
          have hle : (((txt bs).size + (txt (bitsOf (codeAt zs q) zs[q].toNat)).size : Nat) : Int) ≤ maxI := by rw [txt_size, txt_size, bitsOf_length]; simp only [maxI]; omega
          rw [hput, ← txt_append] at e
          rw [symRes, if_pos hyes, decide_eq_true hz]
          simp only [BEq.rfl, Bool.not_true, lif_false, lif_true, g1, g2, uV, f1, f4, iV, Option.bind_some, asI_int, obind_some]
          rw [hb40, lbindR_ret, asS_string, obind_some]
          exact (when_dec hle _).trans e
        · have hno : symOk zs (q : Int) = false := by
            cases hy : symOk zs (q : Int) with
            | false => rfl
            | true => have := (symOk_le hy).2.2; rw [Int.toNat_natCast, hg] at this; omega
          have hput : symPut zs (q : Int) = [] := by rw [symPut, hno]; rfl
          rw [hput, List.append_nil] at e
          rw [symRes, hno, decide_eq_false hz]
          exact e
      · rw [decide_eq_false (show ¬ v < (l.n : Int) by omega)]
        have hno : symOk zs v = false := by
          cases hy : symOk zs v with
          | false => rfl
          | true => have := (symOk_le hy).2.1; omega
        have hput : symPut zs v = [] := by rw [symPut, hno]; rfl
        rw [hput, List.append_nil] at e
        rw [symRes, hno] at d1
        have d1 : f45 k (some ⟨b, 0, none⟩) (some ⟨w, 0, none⟩) v L = some (.ret (.int .i64 1) L1) := d1
        simp only [lif_true, lif_false, d1, lbind_ret, asI_int, obind_some, show ((1 : Int) == 0) = false from rfl, BEq.rfl, Bool.not_true]
        exact e
    · rw [decide_eq_false h0]
      have hno : symOk zs v = false := by
        cases hy : symOk zs v with
        | false => rfl
        | true => have := (symOk_le hy).1; omega
      have hput : symPut zs v = [] := by rw [symPut, hno]; rfl
      rw [hput, List.append_nil] at e
      rw [symRes, hno] at d1
      have d1 : f45 k (some ⟨b, 0, none⟩) (some ⟨w, 0, none⟩) v L = some (.ret (.int .i64 1) L1) := d1
      simp only [lif_false, d1, lbind_ret, asI_int, obind_some, show ((1 : Int) == 0) = false from rfl, BEq.rfl, Bool.not_true]
      exact e

theorem run {k : Nat} (hk : 5000 ≤ k) {l ls : Sl} {s : ByteArray} {zs ss : List Int} {A B : List Nat} {L : LHeap} (hl : Rd L l (zs.map iV) A) (hs : Rd L ls (ss.map iV) B) : ∃ L', lcall Try.prog X.T (k + 1) 17 [.slice l.a l.n l.c, .slice ls.a ls.n ls.c, .string s] L = some (.ret (.bool true) L') := by
  show ∃ L', f17 (k + 1) l ls s L = _
  have hn := hl.len
  have hn2 := hs.len
  simp only [List.length_map] at hn hn2
  obtain ⟨L1, w1, w2⟩ := awake_ok (k := k) (L := L) (by omega)
  rw [f17_eq]
  by_cases h1 : zs.length > 100
  · rw [decide_eq_true (by omega)]
    exact ⟨L1, by simp only [lif_true, w1, lbind_ret, asB_bool, obind_some]⟩
  rw [decide_eq_false (by omega)]
  by_cases h2 : ss.length > 60
  · rw [decide_eq_true (by omega)]
    exact ⟨L1, by simp only [lif_false, lif_true, w1, lbind_ret, asB_bool, obind_some]⟩
  rw [decide_eq_false (by omega)]
  by_cases h3 : s.size > 60
  · rw [decide_eq_true (by omega)]
    exact ⟨L1, by simp only [lif_false, lif_true, w1, lbind_ret, asB_bool, obind_some]⟩
  rw [decide_eq_false (by omega)]
  obtain ⟨n1, n2⟩ := new_ok (k := k) hl (by omega) (by omega)
  cases hm : may zs with
  | false =>
    obtain ⟨L2, a1, a2⟩ := n1 hm
    have hl2 := hl.mono (a2.others hl.within (none_apart _))
    obtain ⟨t, L3, F, b1, b2, b3⟩ := rcodes_ok (k := k) hl2 (by omega) (by omega)
    rw [codesErr, hm] at b1
    have b1 : f41 k l L2 = some (.ret (.tuple #[.slice t.a t.n t.c, .int .i64 4]) L3) := b1
    obtain ⟨L4, w3, w4⟩ := awake_ok (k := k) (L := L3) (by omega)
    refine ⟨L4, ?_⟩
    simp only [lif_false, a1, b1, lbind_ret, tupL_tuple, uncons_cons, nilL_nil, asP_pointer, asSl_slice, asI_int, obind_some, bne_self_eq_false, show ((4 : Int) != 0) = true from rfl, lif_true, Option.isNone_none, w3, asB_bool]
  | true =>
    obtain ⟨b, Fc, L2, a1, a2, a3⟩ := n2 hm
    have hl2 := hl.mono (a3.others hl.within (none_apart _))
    have hs2 := hs.mono (a3.others hs.within (none_apart _))
    obtain ⟨t, L3, F, b1, b2, b3⟩ := rcodes_ok (k := k) hl2 (by omega) (by omega)
    rw [codesErr, if_pos hm] at b1
    rw [codesRes, if_pos hm] at b2
    have hl3 := hl2.mono (b3.others hl2.within (none_apart _))
    have hs3 := hs2.mono (b3.others hs2.within (none_apart _))
    have a23 := a2.mono (b3.others a2.within (none_apart _)) b3.len
    have hW := BW.new L3
    have s1 := Step.new [] L3 (LBlk.cells [Value.slice none 0 0, Value.int IntKind.i64 0] 26 false 0)
    simp only [lif_false, a1, b1, lbind_ret, tupL_tuple, uncons_cons, nilL_nil, asP_pointer, asSl_slice, asI_int, obind_some, bne_self_eq_false]
    generalize L3 ++ [LBlk.cells [Value.slice none 0 0, Value.int IntKind.i64 0] 26 false 0] = L4 at *
    obtain ⟨L5, e⟩ := round1 (k := k) (b := b) (w := L3.length) (lc := t) (s := s) hm hn hn2 (by omega) (by omega) (by omega) ss.length 0 k [] [L3.length] L4 (by omega) (by omega) (by simp) (a23.mono (s1.others a23.within (none_apart _)) s1.len) hW
      (hl3.mono (s1.others hl3.within (none_apart _))) (hs3.mono (s1.others hs3.within (none_apart _))) (b2.rd.mono (s1.others b2.rd.within (none_apart _))) (s1.apart a23.within (none_apart _)) (s1.apart hl3.within (none_apart _)) (s1.apart hs3.within (none_apart _)) (s1.apart b2.rd.within (none_apart _))
    exact ⟨L5, e⟩

theorem walk {w : World} {s : ByteArray} {a b : Option Addr} {len cap len1 cap1 : Nat} {zs ys : List Int} (hl : zs.length = len) (hc : IsCells w a len cap 1 (zs.map (.int .i64 ·))) (hz : ∀ n ∈ zs, (Lit.int .i64 n).wf = true)
    (hl1 : ys.length = len1) (hc1 : IsCells w b len1 cap1 1 (ys.map (.int .i64 ·))) (hz1 : ∀ n ∈ ys, (Lit.int .i64 n).wf = true) (hs : s.size ≤ maxLen) :
    Calls Try.prog 17 #[.slice a len cap, .slice b len1 cap1, .string s] w fun e w' => e = .returned (.bool true) ∧ Below w.heap.size w w' := by
  obtain ⟨m, L, l, A, _, hr, hno, hv, hi, hn, _, _⟩ := (Rep.empty (P := Try.prog) (w := w)).arg (fun _ => own_nil) hc (ints_flat _ zs)
  obtain ⟨m', L', l', B, he, hr', hno', hv', hi', hn', hk, _⟩ := hr.arg hno hc1 (ints_flat _ ys)
  obtain ⟨L'', h⟩ := run (Nat.le_refl 5000) (s := s) (hi.mono fun i hA => hk i (hi.within i hA)).rd hi'.rd
  exact law_walk mixed named h hr' (.cons (hv.mono he) (.cons hv' (.cons (.flat1 rfl) .nil))) hno'

set_option maxRecDepth 100000 in
theorem lifted (os : Os) (started : os.Started) (H : Type) (enc : TypeId × Value → H) :
    ReturnsInHanded {} Try.checked os 17 .any (Rows.huffTakesSpec.pre6 enc Try.prog Try.f17 Rows.huffTakesRow.domain false) (Rows.huffTakesSpec.post enc Try.prog Try.f17 false true false false) := by
  refine returnsInHanded_of_change (C := Try.checked) own started (by kernel_rfl) Try.func17
    (ChangeSpec.witness6 (enc := enc) (C := Try.checked) false ⟨#[], #[.slice none 0 0, .slice none 0 0, .string ByteArray.empty], []⟩ 8 (by kernel_rfl) (by kernel_rfl) (by kernel_rfl) (by kernel_rfl)) ?_
  intro W base args ds gs before hval0 hW hcnd _
  have hval : ∀ (j : Nat) t v, Try.f17.params[j]? = some t → args[j]? = some v → Value.okWide Try.prog W .any base t v := hval0
  have hW' := hW
  obtain ⟨p, q, hA0, hV, rfl, hfz, hnd⟩ := hW
  have hA : DataW.TrodAll enc Try.prog W 0 (fun _ => true) true Try.f17.params.toList args.toList ds p := hA0
  rw [Try.params17] at hA hval
  obtain ⟨v0, vs0, d0, ds0, p0, q0, hargs, rfl, rfl, h0, r0⟩ := trodAll_cons hA
  obtain ⟨v1, vs1, d1, ds1, p1, q1, rfl, rfl, rfl, h1, r1⟩ := trodAll_cons r0
  obtain ⟨v2, vs2, d2, ds2, p2, q2, rfl, rfl, rfl, h2, r2⟩ := trodAll_cons r1
  obtain ⟨rfl, rfl, rfl⟩ := trodAll_nil r2
  obtain rfl : args = #[v0, v1, v2] := by cases args; simp_all
  obtain ⟨rfl, rfl⟩ := trodVars_none hV
  obtain ⟨a0, len0, cap0, rfl⟩ := okWide_slice Try.underlying38 (hval 0 38 v0 rfl rfl)
  have k0 := h0
  have lt0 : ∀ x ∈ p0, x.block < W.heap.size := by obtain ⟨m, hm⟩ := k0; exact DataW.trod_lt m _ _ _ hm
  obtain ⟨z0, l0, w0, u0⟩ := open_cells Try.underlying38 Try.underlying3 (by kernel_rfl) h0
  obtain ⟨a1, len1, cap1, rfl⟩ := okWide_slice Try.underlying38 (hval 1 38 v1 rfl rfl)
  have k1 := h1
  have lt1 : ∀ x ∈ p1, x.block < W.heap.size := by obtain ⟨m, hm⟩ := k1; exact DataW.trod_lt m _ _ _ hm
  obtain ⟨z1, l1, w1, u1⟩ := open_cells Try.underlying38 Try.underlying3 (by kernel_rfl) h1
  obtain ⟨a2, rfl, rfl, rfl, w2⟩ := Go.ChangeMaps.open_string Try.underlying9 (hval 2 9 v2 rfl rfl) h2
  clear hA0 hval0
  refine (walk l0 w0 u0 l1 w1 u1 w2).mono fun e W' ⟨he, bel⟩ => ?_
  subst he
  exact ⟨_, rfl, _, _, _, [], _, [], hW', trodAll_mk1 (shut_bool Try.underlying4 _), (trodAll_cons_mk (Below.trod laidOut (by kernel_rfl) (of_decide_eq_true (by kernel_rfl)) k0 bel lt0) (trodAll_cons_mk (Below.trod laidOut (by kernel_rfl) (of_decide_eq_true (by kernel_rfl)) k1 bel lt1) (trodAll_cons_mk (Go.ChangeMaps.shut_string Try.underlying9 w2) trodAll_mk0))), rfl, bel.frame _, fun h => by cases h⟩

theorem over : Rows.huffTakesRow.holds Try.pinned (OpenSpec.ofChange Rows.huffTakesSpec) :=
  OpenClaim.holds_of_wide 17 Try.f17 rfl rfl rfl rfl rfl rfl rfl ⟨rfl, rfl, rfl, rfl, rfl⟩ rfl rfl rfl rfl rfl (by kernel_rfl) Try.func17 (by kernel_rfl)
    (of_decide_eq_true (by kernel_rfl)) (by unfold Func.isWrapper; first | (rw [if_pos (by decide +kernel)]; kernel_rfl) | (rw [if_neg (by decide +kernel)]; exact ⟨rfl, rfl⟩))
    (fun os started H enc _ => lifted os started H enc)

end Go.Proofs.Ytlcchghlhfamjaa.HuffTakes
namespace Go.Proofs.Ytlcchghlhfamjaa

/-- The statement. -/
theorem huffTakes_holds : Rows.HuffTakesSaid := HuffTakes.over

end Go.Proofs.Ytlcchghlhfamjaa
#print axioms Go.Proofs.Ytlcchghlhfamjaa.huffTakes_holds

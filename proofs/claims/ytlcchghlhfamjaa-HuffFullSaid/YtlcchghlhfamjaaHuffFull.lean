/- What is proved: 'Rows.HuffFullSaid': whatever comes in, the law HuffFull returns true and leaves it as it was. No conditions. The law's printed form is run over the contracts of what it calls; the model follows the logical machine (RlmS18). -/
import Derived.Test.YtlcchghlhfamjaaRows
import Derived.WalkKit
import Derived.ProofKit
import Derived.OpenShut
import Derived.ShutString
import Derived.ChangeOld
import Derived.Below
import Derived.Test.YtlcchghlhfamjaaRlmArgs
import Derived.Test.YtlcchghlhfamjaaHuffTake
namespace Go.Proofs.Ytlcchghlhfamjaa.HuffFull
open Go.ChangeShapes Go.WideShapes Go.ChangeAt Go.RowKit Go.Rlm Go.Proofs.Ytlcchghlhfamjaa.X
set_option linter.unusedVariables false

theorem own : ownKnob Try.prog.godebug = none := by kernel_rfl
theorem laidOut : laidOutB Try.prog = true := by kernel_rfl
theorem mixed : Try.prog.follows .mixedOrders = true := by kernel_rfl
theorem named : Try.prog.funcs.all (fun fn => !(fn.name == "runtime.NumGoroutine")) = true := by kernel_rfl

theorem usedE_ge2 {zs : List Int} (hok : okLen zs = true) (h : 2 ≤ usedE zs) : fillE zs ≠ 0 := by
  intro h0
  have : ∀ (zs : List Int), fillE zs = 0 → usedE zs = 0 := by
    intro zs
    induction zs with
    | nil => intro _; rfl
    | cons z zs ih =>
      intro h
      simp only [fillE, usedE, List.map_cons, List.sum_cons] at h ih ⊢
      have hp := Nat.two_pow_pos (15 - z.toNat)
      by_cases hz : 0 < z
      · rw [if_pos hz] at h; omega
      · rw [if_neg hz] at h ⊢
        have := ih (by omega)
        omega
  have := this zs h0
  omega

theorem round2 {k b x : Nat} {l : Sl} {s : ByteArray} {zs : List Int} {F P : List Nat} (hm : may zs = true) (hfull : fillTo zs 15 = 32768) (hs : s.size ≤ 200) (hxF : x ∉ F) (hxP : x ∉ P) (hk : 100 ≤ k) :
    ∀ (m i j : Nat) (r : List Bool) (L : LHeap), i + r.length + m = 8 * s.size + 8 * s.size → r.length < j → i + r.length ≤ 8 * s.size → CO L b zs F → BR L x r → Rd L l (zs.map iV) P →
      ∃ L', f14_l18 k j s l (some ⟨b, 0, none⟩) (some ⟨x, 0, none⟩) ((8 * s.size - r.length : Nat) : Int) (i : Int) L = some (.ret (.bool true) L') := by
  have main : ∀ (j i : Nat) (r : List Bool) (L : LHeap), r.length < j → i + r.length ≤ 8 * s.size → CO L b zs F → BR L x r → Rd L l (zs.map iV) P →
      ∃ L', f14_l18 k j s l (some ⟨b, 0, none⟩) (some ⟨x, 0, none⟩) ((8 * s.size - r.length : Nat) : Int) (i : Int) L = some (.ret (.bool true) L') := by
    intro j
    induction j with
    | zero => intro i r L hj; omega
    | succ j ih =>
      intro i r L hj hir hC hX hP
      have hn := hP.len
      simp only [List.length_map] at hn
      obtain ⟨L1, a1, a2, a3⟩ := ctake_ok (k := k) hC hm hX hxF (by omega)
      have e8 : IntKind.wrap .i64 (8 * (s.size : Int)) = 8 * (s.size : Int) := by rw [wI64] <;> omega
      have hC1 := hC.mono (a3.others hC.within (one_apart hxF)) a3.len
      have hP1 := hP.mono (a3.others hP.within (one_apart hxP))
      rw [f14_l18_eq, e8, wI64 (n := 8 * (s.size : Int) + 1) (by omega) (by omega), wI64 (n := 8 * (s.size : Int) - 15) (by omega) (by omega), decide_eq_true (show (i : Int) < 8 * (s.size : Int) + 1 by omega)]
      cases hd : (readSym zs r).1 with
      | none =>
        have hlt : r.length < 15 := by
          rcases Nat.lt_or_ge r.length 15 with h | h
          · exact h
          · exact absurd hd (readSym_full hfull h)
        rw [hd] at a1
        refine ⟨L1, ?_⟩
        simp only [lif_true, a1, lbind_ret, tupL_tuple, uncons_cons, nilL_nil, asI_int, obind_some, decSym, decErr]
        rw [show ((4 : Int) != 0) = true from rfl, decide_eq_true (show ((8 * s.size - r.length : Nat) : Int) > 8 * (s.size : Int) - 15 by omega), decide_eq_true (show ((8 * s.size - r.length : Nat) : Int) ≤ 8 * (s.size : Int) by omega)]
        rfl
      | some q =>
        have hpair : readSym zs r = (some q, (readSym zs r).2) := by rw [← hd]
        obtain ⟨q1, q2, q3⟩ := readSym_some hpair
        have hg : zs.getD q 0 = zs[q] := by rw [List.getD_eq_getElem?_getD, List.getElem?_eq_getElem q1]; rfl
        have hr := okLen_mem (may_ok hm).1 (List.getElem_mem q1)
        have hlen : r.length = zs[q].toNat + (readSym zs r).2.length := by
          conv => lhs; rw [q3]
          rw [List.length_append, symBits, bitsOf_length, hg]
        rw [hd] at a1
        obtain ⟨c, c1, c2⟩ := hP1.here (i := q) (v := iV zs[q]) (by simp [q1])
        obtain ⟨L2, e⟩ := ih (i + 1) (readSym zs r).2 L1 (by omega) (by omega) hC1 a2 hP1
        refine ⟨L2, ?_⟩
        simp only [lif_true, a1, lbind_ret, tupL_tuple, uncons_cons, nilL_nil, asI_int, obind_some, decSym, decErr, bne_self_eq_false, lif_false]
        rw [decide_eq_false (show ¬ ((q : Int) < 0) by omega), decide_eq_false (show ¬ ((q : Int) ≥ (l.n : Int)) by omega)]
        simp only [lif_false, c1, c2, iV, Option.bind_some, asI_int, obind_some]
        rw [show (zs[q] == 0) = false by simp; omega, wI64 (n := (i : Int) + 1) (by omega) (by omega), wI64 (n := ((8 * s.size - r.length : Nat) : Int) + zs[q]) (by omega) (by omega),
          show ((8 * s.size - r.length : Nat) : Int) + zs[q] = ((8 * s.size - (readSym zs r).2.length : Nat) : Int) by omega]
        exact e
  intro m i j r L _ hj hir hC hX hP
  exact main j i r L hj hir hC hX hP

theorem round1 {k : Nat} {s : ByteArray} {l : Sl} {zs : List Int} {P : List Nat} {L : LHeap} (e : Int) (hs : s.size ≤ 200) (h512 : zs.length ≤ 512) (hl : Rd L l (zs.map iV) P) (hm : e = 0 → may zs = true ∧ (2 ≤ usedE zs → fillTo zs 15 = 32768)) (hok : okLen zs = true) (hk : 3000 ≤ k) :
    ∀ (m i j : Nat), i + m = zs.length → m < j → ∃ L', f14_l6 k j s l e (usedE (zs.take i) : Int) (i : Int) L = some (.ret (.bool true) L') := by
  have hn := hl.len
  simp only [List.length_map] at hn
  intro m
  induction m with
  | zero =>
    intro i j hi hj
    obtain ⟨j, rfl⟩ : ∃ j', j = j' + 1 := ⟨j - 1, by omega⟩
    rw [f14_l6_eq, decide_eq_false (by omega), List.take_of_length_le (by omega)]
    simp only [lif_false]
    by_cases he : e = 0
    · subst he
      obtain ⟨hm1, hm2⟩ := hm rfl
      by_cases hu : usedE zs < 2
      · rw [decide_eq_true (show (usedE zs : Int) < 2 by omega)]
        exact ⟨L, rfl⟩
      · rw [decide_eq_false (show ¬ ((usedE zs : Int) < 2) by omega)]
        obtain ⟨b, F, L1, a1, a2, a3⟩ := (new_ok (k := k) hl (by omega) (by omega)).2 hm1
        obtain ⟨L2, b1, b2, b3⟩ := open_ok (k := k) (s := s) (L := L1) (by omega) (by omega)
        have hl2 := (hl.mono (a3.others hl.within (none_apart _)))
        obtain ⟨L3, r⟩ := round2 (k := k) (b := b) (x := L1.length) hm1 (hm2 (by omega)) hs (fun h => by have := a2.within _ h; omega) (fun h => by have := hl2.within _ h; omega) (by omega) (8 * s.size) 0 k (unpack s) L2 (by rw [unpack_length]; omega) (by rw [unpack_length]; omega) (by rw [unpack_length]; omega)
          (a2.mono (b3.others a2.within (none_apart _)) b3.len) b2 (hl2.mono (b3.others hl2.within (none_apart _)))
        refine ⟨L3, ?_⟩
        rw [show 8 * s.size - (unpack s).length = 0 by simp] at r
        simp only [bne_self_eq_false, lif_false, a1, b1, lbind_ret, tupL_tuple, uncons_cons, nilL_nil, asP_pointer, asI_int, obind_some]
        exact r
    · rw [show (e != 0) = true by simpa using he]
      exact ⟨L, rfl⟩
  | succ m ih =>
    intro i j hi hj
    obtain ⟨j, rfl⟩ : ∃ j', j = j' + 1 := ⟨j - 1, by omega⟩
    have hiz : i < zs.length := by omega
    obtain ⟨c, c1, c2⟩ := hl.here (i := i) (v := iV zs[i]) (by simp [hiz])
    have hus : usedE (zs.take (i + 1)) = usedE (zs.take i) + (if 0 < zs[i] then 1 else 0) := by rw [take_succ_int hiz, usedE_snoc]
    have hle := usedE_le (zs.take i)
    simp only [List.length_take] at hle
    obtain ⟨L', r⟩ := ih (i + 1) j (by omega) (by omega)
    refine ⟨L', ?_⟩
    rw [f14_l6_eq, decide_eq_true (by omega)]
    simp only [lif_true, c1, c2, iV, Option.bind_some, asI_int, obind_some]
    rw [wI64 (n := (i : Int) + 1) (by omega) (by omega), wI64 (n := (usedE (zs.take i) : Int) + 1) (by omega) (by omega)]
    by_cases hz : zs[i] > 0
    · rw [if_pos (by omega)] at hus
      rw [decide_eq_true hz]
      rw [hus] at r
      exact r
    · rw [if_neg (by omega)] at hus
      rw [decide_eq_false hz]
      rw [hus] at r
      exact r

theorem lens_full {fs : List Int} (h : ∀ f ∈ fs, 0 ≤ f ∧ f ≤ 1073741824) (hl : fs.length ≤ 512) : okLen (lengthsOf fs) = true ∧ (2 ≤ usedE (lengthsOf fs) → fillTo (lengthsOf fs) 15 = 32768) := by
  obtain ⟨gs, h1, h2, h3, h4⟩ := lensLoop_of 30 fs (fun f hf => (h f hf).1)
  have hf := lensLoop_fits 30 fs (fun f hf => by have := h f hf; omega) hl
  unfold lengthsOf
  rw [h1] at hf ⊢
  obtain ⟨g1, g2⟩ := lensOf_fill hf
  refine ⟨g1, fun hu => ?_⟩
  rw [← fillE_eq g1]
  have := usedE_ge2 g1 hu
  omega

theorem run {k : Nat} (hk : 4000 ≤ k) {s : ByteArray} {l : Sl} {fs : List Int} {A : List Nat} {L : LHeap} (hl : Rd L l (fs.map iV) A) : ∃ L', lcall Try.prog X.T (k + 1) 14 [.slice l.a l.n l.c, .string s] L = some (.ret (.bool true) L') := by
  show ∃ L', f14 (k + 1) l s L = _
  have hn := hl.len
  simp only [List.length_map] at hn
  obtain ⟨L1, w1, w2⟩ := awake_ok (k := k) (L := L) (by omega)
  rw [f14_eq]
  by_cases h1 : fs.length > 200
  · rw [decide_eq_true (by omega)]
    exact ⟨L1, by simp only [lif_true, w1, lbind_ret, asB_bool, obind_some]⟩
  rw [decide_eq_false (by omega)]
  by_cases h2 : s.size > 200
  · rw [decide_eq_true (by omega)]
    exact ⟨L1, by simp only [lif_false, lif_true, w1, lbind_ret, asB_bool, obind_some]⟩
  rw [decide_eq_false (by omega)]
  have hl1 := hl.mono (w2.others hl.within (none_apart _))
  obtain ⟨t, L2, F2, a1, a2, a3⟩ := lengths_ok (k := k) hl1 (by omega) (by omega)
  simp only [lif_false, w1, lbind_ret, asB_bool, obind_some, Bool.not_true, a1, tupL_tuple, uncons_cons, nilL_nil, asSl_slice, asI_int]
  cases hok : lenOk fs with
  | false =>
    have he : lenErr fs = 1 := by rw [lenErr, hok]; rfl
    have hr : lenRes fs = [] := by rw [lenRes, hok]; rfl
    rw [hr] at a2
    rw [he]
    obtain ⟨L3, r⟩ := round1 (k := k) (s := s) (zs := []) 1 (by omega) (by simp) a2.rd (fun h => by omega) rfl (by omega) 0 0 k rfl (by omega)
    exact ⟨L3, r⟩
  | true =>
    obtain ⟨g1, g2⟩ := lenOk_mem hok
    have he : lenErr fs = 0 := by rw [lenErr, if_pos hok]
    have hr : lenRes fs = lengthsOf fs := by rw [lenRes, if_pos hok]
    rw [hr] at a2
    rw [he]
    obtain ⟨f1, f2⟩ := lens_full g2 g1
    obtain ⟨L3, r⟩ := round1 (k := k) (s := s) (zs := lengthsOf fs) 0 (by omega) (by rw [lengthsOf_length]; omega) a2.rd (fun _ => ⟨may_lengthsOf g2 g1, f2⟩) f1 (by omega) (lengthsOf fs).length 0 k (by omega) (by rw [lengthsOf_length]; omega)
    exact ⟨L3, r⟩

theorem walk {w : World} {s : ByteArray} {a : Option Addr} {len cap : Nat} {zs : List Int} (hl : zs.length = len) (hc : IsCells w a len cap 1 (zs.map (.int .i64 ·))) (hz : ∀ n ∈ zs, (Lit.int .i64 n).wf = true) (hs : s.size ≤ maxLen) :
    Calls Try.prog 14 #[.slice a len cap, .string s] w fun e w' => e = .returned (.bool true) ∧ Below w.heap.size w w' := by
  obtain ⟨m, L, l, A, _, hr, hno, hv, hi, hn, _, _⟩ := (Rep.empty (P := Try.prog) (w := w)).arg (fun _ => own_nil) hc (ints_flat _ zs)
  obtain ⟨L', h⟩ := run (Nat.le_refl 4000) (s := s) hi.rd
  exact law_walk mixed named h hr (.cons hv (.cons (.flat1 rfl) .nil)) hno

set_option maxRecDepth 100000 in
theorem lifted (os : Os) (started : os.Started) (H : Type) (enc : TypeId × Value → H) :
    ReturnsInHanded {} Try.checked os 14 .any (Rows.huffFullSpec.pre6 enc Try.prog Try.f14 Rows.huffFullRow.domain false) (Rows.huffFullSpec.post enc Try.prog Try.f14 false true false false) := by
  refine returnsInHanded_of_change (C := Try.checked) own started (by kernel_rfl) Try.func14
    (ChangeSpec.witness6 (enc := enc) (C := Try.checked) false ⟨#[], #[.slice none 0 0, .string ByteArray.empty], []⟩ 8 (by kernel_rfl) (by kernel_rfl) (by kernel_rfl) (by kernel_rfl)) ?_
  intro W base args ds gs before hval0 hW hcnd _
  have hval : ∀ (j : Nat) t v, Try.f14.params[j]? = some t → args[j]? = some v → Value.okWide Try.prog W .any base t v := hval0
  have hW' := hW
  obtain ⟨p, q, hA0, hV, rfl, hfz, hnd⟩ := hW
  have hA : DataW.TrodAll enc Try.prog W 0 (fun _ => true) true Try.f14.params.toList args.toList ds p := hA0
  rw [Try.params14] at hA hval
  obtain ⟨v0, vs0, d0, ds0, p0, q0, hargs, rfl, rfl, h0, r0⟩ := trodAll_cons hA
  obtain ⟨v1, vs1, d1, ds1, p1, q1, rfl, rfl, rfl, h1, r1⟩ := trodAll_cons r0
  obtain ⟨rfl, rfl, rfl⟩ := trodAll_nil r1
  obtain rfl : args = #[v0, v1] := by cases args; simp_all
  obtain ⟨rfl, rfl⟩ := trodVars_none hV
  obtain ⟨a0, len0, cap0, rfl⟩ := okWide_slice Try.underlying38 (hval 0 38 v0 rfl rfl)
  have k0 := h0
  have lt0 : ∀ x ∈ p0, x.block < W.heap.size := by obtain ⟨m, hm⟩ := k0; exact DataW.trod_lt m _ _ _ hm
  obtain ⟨z0, l0, w0, u0⟩ := open_cells Try.underlying38 Try.underlying3 (by kernel_rfl) h0
  obtain ⟨a1, rfl, rfl, rfl, w1⟩ := Go.ChangeMaps.open_string Try.underlying9 (hval 1 9 v1 rfl rfl) h1
  clear hA0 hval0
  refine (walk l0 w0 u0 w1).mono fun e W' ⟨he, bel⟩ => ?_
  subst he
  exact ⟨_, rfl, _, _, _, [], _, [], hW', trodAll_mk1 (shut_bool Try.underlying4 _), (trodAll_cons_mk (Below.trod laidOut (by kernel_rfl) (of_decide_eq_true (by kernel_rfl)) k0 bel lt0) (trodAll_cons_mk (Go.ChangeMaps.shut_string Try.underlying9 w1) trodAll_mk0)), rfl, bel.frame _, fun h => by cases h⟩

theorem over : Rows.huffFullRow.holds Try.pinned (OpenSpec.ofChange Rows.huffFullSpec) :=
  OpenClaim.holds_of_wide 14 Try.f14 rfl rfl rfl rfl rfl rfl rfl ⟨rfl, rfl, rfl, rfl, rfl⟩ rfl rfl rfl rfl rfl (by kernel_rfl) Try.func14 (by kernel_rfl)
    (of_decide_eq_true (by kernel_rfl)) (by unfold Func.isWrapper; first | (rw [if_pos (by decide +kernel)]; kernel_rfl) | (rw [if_neg (by decide +kernel)]; exact ⟨rfl, rfl⟩))
    (fun os started H enc _ => lifted os started H enc)

end Go.Proofs.Ytlcchghlhfamjaa.HuffFull
namespace Go.Proofs.Ytlcchghlhfamjaa

/-- The statement. -/
theorem huffFull_holds : Rows.HuffFullSaid := HuffFull.over

end Go.Proofs.Ytlcchghlhfamjaa
#print axioms Go.Proofs.Ytlcchghlhfamjaa.huffFull_holds

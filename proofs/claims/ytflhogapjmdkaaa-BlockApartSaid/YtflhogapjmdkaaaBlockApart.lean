/- What is proved: 'Rows.BlockApartSaid': whatever comes in, the law BlockApart returns true and leaves it as it was. No conditions. The law's printed form is run over the contracts of what it calls; the model follows the logical machine (RlmS18). -/
import Derived.Test.YtflhogapjmdkaaaRows
import Derived.WalkKit
import Derived.ProofKit
import Derived.OpenShut
import Derived.ShutString
import Derived.ChangeOld
import Derived.Below
import Derived.Test.YtflhogapjmdkaaaBlockApartM4
namespace Go.Proofs.Ytflhogapjmdkaaa.BlockApart
set_option maxRecDepth 100000
open Go.ChangeShapes Go.WideShapes Go.ChangeAt Go.RowKit Go.Rlm Go.Proofs.Ytflhogapjmdkaaa.X
set_option linter.unusedVariables false

theorem own : ownKnob Try.prog.godebug = none := by kernel_rfl
theorem laidOut : laidOutB Try.prog = true := by kernel_rfl
theorem mixed : Try.prog.follows .mixedOrders = true := by kernel_rfl
theorem named : Try.prog.funcs.all (fun fn => !(fn.name == "runtime.NumGoroutine")) = true := by kernel_rfl

theorem turned {k : Nat} {l0 : Sl} {ts : List Tok} {A : List Nat} {n2 : Int} {s1 : ByteArray} (hs : ts.length < 1000) (hk : 10 ≤ k) :
    ∀ (q j : Nat) (l3 : Sl) (acc : List Tok) (F : List Nat) (L : LHeap), q ≤ ts.length → q < j → RT L l0 ts A → OZ L l3 (acc.flatMap tokL) 29 5 F → acc.length + q < 1000 → Apart F A →
    ∃ l' L' F', f9_l9 k j l0 s1 n2 l3 ((q : Int) - 1) L = f9_l9 k (j - q) l0 s1 n2 l' (-1) L' ∧ OZ L' l' ((acc ++ (ts.take q).reverse).flatMap tokL) 29 5 F' ∧ Step F L F' L' := by
  intro q
  induction q with
  | zero =>
    intro j l3 acc F L hq hj hl hO hlen hap
    exact ⟨l3, L, F, rfl, by simpa using hO, .refl _ _⟩
  | succ q ih =>
    intro j l3 acc F L hq hj hl hO hlen hap
    obtain ⟨j, rfl⟩ : ∃ j', j = j' + 1 := ⟨j - 1, by omega⟩
    have hi2 : q < ts.length := by omega
    obtain ⟨a, a1, a2⟩ := hl.here (List.getElem?_eq_getElem hi2)
    obtain ⟨d0, d1, d2, d3, d4⟩ := a2 L fun _ _ => rfl
    generalize ht : ts[q] = t at *
    rw [f9_l9_eq, decide_eq_true (by omega), lif_true, show ((q + 1 : Nat) : Int) - 1 = (q : Int) by omega, a1]
    simp only [obind_some]
    rw [d0]; simp only [Option.bind_some, asI_int, obind_some]
    rw [d1]; simp only [Option.bind_some, asI_int, obind_some]
    rw [d2]; simp only [Option.bind_some, asI_int, obind_some]
    rw [d3]; simp only [Option.bind_some, asI_int, obind_some]
    rw [d4]; simp only [Option.bind_some, asI_int, obind_some]
    rw [size29, bytes29, src_tok]
    simp only [obind_some]
    have hO1 : OZ (L ++ [LBlk.cells [Value.int .u8 t.k, Value.int .u8 t.b, Value.int .i64 t.l, Value.int .i64 t.d, Value.int .i64 t.s] 29 false 0]) l3 (acc.flatMap tokL) 29 5 F := hO.mono fun i hi => get_push (hO.within i hi)
    have hl1 : RT (L ++ [LBlk.cells [Value.int .u8 t.k, Value.int .u8 t.b, Value.int .i64 t.l, Value.int .i64 t.d, Value.int .i64 t.s] 29 false 0]) l0 ts A := hl.mono fun i hi => get_push (hl.within i hi)
    have st1 : Step F L F (L ++ [LBlk.cells [Value.int .u8 t.k, Value.int .u8 t.b, Value.int .i64 t.l, Value.int .i64 t.d, Value.int .i64 t.s] 29 false 0]) := .push _ _ _
    generalize L ++ [LBlk.cells [Value.int .u8 t.k, Value.int .u8 t.b, Value.int .i64 t.l, Value.int .i64 t.d, Value.int .i64 t.s] 29 false 0] = L1 at *
    have hn := (OZ.rt hO1).len
    obtain ⟨s', L2, F2, p1, p2, p3, p4⟩ := hO1.app [.int .u8 t.k, .int .u8 t.b, .int .i64 t.l, .int .i64 t.d, .int .i64 t.s] 1 32 (by omega) (by rfl) (by omega) (by omega)
    rw [p1]
    simp only [obind_some]
    rw [wI64 (by omega) (by omega)]
    have hcat : acc.flatMap tokL ++ [.int .u8 t.k, .int .u8 t.b, .int .i64 t.l, .int .i64 t.d, .int .i64 t.s] = (acc ++ [t]).flatMap tokL := by simp [tokL]
    rw [hcat] at p2
    obtain ⟨l', L', F', r1, r2, r3⟩ := ih j s' (acc ++ [t]) F2 L2 (by omega) (by omega) (hl1.mono (p4.others hl1.within hap)) p2 (by simp; omega) (p4.apart hl1.within hap)
    refine ⟨l', L', F', ?_, ?_, (st1.trans p4).trans r3⟩
    · rw [r1]; congr 1; omega
    · have e : (ts.take (q + 1)).reverse = t :: (ts.take q).reverse := by
        rw [List.take_add_one, List.getElem?_eq_getElem hi2, ht]; simp
      rw [e]
      simpa using r2

theorem packStr_inj {ts us : List Tok} (h1 : Fit ts) (h2 : Fit us) (s1 : ∀ t ∈ ts, tokShape t = true) (s2 : ∀ t ∈ us, tokShape t = true) : packStr ts = packStr us ↔ ts = us := by
  constructor
  · intro h
    rw [(packStr_ok s1).1, (packStr_ok s2).1] at h
    have e := congrArg bytesL h
    rw [bytesL_strOf (packB_small h1.1), bytesL_strOf (packB_small h2.1)] at e
    have e1 := unpack_pack h1 s1
    rw [e, unpack_pack h2 s2] at e1
    exact (Option.some.inj e1).symm
  · intro h; rw [h]

theorem turnedSize (ts : List Tok) : (packStr ts.reverse).size = (packStr ts).size ∧ packErr ts.reverse = packErr ts := by
  unfold packStr packErr
  rw [List.all_reverse]
  have h := packB_rev ts
  generalize packB ts.reverse = a at *
  generalize packB ts = b at *
  cases ts.all tokShape with
  | true =>
    simp only [if_true, strOf_size]
    exact ⟨h, trivial⟩
  | false =>
    simp only [Bool.false_eq_true, if_false]
    exact ⟨trivial, trivial⟩

/-- What is left to do. -/
theorem ending {k : Nat} {l0 : Sl} {ts : List Tok} {A : List Nat} {L : LHeap} (hl : RT L l0 ts A) (hf : Fit ts) (hs : ts.length ≤ 300) (hk : 9000 ≤ k) :
    ∃ L', f9_l9 k k l0 (packStr ts) (packErr ts) ⟨none, 0, 0⟩ (IntKind.wrap .i64 ((l0.n : Int) - 1)) L = some (.ret (.bool true) L') := by
  have hn := hl.len
  rw [hn, wI64 (by omega) (by omega)]
  obtain ⟨l', L1, F1, a1, a2, a3⟩ := turned (k := k) (n2 := packErr ts) (s1 := packStr ts) (l0 := l0) (ts := ts) (A := A) (by omega) (by omega) ts.length k ⟨none, 0, 0⟩ [] [] L (Nat.le_refl _) (by omega) hl (OZ.nil _ _ (by omega)) (by simp; omega) (fun i hi => by cases hi)
  rw [a1]
  obtain ⟨j, hj⟩ : ∃ j, k - ts.length = j + 1 := ⟨k - ts.length - 1, by omega⟩
  rw [hj, f9_l9_eq, decide_eq_false (by omega), lif_false]
  rw [List.take_length, List.nil_append] at a2
  have hrt := OZ.rt a2
  have hrf : Fit ts.reverse := ⟨by rw [List.length_reverse]; exact hf.1, fun t ht => hf.2 t (List.mem_reverse.1 ht)⟩
  obtain ⟨L2, b1, b2⟩ := pack_ok (k := k) hrt hrf (by rw [List.length_reverse]; omega)
  rw [b1]
  simp only [lbind_ret, tupL_tuple, uncons_cons, nilL_nil, asS_string, asI_int, obind_some]
  obtain ⟨c1, c2⟩ := turnedSize ts
  rw [c1, c2, beq_self_eq_true, lif_true, beq_self_eq_true]
  exact ⟨L2, rfl⟩

theorem run {k : Nat} {l0 l1 : Sl} {ts us : List Tok} {A B : List Nat} {L : LHeap} (hi : Inp L l0 5 (toksCells ts) A) (hu : Inp L l1 5 (toksCells us) B) (hw : ∀ t ∈ ts, t.wf) (hw2 : ∀ t ∈ us, t.wf) (hk : 10000 ≤ k) :
    ∃ L', lcall Try.prog T k 9 [.slice l0.a l0.n l0.c, .slice l1.a l1.n l1.c] L = some (.ret (.bool true) L') := by
  show ∃ L', f9 k l0 l1 L = _
  obtain ⟨k, rfl⟩ : ∃ k', k = k' + 1 := ⟨k - 1, by omega⟩
  have hl := inp_rt hi
  have hm := inp_rt hu
  have hn := hl.len
  have hn2 := hm.len
  rw [f9_eq]
  obtain ⟨L1, a1, a2⟩ := awake_ok (k := k) (L := L) (by omega)
  by_cases h : ts.length > 300
  · rw [decide_eq_true (by omega), lif_true, a1]
    exact ⟨L1, rfl⟩
  rw [decide_eq_false (by omega), lif_false]
  by_cases h2 : us.length > 300
  · rw [decide_eq_true (by omega), lif_true, a1]
    exact ⟨L1, rfl⟩
  rw [decide_eq_false (by omega), lif_false, a1]
  simp only [lbind_ret, asB_bool, obind_some, Bool.not_true, lif_false]
  have hf : Fit ts := ⟨by omega, hw⟩
  have hf2 : Fit us := ⟨by omega, hw2⟩
  have hl1 := hl.mono (a2.others hl.within fun i hi => by cases hi)
  have hm1 := hm.mono (a2.others hm.within fun i hi => by cases hi)
  obtain ⟨L2, b1, b2⟩ := pack_ok (k := k) hl1 hf (by omega)
  have hl2 := hl1.mono (b2.others hl1.within fun i hi => by cases hi)
  have hm2 := hm1.mono (b2.others hm1.within fun i hi => by cases hi)
  rw [b1]
  simp only [lbind_ret, tupL_tuple, uncons_cons, nilL_nil, asS_string, asI_int, obind_some]
  obtain ⟨L3, c1, c2⟩ := pack_ok (k := k) hm2 hf2 (by omega)
  have hl3 := hl2.mono (c2.others hl2.within fun i hi => by cases hi)
  have hm3 := hm2.mono (c2.others hm2.within fun i hi => by cases hi)
  rw [c1]
  simp only [lbind_ret, tupL_tuple, uncons_cons, nilL_nil, asS_string, asI_int, obind_some]
  obtain ⟨L', e1⟩ := ending (k := k) hl3 hf (by omega) (by omega)
  by_cases s1 : ∀ t ∈ ts, tokShape t = true
  · rw [show (packErr ts == 0) = true by rw [(packStr_ok s1).2]; rfl, lif_true]
    by_cases s2 : ∀ t ∈ us, tokShape t = true
    · rw [show (packErr us == 0) = true by rw [(packStr_ok s2).2]; rfl, lif_true, same_ok (k := k) hl3 hm3 (by omega) (by omega) (by omega)]
      simp only [lbind_ret, asB_bool, obind_some]
      rw [str_beq, decide_eq_decide.2 (packStr_inj hf hf2 s1 s2), beq_self_eq_true, Bool.not_true, lif_false]
      exact ⟨L', e1⟩
    · rw [show (packErr us == 0) = false by rw [(packStr_bad s2).2]; rfl, lif_false]
      exact ⟨L', e1⟩
  · rw [show (packErr ts == 0) = false by rw [(packStr_bad s1).2]; rfl, lif_false]
    exact ⟨L', e1⟩

theorem walk {w : World} {a b : Option Addr} {len cap len2 cap2 : Nat} {zs us : List Tok} (hl : zs.length = len) (hc : IsCells w a len cap 5 (toksCells zs)) (hz : ∀ t ∈ zs, t.wf)
    (hl2 : us.length = len2) (hc2 : IsCells w b len2 cap2 5 (toksCells us)) (hz2 : ∀ t ∈ us, t.wf) :
    Calls Try.prog 9 #[.slice a len cap, .slice b len2 cap2] w fun e w' => e = .returned (.bool true) ∧ Below w.heap.size w w' := by
  obtain ⟨m, L, l, A, _, hr, hno, hv, hi, hn, _, _⟩ := (Rep.empty (P := Try.prog) (w := w)).arg (fun _ => own_nil) hc (toksCells_flat zs)
  obtain ⟨m2, L2, l2, A2, hx, hr2, hno2, hv2, hi2, hn2, hk2, hle2⟩ := hr.arg hno hc2 (toksCells_flat us)
  obtain ⟨L', h⟩ := run (k := 10000) (hi.mono fun i hA => hk2 i (hi.within i hA)) hi2 hz hz2 (by omega)
  exact law_walk specOk mixed named h hr2 (.cons (hv.mono hx) (.cons hv2 .nil)) hno2

set_option maxRecDepth 100000 in
theorem lifted (os : Os) (started : os.Started) (H : Type) (enc : TypeId × Value → H) :
    ReturnsInHanded {} Try.checked os 9 .any (Rows.blockApartSpec.pre6 enc Try.prog Try.f9 Rows.blockApartRow.domain false) (Rows.blockApartSpec.post enc Try.prog Try.f9 false true false false) := by
  refine returnsInHanded_of_change (C := Try.checked) own started (by kernel_rfl) Try.func9
    (ChangeSpec.witness6 (enc := enc) (C := Try.checked) false ⟨#[], #[.slice none 0 0, .slice none 0 0], []⟩ 8 (by kernel_rfl) (by kernel_rfl) (by kernel_rfl) (by kernel_rfl)) ?_
  intro W base args ds gs before hval0 hW hcnd _
  have hval : ∀ (j : Nat) t v, Try.f9.params[j]? = some t → args[j]? = some v → Value.okWide Try.prog W .any base t v := hval0
  have hW' := hW
  obtain ⟨p, q, hA0, hV, rfl, hfz, hnd⟩ := hW
  have hA : DataW.TrodAll enc Try.prog W 0 (fun _ => true) true Try.f9.params.toList args.toList ds p := hA0
  rw [Try.params9] at hA hval
  obtain ⟨v0, vs0, d0, ds0, p0, q0, hargs, rfl, rfl, h0, r0⟩ := trodAll_cons hA
  obtain ⟨v1, vs1, d1, ds1, p1, q1, rfl, rfl, rfl, h1, r1⟩ := trodAll_cons r0
  obtain ⟨rfl, rfl, rfl⟩ := trodAll_nil r1
  obtain rfl : args = #[v0, v1] := by cases args; simp_all
  obtain ⟨rfl, rfl⟩ := trodVars_none hV
  obtain ⟨a0, len0, cap0, rfl⟩ := okWide_slice Try.underlying22 (hval 0 22 v0 rfl rfl)
  have k0 := h0
  have lt0 : ∀ x ∈ p0, x.block < W.heap.size := by obtain ⟨m, hm⟩ := k0; exact DataW.trod_lt m _ _ _ hm
  obtain ⟨z0, l0, w0, u0⟩ := open_tokens Try.underlying22 Try.underlying29 (by kernel_rfl) ⟨rfl, rfl, rfl, rfl, rfl⟩ ⟨by kernel_rfl, by kernel_rfl, by kernel_rfl, by kernel_rfl, by kernel_rfl⟩ Try.underlying5 Try.underlying5 Try.underlying3 Try.underlying3 Try.underlying3 h0
  obtain ⟨a1, len1, cap1, rfl⟩ := okWide_slice Try.underlying22 (hval 1 22 v1 rfl rfl)
  have k1 := h1
  have lt1 : ∀ x ∈ p1, x.block < W.heap.size := by obtain ⟨m, hm⟩ := k1; exact DataW.trod_lt m _ _ _ hm
  obtain ⟨z1, l1, w1, u1⟩ := open_tokens Try.underlying22 Try.underlying29 (by kernel_rfl) ⟨rfl, rfl, rfl, rfl, rfl⟩ ⟨by kernel_rfl, by kernel_rfl, by kernel_rfl, by kernel_rfl, by kernel_rfl⟩ Try.underlying5 Try.underlying5 Try.underlying3 Try.underlying3 Try.underlying3 h1
  clear hA0 hval0
  refine (walk l0 w0 u0 l1 w1 u1).mono fun e W' ⟨he, bel⟩ => ?_
  subst he
  exact ⟨_, rfl, _, _, _, [], _, [], hW', trodAll_mk1 (shut_bool Try.underlying4 _), (trodAll_cons_mk (Below.trod laidOut (by kernel_rfl) (of_decide_eq_true (by kernel_rfl)) k0 bel lt0) (trodAll_cons_mk (Below.trod laidOut (by kernel_rfl) (of_decide_eq_true (by kernel_rfl)) k1 bel lt1) trodAll_mk0)), rfl, bel.frame _, fun h => by cases h⟩

theorem over : Rows.blockApartRow.holds Try.pinned (OpenSpec.ofChange Rows.blockApartSpec) :=
  OpenClaim.holds_of_wide 9 Try.f9 rfl rfl rfl rfl rfl rfl rfl ⟨rfl, rfl, rfl, rfl, rfl⟩ rfl rfl rfl rfl rfl (by kernel_rfl) Try.func9 (by kernel_rfl)
    (of_decide_eq_true (by kernel_rfl)) (by unfold Func.isWrapper; first | (rw [if_pos (by decide +kernel)]; kernel_rfl) | (rw [if_neg (by decide +kernel)]; exact ⟨rfl, rfl⟩))
    (fun os started H enc _ => lifted os started H enc)

end Go.Proofs.Ytflhogapjmdkaaa.BlockApart
namespace Go.Proofs.Ytflhogapjmdkaaa

/-- The statement. -/
theorem blockApart_holds : Rows.BlockApartSaid := BlockApart.over

end Go.Proofs.Ytflhogapjmdkaaa
#print axioms Go.Proofs.Ytflhogapjmdkaaa.blockApart_holds

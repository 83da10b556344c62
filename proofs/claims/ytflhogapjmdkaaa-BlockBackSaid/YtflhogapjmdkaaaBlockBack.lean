/- What is proved: 'Rows.BlockBackSaid': whatever comes in, the law BlockBack returns true and leaves it as it was. No conditions. The law's printed form is run over the contracts of what it calls; the model follows the logical machine (RlmS18). -/
import Derived.Test.YtflhogapjmdkaaaRows
import Derived.WalkKit
import Derived.ProofKit
import Derived.OpenShut
import Derived.ShutString
import Derived.ChangeOld
import Derived.Below
import Derived.Test.YtflhogapjmdkaaaBlockBackM4
namespace Go.Proofs.Ytflhogapjmdkaaa.BlockBack
set_option maxRecDepth 100000
open Go.ChangeShapes Go.WideShapes Go.ChangeAt Go.RowKit Go.Rlm Go.Proofs.Ytflhogapjmdkaaa.X
set_option linter.unusedVariables false

theorem own : ownKnob Try.prog.godebug = none := by kernel_rfl
theorem laidOut : laidOutB Try.prog = true := by kernel_rfl
theorem mixed : Try.prog.follows .mixedOrders = true := by kernel_rfl
theorem named : Try.prog.funcs.all (fun fn => !(fn.name == "runtime.NumGoroutine")) = true := by kernel_rfl

theorem shapes {k : Nat} {l : Sl} {ts : List Tok} {A : List Nat} {n1 n3 : Int} {s : ByteArray} (hs : ts.length < 1000) (hk : 10 ≤ k) :
    ∀ (q i j : Nat) (b : Bool) (L : LHeap), i + q = ts.length → q < j → RT L l ts A →
    ∃ L', f6_l6 k j l n1 s n3 b (i : Int) L = f6_l6 k (j - q) l n1 s n3 (b && (ts.drop i).all tokShape) (ts.length : Int) L' ∧ Step [] L [] L' := by
  intro q
  induction q with
  | zero =>
    intro i j b L hi hj hl
    rw [List.drop_of_length_le (by omega), show i = ts.length by omega]
    exact ⟨L, by simp, .refl _ _⟩
  | succ q ih =>
    intro i j b L hi hj hl
    obtain ⟨j, rfl⟩ : ∃ j', j = j' + 1 := ⟨j - 1, by omega⟩
    have hi2 : i < ts.length := by omega
    have hn := hl.len
    have hdr : ts.drop i = ts[i] :: ts.drop (i + 1) := List.drop_eq_getElem_cons hi2
    rw [f6_l6_eq, decide_eq_true (by omega), lif_true]
    cases b with
    | false =>
      rw [lif_false, wI64 (by omega) (by omega), show (i : Int) + 1 = ((i + 1 : Nat) : Int) by omega]
      obtain ⟨L', a1, a2⟩ := ih (i + 1) j false L (by omega) (by omega) hl
      exact ⟨L', by rw [a1]; simp, a2⟩
    | true =>
      obtain ⟨a, a1, a2⟩ := hl.here (List.getElem?_eq_getElem hi2)
      obtain ⟨d0, d1, d2, d3, d4⟩ := a2 L fun _ _ => rfl
      rw [lif_true, a1]
      simp only [obind_some]
      rw [d0]; simp only [Option.bind_some, asI_int, obind_some]
      rw [d1]; simp only [Option.bind_some, asI_int, obind_some]
      rw [d2]; simp only [Option.bind_some, asI_int, obind_some]
      rw [d3]; simp only [Option.bind_some, asI_int, obind_some]
      rw [d4]; simp only [Option.bind_some, asI_int, obind_some]
      rw [shape_ok (by omega)]
      simp only [lbind_ret, asB_bool, obind_some]
      rw [wI64 (by omega) (by omega), show (i : Int) + 1 = ((i + 1 : Nat) : Int) by omega]
      obtain ⟨L', b1, b2⟩ := ih (i + 1) j (tokShape ts[i]) (L ++ [.cells (tokL ts[i]) 29 false 0]) (by omega) (by omega) (hl.mono fun x hx => get_push (hl.within x hx))
      refine ⟨L', ?_, (Step.push [] L _).trans b2⟩
      rw [b1, hdr, List.all_cons, Bool.true_and]
      congr 1
      omega

theorem unpack_bad {k : Nat} {s : ByteArray} {bs : List Nat} {L : LHeap} (h : bytesL s = bs) (hn : unpackB bs = none) (hs : s.size < 2 ^ 25) (hk : 8 * s.size + 900 ≤ k) :
    ∃ L', f19 k s L = some (.ret (.tuple #[.slice none 0 0, .int .i64 4]) L') ∧ Step [] L [] L' := by
  have := unpack_ok (k := k) (s := s) (L := L) hs hk
  rw [h, hn] at this
  exact this

theorem run {k : Nat} {l : Sl} {ts : List Tok} {A : List Nat} {L : LHeap} {n1 : Int} (hi : Inp L l 5 (toksCells ts) A) (hw : ∀ t ∈ ts, t.wf) (hn1 : 0 ≤ n1 ∧ n1 < 256) (hk : 400000 ≤ k) : ∃ L', lcall Try.prog T k 6 [.slice l.a l.n l.c, .int .u8 n1] L = some (.ret (.bool true) L') := by
  show ∃ L', f6 k l n1 L = _
  obtain ⟨k, rfl⟩ : ∃ k', k = k' + 1 := ⟨k - 1, by omega⟩
  have hl := inp_rt hi
  have hn := hl.len
  rw [f6_eq]
  by_cases h : ts.length > 300
  · obtain ⟨L', a1, _⟩ := awake_ok (k := k) (L := L) (by omega)
    rw [decide_eq_true (by omega), lif_true, a1]
    exact ⟨L', rfl⟩
  · obtain ⟨L1, a1, a2⟩ := awake_ok (k := k) (L := L) (by omega)
    rw [decide_eq_false (by omega), lif_false, a1]
    simp only [lbind_ret, asB_bool, obind_some, Bool.not_true, lif_false]
    have hl1 := hl.mono (a2.others hl.within fun i hi => by cases hi)
    have hf : Fit ts := ⟨by omega, hw⟩
    obtain ⟨L2, b1, b2⟩ := pack_ok (k := k) hl1 hf (by omega)
    have hl2 := hl1.mono (b2.others hl1.within fun i hi => by cases hi)
    rw [b1]
    simp only [lbind_ret, tupL_tuple, uncons_cons, nilL_nil, asS_string, asI_int, obind_some]
    obtain ⟨L3, c1, c2⟩ := shapes (k := k) (l := l) (ts := ts) (A := A) (n1 := n1) (n3 := packErr ts) (s := packStr ts) (by omega) (by omega) ts.length 0 k true L2 (by omega) (by omega) hl2
    have hl3 := hl2.mono (c2.others hl2.within fun i hi => by cases hi)
    have c1' : f6_l6 k k l n1 (packStr ts) (packErr ts) true 0 L2 = f6_l6 k (k - ts.length) l n1 (packStr ts) (packErr ts) (true && (ts.drop 0).all tokShape) (ts.length : Int) L3 := c1
    rw [c1', List.drop_zero, Bool.true_and]
    obtain ⟨j, hj⟩ : ∃ j, k - ts.length = j + 1 := ⟨k - ts.length - 1, by omega⟩
    rw [hj, f6_l6_eq, decide_eq_false (by omega), lif_false]
    by_cases hs : ∀ t ∈ ts, tokShape t = true
    · have hA : ts.all tokShape = true := by simpa using hs
      obtain ⟨e1, e2⟩ := packStr_ok hs
      have hb := packB_le hf.1 hs
      have hb1 := packB_ge ts hf.1
      have hsm := packB_small hf.1
      have hup := unpack_pack hf hs
      have hback := fun L => back_ok (k := k) (L := L) hf hs (by omega)
      clear c1 c1' b1
      generalize packStr ts = S at *
      generalize packB ts = B at *
      rw [hA, e2, show ((0 : Int) != 0) = false from rfl, lif_false]
      obtain ⟨m, L4, F4, d1, d2, d3⟩ := hback L3
      have hl4 := hl3.mono (d3.others hl3.within fun i hi => by cases hi)
      rw [d1]
      simp only [lbind_ret, tupL_tuple, uncons_cons, nilL_nil, asSl_slice, asI_int, obind_some]
      have hsz : S.size = B.length := by rw [e1, strOf_size]
      -- without the last byte
      have hsub : subS S none (some (IntKind.wrap .i64 ((S.size : Int) - 1))) = some (S.extract 0 (B.length - 1)) := by
        rw [hsz, wI64 (by omega) (by omega), show (B.length : Int) - 1 = ((B.length - 1 : Nat) : Int) by omega]
        simp only [subS, bound_at S.size (show B.length - 1 ≤ S.size by omega), bound_out (Nat.zero_le _), Option.bind_eq_bind, Option.bind_some]
      rw [hsub]
      simp only [obind_some]
      have hsl : bytesL (S.extract 0 (B.length - 1)) = B.dropLast := by
        have e3 : (S.extract 0 (B.length - 1)).data.toList = S.data.toList.take (B.length - 1) := by simp [ByteArray.data_extract]
        unfold bytesL
        rw [e3, List.map_take]
        have := bytesL_strOf hsm
        unfold bytesL at this
        rw [e1, this, List.dropLast_eq_take]
      have hls : (S.extract 0 (B.length - 1)).size ≤ B.length := by rw [ByteArray.size_extract]; omega
      obtain ⟨L5, v1, v2⟩ := unpack_bad (k := k) (L := L4) hsl (unpack_shorter hup (by intro h0; rw [h0] at hb1; simp at hb1)) (by omega) (by omega)
      have hl5 := hl4.mono (v2.others hl4.within fun i hi => by cases hi)
      have d5 := d2.mono (v2.others d2.within fun i hi => by cases hi)
      rw [v1]
      simp only [lbind_ret, tupL_tuple, uncons_cons, nilL_nil, asSl_slice, asI_int, obind_some]
      rw [bytes_one, obind_some]
      have hcat : S ++ strOf [n1.toNat] = strOf (B ++ [n1.toNat]) := by rw [e1, strOf_app]
      have hl6 : RT (L5 ++ [LBlk.cells [Value.int .u8 n1] 5 false 0]) l ts A := hl5.mono fun i hi => get_push (hl5.within i hi)
      have d6 : OZ (L5 ++ [LBlk.cells [Value.int .u8 n1] 5 false 0]) m (ts.flatMap tokL) 29 5 F4 := d5.mono fun i hi => get_push (d5.within i hi)
      generalize L5 ++ [LBlk.cells [Value.int .u8 n1] 5 false 0] = L6 at *
      rw [decide_eq_true (by rw [hsz, strOf_size]; simp; unfold maxI; omega), when_true, hcat]
      have hsl2 : bytesL (strOf (B ++ [n1.toNat])) = B ++ [n1.toNat] := bytesL_strOf (by
        intro b hb
        rcases List.mem_append.1 hb with hb | hb
        · exact hsm b hb
        · rw [List.mem_singleton.1 hb]; omega)
      obtain ⟨L7, w1, w2⟩ := unpack_bad (k := k) (L := L6) hsl2 (unpack_longer hup n1.toNat) (by rw [strOf_size]; simp; omega) (by rw [strOf_size]; simp; omega)
      have hl7 := hl6.mono (w2.others hl6.within fun i hi => by cases hi)
      have d7 := d6.mono (w2.others d6.within fun i hi => by cases hi)
      rw [w1]
      simp only [lbind_ret, tupL_tuple, uncons_cons, nilL_nil, asSl_slice, asI_int, obind_some]
      rw [lif_true, show ((0 : Int) == 0) = true from rfl, lif_true, same_ok (k := k) hl7 (OZ.rt d7) (by omega) (by omega) (by omega), decide_eq_true rfl]
      exact ⟨L7, rfl⟩
    · obtain ⟨e1, e2⟩ := packStr_bad hs
      have hA : ts.all tokShape = false := by
        cases hx : ts.all tokShape with
        | true => exact absurd (by simpa using hx) hs
        | false => rfl
      rw [hA, e1, e2, show ((4 : Int) != 0) = true from rfl, lif_true, show ((4 : Int) == 4) = true from rfl, lif_true, str_beq, decide_eq_true rfl, lif_true]
      exact ⟨L3, rfl⟩

theorem walk {w : World} {a : Option Addr} {len cap : Nat} {zs : List Tok} {n1 : Int} (hl : zs.length = len) (hc : IsCells w a len cap 5 (toksCells zs)) (hz : ∀ t ∈ zs, t.wf) (hn1 : (Lit.int .u8 n1).wf = true) :
    Calls Try.prog 6 #[.slice a len cap, .int .u8 n1] w fun e w' => e = .returned (.bool true) ∧ Below w.heap.size w w' := by
  obtain ⟨m, L, l, A, _, hr, hno, hv, hi, hn, _, _⟩ := (Rep.empty (P := Try.prog) (w := w)).arg (fun _ => own_nil) hc (toksCells_flat zs)
  obtain ⟨L', h⟩ := run (k := 400000) (n1 := n1) hi hz (wf_u8 hn1) (by omega)
  exact law_walk specOk mixed named h hr (.cons hv (.cons (.flat1 rfl) .nil)) hno

set_option maxRecDepth 100000 in
theorem lifted (os : Os) (started : os.Started) (H : Type) (enc : TypeId × Value → H) :
    ReturnsInHanded {} Try.checked os 6 .any (Rows.blockBackSpec.pre6 enc Try.prog Try.f6 Rows.blockBackRow.domain false) (Rows.blockBackSpec.post enc Try.prog Try.f6 false true false false) := by
  refine returnsInHanded_of_change (C := Try.checked) own started (by kernel_rfl) Try.func6
    (ChangeSpec.witness6 (enc := enc) (C := Try.checked) false ⟨#[], #[.slice none 0 0, .int .u8 0], []⟩ 8 (by kernel_rfl) (by kernel_rfl) (by kernel_rfl) (by kernel_rfl)) ?_
  intro W base args ds gs before hval0 hW hcnd _
  have hval : ∀ (j : Nat) t v, Try.f6.params[j]? = some t → args[j]? = some v → Value.okWide Try.prog W .any base t v := hval0
  have hW' := hW
  obtain ⟨p, q, hA0, hV, rfl, hfz, hnd⟩ := hW
  have hA : DataW.TrodAll enc Try.prog W 0 (fun _ => true) true Try.f6.params.toList args.toList ds p := hA0
  rw [Try.params6] at hA hval
  obtain ⟨v0, vs0, d0, ds0, p0, q0, hargs, rfl, rfl, h0, r0⟩ := trodAll_cons hA
  obtain ⟨v1, vs1, d1, ds1, p1, q1, rfl, rfl, rfl, h1, r1⟩ := trodAll_cons r0
  obtain ⟨rfl, rfl, rfl⟩ := trodAll_nil r1
  obtain rfl : args = #[v0, v1] := by cases args; simp_all
  obtain ⟨rfl, rfl⟩ := trodVars_none hV
  obtain ⟨a0, len0, cap0, rfl⟩ := okWide_slice Try.underlying22 (hval 0 22 v0 rfl rfl)
  have k0 := h0
  have lt0 : ∀ x ∈ p0, x.block < W.heap.size := by obtain ⟨m, hm⟩ := k0; exact DataW.trod_lt m _ _ _ hm
  obtain ⟨z0, l0, w0, u0⟩ := open_tokens Try.underlying22 Try.underlying29 (by kernel_rfl) ⟨rfl, rfl, rfl, rfl, rfl⟩ ⟨by kernel_rfl, by kernel_rfl, by kernel_rfl, by kernel_rfl, by kernel_rfl⟩ Try.underlying5 Try.underlying5 Try.underlying3 Try.underlying3 Try.underlying3 h0
  obtain ⟨a1, rfl, rfl, rfl, w1⟩ := open_int Try.underlying5 (hval 1 5 v1 rfl rfl) h1
  clear hA0 hval0
  refine (walk l0 w0 u0 w1).mono fun e W' ⟨he, bel⟩ => ?_
  subst he
  exact ⟨_, rfl, _, _, _, [], _, [], hW', trodAll_mk1 (shut_bool Try.underlying4 _), (trodAll_cons_mk (Below.trod laidOut (by kernel_rfl) (of_decide_eq_true (by kernel_rfl)) k0 bel lt0) (trodAll_cons_mk (shut_int Try.underlying5 w1) trodAll_mk0)), rfl, bel.frame _, fun h => by cases h⟩

theorem over : Rows.blockBackRow.holds Try.pinned (OpenSpec.ofChange Rows.blockBackSpec) :=
  OpenClaim.holds_of_wide 6 Try.f6 rfl rfl rfl rfl rfl rfl rfl ⟨rfl, rfl, rfl, rfl, rfl⟩ rfl rfl rfl rfl rfl (by kernel_rfl) Try.func6 (by kernel_rfl)
    (of_decide_eq_true (by kernel_rfl)) (by unfold Func.isWrapper; first | (rw [if_pos (by decide +kernel)]; kernel_rfl) | (rw [if_neg (by decide +kernel)]; exact ⟨rfl, rfl⟩))
    (fun os started H enc _ => lifted os started H enc)

end Go.Proofs.Ytflhogapjmdkaaa.BlockBack
namespace Go.Proofs.Ytflhogapjmdkaaa

/-- The statement. -/
theorem blockBack_holds : Rows.BlockBackSaid := BlockBack.over

end Go.Proofs.Ytflhogapjmdkaaa
#print axioms Go.Proofs.Ytflhogapjmdkaaa.blockBack_holds

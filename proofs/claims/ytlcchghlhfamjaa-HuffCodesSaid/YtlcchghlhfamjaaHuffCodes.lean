/- What is proved: 'Rows.HuffCodesSaid': whatever comes in, the law HuffCodes returns true and leaves it as it was. No conditions. The law's printed form is run over the contracts of what it calls; the model follows the logical machine (RlmS18). -/
import Derived.Test.YtlcchghlhfamjaaRows
import Derived.WalkKit
import Derived.ProofKit
import Derived.OpenShut
import Derived.ShutString
import Derived.ChangeOld
import Derived.Below
import Derived.Test.YtlcchghlhfamjaaRlmArgs
import Derived.Test.YtlcchghlhfamjaaHuffNew
namespace Go.Proofs.Ytlcchghlhfamjaa.HuffCodes
open Go.ChangeShapes Go.WideShapes Go.ChangeAt Go.RowKit Go.Rlm Go.Proofs.Ytlcchghlhfamjaa.X
set_option linter.unusedVariables false

theorem own : ownKnob Try.prog.godebug = none := by kernel_rfl
theorem laidOut : laidOutB Try.prog = true := by kernel_rfl
theorem mixed : Try.prog.follows .mixedOrders = true := by kernel_rfl
theorem named : Try.prog.funcs.all (fun fn => !(fn.name == "runtime.NumGoroutine")) = true := by kernel_rfl

theorem inner {k j4 : Nat} {l s t : Sl} {cs : List Nat} {z : Int} (hz : 0 ≤ z ∧ z < 10) (hcs : cs.length < 2 ^ 40) : ∀ (m i j : Nat) (F B : List Nat) (L : LHeap), i + m = cs.length → m < j → WS L s (List.replicate i (uV 777) ++ (cs.drop i).map uV) 32 F → Rd L t (cs.map uV) B → Apart F B →
    ∃ L', f13_l12 k j4 j l z s t (i : Int) L = f13_l4 k j4 l (z + 1) L' ∧ Step F L F L' := by
  intro m
  induction m with
  | zero =>
    intro i j F B L hi hj hw hr hFB
    obtain ⟨j, rfl⟩ : ∃ j', j = j' + 1 := ⟨j - 1, by omega⟩
    have hn := hw.rd.len
    simp only [List.length_append, List.length_replicate, List.length_map, List.length_drop] at hn
    refine ⟨L, ?_, .refl _ _⟩
    rw [f13_l12_eq, decide_eq_false (by omega), wI64 (n := z + 1) (by omega) (by omega)]
    rfl
  | succ m ih =>
    intro i j F B L hi hj hw hr hFB
    obtain ⟨j, rfl⟩ : ∃ j', j = j' + 1 := ⟨j - 1, by omega⟩
    have hn := hw.rd.len
    simp only [List.length_append, List.length_replicate, List.length_map, List.length_drop] at hn
    have hiz : i < cs.length := by omega
    have hg : (List.replicate i (uV 777) ++ (cs.drop i).map uV)[i]? = some (uV cs[i]) := by
      rw [List.getElem?_append_right (by simp), List.length_replicate, Nat.sub_self, List.getElem?_map, List.getElem?_drop, Nat.add_zero, List.getElem?_eq_getElem hiz]; rfl
    obtain ⟨a, a1, a2⟩ := hw.rd.here hg
    obtain ⟨b, b1, b2⟩ := hr.here (i := i) (v := uV cs[i]) (by simp [hiz])
    obtain ⟨a', L1, c1, c2, c3, c4⟩ := hw.put (get_lt hg) (uV 777)
    obtain rfl : a = a' := Option.some.inj (a1.symm.trans c1)
    have hset : (List.replicate i (uV 777) ++ (cs.drop i).map uV).set i (uV 777) = List.replicate (i + 1) (uV 777) ++ (cs.drop (i + 1)).map uV := by
      rw [List.set_append_right _ _ (by simp), List.length_replicate, Nat.sub_self, List.drop_eq_getElem_cons hiz, List.map_cons, List.set_cons_zero, List.replicate_succ', List.append_assoc]
      rfl
    rw [hset] at c3
    obtain ⟨L2, d1, d2⟩ := ih (i + 1) j F B L1 (by omega) (by omega) c3 (hr.mono (c4.others hr.within hFB)) hFB
    refine ⟨L2, ?_, c4.trans d2⟩
    have c2 : stores L a [Value.int .u32 777] = some L1 := c2
    rw [← d1, f13_l12_eq, decide_eq_true (by omega)]
    simp only [lif_true, a1, a2, b1, b2, uV, obind_some, Option.bind_some, asI_int, bne_self_eq_false, lif_false, c2]
    rw [wI64 (n := (i : Int) + 1) (by omega) (by omega)]
    rfl

theorem outer {k : Nat} {l : Sl} {zs : List Int} {A : List Nat} (hs : zs.length ≤ 600) (hk : 2000 ≤ k) : ∀ (m i j : Nat) (L : LHeap), i + m = 2 → m < j → Rd L l (zs.map iV) A → ∃ L', f13_l4 k j l (i : Int) L = some (.ret (.bool true) L') := by
  intro m
  induction m with
  | zero =>
    intro i j L hi hj hl
    obtain ⟨j, rfl⟩ : ∃ j', j = j' + 1 := ⟨j - 1, by omega⟩
    obtain ⟨L1, a1, a2⟩ := may_okay (k := k) hl (by omega) (by omega)
    have hl1 := hl.mono (a2.others hl.within (none_apart _))
    have b1 := rmay_ok (k := k) hl1 (by omega) (by omega)
    obtain ⟨L2, c1, c2⟩ := awake_ok (k := k) (L := L1) (by omega)
    refine ⟨L2, ?_⟩
    rw [f13_l4_eq, decide_eq_false (by omega)]
    simp only [lif_false, a1, b1, lbind_ret, asB_bool, obind_some, BEq.rfl, lif_true, c1]
  | succ m ih =>
    intro i j L hi hj hl
    obtain ⟨j, rfl⟩ : ∃ j', j = j' + 1 := ⟨j - 1, by omega⟩
    obtain ⟨s, L1, F1, a1, a2, a3⟩ := codes_ok (k := k) hl (by omega) (by omega)
    have hl1 := hl.mono (a3.others hl.within (none_apart _))
    obtain ⟨t, L2, F2, b1, b2, b3⟩ := rcodes_ok (k := k) hl1 (by omega) (by omega)
    have hl2 := hl1.mono (b3.others hl1.within (none_apart _))
    have a22 := a2.mono (b3.others a2.within (none_apart _))
    have ap2 : Apart F2 F1 := b3.apart a2.within (none_apart _)
    obtain ⟨n1, n2⟩ := new_ok (k := k) hl2 (by omega) (by omega)
    have hnew : ∃ p L3, f42 k l L2 = some (.ret (.tuple #[.pointer p, .int .i64 (codesErr zs)]) L3) ∧ (Option.isNone p == (codesErr zs != 0)) = true ∧ Step [] L2 [] L3 := by
      cases hm : may zs with
      | false =>
        obtain ⟨L3, q1, q2⟩ := n1 hm
        refine ⟨none, L3, ?_, ?_, q2⟩
        · rw [q1, codesErr, hm]; rfl
        · rw [codesErr, hm]; rfl
      | true =>
        obtain ⟨b, F, L3, q1, q2, q3⟩ := n2 hm
        refine ⟨some ⟨b, 0, none⟩, L3, ?_, ?_, q3.less fun i hi => by simp at hi⟩
        · rw [q1, codesErr, hm]; rfl
        · rw [codesErr, hm]; rfl
    obtain ⟨p, L3, c1, c2, c3⟩ := hnew
    have hl3 := hl2.mono (c3.others hl2.within (none_apart _))
    have a23 := a22.mono (c3.others a22.within (none_apart _))
    have b23 := b2.mono (c3.others b2.within (none_apart _))
    have hsn := a23.rd.len
    have htn := b23.rd.len
    simp only [List.length_map] at hsn htn
    have hcl : (codesRes zs).length ≤ 600 := by unfold codesRes; split <;> simp; omega
    have hFA : Apart F1 A := a3.apart hl.within (none_apart _)
    obtain ⟨L4, d1, d2⟩ := inner (k := k) (j4 := j) (l := l) (s := s) (t := t) (cs := codesRes zs) (z := (i : Int)) ⟨by omega, by omega⟩ (by omega) (codesRes zs).length 0 k F1 F2 L3 (by omega) (by omega) (by simpa using a23) b23.rd ap2.symm
    obtain ⟨L5, e1⟩ := ih (i + 1) j L4 (by omega) (by omega) (hl3.mono (d2.others hl3.within hFA))
    refine ⟨L5, ?_⟩
    have e1 : f13_l4 k j l ((i : Int) + 1) L4 = some (.ret (.bool true) L5) := e1
    rw [show ((0 : Nat) : Int) = 0 from rfl, e1] at d1
    rw [f13_l4_eq, decide_eq_true (by omega)]
    simp only [lif_true, a1, b1, c1, lbind_ret, tupL_tuple, uncons_cons, nilL_nil, asSl_slice, asP_pointer, asI_int, obind_some, bne_self_eq_false, lif_false, c2, Bool.not_true]
    rw [show ((s.n : Int) != (t.n : Int)) = false by rw [hsn, htn]; simp]
    exact d1

theorem run {l : Sl} {zs : List Int} {A : List Nat} {L : LHeap} (hA : Rd L l (zs.map iV) A) : ∃ L', lcall Try.prog X.T 3001 13 [.slice l.a l.n l.c] L = some (.ret (.bool true) L') := by
  show ∃ L', f13 3001 l L = _
  have hn := hA.len
  simp only [List.length_map] at hn
  rw [f13_eq]
  by_cases h : zs.length > 600
  · obtain ⟨L1, a1, a2⟩ := awake_ok (k := 3000) (L := L) (by omega)
    rw [decide_eq_true (by omega)]
    exact ⟨L1, by simp only [lif_true, a1, lbind_ret, asB_bool, obind_some]⟩
  · rw [decide_eq_false (by omega)]
    obtain ⟨L', e⟩ := outer (k := 3000) (l := l) (zs := zs) (A := A) (by omega) (by omega) 2 0 3000 L (by omega) (by omega) hA
    refine ⟨L', ?_⟩
    simp only [lif_false]
    exact e

theorem walk {w : World} {a : Option Addr} {len cap : Nat} {zs : List Int} (hl : zs.length = len) (hc : IsCells w a len cap 1 (zs.map (.int .i64 ·))) (hz : ∀ n ∈ zs, (Lit.int .i64 n).wf = true) :
    Calls Try.prog 13 #[.slice a len cap] w fun e w' => e = .returned (.bool true) ∧ Below w.heap.size w w' := by
  obtain ⟨m, L, l, A, _, hr, hno, hv, hi, hn, _, _⟩ := (Rep.empty (P := Try.prog) (w := w)).arg (fun _ => own_nil) hc (ints_flat _ zs)
  obtain ⟨L', h⟩ := run hi.rd
  exact law_walk mixed named h hr (.cons hv .nil) hno

set_option maxRecDepth 100000 in
theorem lifted (os : Os) (started : os.Started) (H : Type) (enc : TypeId × Value → H) :
    ReturnsInHanded {} Try.checked os 13 .any (Rows.huffCodesSpec.pre6 enc Try.prog Try.f13 Rows.huffCodesRow.domain false) (Rows.huffCodesSpec.post enc Try.prog Try.f13 false true false false) := by
  refine returnsInHanded_of_change (C := Try.checked) own started (by kernel_rfl) Try.func13
    (ChangeSpec.witness6 (enc := enc) (C := Try.checked) false ⟨#[], #[.slice none 0 0], []⟩ 8 (by kernel_rfl) (by kernel_rfl) (by kernel_rfl) (by kernel_rfl)) ?_
  intro W base args ds gs before hval0 hW hcnd _
  have hval : ∀ (j : Nat) t v, Try.f13.params[j]? = some t → args[j]? = some v → Value.okWide Try.prog W .any base t v := hval0
  have hW' := hW
  obtain ⟨p, q, hA0, hV, rfl, hfz, hnd⟩ := hW
  have hA : DataW.TrodAll enc Try.prog W 0 (fun _ => true) true Try.f13.params.toList args.toList ds p := hA0
  rw [Try.params13] at hA hval
  obtain ⟨v0, vs0, d0, ds0, p0, q0, hargs, rfl, rfl, h0, r0⟩ := trodAll_cons hA
  obtain ⟨rfl, rfl, rfl⟩ := trodAll_nil r0
  obtain rfl : args = #[v0] := by cases args; simp_all
  obtain ⟨rfl, rfl⟩ := trodVars_none hV
  obtain ⟨a0, len0, cap0, rfl⟩ := okWide_slice Try.underlying38 (hval 0 38 v0 rfl rfl)
  have k0 := h0
  have lt0 : ∀ x ∈ p0, x.block < W.heap.size := by obtain ⟨m, hm⟩ := k0; exact DataW.trod_lt m _ _ _ hm
  obtain ⟨z0, l0, w0, u0⟩ := open_cells Try.underlying38 Try.underlying3 (by kernel_rfl) h0
  clear hA0 hval0
  refine (walk l0 w0 u0).mono fun e W' ⟨he, bel⟩ => ?_
  subst he
  exact ⟨_, rfl, _, _, _, [], _, [], hW', trodAll_mk1 (shut_bool Try.underlying4 _), (trodAll_cons_mk (Below.trod laidOut (by kernel_rfl) (of_decide_eq_true (by kernel_rfl)) k0 bel lt0) trodAll_mk0), rfl, bel.frame _, fun h => by cases h⟩

theorem over : Rows.huffCodesRow.holds Try.pinned (OpenSpec.ofChange Rows.huffCodesSpec) :=
  OpenClaim.holds_of_wide 13 Try.f13 rfl rfl rfl rfl rfl rfl rfl ⟨rfl, rfl, rfl, rfl, rfl⟩ rfl rfl rfl rfl rfl (by kernel_rfl) Try.func13 (by kernel_rfl)
    (of_decide_eq_true (by kernel_rfl)) (by unfold Func.isWrapper; first | (rw [if_pos (by decide +kernel)]; kernel_rfl) | (rw [if_neg (by decide +kernel)]; exact ⟨rfl, rfl⟩))
    (fun os started H enc _ => lifted os started H enc)

end Go.Proofs.Ytlcchghlhfamjaa.HuffCodes
namespace Go.Proofs.Ytlcchghlhfamjaa

/-- The statement. -/
theorem huffCodes_holds : Rows.HuffCodesSaid := HuffCodes.over

end Go.Proofs.Ytlcchghlhfamjaa
#print axioms Go.Proofs.Ytlcchghlhfamjaa.huffCodes_holds

/- What is proved: 'Rows.BitsPutsSaid': whatever numbers come in, the law BitsPuts returns true and leaves them as they were. No conditions. The law's printed form is run over the contracts of the writers (BitsW); the model follows the logical machine (RlmS18). -/
import Derived.Test.YtlcchghlhfamjaaRows
import Derived.WalkKit
import Derived.ProofKit
import Derived.OpenShut
import Derived.ShutString
import Derived.ChangeOld
import Derived.Below
import Derived.Test.YtlcchghlhfamjaaRlmArgs
import Derived.Test.YtlcchghlhfamjaaBitsW
namespace Go.Proofs.Ytlcchghlhfamjaa.BitsPuts
open Go.ChangeShapes Go.WideShapes Go.ChangeAt Go.RowKit Go.Rlm Go.Proofs.Ytlcchghlhfamjaa.X
set_option linter.unusedVariables false

theorem own : ownKnob Try.prog.godebug = none := by kernel_rfl
theorem laidOut : laidOutB Try.prog = true := by kernel_rfl
theorem mixed : Try.prog.follows .mixedOrders = true := by kernel_rfl
theorem named : Try.prog.funcs.all (fun fn => !(fn.name == "runtime.NumGoroutine")) = true := by kernel_rfl

theorem round {k b x : Nat} {l : Sl} {ps : List (Nat × Int)} {A : List Nat} (hp : ∀ p ∈ ps, p.1 < 4294967296) (hl : l.n = ps.length) (h400 : ps.length ≤ 400) (hk : 20000 ≤ k) :
    ∀ (m i j : Nat) (bs : List Bool) (F G : List Nat) (L : LHeap), i + m = ps.length → m < j → bs.length ≤ 32 * i → BW L b bs F → RW L x bs G → Apart F G → Apart F A → Apart G A → Inp L l 2 (pairCells ps) A →
      ∃ L', f3_l6 k j l b x (i : Int) L = some (.ret (.bool true) L') := by
  intro m
  induction m with
  | zero =>
    intro i j bs F G L him hj hb hF hG hFG hFA hGA hA
    obtain ⟨j, rfl⟩ : ∃ j', j = j' + 1 := ⟨j - 1, by omega⟩
    obtain ⟨vs, q1, q2⟩ := bytes_ok (k := k) hF (by omega)
    obtain ⟨us, L', q3, q4, q5⟩ := rbytes_ok (k := k) hG (by omega) (by omega)
    obtain rfl := q1.unique q3
    refine ⟨L', ?_⟩
    rw [f3_l6_eq, decide_eq_false (by omega)]
    simp [q2, q4]
  | succ m ih =>
    intro i j bs F G L him hj hb hF hG hFG hFA hGA hA
    obtain ⟨j, rfl⟩ : ∃ j', j = j' + 1 := ⟨j - 1, by omega⟩
    have hi : i < ps.length := by omega
    have hg : ps[i]? = some ps[i] := List.getElem?_eq_getElem hi
    have hv : ps[i].1 < 4294967296 := hp _ (List.getElem_mem hi)
    obtain ⟨r1, r2⟩ := pairCells_get hg
    obtain ⟨c, i1, i2⟩ := hA.get (i := i) (by omega) (by omega)
    obtain ⟨L1, F1, a1, a2, a3⟩ := put_ok (k := k) (v := ps[i].1) (n := ps[i].2) hF hv (by omega) (by omega)
    have hA1 := a3.others hA.within hFA
    have hG1 : RW L1 x bs G := hG.mono (a3.others hG.within hFG)
    have ap1 : Apart F1 G := a3.apart hG.within hFG
    obtain ⟨L2, G2, b1, b2, b3⟩ := rput_ok (k := k) (v := ps[i].1) (n := ps[i].2) hG1 hv (by omega) (by omega)
    have hF2 : BW L2 b _ F1 := a2.mono (b3.others a2.within ap1.symm)
    have ap2 : Apart F1 G2 := (b3.apart a2.within ap1.symm).symm
    have hle := putBits_le ps[i].1 ps[i].2
    have hbl : (bs ++ putBits ps[i].1 ps[i].2).length ≤ 32 * (i + 1) := by simp; omega
    obtain ⟨vs, q1, q2⟩ := bytes_ok (k := k) hF2 (by omega)
    obtain ⟨us, L3, q3, q4, q5⟩ := rbytes_ok (k := k) b2 (by omega) (by omega)
    obtain rfl := q1.unique q3
    have hA0 : Inp L1 l 2 (pairCells ps) A := hA.mono hA1
    have hA2 : Inp L2 l 2 (pairCells ps) A := hA0.mono (b3.others hA0.within hGA)
    have none3 : ∀ (H : List Nat), Apart [] H := fun H i hi => by simp at hi
    obtain ⟨L4, e1⟩ := ih (i + 1) j _ F1 G2 L3 (by omega) (by omega) hbl (hF2.mono (q5.others hF2.within (none3 _))) (b2.mono (q5.others b2.within (none3 _))) ap2
      (a3.apart hA.within hFA) (b3.apart hA0.within hGA) (hA2.mono (q5.others hA2.within (none3 _)))
    refine ⟨L4, ?_⟩
    have c0 : ∀ o, cell L ⟨c, o, none⟩ = (pairCells ps)[o]? := i2 L fun _ _ => rfl
    have c1 : ∀ o, cell L1 ⟨c, o, none⟩ = (pairCells ps)[o]? := i2 L1 hA1
    rw [f3_l6_eq, decide_eq_true (by omega)]
    simp only [lif_true, lif_false, i1, obind_some, mk_add, Nat.add_zero, c0, c1, r1, r2, Option.bind_some, asI_int, a1, b1, lbindR_ret, same_self, when_true, bne_self_eq_false, bits_ok hF2 (show 1 ≤ k by omega), rbits_ok b2 (show 1 ≤ k by omega), q2, q4, asS_string,
      BEq.rfl, Bool.not_true]
    rw [wI64 (n := (i : Int) + 1) (by omega) (by omega)]
    exact e1

theorem run {l : Sl} {ps : List (Nat × Int)} {A : List Nat} {L : LHeap} (hp : ∀ p ∈ ps, p.1 < 4294967296) (hl : l.n = ps.length) (hA : Inp L l 2 (pairCells ps) A) :
    ∃ L', lcall Try.prog X.T 20001 3 [.slice l.a l.n l.c] L = some (.ret (.bool true) L') := by
  show ∃ L', f3 20001 l L = _
  rw [f3_eq]
  by_cases h : ps.length > 400
  · rw [decide_eq_true (by omega)]
    exact ⟨L, rfl⟩
  · rw [decide_eq_false (by omega)]
    simp only [lif_false]
    have hF := BW.new L
    have s1 := Step.new [] L (LBlk.cells [Value.slice none 0 0, Value.int IntKind.i64 0] 26 false 0)
    generalize L ++ [LBlk.cells [Value.slice none 0 0, Value.int IntKind.i64 0] 26 false 0] = L1 at *
    have s2 := Step.new [] L1 (LBlk.cells [Value.slice none 0 0] 29 false 0)
    have hG := RW.new L1
    generalize L1 ++ [LBlk.cells [Value.slice none 0 0] 29 false 0] = L2 at *
    have none3 : ∀ (H : List Nat), Apart [] H := fun H i hi => by simp at hi
    have hA1 : Inp L1 l 2 (pairCells ps) A := hA.mono (s1.others hA.within (none3 _))
    refine round hp hl (by omega) (by omega) ps.length 0 20000 [] _ _ _ (by omega) (by omega) (by simp) (hF.mono (s2.others hF.within (none3 _))) hG (s2.apart hF.within (none3 _)).symm (s1.apart hA.within (none3 _)) (s2.apart hA1.within (none3 _)) (hA1.mono (s2.others hA1.within (none3 _)))

theorem walk {w : World} {a : Option Addr} {len cap : Nat} {zs : List (Nat × Int)} (hl : zs.length = len) (hc : IsCells w a len cap 2 (pairCells zs)) (hz : ∀ p ∈ zs, p.1 < 4294967296) :
    Calls Try.prog 3 #[.slice a len cap] w fun e w' => e = .returned (.bool true) ∧ Below w.heap.size w w' := by
  obtain ⟨m, L, l, A, _, hr, hno, hv, hi, hn, _, _⟩ := (Rep.empty (P := Try.prog) (w := w)).arg (fun _ => own_nil) hc (pairCells_flat zs)
  obtain ⟨L', h⟩ := run hz (by omega) hi
  exact law_walk mixed named h hr (.cons hv .nil) hno

set_option maxRecDepth 100000 in
theorem lifted (os : Os) (started : os.Started) (H : Type) (enc : TypeId × Value → H) :
    ReturnsInHanded {} Try.checked os 3 .any (Rows.bitsPutsSpec.pre6 enc Try.prog Try.f3 Rows.bitsPutsRow.domain false) (Rows.bitsPutsSpec.post enc Try.prog Try.f3 false true false false) := by
  refine returnsInHanded_of_change (C := Try.checked) own started (by kernel_rfl) Try.func3
    (ChangeSpec.witness6 (enc := enc) (C := Try.checked) false ⟨#[], #[.slice none 0 0], []⟩ 8 (by kernel_rfl) (by kernel_rfl) (by kernel_rfl) (by kernel_rfl)) ?_
  intro W base args ds gs before hval0 hW hcnd _
  have hval : ∀ (j : Nat) t v, Try.f3.params[j]? = some t → args[j]? = some v → Value.okWide Try.prog W .any base t v := hval0
  have hW' := hW
  obtain ⟨p, q, hA0, hV, rfl, hfz, hnd⟩ := hW
  have hA : DataW.TrodAll enc Try.prog W 0 (fun _ => true) true Try.f3.params.toList args.toList ds p := hA0
  rw [Try.params3] at hA hval
  obtain ⟨v0, vs0, d0, ds0, p0, q0, hargs, rfl, rfl, h0, r0⟩ := trodAll_cons hA
  obtain ⟨rfl, rfl, rfl⟩ := trodAll_nil r0
  obtain rfl : args = #[v0] := by cases args; simp_all
  obtain ⟨rfl, rfl⟩ := trodVars_none hV
  obtain ⟨a0, len0, cap0, rfl⟩ := okWide_slice Try.underlying22 (hval 0 22 v0 rfl rfl)
  have k0 := h0
  have lt0 : ∀ x ∈ p0, x.block < W.heap.size := by obtain ⟨m, hm⟩ := k0; exact DataW.trod_lt m _ _ _ hm
  obtain ⟨z0, l0, w0, u0⟩ := open_pairs Try.underlying22 Try.underlying34 (by kernel_rfl) rfl rfl (by kernel_rfl) (by kernel_rfl) Try.underlying32 Try.underlying3 h0
  clear hA0 hval0
  refine (walk l0 w0 u0).mono fun e W' ⟨he, bel⟩ => ?_
  subst he
  exact ⟨_, rfl, _, _, _, [], _, [], hW', trodAll_mk1 (shut_bool Try.underlying4 _), trodAll_mk1 (Below.trod laidOut (by kernel_rfl) (of_decide_eq_true (by kernel_rfl)) k0 bel lt0), rfl, bel.frame _, fun h => by cases h⟩

theorem over : Rows.bitsPutsRow.holds Try.pinned (OpenSpec.ofChange Rows.bitsPutsSpec) :=
  OpenClaim.holds_of_wide 3 Try.f3 rfl rfl rfl rfl rfl rfl rfl ⟨rfl, rfl, rfl, rfl, rfl⟩ rfl rfl rfl rfl rfl (by kernel_rfl) Try.func3 (by kernel_rfl)
    (of_decide_eq_true (by kernel_rfl)) (by unfold Func.isWrapper; first | (rw [if_pos (by decide +kernel)]; kernel_rfl) | (rw [if_neg (by decide +kernel)]; exact ⟨rfl, rfl⟩))
    (fun os started H enc _ => lifted os started H enc)

end Go.Proofs.Ytlcchghlhfamjaa.BitsPuts
namespace Go.Proofs.Ytlcchghlhfamjaa

/-- The statement. -/
theorem bitsPuts_holds : Rows.BitsPutsSaid := BitsPuts.over

end Go.Proofs.Ytlcchghlhfamjaa
#print axioms Go.Proofs.Ytlcchghlhfamjaa.bitsPuts_holds

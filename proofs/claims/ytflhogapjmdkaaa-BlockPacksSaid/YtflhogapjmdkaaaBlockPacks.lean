/- What is proved: 'Rows.BlockPacksSaid': whatever comes in, the law BlockPacks returns true and leaves it as it was. No conditions. The law's printed form is run over the contracts of what it calls; the model follows the logical machine (RlmS18). -/
import Derived.Test.YtflhogapjmdkaaaRows
import Derived.WalkKit
import Derived.ProofKit
import Derived.OpenShut
import Derived.ShutString
import Derived.ChangeOld
import Derived.Below
import Derived.Test.YtflhogapjmdkaaaBlockPacksM5
namespace Go.Proofs.Ytflhogapjmdkaaa.BlockPacks
set_option maxRecDepth 100000
open Go.ChangeShapes Go.WideShapes Go.ChangeAt Go.RowKit Go.Rlm Go.Proofs.Ytflhogapjmdkaaa.X
set_option linter.unusedVariables false

theorem own : ownKnob Try.prog.godebug = none := by kernel_rfl
theorem laidOut : laidOutB Try.prog = true := by kernel_rfl
theorem mixed : Try.prog.follows .mixedOrders = true := by kernel_rfl
theorem named : Try.prog.funcs.all (fun fn => !(fn.name == "runtime.NumGoroutine")) = true := by kernel_rfl

theorem inp_src {L : LHeap} {l : Sl} {ts : List Tok} {A : List Nat} (h : Inp L l 5 (toksCells ts) A) : srcOf L 5 l.n (.slice l.a l.n l.c) = some (ts.flatMap tokL) := by
  obtain ⟨h1, h2⟩ := h
  have hl := toksCells_length ts
  rw [hl] at h1
  have hn : l.n = ts.length := by omega
  rcases h2 with ⟨h2, _⟩ | ⟨c, h2, h3, _⟩
  · have h0 : ts.length = 0 := by rw [h2] at hl; simp at hl; omega
    have ht : ts = [] := List.eq_nil_of_length_eq_zero h0
    subst ht
    rw [hn]
    rfl
  · simp only [srcOf, srcCells, h2]
    rw [hn]
    cases hts : ts with
    | nil => rfl
    | cons t us =>
      have hb : Nat.beq (t :: us).length 0 = false := rfl
      rw [hb, cond_false]
      simp only [cellsAt, h3, Nat.zero_add]
      rw [← hts, hl, Nat.ble_eq_true_of_le (Nat.le_refl _), cond_true, List.drop_zero, List.take_of_length_le (by rw [hl]; omega)]
      rfl

theorem copied {L : LHeap} {ts : List Tok} {n : Nat} (hn : n = ts.length) (hs : ts.length ≤ 300) :
    ∃ x F, app (L ++ [.cells [] 29 false 0]) 29 5 32 ⟨some ⟨L.length, 0, none⟩, 0, 0⟩ n (ts.flatMap tokL) = some x ∧ RT x.2 x.1 ts F ∧ Step [] L F x.2 := by
  subst hn
  cases ts with
  | nil => exact ⟨_, [], rfl, ⟨rfl, .inl ⟨rfl, rfl⟩⟩, .push _ _ _⟩
  | cons t us =>
    generalize hts : t :: us = ts at *
    have h0 : ts.length ≠ 0 := by rw [← hts]; simp
    have hb1 : Nat.ble ts.length 0 = false := by
      cases hx : Nat.ble ts.length 0 with
      | false => rfl
      | true => have := Nat.le_of_ble_eq_true hx; omega
    refine ⟨(⟨some ⟨(L ++ [LBlk.cells [] 29 false 0]).length, 0, none⟩, ts.length, OPEN⟩, L ++ [.cells [] 29 false 0] ++ [.cells (ts.flatMap tokL) 29 false 5]), [(L ++ [LBlk.cells [] 29 false 0]).length], ?_, ?_, (Step.push [] L _).trans (.new [] _ _)⟩
    · simp only [app, Nat.zero_add, hb1, show Nat.blt 0 OPEN = true from rfl, cond_true, cond_false, srcCells, Nat.beq_refl, Option.bind_eq_bind, Option.bind_some, List.nil_append]
      rw [Nat.ble_eq_true_of_le (show ts.length * 32 ≤ 2 ^ 47 by omega), Nat.ble_eq_true_of_le (show ts.length ≤ 2 ^ 62 by omega)]
      rfl
    · exact ⟨rfl, .inr ⟨_, 0, _, 29, false, 5, rfl, get_new, fun i t ht j v hv => by rw [Nat.zero_add]; exact tokL_get ht hv, rfl⟩⟩

theorem shapes {k : Nat} {l l1 : Sl} {ts : List Tok} {A B : List Nat} {s2 s4 : ByteArray} {n3 n5 : Int} (hs : ts.length ≤ 300) (hk : 10 ≤ k) : ∀ (q i j : Nat) (L : LHeap), i + q = ts.length → q < j → RT L l ts A → RT L l1 ts B →
    ∃ L', f3_l7 k j l l1 s2 n3 s4 n5 (i : Int) L = f3_l7 k (j - q) l l1 s2 n3 s4 n5 (ts.length : Int) L' ∧ Step [] L [] L' := by
  intro q
  induction q with
  | zero =>
    intro i j L hi hj hl hm
    exact ⟨L, by rw [Nat.sub_zero, show i = ts.length by omega], .refl _ _⟩
  | succ q ih =>
    intro i j L hi hj hl hm
    obtain ⟨j, rfl⟩ : ∃ j', j = j' + 1 := ⟨j - 1, by omega⟩
    have hi2 : i < ts.length := by omega
    have hn := hl.len
    obtain ⟨a, a1, a2⟩ := hl.here (List.getElem?_eq_getElem hi2)
    obtain ⟨d0, d1, d2, d3, d4⟩ := a2 L fun _ _ => rfl
    generalize ts[i] = t at *
    rw [f3_l7_eq, decide_eq_true (by omega), lif_true, a1, obind_some]
    rw [d0]; simp only [Option.bind_some, asI_int, obind_some]
    rw [d1]; simp only [Option.bind_some, asI_int, obind_some]
    rw [d2]; simp only [Option.bind_some, asI_int, obind_some]
    rw [d3]; simp only [Option.bind_some, asI_int, obind_some]
    rw [d4]; simp only [Option.bind_some, asI_int, obind_some]
    rw [shape_ok (by omega)]
    simp only [lbindR_ret, asB_bool, obind_some]
    have st1 : Step [] L [] (L ++ [.cells (tokL t) 29 false 0]) := .push _ _ _
    obtain ⟨e0, e1, e2, e3, e4⟩ := a2 (L ++ [.cells (tokL t) 29 false 0]) fun x hx => get_push (hl.within x hx)
    generalize L ++ [.cells (tokL t) 29 false 0] = L1 at *
    rw [e0]; simp only [Option.bind_some, asI_int, obind_some]
    rw [e1]; simp only [Option.bind_some, asI_int, obind_some]
    rw [e2]; simp only [Option.bind_some, asI_int, obind_some]
    rw [e3]; simp only [Option.bind_some, asI_int, obind_some]
    rw [e4]; simp only [Option.bind_some, asI_int, obind_some]
    simp only [d0, d1, d2, d3, d4, Option.bind_some, asI_int, obind_some, same_self, when_true]
    obtain ⟨L2, b1, b2⟩ := rshape_ok (k := k) (t := t) (L := L1) (by omega)
    rw [b1]
    simp only [lbindR_ret, asB_bool, obind_some]
    rw [beq_self_eq_true, Bool.not_true, lif_false, wI64 (by omega) (by omega), show (i : Int) + 1 = ((i + 1 : Nat) : Int) by omega]
    have st := st1.trans b2
    obtain ⟨L', x1, x2⟩ := ih (i + 1) j L2 (by omega) (by omega) (hl.mono (st.others hl.within fun i hi => by cases hi)) (hm.mono (st.others hm.within fun i hi => by cases hi))
    exact ⟨L', by rw [x1, show j + 1 - (q + 1) = j - q by omega], st.trans x2⟩

theorem run {k : Nat} {l : Sl} {ts : List Tok} {A : List Nat} {L : LHeap} (hi : Inp L l 5 (toksCells ts) A) (hw : ∀ t ∈ ts, t.wf) (hk : 30000 ≤ k) : ∃ L', lcall Try.prog T k 3 [.slice l.a l.n l.c] L = some (.ret (.bool true) L') := by
  show ∃ L', f3 k l L = _
  obtain ⟨k, rfl⟩ : ∃ k', k = k' + 1 := ⟨k - 1, by omega⟩
  have hl := inp_rt hi
  have hn := hl.len
  rw [f3_eq]
  by_cases h : ts.length > 300
  · obtain ⟨L', a1, _⟩ := awake_ok (k := k) (L := L) (by omega)
    rw [decide_eq_true (by omega), lif_true, a1]
    exact ⟨L', rfl⟩
  · have hf : Fit ts := ⟨by omega, hw⟩
    rw [decide_eq_false (by omega), lif_false, size29, bytes29, inp_src (hi.mono fun x hx => get_push (hi.within x hx)), obind_some]
    obtain ⟨x, F, a1, a2, a3⟩ := copied (L := L) hn (by omega)
    rw [a1, obind_some]
    have hl1 := hl.mono (a3.others hl.within fun i hi => by cases hi)
    obtain ⟨L2, b1, b2⟩ := pack_ok (k := k) a2 hf (by omega)
    rw [b1, lbind_ret, tupL_tuple, obind_some, uncons_cons, asS_string, obind_some, uncons_cons, asI_int, obind_some, nilL_nil]
    have hl2 := hl1.mono (b2.others hl1.within fun i hi => by cases hi)
    have a2b := a2.mono (b2.others a2.within fun i hi => by cases hi)
    obtain ⟨L3, c1, c2⟩ := rpack_ok (k := k) hl2 hf (by omega)
    rw [c1, lbind_ret, tupL_tuple, obind_some, uncons_cons, asS_string, obind_some, uncons_cons, asI_int, obind_some, nilL_nil]
    have hl3 := hl2.mono (c2.others hl2.within fun i hi => by cases hi)
    have a2c := a2b.mono (c2.others a2b.within fun i hi => by cases hi)
    generalize packStr ts = S at *
    generalize packErr ts = E at *
    obtain ⟨L4, d1, d2⟩ := shapes (k := k) (l := l) (l1 := x.1) (s2 := S) (s4 := S) (n3 := E) (n5 := E) (by omega) (by omega) ts.length 0 k L3 (by omega) (by omega) hl3 a2c
    have d1' : f3_l7 k k l x.1 S E S E 0 L3 = f3_l7 k (k - ts.length) l x.1 S E S E (ts.length : Int) L4 := d1
    rw [d1']
    have hl4 := hl3.mono (d2.others hl3.within fun i hi => by cases hi)
    have a2d := a2c.mono (d2.others a2c.within fun i hi => by cases hi)
    obtain ⟨j, hj⟩ : ∃ j, k - ts.length = j + 1 := ⟨k - ts.length - 1, by omega⟩
    rw [hj, f3_l7_eq, decide_eq_false (by omega), lif_false, beq_self_eq_true, lif_true, beq_self_eq_true, lif_true, same_ok (k := k) a2d hl4 (by omega) (by omega) (by omega), lbind_ret, asB_bool, obind_some, decide_eq_true rfl, lif_true]
    obtain ⟨L5, e1, _⟩ := awake_ok (k := k) (L := L4) (by omega)
    rw [e1]
    exact ⟨L5, rfl⟩

theorem walk {w : World} {a : Option Addr} {len cap : Nat} {zs : List Tok} (hl : zs.length = len) (hc : IsCells w a len cap 5 (toksCells zs)) (hz : ∀ t ∈ zs, t.wf) :
    Calls Try.prog 3 #[.slice a len cap] w fun e w' => e = .returned (.bool true) ∧ Below w.heap.size w w' := by
  obtain ⟨m, L, l, A, _, hr, hno, hv, hi, hn, _, _⟩ := (Rep.empty (P := Try.prog) (w := w)).arg (fun _ => own_nil) hc (toksCells_flat zs)
  obtain ⟨L', h⟩ := run (k := 30000) hi hz (by omega)
  exact law_walk specOk mixed named h hr (.cons hv .nil) hno

set_option maxRecDepth 100000 in
theorem lifted (os : Os) (started : os.Started) (H : Type) (enc : TypeId × Value → H) :
    ReturnsInHanded {} Try.checked os 3 .any (Rows.blockPacksSpec.pre6 enc Try.prog Try.f3 Rows.blockPacksRow.domain false) (Rows.blockPacksSpec.post enc Try.prog Try.f3 false true false false) := by
  refine returnsInHanded_of_change (C := Try.checked) own started (by kernel_rfl) Try.func3
    (ChangeSpec.witness6 (enc := enc) (C := Try.checked) false ⟨#[], #[.slice none 0 0], []⟩ 8 (by kernel_rfl) (by kernel_rfl) (by kernel_rfl) (by kernel_rfl)) ?_
  intro W base args ds gs before hval0 hW hcnd _
  have hval : ∀ (j : Nat) t v, Try.f3.params[j]? = some t → args[j]? = some v → Value.okWide Try.prog W .any base t v := hval0
  have hW' := hW
  obtain ⟨p, q, hA0, hV, rfl, hfz, hnd⟩ := hW
  have hA : DataW.TrodAll enc Try.prog W 0 (fun _ => true) true Try.f3.params.toList args.toList ds p := hA0
  rw [Try.params3] at hA hval
  obtain ⟨v0, vs0, d0, ds0, p0, q0, hargs, rfl, rfl, h0, r0⟩ := trodAll_cons hA
  obtain ⟨rfl, rfl, rfl⟩ := trodAll_nil r0
  obtain rfl : args = #[v0] := by cases args; simp_all
  obtain ⟨rfl, rfl⟩ := trodVars_none hV
  obtain ⟨a0, len0, cap0, rfl⟩ := okWide_slice Try.underlying22 (hval 0 22 v0 rfl rfl)
  have k0 := h0
  have lt0 : ∀ x ∈ p0, x.block < W.heap.size := by obtain ⟨m, hm⟩ := k0; exact DataW.trod_lt m _ _ _ hm
  obtain ⟨z0, l0, w0, u0⟩ := open_tokens Try.underlying22 Try.underlying29 (by kernel_rfl) ⟨rfl, rfl, rfl, rfl, rfl⟩ ⟨by kernel_rfl, by kernel_rfl, by kernel_rfl, by kernel_rfl, by kernel_rfl⟩ Try.underlying5 Try.underlying5 Try.underlying3 Try.underlying3 Try.underlying3 h0
  clear hA0 hval0
  refine (walk l0 w0 u0).mono fun e W' ⟨he, bel⟩ => ?_
  subst he
  exact ⟨_, rfl, _, _, _, [], _, [], hW', trodAll_mk1 (shut_bool Try.underlying4 _), (trodAll_cons_mk (Below.trod laidOut (by kernel_rfl) (of_decide_eq_true (by kernel_rfl)) k0 bel lt0) trodAll_mk0), rfl, bel.frame _, fun h => by cases h⟩

theorem over : Rows.blockPacksRow.holds Try.pinned (OpenSpec.ofChange Rows.blockPacksSpec) :=
  OpenClaim.holds_of_wide 3 Try.f3 rfl rfl rfl rfl rfl rfl rfl ⟨rfl, rfl, rfl, rfl, rfl⟩ rfl rfl rfl rfl rfl (by kernel_rfl) Try.func3 (by kernel_rfl)
    (of_decide_eq_true (by kernel_rfl)) (by unfold Func.isWrapper; first | (rw [if_pos (by decide +kernel)]; kernel_rfl) | (rw [if_neg (by decide +kernel)]; exact ⟨rfl, rfl⟩))
    (fun os started H enc _ => lifted os started H enc)

end Go.Proofs.Ytflhogapjmdkaaa.BlockPacks
namespace Go.Proofs.Ytflhogapjmdkaaa

/-- The statement. -/
theorem blockPacks_holds : Rows.BlockPacksSaid := BlockPacks.over

end Go.Proofs.Ytflhogapjmdkaaa
#print axioms Go.Proofs.Ytflhogapjmdkaaa.blockPacks_holds

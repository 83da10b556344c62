/- What is proved: 'Rows.BlockNamesSaid': the closed law BlockNames returns true. No conditions. The law's printed form is run over the contracts of what it calls; the model follows the logical machine (RlmS18). -/
import Derived.Test.YtflhogapjmdkaaaRows
import Derived.WalkKit
import Derived.ProofKit
import Derived.OpenShut
import Derived.ShutString
import Derived.ChangeOld
import Derived.Below
import Derived.Test.YtflhogapjmdkaaaBlockNamesM4
namespace Go.Proofs.Ytflhogapjmdkaaa.BlockNames
set_option maxRecDepth 100000
open Go.ChangeShapes Go.WideShapes Go.ChangeAt Go.RowKit Go.Rlm Go.Proofs.Ytflhogapjmdkaaa.X
set_option linter.unusedVariables false

theorem own : ownKnob Try.prog.godebug = none := by kernel_rfl
theorem laidOut : laidOutB Try.prog = true := by kernel_rfl
theorem mixed : Try.prog.follows .mixedOrders = true := by kernel_rfl
theorem named : Try.prog.funcs.all (fun fn => !(fn.name == "runtime.NumGoroutine")) = true := by kernel_rfl

def bads : List Tok := [⟨0, 0, 0, 0, 0⟩, ⟨4, 0, 0, 0, 0⟩, ⟨1, 0, 0, 1, 0⟩, ⟨2, 0, 2, 1, 0⟩, ⟨2, 0, 259, 1, 0⟩, ⟨2, 0, 3, 0, 0⟩, ⟨2, 0, 3, 32769, 0⟩, ⟨3, 0, 3, 0, 4⟩, ⟨3, 0, 3, 0, -1⟩, ⟨3, 0, 3, 1, 0⟩]
def wfB (t : Tok) : Bool := decide (0 ≤ t.k) && decide (t.k < 256) && decide (0 ≤ t.b) && decide (t.b < 256)
theorem wfB_ok {t : Tok} (h : wfB t = true) : t.wf := by
  simp only [wfB, Bool.and_eq_true, decide_eq_true_eq] at h
  exact ⟨⟨h.1.1.1, h.1.1.2⟩, h.1.2, h.2⟩
theorem bads_bad : bads.all (fun t => wfB t && !tokShape t) = true := by decide

/-- Each of the bad ones is refused. -/
theorem bad_loop {k : Nat} {l : Sl} {A : List Nat} (hk : 2000 ≤ k) : ∀ (m i j : Nat) (L : LHeap), i + m = 10 → m < j → RT L l bads A →
    ∃ L', f5_l2 k j l 10 (i : Int) L = f5_l10 k k ⟨none, 0, 0⟩ 0 L' := by
  intro m
  induction m with
  | zero =>
    intro i j L hi hj hl
    obtain ⟨j, rfl⟩ : ∃ j', j = j' + 1 := ⟨j - 1, by omega⟩
    rw [f5_l2_eq, decide_eq_false (by omega), lif_false]
    exact ⟨L, rfl⟩
  | succ m ih =>
    intro i j L hi hj hl
    obtain ⟨j, rfl⟩ : ∃ j', j = j' + 1 := ⟨j - 1, by omega⟩
    have hi2 : i < bads.length := by show i < 10; omega
    obtain ⟨a, a1, a2⟩ := hl.here (List.getElem?_eq_getElem hi2)
    obtain ⟨d0, d1, d2, d3, d4⟩ := a2 L fun _ _ => rfl
    have hbad := List.all_eq_true.1 bads_bad _ (List.getElem_mem hi2)
    rw [Bool.and_eq_true] at hbad
    obtain ⟨hw, hsh⟩ := hbad
    generalize bads[i] = t at *
    have hw := wfB_ok hw
    have hsh : tokShape t = false := by simpa using hsh
    rw [f5_l2_eq, decide_eq_true (by omega), lif_true, a1, obind_some]
    rw [d0]; simp only [Option.bind_some, asI_int, obind_some]
    rw [d1]; simp only [Option.bind_some, asI_int, obind_some]
    rw [d2]; simp only [Option.bind_some, asI_int, obind_some]
    rw [d3]; simp only [Option.bind_some, asI_int, obind_some]
    rw [d4]; simp only [Option.bind_some, asI_int, obind_some]
    rw [stores_new (by rfl)]
    simp only [obind_some]
    have hx : [LBlk.cells [Value.int .u8 t.k, Value.int .u8 t.b, Value.int .i64 t.l, Value.int .i64 t.d, Value.int .i64 t.s] 29 false 0] = [LBlk.cells ([t].flatMap tokL) 29 false 0] := by simp [tokL]
    have hx2 : [LBlk.cells ([t].flatMap tokL) 29 false 0] = [LBlk.cells (tokL t) 29 false 0] := by simp
    rw [hx, hx2]
    have g0 : (L ++ [LBlk.cells (tokL t) 29 false 0])[L.length]? = some (.cells (tokL t) 29 false 0) := get_new
    have st0 : Step [] L [] (L ++ [LBlk.cells (tokL t) 29 false 0]) := .push _ _ _
    have hlt : L.length < (L ++ [LBlk.cells (tokL t) 29 false 0]).length := by simp
    generalize hc : L.length = c at *
    generalize L ++ [LBlk.cells (tokL t) 29 false 0] = L1 at *
    obtain ⟨e0, e1, e2, e3, e4⟩ := tok_cell g0
    rw [e0]; simp only [Option.bind_some, asI_int, obind_some]
    rw [e1]; simp only [Option.bind_some, asI_int, obind_some]
    rw [e2]; simp only [Option.bind_some, asI_int, obind_some]
    rw [e3]; simp only [Option.bind_some, asI_int, obind_some]
    rw [e4]; simp only [Option.bind_some, asI_int, obind_some]
    rw [hx]
    have rt : RT (L1 ++ [LBlk.cells ([t].flatMap tokL) 29 false 0]) ⟨some ⟨L1.length, 0, none⟩, 1, 1⟩ [t] [L1.length] := RT.lit rfl
    have st1 : Step [] L1 [] (L1 ++ [LBlk.cells ([t].flatMap tokL) 29 false 0]) := .push _ _ _
    generalize L1 ++ [LBlk.cells ([t].flatMap tokL) 29 false 0] = L2 at *
    obtain ⟨L3, b1, b2⟩ := pack_ok (k := k) rt ⟨by simp, fun u hu => by rw [List.mem_singleton.1 hu]; exact hw⟩ (by simp; omega)
    have hno : ¬ ∀ u ∈ [t], tokShape u = true := fun h => by have := h t (by simp); rw [hsh] at this; cases this
    rw [b1, (packStr_bad hno).2]
    simp only [lbind_ret, tupL_tuple, uncons_cons, nilL_nil, asS_string, asI_int, obind_some]
    rw [show ((4 : Int) != 4) = false from rfl, lif_false]
    have st3 : Step [] L1 [] L3 := st1.trans b2
    have g3 : L3[c]? = some (.cells (tokL t) 29 false 0) := by rw [st3.keep c hlt (by simp), g0]
    obtain ⟨e0, e1, e2, e3, e4⟩ := tok_cell g3
    rw [e0]; simp only [Option.bind_some, asI_int, obind_some]
    rw [e1]; simp only [Option.bind_some, asI_int, obind_some]
    rw [e2]; simp only [Option.bind_some, asI_int, obind_some]
    rw [e3]; simp only [Option.bind_some, asI_int, obind_some]
    rw [e4]; simp only [Option.bind_some, asI_int, obind_some]
    rw [shape_ok (by omega), hsh]
    simp only [lbind_ret, asB_bool, obind_some]
    rw [lif_false, wI64 (by omega) (by omega), show (i : Int) + 1 = ((i + 1 : Nat) : Int) by omega]
    have st4 : Step [] L [] (L3 ++ [LBlk.cells (tokL t) 29 false 0]) := (st0.trans st3).trans (.push _ _ _)
    exact ih (i + 1) j _ (by omega) (by omega) (hl.mono (st4.others hl.within fun x hx => by cases hx))

/-- The tokens of a size. -/
def four (n : Nat) : List Tok :=
  [⟨2, 0, 3 + n * 17, 2 ^ n, 0⟩, ⟨2, 0, if 2 + 2 ^ (n % 9) < 258 then 2 + 2 ^ (n % 9) else 258, ((2 ^ n ||| 2 ^ n / 2 : Nat) : Int), 0⟩, ⟨3, 0, 258 - n, 0, ((n % 4 : Nat) : Int)⟩, ⟨1, ((17 * n % 256 : Nat) : Int), 0, 0, 0⟩]
def alls (n : Nat) : List Tok := (List.range n).flatMap four
def fixT (t : Tok) : Tok := let u : Tok := { t with d := if 32768 < t.d then 32768 else t.d }; if u.k = 1 then u else { u with l := if 3 > u.l then 3 else u.l }
def fixed : List Tok := (alls 16).map fixT

theorem fixed_ok : fixed.all (fun t => wfB t && tokShape t) = true := by decide +kernel

theorem Fit_fixed : Fit fixed ∧ ∀ t ∈ fixed, tokShape t = true := by
  have h := List.all_eq_true.1 fixed_ok
  refine ⟨⟨by decide +kernel, fun t ht => ?_⟩, fun t ht => ?_⟩
  · have := h t ht; rw [Bool.and_eq_true] at this; exact wfB_ok this.1
  · have := h t ht; rw [Bool.and_eq_true] at this; exact this.2


theorem vals {n : Nat} (hn : n < 16) :
    [Value.int IntKind.u8 2, Value.int IntKind.u8 0, Value.int IntKind.i64 (IntKind.wrap IntKind.i64 (3 + IntKind.wrap IntKind.i64 ((n : Int) * 17))), Value.int IntKind.i64 (IntKind.wrap IntKind.i64 (1 * 2 ^ min (Int.toNat (n : Int)) 64)), Value.int IntKind.i64 0] = tokL ⟨2, 0, 3 + n * 17, 2 ^ n, 0⟩ ∧
    [Value.int IntKind.u8 2, Value.int IntKind.u8 0,
      Value.int IntKind.i64
        (if false = true then
          if IntKind.wrap IntKind.i64 (2 + IntKind.wrap IntKind.i64 (1 * 2 ^ min (Int.toNat (Int.tmod (n : Int) 9)) 64)) > 258 then
            IntKind.wrap IntKind.i64 (2 + IntKind.wrap IntKind.i64 (1 * 2 ^ min (Int.toNat (Int.tmod (n : Int) 9)) 64))
          else 258
        else
          if IntKind.wrap IntKind.i64 (2 + IntKind.wrap IntKind.i64 (1 * 2 ^ min (Int.toNat (Int.tmod (n : Int) 9)) 64)) < 258 then
            IntKind.wrap IntKind.i64 (2 + IntKind.wrap IntKind.i64 (1 * 2 ^ min (Int.toNat (Int.tmod (n : Int) 9)) 64))
          else 258),
      Value.int IntKind.i64 (bitop BinOp.or IntKind.i64 (IntKind.wrap IntKind.i64 (1 * 2 ^ min (Int.toNat (n : Int)) 64)) (Int.fdiv (IntKind.wrap IntKind.i64 (1 * 2 ^ min (Int.toNat (n : Int)) 64)) 2)),
      Value.int IntKind.i64 0] = tokL ⟨2, 0, if 2 + 2 ^ (n % 9) < 258 then 2 + 2 ^ (n % 9) else 258, ((2 ^ n ||| 2 ^ n / 2 : Nat) : Int), 0⟩ ∧
    [Value.int IntKind.u8 3, Value.int IntKind.u8 0, Value.int IntKind.i64 (IntKind.wrap IntKind.i64 (258 - (n : Int))), Value.int IntKind.i64 0,
      Value.int IntKind.i64 (Int.tmod (n : Int) 4), Value.int IntKind.u8 1, Value.int IntKind.u8 (IntKind.wrap IntKind.u8 (IntKind.wrap IntKind.i64 (17 * (n : Int)))),
      Value.int IntKind.i64 0, Value.int IntKind.i64 0, Value.int IntKind.i64 0] = tokL ⟨3, 0, 258 - n, 0, ((n % 4 : Nat) : Int)⟩ ++ tokL ⟨1, ((17 * n % 256 : Nat) : Int), 0, 0, 0⟩ := by
  have : n = 0 ∨ n = 1 ∨ n = 2 ∨ n = 3 ∨ n = 4 ∨ n = 5 ∨ n = 6 ∨ n = 7 ∨ n = 8 ∨ n = 9 ∨ n = 10 ∨ n = 11 ∨ n = 12 ∨ n = 13 ∨ n = 14 ∨ n = 15 := by omega
  rcases this with rfl | rfl | rfl | rfl | rfl | rfl | rfl | rfl | rfl | rfl | rfl | rfl | rfl | rfl | rfl | rfl <;> exact ⟨by kernel_rfl, by kernel_rfl, by kernel_rfl⟩

theorem src_toks {L : LHeap} {cs : List Value} {ty : TypeId} {sp q : Nat} (h : cs.length = q * 5) (hq : q ≠ 0) : srcOf (L ++ [.cells cs ty false sp]) 5 q (.slice (some ⟨L.length, 0, none⟩) q q) = some cs := by
  have hb : Nat.beq q 0 = false := by
    cases hx : Nat.beq q 0 with
    | false => rfl
    | true => exact absurd (Nat.eq_of_beq_eq_true hx) hq
  simp only [srcOf, srcCells, hb, cond_false, cellsAt, get_new, Nat.zero_add, h, Nat.ble_eq_true_of_le (Nat.le_refl _), cond_true, List.drop_zero]
  rw [List.take_of_length_le (by omega)]

theorem alls_succ (n : Nat) : alls (n + 1) = alls n ++ four n := by simp [alls, List.range_succ]
theorem alls_len (n : Nat) : (alls n).length = 4 * n := by
  induction n with
  | zero => rfl
  | succ n ih => rw [alls_succ, List.length_append, ih]; simp [four]; omega

theorem build_loop {k : Nat} : ∀ (m n j : Nat) (l : Sl) (F : List Nat) (L : LHeap), n + m = 16 → m < j → OZ L l ((alls n).flatMap tokL) 29 5 F →
    ∃ l' L' F', f5_l10 k j l (n : Int) L = f5_l16 k k l' 0 L' ∧ OZ L' l' ((alls 16).flatMap tokL) 29 5 F' := by
  intro m
  induction m with
  | zero =>
    intro n j l F L hn hj h
    obtain ⟨j, rfl⟩ : ∃ j', j = j' + 1 := ⟨j - 1, by omega⟩
    obtain rfl : n = 16 := by omega
    rw [f5_l10_eq, decide_eq_false (by omega), lif_false]
    exact ⟨l, L, F, rfl, h⟩
  | succ m ih =>
    intro n j l F L hn hj h
    obtain ⟨j, rfl⟩ : ∃ j', j = j' + 1 := ⟨j - 1, by omega⟩
    obtain ⟨v1, v2, v3⟩ := vals (n := n) (by omega)
    have e9 : Int.tmod (n : Int) 9 = ((n % 9 : Nat) : Int) := tmod_nat n 9
    rw [f5_l10_eq, v1, v2, v3]
    rw [decide_eq_true (show (n : Int) ≤ 15 by omega), lif_true, decide_eq_false (show ¬ (n : Int) < 0 by omega), Bool.not_false, when_true, size29, bytes29, src_toks (by rfl) (by omega), obind_some]
    have hln := (OZ.rt h).len
    rw [alls_len] at hln
    generalize hA : tokL ⟨2, 0, 3 + n * 17, 2 ^ n, 0⟩ = A
    have hAl : A.length = 5 := by rw [← hA]; rfl
    generalize hB : tokL ⟨2, 0, if 2 + 2 ^ (n % 9) < 258 then 2 + 2 ^ (n % 9) else 258, ((2 ^ n ||| 2 ^ n / 2 : Nat) : Int), 0⟩ = B
    have hBl : B.length = 5 := by rw [← hB]; rfl
    generalize hC : tokL ⟨3, 0, 258 - n, 0, ((n % 4 : Nat) : Int)⟩ ++ tokL ⟨1, ((17 * n % 256 : Nat) : Int), 0, 0, 0⟩ = C
    have hCl : C.length = 10 := by rw [← hC]; rfl
    have hall : (alls (n + 1)).flatMap tokL = (alls n).flatMap tokL ++ A ++ B ++ C := by
      rw [alls_succ, List.flatMap_append, ← hA, ← hB, ← hC]
      simp [four]
    have h1 : OZ (L ++ [LBlk.cells A 29 false 0]) l ((alls n).flatMap tokL) 29 5 F := h.mono fun i hi => get_push (h.within i hi)
    obtain ⟨s1, L1, F1, p1, p2, p3, p4⟩ := h1.app A 1 32 (by omega) (by omega) (by omega) (by omega)
    rw [p1, obind_some, decide_eq_false (show ¬ Int.tmod (n : Int) 9 < 0 by rw [e9]; omega), Bool.not_false, when_true, when_true, when_true, src_toks (by omega) (by omega), obind_some]
    have h2 : OZ (L1 ++ [LBlk.cells B 29 false 0]) s1 ((alls n).flatMap tokL ++ A) 29 5 F1 := p2.mono fun i hi => get_push (p2.within i hi)
    obtain ⟨s2, L2, F2, q1, q2, q3, q4⟩ := h2.app B 1 32 (by omega) (by omega) (by omega) (by omega)
    simp only
    rw [q1, obind_some, src_toks (by omega) (by omega), obind_some]
    have h3 : OZ (L2 ++ [LBlk.cells C 29 false 0]) s2 ((alls n).flatMap tokL ++ A ++ B) 29 5 F2 := q2.mono fun i hi => get_push (q2.within i hi)
    obtain ⟨s3, L3, F3, r1, r2, r3, r4⟩ := h3.app C 2 32 (by omega) (by omega) (by omega) (by omega)
    simp only
    rw [r1, obind_some, wI64 (by omega) (by omega), show (n : Int) + 1 = ((n + 1 : Nat) : Int) by omega]
    rw [← hall] at r2
    exact ih (n + 1) j s3 F3 L3 (by omega) (by omega) r2

theorem toks_set {ts : List Tok} : ∀ {i j : Nat} {t u : Tok} {v : Value}, ts[i]? = some t → j < 5 → (tokL t).set j v = tokL u → (ts.flatMap tokL).set (i * 5 + j) v = (ts.set i u).flatMap tokL := by
  induction ts with
  | nil => intro i j t u v h; cases h
  | cons a ts ih =>
    intro i j t u v h hj hu
    rw [List.flatMap_cons]
    cases i with
    | zero =>
      simp at h
      subst h
      rw [Nat.zero_mul, Nat.zero_add, List.set_append_left _ _ (by simp [tokL]; omega), hu]
      rfl
    | succ i =>
      rw [List.set_append_right _ _ (by simp [tokL]; omega)]
      have e : (i + 1) * 5 + j - (tokL a).length = i * 5 + j := by simp [tokL]; omega
      rw [e, ih (by simpa using h) hj hu]
      rfl

theorem fix_loop {k : Nat} {l : Sl} {F : List Nat} : ∀ (m i j : Nat) (ts : List Tok) (L : LHeap), i + m = ts.length → ts.length < 1000 → m < j → OZ L l (ts.flatMap tokL) 29 5 F →
    ∃ L', f5_l16 k j l (i : Int) L = f5_l16 k (j - m) l (ts.length : Int) L' ∧ OZ L' l ((ts.take i ++ (ts.drop i).map fixT).flatMap tokL) 29 5 F := by
  intro m
  induction m with
  | zero =>
    intro i j ts L hi hs hj h
    have hd : ts.drop i = [] := List.drop_of_length_le (by omega)
    refine ⟨L, by rw [Nat.sub_zero, show i = ts.length by omega], ?_⟩
    rw [hd, List.take_of_length_le (by omega)]
    simpa using h
  | succ m ih =>
    intro i j ts L hi hs hj h
    obtain ⟨j, rfl⟩ : ∃ j', j = j' + 1 := ⟨j - 1, by omega⟩
    have hi2 : i < ts.length := by omega
    have hln := (OZ.rt h).len
    have hlen := tokList_len ts
    obtain ⟨q1, q2, ⟨rfl, _, _⟩ | ⟨c, q3, q4, rfl⟩⟩ := h
    · simp at hln; omega
    have hget : ts[i]? = some ts[i] := List.getElem?_eq_getElem hi2
    have hix : idx l (i : Int) 5 = some ⟨c, i * 5, none⟩ := by
      rw [q3, idx_of (by omega)]
      simp
    have cellAt : ∀ (M : LHeap) (us : List Tok) (u : Tok), M[c]? = some (.cells (us.flatMap tokL) 29 false 5) → us[i]? = some u →
        cell M ((Addr.mk c (i * 5) none).add 0) = some (.int .u8 u.k) ∧ cell M ((Addr.mk c (i * 5) none).add 2) = some (.int .i64 u.l) ∧ cell M ((Addr.mk c (i * 5) none).add 3) = some (.int .i64 u.d) := fun M us u hM hu => by
      refine ⟨?_, ?_, ?_⟩
      · rw [mk_add, cell_of hM, tokL_get hu (j := 0) (v := .int .u8 u.k) rfl]
      · rw [mk_add, cell_of hM, tokL_get hu (j := 2) (v := .int .i64 u.l) rfl]
      · rw [mk_add, cell_of hM, tokL_get hu (j := 3) (v := .int .i64 u.d) rfl]
    generalize hti : ts[i] = t at *
    obtain ⟨c0, c2, c3⟩ := cellAt L ts t q4 hget
    let u : Tok := { t with d := if 32768 < t.d then 32768 else t.d }
    have hst : stores L ((Addr.mk c (i * 5) none).add 3) [Value.int .i64 (if false = true then if 32768 > t.d then 32768 else t.d else if 32768 < t.d then 32768 else t.d)] = some (L.set c (.cells ((ts.set i u).flatMap tokL) 29 false 5)) := by
      rw [mk_add, stores_of q4 (by rw [hlen]; simp; omega)]
      simp only [setAll, Bool.false_eq_true, if_false]
      rw [toks_set (u := u) hget (by omega) rfl]
    rw [f5_l16_eq, decide_eq_true (by omega), lif_true, hix, obind_some, c3]
    simp only [Option.bind_some, asI_int, obind_some]
    rw [hst, obind_some]
    have r4 := get_set_self (x := .cells ((ts.set i u).flatMap tokL) 29 false 5) q4
    have hgu : (ts.set i u)[i]? = some u := List.getElem?_set_self hi2
    have hul : (ts.set i u).length = ts.length := List.length_set
    generalize L.set c (.cells ((ts.set i u).flatMap tokL) 29 false 5) = L1 at *
    obtain ⟨d0, d2, d3⟩ := cellAt L1 _ u r4 hgu
    rw [d0]
    simp only [Option.bind_some, asI_int, obind_some]
    rw [wI64 (n := (i : Int) + 1) (by omega) (by omega), show (i : Int) + 1 = ((i + 1 : Nat) : Int) by omega]
    have fin : ∀ (M : LHeap) (w : Tok), w = fixT t → M[c]? = some (.cells ((ts.set i w).flatMap tokL) 29 false 5) → ∃ L', f5_l16 k j l ((i + 1 : Nat) : Int) M = f5_l16 k (j + 1 - (m + 1)) l (ts.length : Int) L' ∧ OZ L' l ((ts.take i ++ (ts.drop i).map fixT).flatMap tokL) 29 5 [c] := by
      intro M w hw hM
      have hwl : (ts.set i w).length = ts.length := List.length_set
      have hO : OZ M l ((ts.set i w).flatMap tokL) 29 5 [c] := ⟨by rw [tokList_len, hwl, hln], by omega, .inr ⟨c, q3, hM, rfl⟩⟩
      obtain ⟨L', x1, x2⟩ := ih (i + 1) j (ts.set i w) M (by omega) (by omega) (by omega) hO
      refine ⟨L', by rw [x1, hwl, show j + 1 - (m + 1) = j - m by omega], ?_⟩
      have e1 : (ts.set i w).take (i + 1) = ts.take i ++ [fixT t] := by
        rw [List.take_add_one, List.getElem?_set_self hi2, List.take_set_of_le (Nat.le_refl i), hw]; rfl
      have e2 : (ts.set i w).drop (i + 1) = ts.drop (i + 1) := by rw [List.drop_set_of_lt (by omega)]
      have e3 : ts.drop i = t :: ts.drop (i + 1) := by rw [List.drop_eq_getElem_cons hi2, hti]
      rw [e1, e2] at x2
      rw [e3, List.map_cons]
      simpa using x2
    by_cases hk1 : t.k = 1
    · rw [show ((u.k : Int) != 1) = false by show (t.k != 1) = false; rw [hk1]; rfl, lif_false]
      refine fin L1 u ?_ r4
      show u = fixT t
      unfold fixT
      show u = if u.k = 1 then u else _
      rw [if_pos (show u.k = 1 from hk1)]
    · rw [show ((u.k : Int) != 1) = true by show (t.k != 1) = true; simpa using hk1, lif_true, d2]
      simp only [Option.bind_some, asI_int, obind_some, if_true]
      have hst2 : stores L1 ((Addr.mk c (i * 5) none).add 2) [Value.int .i64 (if 3 > u.l then 3 else u.l)] = some (L1.set c (.cells ((ts.set i { u with l := if 3 > u.l then 3 else u.l }).flatMap tokL) 29 false 5)) := by
        rw [mk_add, stores_of r4 (by rw [tokList_len, hul]; simp; omega)]
        simp only [setAll]
        rw [toks_set (u := { u with l := if 3 > u.l then 3 else u.l }) hgu (by omega) rfl, List.set_set]
      rw [hst2, obind_some]
      refine fin _ { u with l := if 3 > u.l then 3 else u.l } ?_ (get_set_self r4)
      unfold fixT
      show _ = if u.k = 1 then u else { u with l := if 3 > u.l then 3 else u.l }
      rw [if_neg (show ¬ u.k = 1 from hk1)]

theorem run {k : Nat} {L : LHeap} (hk : 20000 ≤ k) : ∃ L', lcall Try.prog T k 5 [] L = some (.ret (.bool true) L') := by
  show ∃ L', f5 k L = _
  obtain ⟨k, rfl⟩ : ∃ k', k = k' + 1 := ⟨k - 1, by omega⟩
  rw [f5_eq]
  have rt : RT (L ++ [.cells (bads.flatMap tokL) 29 false 0]) ⟨some ⟨L.length, 0, none⟩, 10, 10⟩ bads [L.length] := RT.lit rfl
  obtain ⟨L1, a1⟩ := bad_loop (k := k) (by omega) 10 0 k _ rfl (by omega) rt
  have a1' : f5_l2 k k ⟨some ⟨L.length, 0, none⟩, 10, 10⟩ 10 0 (L ++ [.cells (bads.flatMap tokL) 29 false 0]) = f5_l10 k k ⟨none, 0, 0⟩ 0 L1 := a1
  refine Eq.mp (congrArg (fun x => ∃ L', x = some (LR.ret (Value.bool true) L')) (show _ = _ from a1'.symm)) ?_
  obtain ⟨l, L2, F, b1, b2⟩ := build_loop (k := k) 16 0 k ⟨none, 0, 0⟩ [] L1 rfl (by omega) (OZ.nil _ _ (by omega))
  have b1' : f5_l10 k k ⟨none, 0, 0⟩ 0 L1 = f5_l16 k k l 0 L2 := b1
  rw [b1']
  have hal := alls_len 16
  obtain ⟨L3, c1, c2⟩ := fix_loop (k := k) 64 0 k (alls 16) L2 (by omega) (by omega) (by omega) b2
  have c1' : f5_l16 k k l 0 L2 = f5_l16 k (k - 64) l ((alls 16).length : Int) L3 := c1
  rw [c1', hal]
  rw [List.take_zero, List.drop_zero, List.nil_append] at c2
  have c2 : OZ L3 l (fixed.flatMap tokL) 29 5 F := c2
  have hrt := OZ.rt c2
  have hln := hrt.len
  have hfl : fixed.length = 64 := by unfold fixed; rw [List.length_map, hal]
  obtain ⟨j, hj⟩ : ∃ j, k - 64 = j + 1 := ⟨k - 65, by omega⟩
  rw [hj, f5_l16_eq, decide_eq_false (by omega), lif_false]
  obtain ⟨hf, hs⟩ := Fit_fixed
  obtain ⟨L4, d1, d2⟩ := pack_ok (k := k) hrt hf (by omega)
  rw [d1, (packStr_ok hs).2]
  simp only [lbind_ret, tupL_tuple, uncons_cons, nilL_nil, asS_string, asI_int, obind_some]
  have hrt4 := hrt.mono (d2.others hrt.within fun i hi => by cases hi)
  obtain ⟨m, L5, F5, e1, e2, e3⟩ := back_ok (k := k) (L := L4) hf hs (by omega)
  have hrt5 := hrt4.mono (e3.others hrt4.within fun i hi => by cases hi)
  rw [e1]
  simp only [lbind_ret, tupL_tuple, uncons_cons, nilL_nil, asSl_slice, asI_int, obind_some]
  rw [show ((0 : Int) == 0) = true from rfl, lif_true, lif_true, same_ok (k := k) hrt5 (OZ.rt e2) (by omega) (by omega) (by omega)]
  rw [lbind_ret, asB_bool, obind_some, decide_eq_true rfl, lif_true]
  obtain ⟨L6, g1, _⟩ := awake_ok (k := k) (L := L5) (by omega)
  rw [g1]
  exact ⟨L6, rfl⟩

theorem walk {w : World} : Calls Try.prog 5 #[] w fun e w' => e = .returned (.bool true) ∧ Below w.heap.size w w' := by
  obtain ⟨L', h⟩ := run (k := 20000) (L := []) (by omega)
  exact law_walk specOk mixed named h Rep.empty .nil fun _ => own_nil

set_option maxRecDepth 100000 in
theorem lifted (os : Os) (started : os.Started) (H : Type) (enc : TypeId × Value → H) :
    ReturnsInHanded {} Try.checked os 5 .any (Rows.blockNamesSpec.pre6 enc Try.prog Try.f5 Rows.blockNamesRow.domain false) (Rows.blockNamesSpec.post enc Try.prog Try.f5 false true false false) := by
  refine returnsInHanded_of_change (C := Try.checked) own started (by kernel_rfl) Try.func5
    (ChangeSpec.witness6 (enc := enc) (C := Try.checked) false ⟨#[], #[], []⟩ 8 (by kernel_rfl) (by kernel_rfl) (by kernel_rfl) (by kernel_rfl)) ?_
  intro W base args ds gs before hval0 hW hcnd _
  have hW' := hW
  obtain ⟨p, q, hA0, hV, rfl, hfz, hnd⟩ := hW
  have hA : DataW.TrodAll enc Try.prog W 0 (fun _ => true) true Try.f5.params.toList args.toList ds p := hA0
  rw [Try.params5] at hA
  obtain ⟨rfl, rfl, rfl⟩ := trodAll_none hA
  obtain ⟨rfl, rfl⟩ := trodVars_none hV
  clear hA0 hval0
  refine (walk (w := W)).mono fun e W' ⟨he, bel⟩ => ?_
  subst he
  exact ⟨_, rfl, _, _, _, [], _, [], hW', trodAll_mk1 (shut_bool Try.underlying4 _), trodAll_mk0, rfl, bel.frame _, fun h => by cases h⟩

theorem over : Rows.blockNamesRow.holds Try.pinned (OpenSpec.ofChange Rows.blockNamesSpec) :=
  OpenClaim.holds_of_wide 5 Try.f5 rfl rfl rfl rfl rfl rfl rfl ⟨rfl, rfl, rfl, rfl, rfl⟩ rfl rfl rfl rfl rfl (by kernel_rfl) Try.func5 (by kernel_rfl)
    (of_decide_eq_true (by kernel_rfl)) (by unfold Func.isWrapper; first | (rw [if_pos (by decide +kernel)]; kernel_rfl) | (rw [if_neg (by decide +kernel)]; exact ⟨rfl, rfl⟩))
    (fun os started H enc _ => lifted os started H enc)

end Go.Proofs.Ytflhogapjmdkaaa.BlockNames
namespace Go.Proofs.Ytflhogapjmdkaaa

/-- The statement. -/
theorem blockNames_holds : Rows.BlockNamesSaid := BlockNames.over

end Go.Proofs.Ytflhogapjmdkaaa
#print axioms Go.Proofs.Ytflhogapjmdkaaa.blockNames_holds

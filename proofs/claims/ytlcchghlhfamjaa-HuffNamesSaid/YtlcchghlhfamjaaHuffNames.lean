/- What is proved: 'Rows.HuffNamesSaid': the closed statement HuffNames returns true. No conditions. The law's printed form is run over the contracts of what it calls; the model follows the logical machine (RlmS18). -/
import Derived.Test.YtlcchghlhfamjaaRows
import Derived.WalkKit
import Derived.ProofKit
import Derived.OpenShut
import Derived.ShutString
import Derived.ChangeOld
import Derived.Below
import Derived.Test.YtlcchghlhfamjaaRlmArgs
import Derived.Test.YtlcchghlhfamjaaHuffTake
namespace Go.Proofs.Ytlcchghlhfamjaa.HuffNames
open Go.ChangeShapes Go.WideShapes Go.ChangeAt Go.RowKit Go.Rlm Go.Proofs.Ytlcchghlhfamjaa.X
set_option linter.unusedVariables false

theorem own : ownKnob Try.prog.godebug = none := by kernel_rfl
theorem laidOut : laidOutB Try.prog = true := by kernel_rfl
theorem mixed : Try.prog.follows .mixedOrders = true := by kernel_rfl
theorem named : Try.prog.funcs.all (fun fn => !(fn.name == "runtime.NumGoroutine")) = true := by kernel_rfl

theorem callSE {X : R} {a : Option Addr} {n c : Nat} {e : Int} {L : LHeap} (h : X = some (.ret (.tuple #[.slice a n c, .int .i64 e]) L)) (K : Sl → Int → LHeap → R) :
    (lbind X fun v L => obind (tupL v) fun x => uncons x fun v vs => obind (asSl v) fun l => uncons vs fun v vs => obind (asI .i64 v) fun n => nilL vs (K l n L)) = K ⟨a, n, c⟩ e L := by subst h; rfl
theorem callPE {X : R} {a : Option Addr} {e : Int} {L : LHeap} (h : X = some (.ret (.tuple #[.pointer a, .int .i64 e]) L)) (K : Option Addr → Int → LHeap → R) :
    (lbind X fun v L => obind (tupL v) fun x => uncons x fun v vs => obind (asP v) fun l => uncons vs fun v vs => obind (asI .i64 v) fun n => nilL vs (K l n L)) = K a e L := by subst h; rfl
theorem callIE {X : R} {a e : Int} {L : LHeap} (h : X = some (.ret (.tuple #[.int .i64 a, .int .i64 e]) L)) (K : Int → Int → LHeap → R) :
    (lbind X fun v L => obind (tupL v) fun x => uncons x fun v vs => obind (asI .i64 v) fun l => uncons vs fun v vs => obind (asI .i64 v) fun n => nilL vs (K l n L)) = K a e L := by subst h; rfl
theorem callP {X : R} {a : Option Addr} {L : LHeap} (h : X = some (.ret (.pointer a) L)) (K : Option Addr → LHeap → R) : (lbind X fun v L => obind (asP v) fun b => K b L) = K a L := by subst h; rfl
theorem callI {X : R} {a : Int} {L : LHeap} (h : X = some (.ret (.int .i64 a) L)) (K : Int → LHeap → R) : (lbind X fun v L => obind (asI .i64 v) fun b => K b L) = K a L := by subst h; rfl
theorem callB {X : R} {a : Bool} {L : LHeap} (h : X = some (.ret (.bool a) L)) (K : Bool → LHeap → R) : (lbind X fun v L => obind (asB v) fun b => K b L) = K a L := by subst h; rfl
theorem litT {a : Int} {x y : R} : lif (a == a) x y = x := by rw [BEq.rfl]; rfl

def longTo (i : Nat) : List Int := (List.range 40).map fun q => if q < i then (2 : Int) ^ min q 30 else 0
theorem longTo_length (i : Nat) : (longTo i).length = 40 := by simp [longTo]
theorem longTo_set {i : Nat} (h : i < 40) : (longTo i).set i (2 ^ min i 30) = longTo (i + 1) := by
  apply List.ext_getElem?
  intro q
  by_cases hq : q < 40
  · have e : ∀ n, (longTo n)[q]? = some (if q < n then (2 : Int) ^ min q 30 else 0) := fun n => by simp [longTo, hq]
    by_cases hi : i = q
    · subst hi
      rw [List.getElem?_set_self (by rw [longTo_length]; exact hq), e, if_pos (by omega)]
    · rw [List.getElem?_set_ne hi, e, e]
      by_cases h2 : q < i
      · rw [if_pos h2, if_pos (by omega)]
      · rw [if_neg h2, if_neg (by omega)]
  · rw [List.getElem?_eq_none (by rw [List.length_set, longTo_length]; omega), List.getElem?_eq_none (by rw [longTo_length]; omega)]

theorem fillLong {k : Nat} {p0 p1 : Option Addr} {n2 n3 n4 n5 n6 n8 n9 n10 n11 : Int} {l7 l : Sl} : ∀ (m i j : Nat) (F : List Nat) (L : LHeap), i + m = 40 → m < j → WS L l ((longTo i).map iV) 3 F →
    ∃ L', f15_l16 k j p0 p1 n2 n3 n4 n5 n6 l7 n8 n9 n10 n11 l (i : Int) L = f15_l16 k (j - m) p0 p1 n2 n3 n4 n5 n6 l7 n8 n9 n10 n11 l 40 L' ∧ WS L' l ((longTo 40).map iV) 3 F ∧ Step F L F L' := by
  intro m
  induction m with
  | zero =>
    intro i j F L hi hj hw
    obtain rfl : i = 40 := by omega
    exact ⟨L, rfl, hw, .refl _ _⟩
  | succ m ih =>
    intro i j F L hi hj hw
    obtain ⟨j, rfl⟩ : ∃ j', j = j' + 1 := ⟨j - 1, by omega⟩
    have hn := hw.rd.len
    simp only [List.length_map, longTo_length] at hn
    obtain ⟨a, L1, b1, b2, b3, b4⟩ := hw.put (i := i) (by simp [longTo_length]; omega) (iV (2 ^ min i 30))
    rw [← List.map_set, longTo_set (by omega)] at b3
    obtain ⟨L2, c1, c2, c3⟩ := ih (i + 1) j F L1 (by omega) (by omega) b3
    refine ⟨L2, ?_, c2, b4.trans c3⟩
    rw [show j + 1 - (m + 1) = j - m by omega, ← c1, f15_l16_eq, decide_eq_true (by omega)]
    have hmin : (if (30 : Int) < (i : Int) then (30 : Int) else (i : Int)) = ((min i 30 : Nat) : Int) := by split <;> omega
    simp only [lif_true, Bool.false_eq_true, if_false, hmin, ndec (Int.natCast_nonneg _), when_true, Int.toNat_natCast]
    obtain ⟨P, hP⟩ : ∃ P : Nat, P = 2 ^ min i 30 := ⟨_, rfl⟩
    have hp : P ≤ 2 ^ 30 := by rw [hP]; exact Nat.pow_le_pow_right (by omega) (by omega)
    have e2 : (2 : Int) ^ min i 30 = (P : Int) := by rw [hP]; push_cast; rfl
    have e : (1 : Int) * 2 ^ min (min i 30) 64 = (P : Int) := by
      rw [show min (min i 30) 64 = min i 30 by omega, e2]
      omega
    rw [e2] at b2
    have b2 : stores L a [Value.int .i64 (P : Int)] = some L1 := b2
    rw [e, wI64 (n := (P : Int)) (by omega) (by omega), wI64 (n := (i : Int) + 1) (by omega) (by omega)]
    simp only [b1, b2, obind_some]
    rfl

theorem long_ok : lenOk (longTo 40) = true := by decide

theorem rep513 {N : Nat} (h : 512 < N) : lenErr (List.replicate N 0) = 1 := by
  have : lenOk (List.replicate N (0 : Int)) = false := by rw [lenOk, List.length_replicate, decide_eq_false (by omega)]; rfl
  rw [lenErr, this]; rfl
theorem may513 {N : Nat} (h : 512 < N) : may (List.replicate N 0) = false := may_false_of (.inr (by rw [List.length_replicate]; exact h))
theorem zeros_ws {N : Nat} {L : LHeap} : WS (L ++ [LBlk.cells (List.flatten (List.replicate N [Value.int .i64 0])) 3 false 0]) ⟨some ⟨L.length, 0, none⟩, N, N⟩ ((List.replicate N (0 : Int)).map iV) 3 [L.length] := by
  have := WS.made (L := L) (n := N) (v := Value.int .i64 0) (e := 3)
  rw [List.map_replicate]
  exact this

theorem tail {k j b : Nat} {l7 l : Sl} {F7 Fl Fc : List Nat} {zs : List Int} {L : LHeap} (hk : 5000 ≤ k) (hlen : zs.length = 40) (hok : lenOk zs = true) (hc : CO L b [1, 1] Fc) (h7 : WS L l7 (([1, 0, 1] : List Int).map iV) 3 F7) (hl : WS L l (zs.map iV) 3 Fl) :
    ∃ L', f15_l16 k (j + 1) none (some ⟨b, 0, none⟩) 2 2 1 1 1 l7 0 4 4 4 l 40 L = some (.ret (.bool true) L') := by
  obtain ⟨k', rfl⟩ : ∃ k', k = k' + 1 := ⟨k - 1, by omega⟩
  have hm : may [1, 1] = true := by decide
  have hn := hl.rd.len
  simp only [List.length_map, hlen] at hn
  obtain ⟨g1, g2⟩ := lenOk_mem hok
  obtain ⟨s, L1, F1, a1, a2, a3⟩ := lengths_ok (k := k' + 1) hl.rd (by omega) (by omega)
  have he : lenErr zs = 0 := by rw [lenErr, if_pos hok]
  have hr : lenRes zs = lengthsOf zs := by rw [lenRes, if_pos hok]
  rw [he] at a1
  rw [hr] at a2
  have hc1 := hc.mono (a3.others hc.within (none_apart _)) a3.len
  have h71 := h7.mono (a3.others h7.within (none_apart _))
  rw [f15_l16_eq, decide_eq_false (by rw [hn]; decide)]
  generalize h513 : (513 : Nat) = N
  rw [lif_false, callSE a1]
  -- a writer for nobody
  have s1 := Step.new [] L1 (LBlk.cells [Value.slice none 0 0, Value.int .i64 0] 26 false 0)
  generalize L1 ++ [LBlk.cells [Value.slice none 0 0, Value.int .i64 0] 26 false 0] = M1 at *
  have hc2 := hc1.mono (s1.others hc1.within (none_apart _)) s1.len
  have h72 := h71.mono (s1.others h71.within (none_apart _))
  have a22 := a2.mono (s1.others a2.within (none_apart _))
  have n1 : ∀ (p1 : Option Addr) (n : Int) (L : LHeap), f45 (k' + 1) none p1 n L = some (.ret (.int .i64 2) L) := fun p1 n L => by rw [f45_eq]; rfl
  have n2 : ∀ (n : Int) (L : LHeap), f45 (k' + 1) (some ⟨b, 0, none⟩) none n L = some (.ret (.int .i64 2) L) := fun n L => by rw [f45_eq]; rfl
  have z2 : ((2 : Int) == 2) = true := rfl
  have z1 : ((1 : Int) == 1) = true := rfl
  have z0 : ((0 : Int) == 0) = true := rfl
  have z4 : ((4 : Int) == 4) = true := rfl
  rw [callI (n1 _ _ _), litT, litT, litT, callI (n2 _ _), litT]
  -- a symbol beyond the row
  have hW := BW.new M1
  have s2 := Step.new [] M1 (LBlk.cells [Value.slice none 0 0, Value.int .i64 0] 26 false 0)
  generalize M1 ++ [LBlk.cells [Value.slice none 0 0, Value.int .i64 0] 26 false 0] = M2 at *
  have hc3 := hc2.mono (s2.others hc2.within (none_apart _)) s2.len
  have h73 := h72.mono (s2.others h72.within (none_apart _))
  have a23 := a22.mono (s2.others a22.within (none_apart _))
  have ap1 := s2.apart hc2.within (none_apart _)
  have ap2 := s2.apart h72.within (none_apart _)
  have ap3 := s2.apart a22.within (none_apart _)
  obtain ⟨L2, G2, b1, b2, b3⟩ := cput_ok (k := k' + 1) (s := 2) hc3 hm hW (by simp) (by omega)
  rw [show symRes [1, 1] 2 = 1 by decide] at b1
  have hc4 := hc3.mono (b3.others hc3.within ap1) b3.len
  have h74 := h73.mono (b3.others h73.within ap2)
  have a24 := a23.mono (b3.others a23.within ap3)
  rw [callI b1, litT]
  have hW2 := BW.new L2
  have s3 := Step.new [] L2 (LBlk.cells [Value.slice none 0 0, Value.int .i64 0] 26 false 0)
  generalize L2 ++ [LBlk.cells [Value.slice none 0 0, Value.int .i64 0] 26 false 0] = M3 at *
  have hc5 := hc4.mono (s3.others hc4.within (none_apart _)) s3.len
  have h75 := h74.mono (s3.others h74.within (none_apart _))
  have a25 := a24.mono (s3.others a24.within (none_apart _))
  have ap5 := s3.apart h74.within (none_apart _)
  have ap6 := s3.apart a24.within (none_apart _)
  obtain ⟨L3, G3, c1, c2, c3⟩ := cput_ok (k := k' + 1) (s := -1) hc5 hm hW2 (by simp) (by omega)
  rw [show symRes [1, 1] (-1) = 1 by decide] at c1
  have h76 := h75.mono (c3.others h75.within ap5)
  have a26 := a25.mono (c3.others a25.within ap6)
  rw [callI c1, litT, litT, litT, litT, litT]
  have w1 := lit_ws (L := L3) [1, 0, 1] [Value.int .i64 1, Value.int .i64 0, Value.int .i64 1] 3 rfl rfl
  have t1 := Step.new [] L3 (LBlk.cells [Value.int .i64 1, Value.int .i64 0, Value.int .i64 1] 3 false 0)
  generalize L3 ++ [LBlk.cells [Value.int .i64 1, Value.int .i64 0, Value.int .i64 1] 3 false 0] = M4 at *
  have h77 := h76.mono (t1.others h76.within (none_apart _))
  have a27 := a26.mono (t1.others a26.within (none_apart _))
  have d1 := ints_ok (k := k' + 1) h77.rd w1.rd (by simp) (by simp; omega)
  rw [decide_eq_true (show ([1, 0, 1] : List Int) = [1, 0, 1] from rfl)] at d1
  obtain ⟨L5, e1, e2⟩ := may_okay (k := k' + 1) a27.rd (by rw [lengthsOf_length]; omega) (by rw [lengthsOf_length]; omega)
  rw [may_lengthsOf g2 g1] at e1
  obtain ⟨L6, i1, i2⟩ := may_okay (k := k' + 1) (l := ⟨none, 0, 0⟩) (zs := []) (A := []) (L := L5) ⟨rfl, .inl ⟨rfl, rfl⟩⟩ (by simp) (by simp; omega)
  rw [show may [] = true by decide] at i1
  rw [callB d1, lif_true, litT, litT, litT, litT, callB e1, lif_true, callB i1, lif_true]
  have w2 := lit_ws (L := L6) [0, 0] [Value.int .i64 0, Value.int .i64 0] 2 rfl rfl
  generalize L6 ++ [LBlk.cells [Value.int .i64 0, Value.int .i64 0] 3 false 0] = M5 at *
  obtain ⟨L7, p1, p2⟩ := may_okay (k := k' + 1) w2.rd (by simp) (by simp; omega)
  rw [show may [0, 0] = true by decide] at p1
  rw [callB p1, lif_true]
  have w3 := lit_ws (L := L7) [2] [Value.int .i64 2] 1 rfl rfl
  generalize L7 ++ [LBlk.cells [Value.int .i64 2] 3 false 0] = M6 at *
  obtain ⟨L8, q1, q2⟩ := may_okay (k := k' + 1) w3.rd (by simp) (by simp; omega)
  rw [show may [2] = false by decide] at q1
  rw [callB q1, Bool.not_false, lif_true]
  have w4 := zeros_ws (N := N) (L := L8)
  generalize L8 ++ [LBlk.cells (List.flatten (List.replicate N [Value.int .i64 0])) 3 false 0] = M7 at *
  obtain ⟨L9, r1, r2⟩ := may_okay (k := k' + 1) w4.rd (by rw [List.length_replicate]; omega) (by rw [List.length_replicate]; omega)
  rw [may513 (by omega)] at r1
  obtain ⟨L10, v1, v2⟩ := awake_ok (k := k' + 1) (L := L9) (by omega)
  rw [callB r1, Bool.not_false, lif_true, callB v1]
  exact ⟨L10, rfl⟩

theorem run {k : Nat} (hk : 5000 ≤ k) {L : LHeap} : ∃ L', lcall Try.prog X.T (k + 1) 15 [] L = some (.ret (.bool true) L') := by
  show ∃ L', f15 (k + 1) L = _
  have drop0 : ∀ {F : List Nat} {A B : LHeap}, Step [] A F B → Step [] A [] B := fun h => h.less fun i hi => by simp at hi
  rw [f15_eq]
  generalize h513 : (513 : Nat) = N
  have w1 := lit_ws (L := L) [1, 1] [Value.int .i64 1, Value.int .i64 1] 2 rfl rfl
  generalize L ++ [LBlk.cells [Value.int .i64 1, Value.int .i64 1] 3 false 0] = M1 at *
  obtain ⟨b, Fc, L1, a1, hc, a3⟩ := (new_ok (k := k) w1.rd (by simp) (by simp; omega)).2 (by decide)
  obtain ⟨L2, b1, b2, b3⟩ := open_ok (k := k) (s := ByteArray.mk #[120]) (L := L1) (by decide) (by omega)
  have hc := hc.mono (b3.others hc.within (none_apart _)) b3.len
  obtain ⟨k', rfl⟩ : ∃ k', k = k' + 1 := ⟨k - 1, by omega⟩
  have n1 : ∀ (p1 : Option Addr) (L : LHeap), f44 (k' + 1) none p1 L = some (.ret (.tuple #[.int .i64 0, .int .i64 2]) L) := fun p1 L => by rw [f44_eq]; rfl
  have n2 : ∀ (L : LHeap), f44 (k' + 1) (some ⟨b, 0, none⟩) none L = some (.ret (.tuple #[.int .i64 0, .int .i64 2]) L) := fun L => by rw [f44_eq]; rfl
  rw [callPE a1, bne_self_eq_false, lif_false, callP b1, callIE (n1 _ _), callIE (n2 _)]
  have w2 := zeros_ws (N := N) (L := L2)
  have t2 := Step.new [] L2 (LBlk.cells (List.flatten (List.replicate N [Value.int .i64 0])) 3 false 0)
  generalize L2 ++ [LBlk.cells (List.flatten (List.replicate N [Value.int .i64 0])) 3 false 0] = M2 at *
  have hc := hc.mono (t2.others hc.within (none_apart _)) t2.len
  obtain ⟨s3, L3, F3, c1, c2, c3⟩ := lengths_ok (k := k' + 1) w2.rd (by rw [List.length_replicate]; omega) (by rw [List.length_replicate]; omega)
  rw [rep513 (by omega)] at c1
  have hc := hc.mono (c3.others hc.within (none_apart _)) c3.len
  rw [callSE c1]
  have w3 := lit_ws (L := L3) [-1] [Value.int .i64 (-1)] 1 rfl rfl
  have t3 := Step.new [] L3 (LBlk.cells [Value.int .i64 (-1)] 3 false 0)
  generalize L3 ++ [LBlk.cells [Value.int .i64 (-1)] 3 false 0] = M3 at *
  have hc := hc.mono (t3.others hc.within (none_apart _)) t3.len
  obtain ⟨s4, L4, F4, d1, d2, d3⟩ := lengths_ok (k := k' + 1) w3.rd (by simp) (by simp; omega)
  rw [show lenErr [-1] = 1 by decide] at d1
  have hc := hc.mono (d3.others hc.within (none_apart _)) d3.len
  rw [callSE d1]
  have w4 := lit_ws (L := L4) [1073741825] [Value.int .i64 1073741825] 1 rfl rfl
  have t4 := Step.new [] L4 (LBlk.cells [Value.int .i64 1073741825] 3 false 0)
  generalize L4 ++ [LBlk.cells [Value.int .i64 1073741825] 3 false 0] = M4 at *
  have hc := hc.mono (t4.others hc.within (none_apart _)) t4.len
  obtain ⟨s5, L5, F5, e1, e2, e3⟩ := lengths_ok (k := k' + 1) w4.rd (by simp) (by simp; omega)
  rw [show lenErr [1073741825] = 1 by decide] at e1
  have hc := hc.mono (e3.others hc.within (none_apart _)) e3.len
  rw [callSE e1]
  have w5 := lit_ws (L := L5) [1073741824, 0, 1073741824] [Value.int .i64 1073741824, Value.int .i64 0, Value.int .i64 1073741824] 3 rfl rfl
  have t5 := Step.new [] L5 (LBlk.cells [Value.int .i64 1073741824, Value.int .i64 0, Value.int .i64 1073741824] 3 false 0)
  generalize L5 ++ [LBlk.cells [Value.int .i64 1073741824, Value.int .i64 0, Value.int .i64 1073741824] 3 false 0] = M5 at *
  have hc := hc.mono (t5.others hc.within (none_apart _)) t5.len
  obtain ⟨s7, L6, F7, g1, h7, g3⟩ := lengths_ok (k := k' + 1) w5.rd (by simp) (by simp; omega)
  rw [show lenErr [1073741824, 0, 1073741824] = 0 by decide] at g1
  rw [show lenRes [1073741824, 0, 1073741824] = [1, 0, 1] by decide] at h7
  have hc := hc.mono (g3.others hc.within (none_apart _)) g3.len
  rw [callSE g1]
  have w6 := lit_ws (L := L6) [1, 2] [Value.int .i64 1, Value.int .i64 2] 2 rfl rfl
  have t6 := Step.new [] L6 (LBlk.cells [Value.int .i64 1, Value.int .i64 2] 3 false 0)
  generalize L6 ++ [LBlk.cells [Value.int .i64 1, Value.int .i64 2] 3 false 0] = M6 at *
  have hc := hc.mono (t6.others hc.within (none_apart _)) t6.len
  have h7 := h7.mono (t6.others h7.within (none_apart _))
  obtain ⟨s8, L7, F8, i1, i2, i3⟩ := codes_ok (k := k' + 1) w6.rd (by simp) (by simp; omega)
  rw [show codesErr [1, 2] = 4 by decide] at i1
  have hc := hc.mono (i3.others hc.within (none_apart _)) i3.len
  have h7 := h7.mono (i3.others h7.within (none_apart _))
  rw [callSE i1]
  have w7 := lit_ws (L := L7) [16, 1] [Value.int .i64 16, Value.int .i64 1] 2 rfl rfl
  have t7 := Step.new [] L7 (LBlk.cells [Value.int .i64 16, Value.int .i64 1] 3 false 0)
  generalize L7 ++ [LBlk.cells [Value.int .i64 16, Value.int .i64 1] 3 false 0] = M7 at *
  have hc := hc.mono (t7.others hc.within (none_apart _)) t7.len
  have h7 := h7.mono (t7.others h7.within (none_apart _))
  obtain ⟨s9, L8, F9, j1, j2, j3⟩ := codes_ok (k := k' + 1) w7.rd (by simp) (by simp; omega)
  rw [show codesErr [16, 1] = 4 by decide] at j1
  have hc := hc.mono (j3.others hc.within (none_apart _)) j3.len
  have h7 := h7.mono (j3.others h7.within (none_apart _))
  rw [callSE j1]
  have w8 := lit_ws (L := L8) [1, 1, 15] [Value.int .i64 1, Value.int .i64 1, Value.int .i64 15] 3 rfl rfl
  have t8 := Step.new [] L8 (LBlk.cells [Value.int .i64 1, Value.int .i64 1, Value.int .i64 15] 3 false 0)
  generalize L8 ++ [LBlk.cells [Value.int .i64 1, Value.int .i64 1, Value.int .i64 15] 3 false 0] = M8 at *
  have hc := hc.mono (t8.others hc.within (none_apart _)) t8.len
  have h7 := h7.mono (t8.others h7.within (none_apart _))
  obtain ⟨s10, L9, F10, m1, m2, m3⟩ := codes_ok (k := k' + 1) w8.rd (by simp) (by simp; omega)
  rw [show codesErr [1, 1, 15] = 4 by decide] at m1
  have hc := hc.mono (m3.others hc.within (none_apart _)) m3.len
  have h7 := h7.mono (m3.others h7.within (none_apart _))
  rw [callSE m1]
  generalize hX : LBlk.cells _ 3 false 0 = X
  have hX' : X = .cells ((longTo 0).map iV) 3 false 0 := by rw [← hX]; rfl
  have w9 : WS (L9 ++ [X]) ⟨some ⟨L9.length, 0, none⟩, 40, 40⟩ ((longTo 0).map iV) 3 [L9.length] := by rw [hX']; exact WS.lit (by rw [List.length_map, longTo_length])
  have t9 := Step.new [] L9 X
  have ap1 := t9.apart hc.within (none_apart _)
  have ap2 := t9.apart h7.within (none_apart _)
  have hc := hc.mono (t9.others hc.within (none_apart _)) t9.len
  have h7 := h7.mono (t9.others h7.within (none_apart _))
  generalize L9 ++ [X] = L10 at *
  obtain ⟨L11, p1, p2, p3⟩ := fillLong (k := k' + 1) (p0 := none) (p1 := some ⟨b, 0, none⟩) (n2 := 2) (n3 := 2) (n4 := 1) (n5 := 1) (n6 := 1) (n8 := 0) (n9 := 4) (n10 := 4) (n11 := 4) (l7 := s7) (l := ⟨some ⟨L9.length, 0, none⟩, 40, 40⟩) 40 0 (k' + 1) [L9.length] L10 (by omega) (by omega) w9
  obtain ⟨j, hj⟩ : ∃ j, k' + 1 - 40 = j + 1 := ⟨k' + 1 - 40 - 1, by omega⟩
  rw [hj] at p1
  obtain ⟨L12, e⟩ := tail (k := k' + 1) (j := j) (by omega) (longTo_length 40) long_ok (hc.mono (p3.others hc.within ap1) p3.len) (h7.mono (p3.others h7.within ap2)) p2
  exact ⟨L12, p1.trans e⟩

theorem walk {w : World} : Calls Try.prog 15 #[] w fun e w' => e = .returned (.bool true) ∧ Below w.heap.size w w' := by
  obtain ⟨L', h⟩ := run (Nat.le_refl 5000) (L := [])
  exact law_walk mixed named h Rep.empty .nil fun _ => own_nil

set_option maxRecDepth 100000 in
theorem lifted (os : Os) (started : os.Started) (H : Type) (enc : TypeId × Value → H) :
    ReturnsInHanded {} Try.checked os 15 .any (Rows.huffNamesSpec.pre6 enc Try.prog Try.f15 Rows.huffNamesRow.domain false) (Rows.huffNamesSpec.post enc Try.prog Try.f15 false true false false) := by
  refine returnsInHanded_of_change (C := Try.checked) own started (by kernel_rfl) Try.func15
    (ChangeSpec.witness6 (enc := enc) (C := Try.checked) false ⟨#[], #[], []⟩ 8 (by kernel_rfl) (by kernel_rfl) (by kernel_rfl) (by kernel_rfl)) ?_
  intro W base args ds gs before hval0 hW hcnd _
  have hW' := hW
  obtain ⟨p, q, hA0, hV, rfl, hfz, hnd⟩ := hW
  have hA : DataW.TrodAll enc Try.prog W 0 (fun _ => true) true Try.f15.params.toList args.toList ds p := hA0
  rw [Try.params15] at hA
  obtain ⟨rfl, rfl, rfl⟩ := trodAll_none hA
  obtain ⟨rfl, rfl⟩ := trodVars_none hV
  clear hA0 hval0
  refine (walk (w := W)).mono fun e W' ⟨he, bel⟩ => ?_
  subst he
  exact ⟨_, rfl, _, _, _, [], _, [], hW', trodAll_mk1 (shut_bool Try.underlying4 _), trodAll_mk0, rfl, bel.frame _, fun h => by cases h⟩

theorem over : Rows.huffNamesRow.holds Try.pinned (OpenSpec.ofChange Rows.huffNamesSpec) :=
  OpenClaim.holds_of_wide 15 Try.f15 rfl rfl rfl rfl rfl rfl rfl ⟨rfl, rfl, rfl, rfl, rfl⟩ rfl rfl rfl rfl rfl (by kernel_rfl) Try.func15 (by kernel_rfl)
    (of_decide_eq_true (by kernel_rfl)) (by unfold Func.isWrapper; first | (rw [if_pos (by decide +kernel)]; kernel_rfl) | (rw [if_neg (by decide +kernel)]; exact ⟨rfl, rfl⟩))
    (fun os started H enc _ => lifted os started H enc)

end Go.Proofs.Ytlcchghlhfamjaa.HuffNames
namespace Go.Proofs.Ytlcchghlhfamjaa

/-- The statement. -/
theorem huffNames_holds : Rows.HuffNamesSaid := HuffNames.over

end Go.Proofs.Ytlcchghlhfamjaa
#print axioms Go.Proofs.Ytlcchghlhfamjaa.huffNames_holds

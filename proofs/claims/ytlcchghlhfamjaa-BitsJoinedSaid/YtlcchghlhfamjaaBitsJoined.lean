/- What is proved: 'Rows.BitsJoinedSaid': whatever comes in, the law BitsJoined returns true and leaves it as it was. No conditions. The law's printed form is run over the contracts of what it calls; the model follows the logical machine (RlmS18). -/
import Derived.Test.YtlcchghlhfamjaaRows
import Derived.WalkKit
import Derived.ProofKit
import Derived.OpenShut
import Derived.ShutString
import Derived.ChangeOld
import Derived.Below
import Derived.Test.YtlcchghlhfamjaaRlmArgs
import Derived.Test.YtlcchghlhfamjaaBitsLaw
namespace Go.Proofs.Ytlcchghlhfamjaa.BitsJoined
open Go.ChangeShapes Go.WideShapes Go.ChangeAt Go.RowKit Go.Rlm Go.Proofs.Ytlcchghlhfamjaa.X
set_option linter.unusedVariables false

theorem own : ownKnob Try.prog.godebug = none := by kernel_rfl
theorem laidOut : laidOutB Try.prog = true := by kernel_rfl
theorem mixed : Try.prog.follows .mixedOrders = true := by kernel_rfl
theorem named : Try.prog.funcs.all (fun fn => !(fn.name == "runtime.NumGoroutine")) = true := by kernel_rfl

theorem strOf_take (vs : List Nat) (n : Nat) : (strOf vs).extract 0 n = strOf (vs.take n) := by
  apply ByteArray.ext
  simp [Rlm.strOf]

theorem strOf_append (vs us : List Nat) : strOf vs ++ strOf us = strOf (vs ++ us) := by
  apply ByteArray.ext
  simp [Rlm.strOf]

theorem round3 {k x y z : Nat} {l : Sl} {ps : List (Nat × Int)} {A : List Nat} {bs : List Bool} (hp : ∀ p ∈ ps, p.1 < 4294967296) (hl : l.n = ps.length) (h300 : ps.length ≤ 300) (h8 : bs.length % 8 = 0) (hbs : bs.length ≤ 10000) (hk : 20000 ≤ k) :
    ∀ (m i j : Nat) (cs : List Bool) (F G H : List Nat) (L : LHeap), i + m = ps.length → m < j → cs.length ≤ 32 * i → BW L x bs F → BW L y cs G → BW L z (bs ++ cs) H → Apart F G → Apart F H → Apart G H → Apart F A → Apart G A → Apart H A →
      Inp L l 2 (pairCells ps) A → ∃ L', f7_l15 k j l x y z (i : Int) L = some (.ret (.bool true) L') := by
  intro m
  induction m with
  | zero =>
    intro i j cs F G H L him hj hb hF hG hH hFG hFH hGH hFA hGA hHA hA
    obtain ⟨j, rfl⟩ : ∃ j', j = j' + 1 := ⟨j - 1, by omega⟩
    obtain ⟨vs, q1, q2⟩ := bytes_ok (k := k) hF (by omega)
    obtain ⟨us, q3, q4⟩ := bytes_ok (k := k) hG (by omega)
    obtain ⟨ws, q5, q6⟩ := bytes_ok (k := k) hH (by omega)
    obtain rfl := (q1.append q3 h8).unique q5
    refine ⟨L, ?_⟩
    rw [f7_l15_eq, decide_eq_false (by omega)]
    have e1 : IntKind.wrap .i64 ((bs.length : Int) + (cs.length : Int)) = (((bs ++ cs).length : Nat) : Int) := by rw [List.length_append, wI64] <;> omega
    have e2 : (((strOf vs).size + (strOf us).size : Nat) : Int) ≤ maxI := by
      have := q1.1; have := q3.1
      simp only [strOf_size, maxI]; omega
    simp only [lif_false, q2, q4, q6, bits_ok hF (show 1 ≤ k by omega), bits_ok hG (show 1 ≤ k by omega), bits_ok hH (show 1 ≤ k by omega), lbind_ret, asS_string, asI_int, obind_some, strOf_append, decide_eq_true e2, when_true, BEq.rfl, lif_true, e1]
  | succ m ih =>
    intro i j cs F G H L him hj hb hF hG hH hFG hFH hGH hFA hGA hHA hA
    obtain ⟨j, rfl⟩ : ∃ j', j = j' + 1 := ⟨j - 1, by omega⟩
    have hi : i < ps.length := by omega
    have hg : ps[i]? = some ps[i] := List.getElem?_eq_getElem hi
    have hv : ps[i].1 < 4294967296 := hp _ (List.getElem_mem hi)
    obtain ⟨r1, r2⟩ := pairCells_get hg
    obtain ⟨c, i1, i2⟩ := hA.get (i := i) (by omega) (by omega)
    obtain ⟨ws, q5, q6⟩ := bytes_ok (k := k) hH (by omega)
    obtain ⟨L1, G1, a1, a2, a3⟩ := put_ok (k := k) (v := ps[i].1) (n := ps[i].2) hG hv (by omega) (by omega)
    have hH1 : BW L1 z _ H := hH.mono (a3.others hH.within hGH)
    have ap1 := a3.apart hH.within hGH
    have hF1 : BW L1 x bs F := hF.mono (a3.others hF.within hFG.symm)
    have ap2 := a3.apart hF.within hFG.symm
    have hA1 : Inp L1 l 2 (pairCells ps) A := hA.mono (a3.others hA.within hGA)
    obtain ⟨L2, H2, b1, b2, b3⟩ := put_ok (k := k) (v := ps[i].1) (n := ps[i].2) hH1 hv (by simp; omega) (by omega)
    obtain ⟨us, q7, q8⟩ := bytes_ok (k := k) b2 (by omega)
    have hle := putBits_le ps[i].1 ps[i].2
    have hG2 : BW L2 y _ G1 := a2.mono (b3.others a2.within ap1.symm)
    have hF2 : BW L2 x bs F := hF1.mono (b3.others hF1.within hFH.symm)
    rw [List.append_assoc] at b2
    obtain ⟨L4, e1⟩ := ih (i + 1) j _ F G1 H2 L2 (by omega) (by omega) (by simp; omega) hF2 hG2 b2 ap2.symm (b3.apart hF1.within hFH.symm).symm (b3.apart a2.within ap1.symm).symm hFA
      (a3.apart hA.within hGA) (b3.apart hA1.within hHA) (hA1.mono (b3.others hA1.within hHA))
    refine ⟨L4, ?_⟩
    have c0 : ∀ o, cell L ⟨c, o, none⟩ = (pairCells ps)[o]? := i2 L fun _ _ => rfl
    have c1 : ∀ o, cell L1 ⟨c, o, none⟩ = (pairCells ps)[o]? := i2 L1 (a3.others hA.within hGA)
    have hn : IntKind.wrap .i64 (Int.tdiv (((bs ++ cs).length : Nat) : Int) 8) = (((bs ++ cs).length / 8 : Nat) : Int) := by
      rw [show (8 : Int) = ((8 : Nat) : Int) from rfl, tdiv_nat, List.length_append, wI64] <;> omega
    have hs : ∀ (ts : List Nat), (bs ++ cs).length / 8 ≤ ts.length → subS (strOf ts) none (some (((bs ++ cs).length / 8 : Nat) : Int)) = some (strOf (ts.take ((bs ++ cs).length / 8))) := by
      intro ts ht
      simp only [subS, bound, Option.bind_eq_bind, strOf_size]
      rw [show (decide ((0 : Int) ≤ (((bs ++ cs).length / 8 : Nat) : Int)) && decide ((((bs ++ cs).length / 8 : Nat) : Int) ≤ (ts.length : Int))) = true by simp only [Bool.and_eq_true, decide_eq_true_eq]; omega]
      simp only [cond_true, Option.bind_some, Int.toNat_natCast]
      rw [Nat.ble_eq_true_of_le (Nat.zero_le _)]
      simp only [cond_true, Option.bind_some, strOf_take]
    have l1 := q5.1
    have l2 := q7.1
    simp only [List.length_append] at l1 l2
    have s1 := hs ws (by simp only [List.length_append]; omega)
    have s2 := hs us (by simp only [List.length_append]; omega)
    rw [q5.front q7] at s2
    rw [f7_l15_eq, decide_eq_true (by omega)]
    simp only [lif_true, q6, q8, bits_ok hH (show 1 ≤ k by omega), lbind_ret, asS_string, asI_int, obind_some, i1, mk_add, Nat.add_zero, c0, c1, r1, r2, Option.bind_some, a1, b1, lbindR_ret, same_self, when_true, bne_self_eq_false, lif_false, hn, s1, s2, BEq.rfl, Bool.not_true]
    rw [wI64 (n := (i : Int) + 1) (by omega) (by omega)]
    exact e1

theorem round2 {k x y z : Nat} {l : Sl} {ps : List (Nat × Int)} {A : List Nat} (hp : ∀ p ∈ ps, p.1 < 4294967296) (hl : l.n = ps.length) (h300 : ps.length ≤ 300) (hk : 20000 ≤ k) :
    ∀ (m j : Nat) (bs : List Bool) (F G H : List Nat) (L : LHeap), (8 - bs.length % 8) % 8 = m → m < j → bs.length + m ≤ 10000 → BW L x bs F → BW L y [] G → BW L z bs H → Apart F G → Apart F H → Apart G H → Apart F A → Apart G A → Apart H A →
      Inp L l 2 (pairCells ps) A → ∃ L', f7_l11 k j l x y z L = some (.ret (.bool true) L') := by
  intro m
  induction m with
  | zero =>
    intro j bs F G H L hm hj hb hF hG hH hFG hFH hGH hFA hGA hHA hA
    obtain ⟨j, rfl⟩ : ∃ j', j = j' + 1 := ⟨j - 1, by omega⟩
    obtain ⟨L', e⟩ := round3 (k := k) hp hl h300 (show bs.length % 8 = 0 by omega) (by omega) hk ps.length 0 k [] F G H L (by omega) (by omega) (by simp) hF hG (by simpa using hH) hFG hFH hGH hFA hGA hHA hA
    refine ⟨L', ?_⟩
    rw [f7_l11_eq]
    simp only [bits_ok hF (show 1 ≤ k by omega), lbind_ret, asI_int, obind_some]
    rw [show (Int.tmod (bs.length : Int) 8 != 0) = false by
      rw [show (8 : Int) = ((8 : Nat) : Int) from rfl, tmod_nat, show bs.length % 8 = 0 by omega]; rfl]
    exact e
  | succ m ih =>
    intro j bs F G H L hm hj hb hF hG hH hFG hFH hGH hFA hGA hHA hA
    obtain ⟨j, rfl⟩ : ∃ j', j = j' + 1 := ⟨j - 1, by omega⟩
    obtain ⟨L1, F1, a1, a2, a3⟩ := put_ok (k := k) (v := 1) (n := 1) hF (by omega) (by omega) (by omega)
    have hH1 : BW L1 z bs H := hH.mono (a3.others hH.within hFH)
    have ap1 := a3.apart hH.within hFH
    have hG1 : BW L1 y [] G := hG.mono (a3.others hG.within hFG)
    have ap2 := a3.apart hG.within hFG
    have hA1 : Inp L1 l 2 (pairCells ps) A := hA.mono (a3.others hA.within hFA)
    obtain ⟨L2, H2, b1, b2, b3⟩ := put_ok (k := k) (v := 1) (n := 1) hH1 (by omega) (by omega) (by omega)
    have hF2 : BW L2 x _ F1 := a2.mono (b3.others a2.within ap1.symm)
    have hG2 : BW L2 y [] G := hG1.mono (b3.others hG1.within hGH.symm)
    rw [show putRes 1 1 = 0 by decide] at a1 b1
    have hpl : (putBits 1 1).length = 1 := by decide
    obtain ⟨L', e⟩ := ih j (bs ++ putBits 1 1) F1 G H2 L2 (by simp [hpl]; omega) (by omega) (by simp [hpl]; omega) hF2 hG2 b2 ap2 (b3.apart a2.within ap1.symm).symm (b3.apart hG1.within hGH.symm).symm (a3.apart hA.within hFA) hGA
      (b3.apart hA1.within hHA) (hA1.mono (b3.others hA1.within hHA))
    refine ⟨L', ?_⟩
    have a1 : f18 k (some ⟨x, 0, none⟩) 1 1 L = some (.ret (.int .i64 0) L1) := a1
    have b1 : f18 k (some ⟨z, 0, none⟩) 1 1 L1 = some (.ret (.int .i64 0) L2) := b1
    rw [f7_l11_eq]
    simp only [bits_ok hF (show 1 ≤ k by omega), lbind_ret, asI_int, obind_some]
    rw [show (Int.tmod (bs.length : Int) 8 != 0) = true by
      rw [show (8 : Int) = ((8 : Nat) : Int) from rfl, tmod_nat]; simp only [bne_iff_ne, ne_eq]; omega]
    simp only [lif_true, a1, b1, lbind_ret, asI_int, obind_some, bne_self_eq_false, lif_false]
    exact e

theorem round1 {k x y z : Nat} {l l1 : Sl} {ps qs : List (Nat × Int)} {A B : List Nat} (hp : ∀ p ∈ ps, p.1 < 4294967296) (hl : l.n = ps.length) (h300 : ps.length ≤ 300) (hp1 : ∀ p ∈ qs, p.1 < 4294967296) (hl1 : l1.n = qs.length) (h301 : qs.length ≤ 300) (hk : 20000 ≤ k) :
    ∀ (m i j : Nat) (bs : List Bool) (F G H : List Nat) (L : LHeap), i + m = ps.length → m < j → bs.length ≤ 32 * i → BW L x bs F → BW L y [] G → BW L z bs H → Apart F G → Apart F H → Apart G H → Apart F A → Apart G A → Apart H A → Apart F B → Apart G B → Apart H B →
      Inp L l 2 (pairCells ps) A → Inp L l1 2 (pairCells qs) B → ∃ L', f7_l7 k j l l1 x y z (i : Int) L = some (.ret (.bool true) L') := by
  intro m
  induction m with
  | zero =>
    intro i j bs F G H L him hj hb hF hG hH hFG hFH hGH hFA hGA hHA hFB hGB hHB hA hB
    obtain ⟨j, rfl⟩ : ∃ j', j = j' + 1 := ⟨j - 1, by omega⟩
    obtain ⟨L', e⟩ := round2 (k := k) hp1 hl1 h301 hk _ k bs F G H L rfl (by omega) (by omega) hF hG hH hFG hFH hGH hFB hGB hHB hB
    refine ⟨L', ?_⟩
    rw [f7_l7_eq, decide_eq_false (by omega)]
    exact e
  | succ m ih =>
    intro i j bs F G H L him hj hb hF hG hH hFG hFH hGH hFA hGA hHA hFB hGB hHB hA hB
    obtain ⟨j, rfl⟩ : ∃ j', j = j' + 1 := ⟨j - 1, by omega⟩
    have hi : i < ps.length := by omega
    have hg : ps[i]? = some ps[i] := List.getElem?_eq_getElem hi
    have hv : ps[i].1 < 4294967296 := hp _ (List.getElem_mem hi)
    obtain ⟨r1, r2⟩ := pairCells_get hg
    obtain ⟨c, i1, i2⟩ := hA.get (i := i) (by omega) (by omega)
    obtain ⟨L1, F1, a1, a2, a3⟩ := put_ok (k := k) (v := ps[i].1) (n := ps[i].2) hF hv (by omega) (by omega)
    have hH1 : BW L1 z bs H := hH.mono (a3.others hH.within hFH)
    have ap1 := a3.apart hH.within hFH
    have hG1 : BW L1 y [] G := hG.mono (a3.others hG.within hFG)
    have ap2 := a3.apart hG.within hFG
    have hA1 : Inp L1 l 2 (pairCells ps) A := hA.mono (a3.others hA.within hFA)
    have hB1 : Inp L1 l1 2 (pairCells qs) B := hB.mono (a3.others hB.within hFB)
    obtain ⟨L2, H2, b1, b2, b3⟩ := put_ok (k := k) (v := ps[i].1) (n := ps[i].2) hH1 hv (by omega) (by omega)
    have hle := putBits_le ps[i].1 ps[i].2
    have hF2 : BW L2 x _ F1 := a2.mono (b3.others a2.within ap1.symm)
    have hG2 : BW L2 y [] G := hG1.mono (b3.others hG1.within hGH.symm)
    obtain ⟨L4, e1⟩ := ih (i + 1) j _ F1 G H2 L2 (by omega) (by omega) (by simp; omega) hF2 hG2 b2 ap2 (b3.apart a2.within ap1.symm).symm (b3.apart hG1.within hGH.symm).symm (a3.apart hA.within hFA) hGA
      (b3.apart hA1.within hHA) (a3.apart hB.within hFB) hGB (b3.apart hB1.within hHB) (hA1.mono (b3.others hA1.within hHA)) (hB1.mono (b3.others hB1.within hHB))
    refine ⟨L4, ?_⟩
    have c0 : ∀ o, cell L ⟨c, o, none⟩ = (pairCells ps)[o]? := i2 L fun _ _ => rfl
    have c1 : ∀ o, cell L1 ⟨c, o, none⟩ = (pairCells ps)[o]? := i2 L1 (a3.others hA.within hFA)
    rw [f7_l7_eq, decide_eq_true (by omega)]
    simp only [lif_true, i1, mk_add, Nat.add_zero, c0, c1, r1, r2, Option.bind_some, asI_int, obind_some, a1, b1, lbindR_ret, same_self, when_true, bne_self_eq_false, lif_false]
    rw [wI64 (n := (i : Int) + 1) (by omega) (by omega)]
    exact e1

theorem run {l l1 : Sl} {ps qs : List (Nat × Int)} {A B : List Nat} {L : LHeap} (hp : ∀ p ∈ ps, p.1 < 4294967296) (hl : l.n = ps.length) (hp1 : ∀ p ∈ qs, p.1 < 4294967296) (hl1 : l1.n = qs.length) (hA : Inp L l 2 (pairCells ps) A) (hB : Inp L l1 2 (pairCells qs) B) :
    ∃ L', lcall Try.prog X.T 20001 7 [.slice l.a l.n l.c, .slice l1.a l1.n l1.c] L = some (.ret (.bool true) L') := by
  show ∃ L', f7 20001 l l1 L = _
  rw [f7_eq]
  obtain ⟨L1, w1, w2⟩ := works_ok (k := 20000) (L := L) (by omega)
  obtain ⟨L2, w3, w4⟩ := works_ok (k := 20000) (L := L1) (by omega)
  simp only [w1, w3, lbind_ret, asB_bool, obind_some, Bool.not_true, lif_false]
  by_cases h : ps.length > 300
  · rw [decide_eq_true (by omega)]; exact ⟨L2, rfl⟩
  by_cases h2 : qs.length > 300
  · rw [decide_eq_false (by omega), decide_eq_true (by omega)]; exact ⟨L2, rfl⟩
  rw [decide_eq_false (by omega), decide_eq_false (by omega)]
  simp only [lif_false]
  have hA1 : Inp L1 l 2 (pairCells ps) A := hA.mono (w2.others hA.within (none_apart _))
  have hB1 : Inp L1 l1 2 (pairCells qs) B := hB.mono (w2.others hB.within (none_apart _))
  have hF := BW.new L1
  have s1 := Step.new [] L1 (LBlk.cells [Value.slice none 0 0, Value.int IntKind.i64 0] 26 false 0)
  generalize L1 ++ [LBlk.cells [Value.slice none 0 0, Value.int IntKind.i64 0] 26 false 0] = M1 at *
  have hG := BW.new M1
  have s2 := Step.new [] M1 (LBlk.cells [Value.slice none 0 0, Value.int IntKind.i64 0] 26 false 0)
  generalize M1 ++ [LBlk.cells [Value.slice none 0 0, Value.int IntKind.i64 0] 26 false 0] = M2 at *
  have hH := BW.new M2
  have s3 := Step.new [] M2 (LBlk.cells [Value.slice none 0 0, Value.int IntKind.i64 0] 26 false 0)
  generalize M2 ++ [LBlk.cells [Value.slice none 0 0, Value.int IntKind.i64 0] 26 false 0] = M3 at *
  have hF2 : BW M2 L1.length [] [L1.length] := hF.mono (s2.others hF.within (none_apart _))
  have hF3 : BW M3 L1.length [] [L1.length] := hF2.mono (s3.others hF2.within (none_apart _))
  have hG3 : BW M3 M1.length [] [M1.length] := hG.mono (s3.others hG.within (none_apart _))
  have hA2 : Inp M1 l 2 (pairCells ps) A := hA1.mono (s1.others hA1.within (none_apart _))
  have hB2 : Inp M1 l1 2 (pairCells qs) B := hB1.mono (s1.others hB1.within (none_apart _))
  have hA3 : Inp M2 l 2 (pairCells ps) A := hA2.mono (s2.others hA2.within (none_apart _))
  have hB3 : Inp M2 l1 2 (pairCells qs) B := hB2.mono (s2.others hB2.within (none_apart _))
  exact round1 hp hl (by omega) hp1 hl1 (by omega) (by omega) ps.length 0 20000 [] _ _ _ M3 (by omega) (by omega) (by simp) hF3 hG3 hH (s2.apart hF.within (none_apart _)).symm (s3.apart hF2.within (none_apart _)).symm (s3.apart hG.within (none_apart _)).symm
    (s1.apart hA1.within (none_apart _)) (s2.apart hA2.within (none_apart _)) (s3.apart hA3.within (none_apart _)) (s1.apart hB1.within (none_apart _)) (s2.apart hB2.within (none_apart _)) (s3.apart hB3.within (none_apart _))
    (hA3.mono (s3.others hA3.within (none_apart _))) (hB3.mono (s3.others hB3.within (none_apart _)))

theorem walk {w : World} {a b : Option Addr} {len cap len1 cap1 : Nat} {zs ys : List (Nat × Int)} (hl : zs.length = len) (hc : IsCells w a len cap 2 (pairCells zs)) (hz : ∀ p ∈ zs, p.1 < 4294967296)
    (hl1 : ys.length = len1) (hc1 : IsCells w b len1 cap1 2 (pairCells ys)) (hz1 : ∀ p ∈ ys, p.1 < 4294967296) :
    Calls Try.prog 7 #[.slice a len cap, .slice b len1 cap1] w fun e w' => e = .returned (.bool true) ∧ Below w.heap.size w w' := by
  obtain ⟨m, L, l, A, _, hr, hno, hv, hi, hn, _, _⟩ := (Rep.empty (P := Try.prog) (w := w)).arg (fun _ => own_nil) hc (pairCells_flat zs)
  obtain ⟨m', L', l', B, he, hr', hno', hv', hi', hn', hk, _⟩ := hr.arg hno hc1 (pairCells_flat ys)
  obtain ⟨L'', h⟩ := run hz (by omega) hz1 (by omega) (hi.mono fun i hA => hk i (hi.within i hA)) hi'
  exact law_walk mixed named h hr' (.cons (hv.mono he) (.cons hv' .nil)) hno'

set_option maxRecDepth 100000 in
theorem lifted (os : Os) (started : os.Started) (H : Type) (enc : TypeId × Value → H) :
    ReturnsInHanded {} Try.checked os 7 .any (Rows.bitsJoinedSpec.pre6 enc Try.prog Try.f7 Rows.bitsJoinedRow.domain false) (Rows.bitsJoinedSpec.post enc Try.prog Try.f7 false true false false) := by
  refine returnsInHanded_of_change (C := Try.checked) own started (by kernel_rfl) Try.func7
    (ChangeSpec.witness6 (enc := enc) (C := Try.checked) false ⟨#[], #[.slice none 0 0, .slice none 0 0], []⟩ 8 (by kernel_rfl) (by kernel_rfl) (by kernel_rfl) (by kernel_rfl)) ?_
  intro W base args ds gs before hval0 hW hcnd _
  have hval : ∀ (j : Nat) t v, Try.f7.params[j]? = some t → args[j]? = some v → Value.okWide Try.prog W .any base t v := hval0
  have hW' := hW
  obtain ⟨p, q, hA0, hV, rfl, hfz, hnd⟩ := hW
  have hA : DataW.TrodAll enc Try.prog W 0 (fun _ => true) true Try.f7.params.toList args.toList ds p := hA0
  rw [Try.params7] at hA hval
  obtain ⟨v0, vs0, d0, ds0, p0, q0, hargs, rfl, rfl, h0, r0⟩ := trodAll_cons hA
  obtain ⟨v1, vs1, d1, ds1, p1, q1, rfl, rfl, rfl, h1, r1⟩ := trodAll_cons r0
  obtain ⟨rfl, rfl, rfl⟩ := trodAll_nil r1
  obtain rfl : args = #[v0, v1] := by cases args; simp_all
  obtain ⟨rfl, rfl⟩ := trodVars_none hV
  obtain ⟨a0, len0, cap0, rfl⟩ := okWide_slice Try.underlying22 (hval 0 22 v0 rfl rfl)
  have k0 := h0
  have lt0 : ∀ x ∈ p0, x.block < W.heap.size := by obtain ⟨m, hm⟩ := k0; exact DataW.trod_lt m _ _ _ hm
  obtain ⟨z0, l0, w0, u0⟩ := open_pairs Try.underlying22 Try.underlying34 (by kernel_rfl) rfl rfl (by kernel_rfl) (by kernel_rfl) Try.underlying32 Try.underlying3 h0
  obtain ⟨a1, len1, cap1, rfl⟩ := okWide_slice Try.underlying22 (hval 1 22 v1 rfl rfl)
  have k1 := h1
  have lt1 : ∀ x ∈ p1, x.block < W.heap.size := by obtain ⟨m, hm⟩ := k1; exact DataW.trod_lt m _ _ _ hm
  obtain ⟨z1, l1, w1, u1⟩ := open_pairs Try.underlying22 Try.underlying34 (by kernel_rfl) rfl rfl (by kernel_rfl) (by kernel_rfl) Try.underlying32 Try.underlying3 h1
  clear hA0 hval0
  refine (walk l0 w0 u0 l1 w1 u1).mono fun e W' ⟨he, bel⟩ => ?_
  subst he
  exact ⟨_, rfl, _, _, _, [], _, [], hW', trodAll_mk1 (shut_bool Try.underlying4 _), (trodAll_cons_mk (Below.trod laidOut (by kernel_rfl) (of_decide_eq_true (by kernel_rfl)) k0 bel lt0) (trodAll_cons_mk (Below.trod laidOut (by kernel_rfl) (of_decide_eq_true (by kernel_rfl)) k1 bel lt1) trodAll_mk0)), rfl, bel.frame _, fun h => by cases h⟩

theorem over : Rows.bitsJoinedRow.holds Try.pinned (OpenSpec.ofChange Rows.bitsJoinedSpec) :=
  OpenClaim.holds_of_wide 7 Try.f7 rfl rfl rfl rfl rfl rfl rfl ⟨rfl, rfl, rfl, rfl, rfl⟩ rfl rfl rfl rfl rfl (by kernel_rfl) Try.func7 (by kernel_rfl)
    (of_decide_eq_true (by kernel_rfl)) (by unfold Func.isWrapper; first | (rw [if_pos (by decide +kernel)]; kernel_rfl) | (rw [if_neg (by decide +kernel)]; exact ⟨rfl, rfl⟩))
    (fun os started H enc _ => lifted os started H enc)

end Go.Proofs.Ytlcchghlhfamjaa.BitsJoined
namespace Go.Proofs.Ytlcchghlhfamjaa

/-- The statement. -/
theorem bitsJoined_holds : Rows.BitsJoinedSaid := BitsJoined.over

end Go.Proofs.Ytlcchghlhfamjaa
#print axioms Go.Proofs.Ytlcchghlhfamjaa.bitsJoined_holds

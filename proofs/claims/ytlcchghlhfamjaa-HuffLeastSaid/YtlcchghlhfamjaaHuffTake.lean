/- A coder's Put and Take. -/
import Derived.Test.YtlcchghlhfamjaaRlmHuffC
import Derived.Test.YtlcchghlhfamjaaHuffNew
set_option linter.unusedVariables false
namespace Go.Proofs.Ytlcchghlhfamjaa.X
open Go Go.Rlm

def symOk (zs : List Int) (s : Int) : Bool := decide (0 ≤ s) && decide (s < (zs.length : Int)) && decide (0 < zs.getD s.toNat 0)
def symRes (zs : List Int) (s : Int) : Int := if symOk zs s then 0 else 1
def symPut (zs : List Int) (s : Int) : List Bool := if symOk zs s then symBits zs s.toNat else []

theorem symOk_le {zs : List Int} {s : Int} (h : symOk zs s = true) : 0 ≤ s ∧ s.toNat < zs.length ∧ 0 < zs.getD s.toNat 0 := by
  simp only [symOk, Bool.and_eq_true, decide_eq_true_eq] at h
  omega
theorem symPut_le {zs : List Int} (hm : may zs = true) (s : Int) : (symPut zs s).length ≤ 15 := by
  unfold symPut
  split
  · rename_i h
    obtain ⟨h1, h2, h3⟩ := symOk_le h
    rw [symBits, bitsOf_length]
    have hg : zs.getD s.toNat 0 = zs[s.toNat] := by rw [List.getD_eq_getElem?_getD, List.getElem?_eq_getElem h2]; rfl
    have := okLen_mem (may_ok hm).1 (List.getElem_mem h2)
    omega
  · simp

theorem cput_ok {k b w : Nat} {s : Int} {zs : List Int} {bs : List Bool} {F G : List Nat} {L : LHeap} (hc : CO L b zs F) (hm : may zs = true) (hw : BW L w bs G) (hs : bs.length < 2 ^ 39) (hk : 50 ≤ k) :
    ∃ L' G', f45 k (some ⟨b, 0, none⟩) (some ⟨w, 0, none⟩) s L = some (.ret (.int .i64 (symRes zs s)) L') ∧ BW L' w (bs ++ symPut zs s) G' ∧ Step G L G' L' := by
  obtain ⟨k, rfl⟩ : ∃ k', k = k' + 1 := ⟨k - 1, by omega⟩
  obtain ⟨sl, sc, sy, A1, A2, A3, h1, h2, h3, h4, h5, h6, h7, h8, h9⟩ := hc
  have hln := h2.len
  simp only [List.length_map] at hln
  have c0 : cell L ⟨b, 0, none⟩ = some (.slice sl.a sl.n sl.c) := by rw [cell_of h1, (coder_len _ _ _ _).1]; rfl
  have c1 : cell L ⟨b, 1, none⟩ = some (.slice sc.a sc.n sc.c) := by rw [cell_of h1, (coder_len _ _ _ _).2]; rfl
  rw [f45_eq]
  simp only [Option.isNone_some, lif_false]
  by_cases s0 : s < 0
  · have hno : symOk zs s = false := by simp [symOk, show ¬ 0 ≤ s by omega]
    refine ⟨L, G, ?_, by rw [symPut, hno]; simpa using hw, .refl _ _⟩
    rw [decide_eq_true s0, symRes, hno]; rfl
  rw [decide_eq_false s0]
  simp only [lif_false, obind_some, mk_add, Nat.zero_add, c0, Option.bind_some, asSl_slice]
  by_cases s1 : s ≥ (zs.length : Int)
  · have hno : symOk zs s = false := by simp [symOk, show ¬ s < (zs.length : Int) by omega]
    refine ⟨L, G, ?_, by rw [symPut, hno]; simpa using hw, .refl _ _⟩
    rw [decide_eq_true (by omega), symRes, hno]; rfl
  rw [decide_eq_false (by omega)]
  obtain ⟨i, rfl⟩ : ∃ i : Nat, s = i := ⟨s.toNat, by omega⟩
  have hi : i < zs.length := by omega
  have hg : zs.getD i 0 = zs[i] := by rw [List.getD_eq_getElem?_getD, List.getElem?_eq_getElem hi]; rfl
  obtain ⟨a, a1, a2⟩ := h2.here (i := i) (v := iV zs[i]) (by simp [hi])
  obtain ⟨a', b1, b2⟩ := h3.here (i := i) (v := uV (codeAt zs i)) (by rw [List.getElem?_map, codesOf_get hi]; rfl)
  simp only [lif_false, a1, a2, iV, obind_some, Option.bind_some, asI_int]
  have hr := okLen_mem (may_ok hm).1 (List.getElem_mem hi)
  by_cases hz : zs[i] = 0
  · have hno : symOk zs (i : Int) = false := by rw [symOk, Int.toNat_natCast, hg, hz]; simp
    refine ⟨L, G, ?_, by rw [symPut, hno]; simpa using hw, .refl _ _⟩
    rw [show (zs[i] == 0) = true by simpa using hz, symRes, hno]; rfl
  have hpos : 0 < zs[i] := by omega
  have hyes : symOk zs (i : Int) = true := by rw [symOk, Int.toNat_natCast, hg]; simp [hpos, hi]
  have hlt := codeAt_lt hm hi hpos
  have hpo : putOk (codeAt zs i) zs[i] = true := by simp only [putOk, Bool.and_eq_true, decide_eq_true_eq]; omega
  have hc16 := codeAt_le hm i
  obtain ⟨L', G', d1, d2, d3⟩ := put_ok (k := k) (v := codeAt zs i) (n := zs[i]) hw (by omega) hs (by omega)
  refine ⟨L', G', ?_, ?_, d3⟩
  · rw [show (zs[i] == 0) = false by simpa using hz]
    simp only [lif_false, c1, Option.bind_some, asSl_slice, obind_some, b1, b2, uV, asI_int, a1, a2, iV, d1, lbindR_ret]
    rw [putRes, if_pos hpo, symRes, if_pos hyes]
  · rw [symPut, if_pos hyes, Int.toNat_natCast, symBits, hg]
    rw [putBits, if_pos hpo] at d2
    exact d2

/-! ### Take -/

def decSym (o : Option Nat) : Int := match o with | some i => (i : Int) | none => 0
def decErr (o : Option Nat) : Int := match o with | some _ => 0 | none => 4

theorem ctake_loop {k b x : Nat} {zs : List Int} {F : List Nat} (hm : may zs = true) (hxF : x ∉ F) (hk : 40 ≤ k) : ∀ (m n c j : Nat) (r : List Bool) (L : LHeap), n + m = 16 → 0 < n → m < j → c < 2 ^ (n - 1) → CO L b zs F → BR L x r →
    ∃ L', f44_l5 k j (some ⟨b, 0, none⟩) (some ⟨x, 0, none⟩) (c : Int) (n : Int) L = some (.ret (.tuple #[.int .i64 (decSym (dec zs m n c r).1), .int .i64 (decErr (dec zs m n c r).1)]) L') ∧ BR L' x (dec zs m n c r).2 ∧ Step [x] L [x] L' := by
  obtain ⟨hok, h512, hfill⟩ := may_ok hm
  intro m
  induction m with
  | zero =>
    intro n c j r L hn h0 hj hc hC hX
    obtain ⟨j, rfl⟩ : ∃ j', j = j' + 1 := ⟨j - 1, by omega⟩
    refine ⟨L, ?_, hX, .refl _ _⟩
    rw [f44_l5_eq, decide_eq_false (by omega)]
    rfl
  | succ m ih =>
    intro n c j r L hn h0 hj hc hC hX
    obtain ⟨j, rfl⟩ : ∃ j', j = j' + 1 := ⟨j - 1, by omega⟩
    obtain ⟨L1, a1, a2, a3⟩ := take_ok (k := k) (n := 1) hX (by omega)
    have hC1 : CO L1 b zs F := hC.mono (a3.others hC.within (one_apart hxF)) a3.len
    rw [f44_l5_eq, decide_eq_true (by omega)]
    cases r with
    | nil =>
      simp only [taken, show takeVal [] 1 = 0 by decide, show takeErr [] 1 = 4 by decide] at a1
      refine ⟨L1, ?_, a2, a3⟩
      simp only [lif_true, a1, lbind_ret, tupL_tuple, uncons_cons, nilL_nil, asI_int, obind_some]
      rfl
    | cons y r =>
      have hcn : takeCnt (y :: r) 1 = 1 := by unfold takeCnt; rw [if_neg (by omega), if_neg (by simp; omega)]; rfl
      have he : takeErr (y :: r) 1 = 0 := by unfold takeErr; rw [if_neg (by omega), if_neg (by simp; omega)]
      have hv : takeVal (y :: r) 1 = y.toNat := by rw [takeVal, hcn, List.take_succ_cons, List.take_zero]; cases y <;> rfl
      simp only [taken, hv, he] at a1
      rw [hcn] at a2
      have a2 : BR L1 x r := a2
      have hy := Bool.toNat_le y
      have hp : 2 ^ (n - 1) ≤ 2 ^ 14 := Nat.pow_le_pow_right (by omega) (by omega)
      have hp2 : 2 ^ (n - 1) * 2 = 2 ^ n := by rw [← Nat.pow_succ]; congr 1; omega
      obtain ⟨sl, sc, sy, A1, A2, A3, h1, h2, h3, h4, h5, h6, h7, h8, h9⟩ := hC1
      have hfc := fc_le hfill n (by omega)
      have c1 : cell L1 ⟨b, 0 + 2 + n * 1, none⟩ = some (.int .u32 (fc zs n : Int)) := by
        rw [cell_of h1, Nat.mul_one, show 0 + 2 + n = 2 + n by omega, coder_first _ _ _ _ (by omega)]; rfl
      have c2 : cell L1 ⟨b, 0 + 18 + n * 1, none⟩ = some (.slice (sy n).a (sy n).n (sy n).c) := by
        rw [cell_of h1, Nat.mul_one, show 0 + 18 + n = 18 + n by omega, coder_syms _ _ _ _ (by omega)]; rfl
      have hsn := (h4 n (by omega)).len
      simp only [List.length_map] at hsn
      have e0 : IntKind.wrap .u32 ((c : Int) * 2) = ((c * 2 : Nat) : Int) := by rw [wU32] <;> omega
      have e1 : bitop BinOp.or .u32 (IntKind.wrap .u32 ((c : Int) * 2)) ((y.toNat : Nat) : Int) = ((c * 2 + y.toNat : Nat) : Int) := by
        rw [e0, bitop_or rfl (by simp only [IntKind.bits]; omega) (by simp only [IntKind.bits]; omega)]
        have := Nat.two_pow_add_eq_or_of_lt (i := 1) (b := y.toNat) (by omega) c
        rw [Nat.mul_comm c 2]
        exact congrArg _ this.symm
      simp only [lif_true, a1, lbind_ret, tupL_tuple, uncons_cons, nilL_nil, asI_int, obind_some, bne_self_eq_false, lif_false]
      rw [decide_eq_true (show (0 : Int) ≤ (n : Int) by omega)]
      have hn16 : decide ((n : Int) < 16) = true := decide_eq_true (by omega)
      simp only [when_true, Int.toNat_natCast, mk_add, c1, c2, Option.bind_some, asI_int, asSl_slice, obind_some, e1]
      rw [wI64 (n := ((c * 2 + y.toNat : Nat) : Int)) (by omega) (by omega), wI64 (n := (fc zs n : Int)) (by omega) (by omega), wI64 (n := ((c * 2 + y.toNat : Nat) : Int) - (fc zs n : Int)) (by omega) (by omega), wI64 (n := (n : Int) + 1) (by omega) (by omega)]
      simp only [dec]
      by_cases g1 : fc zs n ≤ c * 2 + y.toNat
      · rw [decide_eq_true (show ((c * 2 + y.toNat : Nat) : Int) - (fc zs n : Int) ≥ 0 by omega)]
        simp only [lif_true]
        by_cases g2 : c * 2 + y.toNat - fc zs n < (symsOf zs n).length
        · rw [decide_eq_true (show ((c * 2 + y.toNat : Nat) : Int) - (fc zs n : Int) < ((sy n).n : Int) by omega), if_pos ⟨g1, g2⟩]
          obtain ⟨a, p1, p2⟩ := (h4 n (by omega)).here (i := c * 2 + y.toNat - fc zs n) (v := kV (symsOf zs n)[c * 2 + y.toNat - fc zs n]) (by simp [g2])
          have p1 : idx (sy n) (((c * 2 + y.toNat : Nat) : Int) - (fc zs n : Int)) 1 = some a := by
            rw [show ((c * 2 + y.toNat : Nat) : Int) - (fc zs n : Int) = ((c * 2 + y.toNat - fc zs n : Nat) : Int) by omega]; exact p1
          refine ⟨L1, ?_, a2, a3⟩
          simp only [lif_true, p1, p2, kV, Option.bind_some, asI_int, obind_some]
          rw [List.getElem?_eq_getElem g2]
          rfl
        · rw [decide_eq_false (show ¬ (((c * 2 + y.toNat : Nat) : Int) - (fc zs n : Int) < ((sy n).n : Int)) by omega), if_neg (fun h => g2 h.2)]
          obtain ⟨L2, q1, q2, q3⟩ := ih (n + 1) (c * 2 + y.toNat) j r L1 (by omega) (by omega) (by omega) (by rw [Nat.add_sub_cancel]; omega) ⟨sl, sc, sy, A1, A2, A3, h1, h2, h3, h4, h5, h6, h7, h8, h9⟩ a2
          exact ⟨L2, q1, q2, a3.trans q3⟩
      · rw [decide_eq_false (show ¬ (((c * 2 + y.toNat : Nat) : Int) - (fc zs n : Int) ≥ 0) by omega), if_neg (fun h => g1 h.1)]
        obtain ⟨L2, q1, q2, q3⟩ := ih (n + 1) (c * 2 + y.toNat) j r L1 (by omega) (by omega) (by omega) (by rw [Nat.add_sub_cancel]; omega) ⟨sl, sc, sy, A1, A2, A3, h1, h2, h3, h4, h5, h6, h7, h8, h9⟩ a2
        exact ⟨L2, q1, q2, a3.trans q3⟩

theorem ctake_ok {k b x : Nat} {zs : List Int} {F : List Nat} {r : List Bool} {L : LHeap} (hC : CO L b zs F) (hm : may zs = true) (hX : BR L x r) (hxF : x ∉ F) (hk : 50 ≤ k) :
    ∃ L', f44 k (some ⟨b, 0, none⟩) (some ⟨x, 0, none⟩) L = some (.ret (.tuple #[.int .i64 (decSym (readSym zs r).1), .int .i64 (decErr (readSym zs r).1)]) L') ∧ BR L' x (readSym zs r).2 ∧ Step [x] L [x] L' := by
  obtain ⟨k, rfl⟩ : ∃ k', k = k' + 1 := ⟨k - 1, by omega⟩
  rw [f44_eq]
  exact ctake_loop hm hxF (by omega) 15 1 0 k r L rfl (by omega) (by omega) (by simp) hC hX

end Go.Proofs.Ytlcchghlhfamjaa.X

/- Codes, plain: what is read of bits. No program in sight. -/
import Derived.Test.YtlcchghlhfamjaaRlmBits
import Derived.Test.YtlcchghlhfamjaaRlmCodes
namespace Go.Rlm

/-- The symbols of a length, in their row, of the first i. -/
def symsTo (zs : List Int) (i n : Nat) : List Nat := (List.range i).filter fun q => zs.getD q 0 == (n : Int)
def symsOf (zs : List Int) (n : Nat) : List Nat := symsTo zs zs.length n
theorem symsTo_succ {zs : List Int} {i : Nat} (h : i < zs.length) (n : Nat) : symsTo zs (i + 1) n = symsTo zs i n ++ (if zs[i] = (n : Int) then [i] else []) := by
  have hd : zs.getD i 0 = zs[i] := by rw [List.getD_eq_getElem?_getD, List.getElem?_eq_getElem h]; rfl
  simp only [symsTo, List.range_succ, List.filter_append, List.filter_cons, List.filter_nil, hd]
  by_cases hz : zs[i] = (n : Int)
  · rw [if_pos hz, if_pos (by simpa using hz)]
  · rw [if_neg hz, if_neg (by simpa using hz)]
theorem symsTo_length_le (zs : List Int) (i n : Nat) : (symsTo zs i n).length ≤ i := by
  have := List.length_filter_le (fun q => zs.getD q 0 == (n : Int)) (List.range i)
  simpa [symsTo] using this
theorem symsTo_length {zs : List Int} {i : Nat} (h : i ≤ zs.length) (n : Nat) : (symsTo zs i n).length = cnt (zs.take i) n := by
  induction i with
  | zero => simp [symsTo]
  | succ i ih =>
    rw [symsTo_succ (by omega), List.length_append, ih (by omega), cnt_take_succ (by omega)]
    split <;> simp
theorem symsOf_length (zs : List Int) (n : Nat) : (symsOf zs n).length = cnt zs n := by
  rw [symsOf, symsTo_length (Nat.le_refl _), List.take_length]
theorem symsTo_front (zs : List Int) {i j n : Nat} (h : i ≤ j) : symsTo zs i n <+: symsTo zs j n := by
  obtain ⟨d, rfl⟩ := Nat.exists_eq_add_of_le h
  have : List.range (i + d) = List.range i ++ (List.range d).map (i + ·) := List.range_add
  simp only [symsTo, this, List.filter_append]
  exact List.prefix_append _ _
theorem symsOf_get {zs : List Int} {i n : Nat} (h : i < zs.length) (hz : zs[i] = (n : Int)) : (symsOf zs n)[cnt (zs.take i) n]? = some i := by
  obtain ⟨t, ht⟩ := symsTo_front zs (n := n) (show i + 1 ≤ zs.length by omega)
  rw [symsOf, ← ht, symsTo_succ h, if_pos hz, List.append_assoc, List.getElem?_append_right (by rw [symsTo_length (by omega)]; exact Nat.le_refl _), symsTo_length (by omega)]
  simp
theorem symsOf_mem {zs : List Int} {n i : Nat} (h : i ∈ symsOf zs n) : i < zs.length ∧ zs.getD i 0 = (n : Int) := by
  simp only [symsOf, symsTo, List.mem_filter, List.mem_range] at h
  exact ⟨h.1, by simpa using h.2⟩
/-- Where one stands, that many stand ahead. -/
theorem symsOf_at {zs : List Int} {n x i : Nat} (h : (symsOf zs n)[x]? = some i) : i < zs.length ∧ zs.getD i 0 = (n : Int) ∧ cnt (zs.take i) n = x := by
  obtain ⟨h1, h2⟩ := symsOf_mem (List.mem_of_getElem? h)
  refine ⟨h1, h2, ?_⟩
  have hd : zs[i] = (n : Int) := by rw [← h2, List.getD_eq_getElem?_getD, List.getElem?_eq_getElem h1]; rfl
  have h3 := symsOf_get h1 hd
  have hnd := List.pairwise_iff_getElem.1 (List.Pairwise.filter (fun q => zs.getD q 0 == (n : Int)) (List.nodup_range (n := zs.length)))
  have l1 : x < (symsOf zs n).length := (List.getElem?_eq_some_iff.1 h).1
  have l2 : cnt (zs.take i) n < (symsOf zs n).length := (List.getElem?_eq_some_iff.1 h3).1
  rw [List.getElem?_eq_getElem l1] at h
  rw [List.getElem?_eq_getElem l2] at h3
  have he := Option.some.inj (h3.trans h.symm)
  rcases Nat.lt_trichotomy (cnt (zs.take i) n) x with q | q | q
  · exact absurd he (hnd _ _ l2 l1 q)
  · exact q
  · exact absurd he.symm (hnd _ _ l1 l2 q)

/-- A symbol's bits. -/
def symBits (zs : List Int) (i : Nat) : List Bool := bitsOf (codeAt zs i) (zs.getD i 0).toNat

/-- What stands behind n - 1 bits of value c: a symbol, and the bits behind it. -/
def dec (zs : List Int) : Nat → Nat → Nat → List Bool → Option Nat × List Bool
  | 0, _, _, r => (none, r)
  | _ + 1, _, _, [] => (none, [])
  | m + 1, n, c, x :: r =>
    if fc zs n ≤ c * 2 + x.toNat ∧ c * 2 + x.toNat - fc zs n < (symsOf zs n).length then ((symsOf zs n)[c * 2 + x.toNat - fc zs n]?, r)
    else dec zs m (n + 1) (c * 2 + x.toNat) r
def readSym (zs : List Int) (r : List Bool) : Option Nat × List Bool := dec zs 15 1 0 r

theorem fc_step {zs : List Int} {n : Nat} (hn : 0 < n) : fc zs (n + 1) = (fc zs n + cnt zs n) * 2 := by
  obtain ⟨m, rfl⟩ : ∃ m, n = m + 1 := ⟨n - 1, by omega⟩
  rfl
theorem fc_far {zs : List Int} {n : Nat} (hn : 0 < n) (d : Nat) : (fc zs n + cnt zs n) * 2 ^ (d + 1) ≤ fc zs (n + (d + 1)) := by
  induction d with
  | zero => rw [fc_step hn]; simp
  | succ d ih =>
    rw [show n + (d + 1 + 1) = n + (d + 1) + 1 by omega, fc_step (by omega), Nat.pow_succ, ← Nat.mul_assoc]
    exact Nat.mul_le_mul_right _ (Nat.le_trans ih (Nat.le_add_right _ _))

/-- A code is read as its symbol. -/
theorem dec_code {zs : List Int} {i len : Nat} (hi : i < zs.length) (hz : zs[i] = (len : Int)) (hl : 0 < len) (h15 : len ≤ 15) (rest : List Bool) :
    ∀ (d n m : Nat), 0 < n → n + d = len → d < m → dec zs m n (codeAt zs i / 2 ^ (d + 1)) (bitsOf (codeAt zs i) (d + 1) ++ rest) = (some i, rest) := by
  have hg : zs.getD i 0 = (len : Int) := by rw [List.getD_eq_getElem?_getD, List.getElem?_eq_getElem hi]; simpa using hz
  have hcode : codeAt zs i = fc zs len + cnt (zs.take i) len := by unfold codeAt; rw [hg, if_pos (by omega), Int.toNat_natCast]
  intro d
  induction d with
  | zero =>
    intro n m hn hnd hm
    obtain ⟨m, rfl⟩ : ∃ m', m = m' + 1 := ⟨m - 1, by omega⟩
    obtain rfl : n = len := by omega
    rw [bitsOf_succ, bitsOf_zero]
    have hx : codeAt zs i / 2 ^ (0 + 1) * 2 + ((codeAt zs i).testBit 0).toNat = codeAt zs i := by
      rw [Nat.testBit_zero]
      rcases Nat.mod_two_eq_zero_or_one (codeAt zs i) with h | h <;> simp [h] <;> omega
    simp only [List.cons_append, List.nil_append, dec, hx]
    have hlt := cnt_take_lt hi hz
    rw [if_pos (by rw [symsOf_length]; omega), show codeAt zs i - fc zs n = cnt (zs.take i) n by omega, symsOf_get hi hz]
  | succ d ih =>
    intro n m hn hnd hm
    obtain ⟨m, rfl⟩ : ∃ m', m = m' + 1 := ⟨m - 1, by omega⟩
    rw [bitsOf_succ]
    have hx : codeAt zs i / 2 ^ (d + 1 + 1) * 2 + ((codeAt zs i).testBit (d + 1)).toNat = codeAt zs i / 2 ^ (d + 1) := by
      rw [Nat.testBit_eq_decide_div_mod_eq, Nat.pow_succ 2 (d + 1), ← Nat.div_div_eq_div_mul]
      generalize codeAt zs i / 2 ^ (d + 1) = y
      rcases Nat.mod_two_eq_zero_or_one y with h | h <;> simp [h] <;> omega
    simp only [List.cons_append, dec, hx]
    have hge : fc zs n + cnt zs n ≤ codeAt zs i / 2 ^ (d + 1) := by
      rw [Nat.le_div_iff_mul_le (Nat.two_pow_pos _)]
      have := fc_far (zs := zs) hn d
      rw [show n + (d + 1) = len by omega] at this
      omega
    rw [if_neg (by rw [symsOf_length]; omega)]
    exact ih (n + 1) m (by omega) (by omega) (by omega)

theorem readSym_code {zs : List Int} (hm : may zs = true) {i : Nat} (hi : i < zs.length) (hz : 0 < zs[i]) (rest : List Bool) : readSym zs (symBits zs i ++ rest) = (some i, rest) := by
  obtain ⟨hok, _, _⟩ := may_ok hm
  have hr := okLen_mem hok (List.getElem_mem hi)
  have hg : zs.getD i 0 = zs[i] := by rw [List.getD_eq_getElem?_getD, List.getElem?_eq_getElem hi]; rfl
  obtain ⟨d, hd⟩ : ∃ d : Nat, zs[i] = ((d + 1 : Nat) : Int) := ⟨zs[i].toNat - 1, by omega⟩
  have hlt := codeAt_lt hm hi hz
  have := dec_code (len := d + 1) hi hd (by omega) (by omega) rest d 1 15 (by omega) (by omega) (by omega)
  rw [hd, Int.toNat_natCast] at hlt
  rw [Nat.div_eq_of_lt hlt] at this
  rw [readSym, symBits, hg, hd, Int.toNat_natCast]
  exact this

/-- What is read as a symbol are its bits. -/
theorem dec_some {zs : List Int} : ∀ (m n c : Nat) (r : List Bool) (i : Nat) (rest : List Bool) (p : List Bool), 0 < n → p.length + 1 = n → bitNum p = c → dec zs m n c r = (some i, rest) → i < zs.length ∧ 0 < zs.getD i 0 ∧ p ++ r = symBits zs i ++ rest := by
  intro m
  induction m with
  | zero => intro n c r i rest p hn hp hc h; simp [dec] at h
  | succ m ih =>
    intro n c r i rest p hn hp hc h
    cases r with
    | nil => simp [dec] at h
    | cons x r =>
      have hc' : bitNum (p ++ [x]) = c * 2 + x.toNat := by rw [bitNum_snoc, hc]
      simp only [dec] at h
      split at h
      · rename_i hcond
        simp only [Prod.mk.injEq] at h
        obtain ⟨h1, rfl⟩ := h
        obtain ⟨g1, g2, g3⟩ := symsOf_at h1
        refine ⟨g1, by omega, ?_⟩
        have hcode : codeAt zs i = c * 2 + x.toNat := by
          unfold codeAt
          rw [g2, if_pos (by omega), Int.toNat_natCast]
          omega
        rw [symBits, hcode, g2, Int.toNat_natCast, ← hc', show n = (p ++ [x]).length by simp; omega, bitsOf_bitNum]
        simp
      · have := ih (n + 1) _ r i rest (p ++ [x]) (by omega) (by simp; omega) hc' h
        simpa using this

theorem readSym_some {zs : List Int} {r : List Bool} {i : Nat} {rest : List Bool} (h : readSym zs r = (some i, rest)) : i < zs.length ∧ 0 < zs.getD i 0 ∧ r = symBits zs i ++ rest := by
  have := dec_some 15 1 0 r i rest [] (by omega) rfl rfl h
  simpa using this

/-- If the code is full, fifteen bits are enough. -/
theorem dec_full {zs : List Int} (hf : fillTo zs 15 = 32768) : ∀ (m n c : Nat) (r : List Bool), n + m = 16 → 0 < n → m ≤ r.length → fc zs n ≤ c * 2 → c < 2 ^ (n - 1) → 0 < m → (dec zs m n c r).1 ≠ none := by
  intro m
  induction m with
  | zero => intro n c r hn h0 hl hc hb h; omega
  | succ m ih =>
    intro n c r hn h0 hl hc hb _
    cases r with
    | nil => simp at hl
    | cons x r =>
      simp only [List.length_cons] at hl
      have hx := Bool.toNat_le x
      simp only [dec]
      by_cases hcond : fc zs n ≤ c * 2 + x.toNat ∧ c * 2 + x.toNat - fc zs n < (symsOf zs n).length
      · rw [if_pos hcond, List.getElem?_eq_getElem hcond.2]
        simp
      · rw [if_neg hcond]
        rw [symsOf_length] at hcond
        have hge : fc zs n + cnt zs n ≤ c * 2 + x.toNat := by omega
        have hp : 2 ^ (n - 1) * 2 = 2 ^ n := by rw [← Nat.pow_succ]; congr 1; omega
        rcases Nat.eq_zero_or_pos m with h | h
        · exfalso
          obtain rfl : n = 15 := by omega
          have h14 := fc_fill zs 14 (by omega)
          have h15 : fillTo zs 15 = fillTo zs 14 + cnt zs 15 * 2 ^ (15 - 15) := rfl
          simp only [Nat.reduceAdd, Nat.reduceSub, Nat.pow_zero, Nat.mul_one] at h14 h15 hb
          omega
        · refine ih (n + 1) _ r (by omega) (by omega) (by omega) ?_ ?_ h
          · rw [fc_step h0]; omega
          · rw [Nat.add_sub_cancel]; omega

theorem readSym_full {zs : List Int} (hf : fillTo zs 15 = 32768) {r : List Bool} (hl : 15 ≤ r.length) : (readSym zs r).1 ≠ none :=
  dec_full hf 15 1 0 r rfl (by omega) hl (by simp [fc]) (by simp) (by omega)

end Go.Rlm

/- Codes of lengths, plain: how many of each length, how far they fill, the codes in their row. No program in sight. -/
import Derived.Test.YtlcchghlhfamjaaRlmC
namespace Go.Rlm

def okLen (zs : List Int) : Bool := zs.all fun z => decide (0 ≤ z) && decide (z ≤ 15)
theorem okLen_mem {zs : List Int} (h : okLen zs = true) {z : Int} (hz : z ∈ zs) : 0 ≤ z ∧ z ≤ 15 := by
  have := List.all_eq_true.1 h z hz
  simpa using this
theorem okLen_cons {z : Int} {zs : List Int} : okLen (z :: zs) = true ↔ (0 ≤ z ∧ z ≤ 15) ∧ okLen zs = true := by simp [okLen]

def cnt (zs : List Int) (n : Nat) : Nat := zs.count (n : Int)
@[simp] theorem cnt_nil (n : Nat) : cnt [] n = 0 := rfl
theorem cnt_cons (z : Int) (zs : List Int) (n : Nat) : cnt (z :: zs) n = cnt zs n + (if z = (n : Int) then 1 else 0) := by
  simp [cnt, List.count_cons]
theorem cnt_append (a b : List Int) (n : Nat) : cnt (a ++ b) n = cnt a n + cnt b n := by simp [cnt]
theorem cnt_snoc (a : List Int) (z : Int) (n : Nat) : cnt (a ++ [z]) n = cnt a n + (if z = (n : Int) then 1 else 0) := by
  rw [cnt_append, cnt_cons]; simp
theorem cnt_le (zs : List Int) (n : Nat) : cnt zs n ≤ zs.length := List.count_le_length
theorem cnt_take_le (zs : List Int) (i n : Nat) : cnt (zs.take i) n ≤ cnt zs n := by
  have := cnt_append (zs.take i) (zs.drop i) n
  rw [List.take_append_drop] at this
  omega
theorem take_succ_int {zs : List Int} {i : Nat} (h : i < zs.length) : zs.take (i + 1) = zs.take i ++ [zs[i]] := by
  rw [List.take_succ_eq_append_getElem h]
theorem cnt_take_succ {zs : List Int} {i : Nat} (h : i < zs.length) (n : Nat) : cnt (zs.take (i + 1)) n = cnt (zs.take i) n + (if zs[i] = (n : Int) then 1 else 0) := by
  rw [take_succ_int h, cnt_snoc]

/-- By how many 2^-15 the lengths 1 .. k fill a code. -/
def fillTo (zs : List Int) : Nat → Nat
  | 0 => 0
  | k + 1 => fillTo zs k + cnt zs (k + 1) * 2 ^ (15 - (k + 1))
def usedTo (zs : List Int) : Nat → Nat
  | 0 => 0
  | k + 1 => usedTo zs k + cnt zs (k + 1)

theorem fillTo_nil (k : Nat) : fillTo [] k = 0 := by induction k <;> simp [fillTo, *]
theorem usedTo_nil (k : Nat) : usedTo [] k = 0 := by induction k <;> simp [usedTo, *]
theorem fillTo_cons (z : Int) (zs : List Int) (k : Nat) : fillTo (z :: zs) k = fillTo zs k + (if 1 ≤ z ∧ z ≤ (k : Int) then 2 ^ (15 - z.toNat) else 0) := by
  induction k with
  | zero => simp [fillTo]; omega
  | succ k ih =>
    simp only [fillTo, ih, cnt_cons]
    by_cases h1 : z = ((k + 1 : Nat) : Int)
    · subst h1
      rw [if_pos rfl, if_neg (by omega), if_pos (by omega), Int.toNat_natCast, Nat.add_mul]
      omega
    · rw [if_neg h1]
      by_cases h2 : 1 ≤ z ∧ z ≤ (k : Int)
      · rw [if_pos h2, if_pos (by omega)]; simp only [Nat.add_zero]; omega
      · rw [if_neg h2, if_neg (by omega)]; simp
theorem usedTo_cons (z : Int) (zs : List Int) (k : Nat) : usedTo (z :: zs) k = usedTo zs k + (if 1 ≤ z ∧ z ≤ (k : Int) then 1 else 0) := by
  induction k with
  | zero => simp [usedTo]; omega
  | succ k ih =>
    simp only [usedTo, ih, cnt_cons]
    by_cases h1 : z = ((k + 1 : Nat) : Int)
    · subst h1
      rw [if_pos rfl, if_neg (by omega), if_pos (by omega)]
      omega
    · rw [if_neg h1]
      by_cases h2 : 1 ≤ z ∧ z ≤ (k : Int)
      · rw [if_pos h2, if_pos (by omega)]; omega
      · rw [if_neg h2, if_neg (by omega)]; omega

/-- The same, number by number. -/
def fillE (zs : List Int) : Nat := (zs.map fun z => if 0 < z then 2 ^ (15 - z.toNat) else 0).sum
def usedE (zs : List Int) : Nat := (zs.map fun z => if 0 < z then 1 else 0).sum
theorem fillE_eq {zs : List Int} (h : okLen zs = true) : fillE zs = fillTo zs 15 := by
  induction zs with
  | nil => simp [fillE, fillTo_nil]
  | cons z zs ih =>
    obtain ⟨h1, h2⟩ := okLen_cons.1 h
    rw [fillTo_cons, ← ih h2]
    simp only [fillE, List.map_cons, List.sum_cons]
    by_cases hz : 0 < z
    · rw [if_pos hz, if_pos (by omega)]; omega
    · rw [if_neg hz, if_neg (by omega)]; omega
theorem usedE_eq {zs : List Int} (h : okLen zs = true) : usedE zs = usedTo zs 15 := by
  induction zs with
  | nil => simp [usedE, usedTo_nil]
  | cons z zs ih =>
    obtain ⟨h1, h2⟩ := okLen_cons.1 h
    rw [usedTo_cons, ← ih h2]
    simp only [usedE, List.map_cons, List.sum_cons]
    by_cases hz : 0 < z
    · rw [if_pos hz, if_pos (by omega)]; omega
    · rw [if_neg hz, if_neg (by omega)]; omega

theorem fillE_le (zs : List Int) : fillE zs ≤ zs.length * 2 ^ 15 := by
  induction zs with
  | nil => simp [fillE]
  | cons z zs ih =>
    simp only [fillE, List.map_cons, List.sum_cons, List.length_cons, Nat.add_mul, Nat.one_mul] at ih ⊢
    have : (if 0 < z then 2 ^ (15 - z.toNat) else 0) ≤ 2 ^ 15 := by
      split
      · exact Nat.pow_le_pow_right (by omega) (by omega)
      · omega
    omega
theorem usedE_le (zs : List Int) : usedE zs ≤ zs.length := by
  induction zs with
  | nil => simp [usedE]
  | cons z zs ih =>
    simp only [usedE, List.map_cons, List.sum_cons, List.length_cons] at ih ⊢
    have : (if 0 < z then 1 else 0) ≤ 1 := by split <;> omega
    omega
theorem fillTo_le {zs : List Int} (h : okLen zs = true) (k : Nat) (hk : k ≤ 15) : fillTo zs k ≤ zs.length * 2 ^ 15 := by
  have mono : ∀ a b, a ≤ b → fillTo zs a ≤ fillTo zs b := by
    intro a b hab
    induction hab with
    | refl => exact Nat.le_refl _
    | step _ ih => exact Nat.le_trans ih (by simp [fillTo])
  have := mono k 15 hk
  rw [← fillE_eq h] at this
  exact Nat.le_trans this (fillE_le zs)
theorem fillTo_mono (zs : List Int) {a b : Nat} (hab : a ≤ b) : fillTo zs a ≤ fillTo zs b := by
  induction hab with
  | refl => exact Nat.le_refl _
  | step _ ih => exact Nat.le_trans ih (by simp [fillTo])
theorem usedTo_le {zs : List Int} (h : okLen zs = true) (k : Nat) (hk : k ≤ 15) : usedTo zs k ≤ zs.length := by
  have mono : ∀ a b, a ≤ b → usedTo zs a ≤ usedTo zs b := by
    intro a b hab
    induction hab with
    | refl => exact Nat.le_refl _
    | step _ ih => exact Nat.le_trans ih (by simp [usedTo])
  have := mono k 15 hk
  rw [← usedE_eq h] at this
  exact Nat.le_trans this (usedE_le zs)

/-- May these be a code's lengths? -/
def may (zs : List Int) : Bool :=
  okLen zs && decide (zs.length ≤ 512) && (decide (fillTo zs 15 = 0) || decide (fillTo zs 15 = 32768) || (decide (usedTo zs 15 = 1) && decide (fillTo zs 15 = 16384)))
theorem may_ok {zs : List Int} (h : may zs = true) : okLen zs = true ∧ zs.length ≤ 512 ∧ fillTo zs 15 ≤ 32768 := by
  simp only [may, Bool.and_eq_true, Bool.or_eq_true, decide_eq_true_eq] at h
  obtain ⟨⟨h1, h2⟩, h3⟩ := h
  exact ⟨h1, h2, by omega⟩

/-- The first code of a length. -/
def fc (zs : List Int) : Nat → Nat
  | 0 => 0
  | 1 => 0
  | n + 2 => (fc zs (n + 1) + cnt zs (n + 1)) * 2

theorem fc_fill (zs : List Int) (n : Nat) (hn : n < 15) : fc zs (n + 1) * 2 ^ (15 - (n + 1)) = fillTo zs n := by
  induction n with
  | zero => simp [fc, fillTo]
  | succ n ih =>
    have := ih (by omega)
    simp only [fc, fillTo]
    rw [← this, show 15 - (n + 1) = 15 - (n + 1 + 1) + 1 by omega, Nat.pow_succ]
    rw [← Nat.add_mul, Nat.mul_assoc, Nat.mul_comm 2]
theorem fc_cnt {zs : List Int} (h : fillTo zs 15 ≤ 32768) (n : Nat) (hn : n < 15) : fc zs (n + 1) + cnt zs (n + 1) ≤ 2 ^ (n + 1) := by
  have h1 := fc_fill zs n hn
  have h2 := fillTo_mono zs (show n + 1 ≤ 15 by omega)
  rw [show fillTo zs (n + 1) = fillTo zs n + cnt zs (n + 1) * 2 ^ (15 - (n + 1)) from rfl] at h2
  have h3 : (fc zs (n + 1) + cnt zs (n + 1)) * 2 ^ (15 - (n + 1)) ≤ 2 ^ (n + 1) * 2 ^ (15 - (n + 1)) := by
    rw [Nat.add_mul, h1, ← Nat.pow_add, show n + 1 + (15 - (n + 1)) = 15 by omega]
    omega
  exact Nat.le_of_mul_le_mul_right h3 (Nat.two_pow_pos _)
theorem fc_le {zs : List Int} (h : fillTo zs 15 ≤ 32768) (n : Nat) (hn : n ≤ 16) : fc zs n ≤ 65536 := by
  match n with
  | 0 => simp [fc]
  | 1 => simp [fc]
  | n + 2 =>
    have := fc_cnt h n (by omega)
    have hp : 2 ^ (n + 1) ≤ 2 ^ 15 := Nat.pow_le_pow_right (by omega) (by omega)
    simp only [fc]
    omega
theorem fc_cnt_le {zs : List Int} (h : fillTo zs 15 ≤ 32768) (n : Nat) (h1 : 1 ≤ n) (hn : n ≤ 15) : fc zs n + cnt zs n ≤ 2 ^ n := by
  obtain ⟨m, rfl⟩ : ∃ m, n = m + 1 := ⟨n - 1, by omega⟩
  exact fc_cnt h m (by omega)

/-- A symbol's code. -/
def codeAt (zs : List Int) (i : Nat) : Nat := if 0 < zs.getD i 0 then fc zs (zs.getD i 0).toNat + cnt (zs.take i) (zs.getD i 0).toNat else 0
def codesOf (zs : List Int) : List Nat := (List.range zs.length).map (codeAt zs)
@[simp] theorem codesOf_length (zs : List Int) : (codesOf zs).length = zs.length := by simp [codesOf]
theorem codesOf_get {zs : List Int} {i : Nat} (h : i < zs.length) : (codesOf zs)[i]? = some (codeAt zs i) := by simp [codesOf, h]

theorem cnt_take_lt {zs : List Int} {i : Nat} (h : i < zs.length) {n : Nat} (hz : zs[i] = (n : Int)) : cnt (zs.take i) n < cnt zs n := by
  have h1 := cnt_take_succ h n
  have h2 := cnt_take_le zs (i + 1) n
  rw [if_pos hz] at h1
  omega

/-- A code fits its length. -/
theorem codeAt_lt {zs : List Int} (hm : may zs = true) {i : Nat} (h : i < zs.length) (hz : 0 < zs[i]) : codeAt zs i < 2 ^ zs[i].toNat := by
  obtain ⟨h1, h2, h3⟩ := may_ok hm
  have hr := okLen_mem h1 (List.getElem_mem h)
  have hd : zs.getD i 0 = zs[i] := by rw [List.getD_eq_getElem?_getD, List.getElem?_eq_getElem h]; rfl
  have := fc_cnt_le h3 zs[i].toNat (by omega) (by omega)
  have := cnt_take_lt h (n := zs[i].toNat) (by omega)
  unfold codeAt
  rw [hd, if_pos hz]
  omega
theorem codeAt_le {zs : List Int} (hm : may zs = true) (i : Nat) : codeAt zs i < 65536 := by
  by_cases h : i < zs.length
  · by_cases hz : 0 < zs[i]
    · have h1 := codeAt_lt hm h hz
      have hr := okLen_mem (may_ok hm).1 (List.getElem_mem h)
      have : 2 ^ zs[i].toNat ≤ 2 ^ 15 := Nat.pow_le_pow_right (by omega) (by omega)
      omega
    · unfold codeAt
      rw [List.getD_eq_getElem?_getD, List.getElem?_eq_getElem h, Option.getD_some, if_neg hz]
      omega
  · unfold codeAt
    rw [List.getD_eq_getElem?_getD, List.getElem?_eq_none (by omega)]
    simp

end Go.Rlm

/- Bits, plain: numbers and their bits, bytes and theirs. No program in sight. -/
import Derived.Test.YtlcchghlhfamjaaRlmC
namespace Go.Rlm

theorem snoc_ind {α : Type} {p : List α → Prop} (h0 : p []) (h1 : ∀ a x, p a → p (a ++ [x])) (a : List α) : p a := by
  have : ∀ n (a : List α), a.length = n → p a := by
    intro n
    induction n with
    | zero => intro a h; rw [List.eq_nil_of_length_eq_zero h]; exact h0
    | succ n ih =>
      intro a h
      rw [← List.dropLast_concat_getLast (l := a) (by intro h0; rw [h0] at h; cases h)]
      exact h1 _ _ (ih _ (by simp [h]))
  exact this _ a rfl

theorem cons2 {α : Type} {x y : α} {a b : List α} (h : x = y) (k : a = b) : x :: a = y :: b := by rw [h, k]
theorem app2 {α : Type} {x y a b : List α} (h : x = y) (k : a = b) : x ++ a = y ++ b := by rw [h, k]

def bitsOf (v n : Nat) : List Bool := (List.range n).map fun i => v.testBit (n - 1 - i)
def bitNum (bs : List Bool) : Nat := bs.foldl (fun v b => v * 2 + b.toNat) 0

@[simp] theorem bitsOf_length (v n : Nat) : (bitsOf v n).length = n := by simp [bitsOf]
@[simp] theorem bitsOf_zero (v : Nat) : bitsOf v 0 = [] := rfl

theorem bitsOf_succ (v n : Nat) : bitsOf v (n + 1) = v.testBit n :: bitsOf v n := by
  simp only [bitsOf, List.range_succ_eq_map, List.map_cons, List.map_map]
  refine cons2 (by simp) (List.map_congr_left fun i _ => ?_)
  simp only [Function.comp]
  congr 1
  omega

/-- The last bit stands behind the others. -/
theorem bitsOf_last (v n : Nat) : bitsOf v (n + 1) = bitsOf (v / 2) n ++ [v.testBit 0] := by
  simp only [bitsOf, List.range_succ, List.map_append, List.map_cons, List.map_nil]
  refine app2 (List.map_congr_left fun i hi => ?_) (by simp)
  have := List.mem_range.1 hi
  rw [← Nat.testBit_succ]
  congr 1
  omega

theorem bitsOf_split (v n low : Nat) (h : low ≤ n) : bitsOf v n = bitsOf (v / 2 ^ low) (n - low) ++ bitsOf v low := by
  induction low with
  | zero => simp
  | succ k ih =>
    rw [ih (by omega), bitsOf_succ v k]
    have e : n - k = (n - (k + 1)) + 1 := by omega
    rw [e, bitsOf_last]
    rw [Nat.div_div_eq_div_mul, ← Nat.pow_succ]
    simp [Nat.testBit_eq_decide_div_mod_eq]

theorem bitsOf_mod (v n : Nat) : bitsOf (v % 2 ^ n) n = bitsOf v n := by
  simp only [bitsOf]
  refine List.map_congr_left fun i hi => ?_
  have := List.mem_range.1 hi
  rw [Nat.testBit_mod_two_pow, decide_eq_true (by omega), Bool.true_and]

theorem bitNum_append (a b : List Bool) : bitNum (a ++ b) = bitNum a * 2 ^ b.length + bitNum b := by
  have key : ∀ (b : List Bool) (x : Nat), b.foldl (fun v b => v * 2 + b.toNat) x = x * 2 ^ b.length + bitNum b := by
    intro b
    induction b with
    | nil => intro x; simp [bitNum]
    | cons c b ih =>
      intro x
      simp only [List.foldl_cons, List.length_cons, bitNum]
      rw [ih, ih (0 * 2 + c.toNat), Nat.pow_succ, Nat.add_mul, Nat.zero_mul, Nat.zero_add, Nat.mul_assoc, Nat.mul_comm 2]
      omega
  simp only [bitNum, List.foldl_append]
  rw [key]; rfl

theorem bitNum_snoc (a : List Bool) (x : Bool) : bitNum (a ++ [x]) = bitNum a * 2 + x.toNat := by simp [bitNum_append, bitNum]

theorem bitNum_lt (a : List Bool) : bitNum a < 2 ^ a.length := by
  induction a using snoc_ind with
  | h0 => simp [bitNum]
  | h1 a x ih =>
    rw [bitNum_snoc]
    simp only [List.length_append, List.length_singleton, Nat.pow_succ]
    have := Bool.toNat_le x
    omega

theorem bitNum_bitsOf (v n : Nat) : bitNum (bitsOf v n) = v % 2 ^ n := by
  induction n generalizing v with
  | zero => simp [bitNum, Nat.mod_one]
  | succ n ih =>
    rw [bitsOf_last, bitNum_snoc, ih, Nat.pow_succ, Nat.mul_comm (2 ^ n), Nat.mod_mul]
    have : (v.testBit 0).toNat = v % 2 := by rw [Nat.testBit_zero]; rcases Nat.mod_two_eq_zero_or_one v with h | h <;> simp [h]
    rw [this]; omega

theorem bitsOf_bitNum (a : List Bool) : bitsOf (bitNum a) a.length = a := by
  induction a using snoc_ind with
  | h0 => rfl
  | h1 a x ih =>
    rw [bitNum_snoc]
    simp only [List.length_append, List.length_singleton]
    rw [bitsOf_last]
    have h1 : (bitNum a * 2 + x.toNat) / 2 = bitNum a := by have := Bool.toNat_le x; omega
    have h2 : (bitNum a * 2 + x.toNat).testBit 0 = x := by rw [Nat.testBit_zero]; cases x <;> simp
    rw [h1, h2, ih]

/-! ### Bytes -/

/-- The bytes' bits are these, noughts behind them. -/
def Packs (vs : List Nat) (bs : List Bool) : Prop :=
  vs.length = (bs.length + 7) / 8 ∧ ∀ i, i < vs.length → vs.getD i 0 < 256 ∧ ∀ k, k < 8 → (vs.getD i 0).testBit (7 - k) = bs.getD (8 * i + k) false
/-- There is room for one bit more. -/
def PacksR (vs : List Nat) (bs : List Bool) : Prop :=
  vs.length = bs.length / 8 + 1 ∧ ∀ i, i < vs.length → vs.getD i 0 < 256 ∧ ∀ k, k < 8 → (vs.getD i 0).testBit (7 - k) = bs.getD (8 * i + k) false

theorem Packs.nil : Packs [] [] := ⟨rfl, fun i hi => by simp at hi⟩

theorem byte_ext {a b : Nat} (ha : a < 256) (hb : b < 256) (h : ∀ k, k < 8 → a.testBit (7 - k) = b.testBit (7 - k)) : a = b := by
  apply Nat.eq_of_testBit_eq
  intro i
  by_cases hi : i < 8
  · have := h (7 - i) (by omega)
    rwa [show 7 - (7 - i) = i by omega] at this
  · have : 2 ^ 8 ≤ 2 ^ i := Nat.pow_le_pow_right (by omega) (by omega)
    rw [Nat.testBit_lt_two_pow (by omega), Nat.testBit_lt_two_pow (by omega)]

theorem Packs.unique {vs us : List Nat} {bs : List Bool} (h : Packs vs bs) (k : Packs us bs) : vs = us := by
  apply List.ext_getElem (by rw [h.1, k.1])
  intro i h1 h2
  have a := h.2 i h1
  have b := k.2 i h2
  rw [List.getD_eq_getElem?_getD, List.getElem?_eq_getElem h1, Option.getD_some] at a
  rw [List.getD_eq_getElem?_getD, List.getElem?_eq_getElem h2, Option.getD_some] at b
  exact byte_ext a.1 b.1 fun k hk => by rw [a.2 k hk, b.2 k hk]

theorem Packs.room0 {vs : List Nat} {bs : List Bool} (h : Packs vs bs) (h8 : bs.length % 8 = 0) : PacksR (vs ++ [0]) bs := by
  have h1 := h.1
  refine ⟨by simp; omega, fun i hi => ?_⟩
  simp only [List.length_append, List.length_singleton] at hi
  by_cases hl : i < vs.length
  · have := h.2 i hl
    rwa [show (vs ++ [0] : List Nat).getD i 0 = vs.getD i 0 from by simp [List.getD_eq_getElem?_getD, List.getElem?_append_left hl]]
  · have e : i = vs.length := by omega
    subst e
    rw [show (vs ++ [0] : List Nat).getD vs.length 0 = 0 from by simp]
    refine ⟨by omega, fun k hk => ?_⟩
    rw [Nat.zero_testBit, List.getD_eq_getElem?_getD, List.getElem?_eq_none (by omega)]; rfl

theorem Packs.room {vs : List Nat} {bs : List Bool} (h : Packs vs bs) (h8 : bs.length % 8 ≠ 0) : PacksR vs bs := ⟨by have := h.1; omega, h.2⟩

theorem PacksR.put {vs : List Nat} {bs : List Bool} (h : PacksR vs bs) (x : Bool) :
    Packs (vs.set (vs.length - 1) (vs.getD (vs.length - 1) 0 ||| x.toNat * 2 ^ (7 - bs.length % 8))) (bs ++ [x]) := by
  have h1 := h.1
  refine ⟨by simp; omega, fun i hi => ?_⟩
  simp only [List.length_set] at hi
  by_cases hl : i = vs.length - 1
  · subst hl
    rw [show (vs.set (vs.length - 1) (vs.getD (vs.length - 1) 0 ||| x.toNat * 2 ^ (7 - bs.length % 8))).getD (vs.length - 1) 0 = vs.getD (vs.length - 1) 0 ||| x.toNat * 2 ^ (7 - bs.length % 8) by
      simp [List.getD_eq_getElem?_getD, hi]]
    obtain ⟨g1, g2⟩ := h.2 _ hi
    have hx : x.toNat * 2 ^ (7 - bs.length % 8) < 256 := by
      have : 2 ^ (7 - bs.length % 8) ≤ 2 ^ 7 := Nat.pow_le_pow_right (by omega) (by omega)
      have := Bool.toNat_le x
      have : x.toNat * 2 ^ (7 - bs.length % 8) ≤ 1 * 2 ^ 7 := Nat.mul_le_mul (by omega) (by omega)
      omega
    refine ⟨Nat.or_lt_two_pow (n := 8) g1 hx, fun k hk => ?_⟩
    rw [Nat.testBit_or, g2 k hk]
    have e : 8 * (vs.length - 1) = 8 * (bs.length / 8) := by omega
    have hm := Nat.div_add_mod bs.length 8
    rw [e]
    have tb : (x.toNat * 2 ^ (7 - bs.length % 8)).testBit (7 - k) = (x && decide (k = bs.length % 8)) := by
      cases x
      · simp
      · simp only [Bool.toNat_true, Nat.one_mul, Bool.true_and, Nat.testBit_two_pow]
        exact decide_eq_decide.2 ⟨fun h => by omega, fun h => by omega⟩
    rw [tb]
    by_cases hk2 : k < bs.length % 8
    · rw [List.getD_eq_getElem?_getD, List.getD_eq_getElem?_getD, List.getElem?_append_left (by omega)]
      simp [show k ≠ bs.length % 8 by omega]
    · by_cases hk3 : k = bs.length % 8
      · subst hk3
        rw [List.getD_eq_getElem?_getD, List.getD_eq_getElem?_getD, hm, List.getElem?_append_right (Nat.le_refl _), List.getElem?_eq_none (Nat.le_refl _)]
        simp
      · rw [List.getD_eq_getElem?_getD, List.getD_eq_getElem?_getD, List.getElem?_eq_none (by omega), List.getElem?_eq_none (by simp; omega)]
        simp [hk3]
  · have hne : (vs.set (vs.length - 1) (vs.getD (vs.length - 1) 0 ||| x.toNat * 2 ^ (7 - bs.length % 8))).getD i 0 = vs.getD i 0 := by
      simp only [List.getD_eq_getElem?_getD]
      rw [List.getElem?_set_ne (by omega)]
    rw [hne]
    obtain ⟨g1, g2⟩ := h.2 i hi
    refine ⟨g1, fun k hk => ?_⟩
    rw [g2 k hk, List.getD_eq_getElem?_getD, List.getD_eq_getElem?_getD, List.getElem?_append_left (by omega)]

/-- What stands in full bytes stands ahead of what comes. -/
theorem Packs.append {vs us : List Nat} {bs cs : List Bool} (h : Packs vs bs) (k : Packs us cs) (h8 : bs.length % 8 = 0) : Packs (vs ++ us) (bs ++ cs) := by
  have h1 := h.1
  have k1 := k.1
  refine ⟨by simp; omega, fun i hi => ?_⟩
  simp only [List.length_append] at hi
  by_cases hl : i < vs.length
  · have := h.2 i hl
    rw [show (vs ++ us).getD i 0 = vs.getD i 0 by simp [List.getD_eq_getElem?_getD, List.getElem?_append_left hl]]
    refine ⟨this.1, fun q hq => ?_⟩
    rw [this.2 q hq, List.getD_eq_getElem?_getD, List.getD_eq_getElem?_getD, List.getElem?_append_left (by omega)]
  · have := k.2 (i - vs.length) (by omega)
    rw [show (vs ++ us).getD i 0 = us.getD (i - vs.length) 0 by simp [List.getD_eq_getElem?_getD, List.getElem?_append_right (Nat.le_of_not_lt hl)]]
    refine ⟨this.1, fun q hq => ?_⟩
    rw [this.2 q hq, List.getD_eq_getElem?_getD, List.getD_eq_getElem?_getD, List.getElem?_append_right (by omega)]
    congr 2
    omega

/-- The full bytes are those of the bits ahead. -/
theorem Packs.front {vs us : List Nat} {bs cs : List Bool} (h : Packs vs bs) (k : Packs us (bs ++ cs)) : us.take (bs.length / 8) = vs.take (bs.length / 8) := by
  have h1 := h.1
  have k1 := k.1
  simp only [List.length_append] at k1
  apply List.ext_getElem (by simp; omega)
  intro i g1 g2
  simp only [List.length_take] at g1 g2
  simp only [List.getElem_take]
  have a := h.2 i (by omega)
  have b := k.2 i (by omega)
  rw [List.getD_eq_getElem?_getD, List.getElem?_eq_getElem (by omega), Option.getD_some] at a b
  refine byte_ext b.1 a.1 fun q hq => ?_
  rw [a.2 q hq, b.2 q hq, List.getD_eq_getElem?_getD, List.getD_eq_getElem?_getD, List.getElem?_append_left (by omega)]

/-! ### A string's bits -/

def bitAt (s : ByteArray) (i : Nat) : Bool := (s.data.toList.getD (i / 8) 0).toNat.testBit (7 - i % 8)
def unpack (s : ByteArray) : List Bool := (List.range (8 * s.size)).map (bitAt s)
@[simp] theorem unpack_length (s : ByteArray) : (unpack s).length = 8 * s.size := by simp [unpack]
theorem unpack_get {s : ByteArray} {i : Nat} (h : i < 8 * s.size) : (unpack s)[i]? = some (bitAt s i) := by simp [unpack, h]

/-- Bytes as a string. -/
def strOf (vs : List Nat) : ByteArray := ⟨(vs.map UInt8.ofNat).toArray⟩
@[simp] theorem strOf_size (vs : List Nat) : (strOf vs).size = vs.length := by simp [strOf, ByteArray.size]

theorem Packs.unpack {vs : List Nat} {bs : List Bool} (h : Packs vs bs) : unpack (strOf vs) = bs ++ List.replicate (8 * vs.length - bs.length) false := by
  have h1 := h.1
  apply List.ext_getElem?
  intro i
  by_cases hi : i < 8 * vs.length
  · rw [unpack_get (by simpa using hi)]
    have g := h.2 (i / 8) (by omega)
    have e : (strOf vs).data.toList.getD (i / 8) 0 = UInt8.ofNat (vs.getD (i / 8) 0) := by
      simp [strOf, List.getD_eq_getElem?_getD]
      rw [List.getElem?_eq_getElem (by omega)]
      simp
    have t : bitAt (strOf vs) i = bs.getD i false := by
      rw [bitAt, e, UInt8.toNat_ofNat', Nat.mod_eq_of_lt g.1, g.2 (i % 8) (by omega), Nat.div_add_mod]
    rw [t]
    by_cases hb : i < bs.length
    · rw [List.getElem?_append_left hb, List.getD_eq_getElem?_getD, List.getElem?_eq_getElem hb]; rfl
    · rw [List.getElem?_append_right (by omega), List.getD_eq_getElem?_getD, List.getElem?_eq_none (by omega), List.getElem?_replicate, if_pos (by omega)]; rfl
  · rw [List.getElem?_eq_none (by simp only [unpack_length, strOf_size]; omega), List.getElem?_eq_none (by simp only [List.length_append, List.length_replicate]; omega)]

theorem packs_unpack (s : ByteArray) : Packs (s.data.toList.map UInt8.toNat) (Rlm.unpack s) := by
  have hs : s.data.toList.length = s.size := rfl
  refine ⟨by rw [List.length_map, unpack_length, hs]; omega, fun i hi => ?_⟩
  rw [List.length_map] at hi
  have e : (s.data.toList.map UInt8.toNat).getD i 0 = (s.data.toList.getD i 0).toNat := by
    rw [List.getD_eq_getElem?_getD, List.getD_eq_getElem?_getD, List.getElem?_map]
    cases s.data.toList[i]? <;> rfl
  rw [e]
  refine ⟨(s.data.toList.getD i 0).toNat_lt, fun k hk => ?_⟩
  rw [show (Rlm.unpack s).getD (8 * i + k) false = ((Rlm.unpack s)[8 * i + k]?).getD false from List.getD_eq_getElem?_getD, unpack_get (by omega)]
  simp only [Option.getD_some, bitAt, List.getD_eq_getElem?_getD]
  rw [show (8 * i + k) / 8 = i by omega, show (8 * i + k) % 8 = k by omega]

end Go.Rlm

/- Bits as a text of 0s and 1s: the reference's Bits and Take, the statement's text. -/
import Derived.Test.YtlcchghlhfamjaaHuffTake
set_option linter.unusedVariables false
namespace Go.Proofs.Ytlcchghlhfamjaa.X
open Go Go.Rlm

/-- The text of bits. -/
def txt (bs : List Bool) : ByteArray := ⟨(bs.map fun x => if x then (49 : UInt8) else 48).toArray⟩
@[simp] theorem txt_size (bs : List Bool) : (txt bs).size = bs.length := by simp [txt, ByteArray.size]
theorem txt_append (a b : List Bool) : txt a ++ txt b = txt (a ++ b) := by
  apply ByteArray.ext
  simp [txt]
theorem txt_one (a : List Bool) (x : Bool) : txt a ++ ByteArray.mk #[if x then 49 else 48] = txt (a ++ [x]) := by
  rw [← txt_append]; rfl
theorem txt_extract (bs : List Bool) (i j : Nat) : (txt bs).extract i j = txt ((bs.take j).drop i) := by
  apply ByteArray.ext
  simp [txt, List.map_drop, List.map_take, List.drop_take]
theorem toList_data (s : ByteArray) : s.toList = s.data.toList := ByteArray.toList_eq s
theorem txt_inj {a b : List Bool} : ((txt a).toList == (txt b).toList) = decide (a = b) := by
  rw [Bool.eq_iff_iff, decide_eq_true_eq, beq_iff_eq]
  constructor
  · intro h
    have h2 : (a.map fun x => if x then (49 : UInt8) else 48) = b.map fun x => if x then (49 : UInt8) else 48 := by
      have := h
      rw [toList_data, toList_data] at this
      simpa [txt] using this
    have hl : a.length = b.length := by simpa using congrArg List.length h2
    apply List.ext_getElem hl
    intro i h3 h4
    have h5 := congrArg (fun l => l[i]?) h2
    simp only [List.getElem?_map, List.getElem?_eq_getElem h3, List.getElem?_eq_getElem h4, Option.map_some, Option.some.injEq] at h5
    cases ha : a[i] <;> cases hb : b[i] <;> rw [ha, hb] at h5 <;> first | rfl | (exact absurd h5 (by decide))
  · rintro rfl; rfl

theorem bits_loop {k v : Nat} {L : LHeap} (hv : v < 4294967296) : ∀ (m j : Nat) (bs : List Bool), bs.length + m ≤ 32 → m < j →
    f40_l3 k j (v : Int) (txt bs) ((m : Int) - 1) L = some (.ret (.string (txt (bs ++ bitsOf v m))) L) := by
  intro m
  induction m with
  | zero =>
    intro j bs hm hj
    obtain ⟨j, rfl⟩ : ∃ j', j = j' + 1 := ⟨j - 1, by omega⟩
    rw [f40_l3_eq, decide_eq_false (by omega)]
    simp
  | succ m ih =>
    intro j bs hm hj
    obtain ⟨j, rfl⟩ : ∃ j', j = j' + 1 := ⟨j - 1, by omega⟩
    have hbit : bitop BinOp.and IntKind.u32 (Int.fdiv (v : Int) (2 ^ min (Int.toNat ((m : Nat) : Int)) 32)) 1 = (((v.testBit m).toNat : Nat) : Int) := by
      rw [show min (Int.toNat ((m : Nat) : Int)) 32 = m by simp; omega, fdiv_pow]
      have hlt : v / 2 ^ m < 2 ^ IntKind.u32.bits := Nat.lt_of_le_of_lt (Nat.div_le_self _ _) hv
      have := bitop_and (k := .u32) rfl hlt (b := 1) (by decide)
      rw [show ((1 : Nat) : Int) = 1 from rfl] at this
      rw [this, Nat.and_one_is_mod, Nat.testBit_eq_decide_div_mod_eq]
      rcases Nat.mod_two_eq_zero_or_one (v / 2 ^ m) with h | h <;> simp [h]
    have hsz : ∀ c : UInt8, (((txt bs).size + (ByteArray.mk #[c]).size : Nat) : Int) ≤ maxI := fun c => by
      rw [txt_size, show (ByteArray.mk #[c]).size = 1 from rfl]; simp only [maxI]; omega
    have hr := ih j (bs ++ [v.testBit m]) (by simp; omega) (by omega)
    rw [f40_l3_eq, show ((m + 1 : Nat) : Int) - 1 = (m : Int) by omega, decide_eq_true (by omega), bitsOf_succ]
    simp only [lif_true, ndec (Int.natCast_nonneg _), when_true, hbit, decide_eq_true (hsz 49), decide_eq_true (hsz 48)]
    rw [wI64 (n := (m : Int) - 1) (by omega) (by omega)]
    rw [List.append_assoc, List.singleton_append, ← txt_one] at hr
    cases hx : v.testBit m
    · rw [hx] at hr
      exact hr
    · rw [hx] at hr
      exact hr

theorem bits40_ok {k v n : Nat} {L : LHeap} (hv : v < 4294967296) (hn : n ≤ 32) (hk : 40 ≤ k) : f40 k (v : Int) (n : Int) L = some (.ret (.string (txt (bitsOf v n))) L) := by
  obtain ⟨k, rfl⟩ : ∃ k', k = k' + 1 := ⟨k - 1, by omega⟩
  rw [f40_eq, wI64 (by omega) (by omega)]
  have := bits_loop (k := k) (L := L) hv n k [] (by simpa using hn) (by omega)
  exact this

/-- The bits of one byte. -/
theorem unpack_byte {s : ByteArray} {i : Nat} (h : i < s.size) : (unpack s).take (8 * (i + 1)) = (unpack s).take (8 * i) ++ bitsOf (s.data.toList.getD i 0).toNat 8 := by
  rw [show 8 * (i + 1) = 8 * i + 8 by omega, List.take_add]
  congr 1
  apply List.ext_getElem?
  intro q
  by_cases hq : q < 8
  · rw [List.getElem?_take, if_pos hq, List.getElem?_drop, unpack_get (by omega)]
    simp only [bitsOf, List.getElem?_map, List.getElem?_range hq, Option.map_some, bitAt]
    rw [show (8 * i + q) / 8 = i by omega, show (8 * i + q) % 8 = q by omega, show 8 - 1 - q = 7 - q by omega]
  · rw [List.getElem?_eq_none (by rw [List.length_take]; omega), List.getElem?_eq_none (by rw [bitsOf_length]; omega)]

theorem when_dec {P : Prop} {i : Decidable P} (h : P) (r : R) : when (@decide P i) r = r := by rw [decide_eq_true h]; rfl

theorem text_loop {k : Nat} {s : ByteArray} {L : LHeap} (hs : s.size < 2 ^ 40) (hk : 50 ≤ k) : ∀ (m i j : Nat), i + m = s.size → m < j →
    f46_l3 k j s (txt ((unpack s).take (8 * i))) (i : Int) L = some (.ret (.string (txt (unpack s))) L) := by
  intro m
  induction m with
  | zero =>
    intro i j hi hj
    obtain ⟨j, rfl⟩ : ∃ j', j = j' + 1 := ⟨j - 1, by omega⟩
    rw [f46_l3_eq, decide_eq_false (by omega), List.take_of_length_le (by rw [unpack_length]; omega)]
    rfl
  | succ m ih =>
    intro i j hi hj
    obtain ⟨j, rfl⟩ : ∃ j', j = j' + 1 := ⟨j - 1, by omega⟩
    have hi' : i < s.size := by omega
    have hsz : s.data.toList.length = s.size := rfl
    have e3 : byteAt s (i : Int) = some (((s.data.toList.getD i 0).toNat : Nat) : Int) := by
      simp only [byteAt]
      rw [decide_eq_true (Int.natCast_nonneg _), cond_true, Int.toNat_natCast]
      have : s[i]? = some (s.data.toList.getD i 0) := by
        rw [List.getD_eq_getElem?_getD, List.getElem?_eq_getElem (by omega), Option.getD_some]
        rw [getElem?_pos s i (by omega)]
        rfl
      rw [this]; rfl
    have hb := (s.data.toList.getD i 0).toNat_lt
    have hu := unpack_byte hi'
    generalize (s.data.toList.getD i 0) = y at *
    have hf := bits40_ok (k := k) (v := y.toNat) (n := 8) (L := L) (by omega) (by omega) (by omega)
    rw [show ((8 : Nat) : Int) = 8 from rfl] at hf
    have hle : (((txt ((unpack s).take (8 * i))).size + (txt (bitsOf y.toNat 8)).size : Nat) : Int) ≤ maxI := by
      rw [txt_size, txt_size, bitsOf_length, List.length_take, unpack_length]; simp only [maxI]; omega
    have hr := ih (i + 1) j (by omega) (by omega)
    rw [hu] at hr
    generalize hA : txt ((unpack s).take (8 * i)) = sa at *
    generalize hB : txt (bitsOf y.toNat 8) = sb at *
    have hab : txt ((unpack s).take (8 * i) ++ bitsOf y.toNat 8) = sa ++ sb := by rw [← hA, ← hB, txt_append]
    rw [hab] at hr
    rw [f46_l3_eq, decide_eq_true (by omega)]
    simp only [lif_true, e3, obind_some]
    rw [wU32 (n := ((y.toNat : Nat) : Int)) (by omega) (by omega), wI64 (n := (i : Int) + 1) (by omega) (by omega)]
    rw [hf, lbind_ret, asS_string, obind_some]
    refine (when_dec hle _).trans ?_
    exact hr

theorem text_ok {k : Nat} {s : ByteArray} {L : LHeap} (hs : s.size < 2 ^ 40) (hk : s.size + 60 ≤ k) : f46 k s L = some (.ret (.string (txt (unpack s))) L) := by
  obtain ⟨k, rfl⟩ : ∃ k', k = k' + 1 := ⟨k - 1, by omega⟩
  rw [f46_eq]
  have := text_loop (k := k) (L := L) hs (by omega) s.size 0 k (by omega) (by omega)
  rw [Nat.mul_zero, List.take_zero] at this
  exact this

/-! ### The reference's Take -/

/-- The first symbol whose bits stand there. -/
def refTake (zs : List Int) (r : List Bool) : Nat → Nat → Option Nat
  | 0, _ => none
  | m + 1, i => if 0 < zs.getD i 0 ∧ (zs.getD i 0).toNat ≤ r.length ∧ r.take (zs.getD i 0).toNat = symBits zs i then some i else refTake zs r m (i + 1)

theorem refTake_eq {zs : List Int} (hm : may zs = true) (r : List Bool) : ∀ (m i : Nat), i + m = zs.length → refTake zs r m i = match (readSym zs r).1 with | some q => if i ≤ q then some q else none | none => none := by
  have key : ∀ i, i < zs.length → (0 < zs.getD i 0 ∧ (zs.getD i 0).toNat ≤ r.length ∧ r.take (zs.getD i 0).toNat = symBits zs i) → (readSym zs r).1 = some i := by
    intro i hi ⟨h1, h2, h3⟩
    have hg : zs.getD i 0 = zs[i] := by rw [List.getD_eq_getElem?_getD, List.getElem?_eq_getElem hi]; rfl
    have := readSym_code hm hi (by rw [← hg]; exact h1) (r.drop (zs.getD i 0).toNat)
    rw [← h3, List.take_append_drop] at this
    rw [this]
  have key2 : ∀ q, (readSym zs r).1 = some q → q < zs.length ∧ (0 < zs.getD q 0 ∧ (zs.getD q 0).toNat ≤ r.length ∧ r.take (zs.getD q 0).toNat = symBits zs q) := by
    intro q hq
    obtain ⟨g1, g2, g3⟩ := readSym_some (zs := zs) (r := r) (i := q) (rest := (readSym zs r).2) (by rw [← hq])
    have hl : (symBits zs q).length = (zs.getD q 0).toNat := by rw [symBits, bitsOf_length]
    refine ⟨g1, g2, ?_, ?_⟩
    · rw [g3, List.length_append, hl]; omega
    · conv => lhs; rw [g3]
      rw [← hl, List.take_left]
  intro m
  induction m with
  | zero =>
    intro i hi
    simp only [refTake]
    cases hd : (readSym zs r).1 with
    | none => rfl
    | some q =>
      have := (key2 q hd).1
      simp only
      rw [if_neg (by omega)]
  | succ m ih =>
    intro i hi
    simp only [refTake]
    by_cases hc : 0 < zs.getD i 0 ∧ (zs.getD i 0).toNat ≤ r.length ∧ r.take (zs.getD i 0).toNat = symBits zs i
    · rw [if_pos hc, key i (by omega) hc]
      simp
    · rw [if_neg hc, ih (i + 1) (by omega)]
      cases hd : (readSym zs r).1 with
      | none => rfl
      | some q =>
        simp only
        have hne : q ≠ i := fun h => hc (by have := (key2 q hd).2; rw [h] at this; exact this)
        by_cases h2 : i ≤ q
        · rw [if_pos h2, if_pos (by omega)]
        · rw [if_neg h2, if_neg (by omega)]

theorem refTake_read {zs : List Int} (hm : may zs = true) (r : List Bool) : refTake zs r zs.length 0 = (readSym zs r).1 := by
  rw [refTake_eq hm r zs.length 0 (by omega)]
  cases (readSym zs r).1 with
  | none => rfl
  | some q => simp

def takenRef (zs : List Int) (n : Nat) (o : Option Nat) : Value :=
  match o with
  | some q => .tuple #[.int .i64 (q : Int), .int .i64 ((n : Int) + zs.getD q 0), .bool true]
  | none => .tuple #[.int .i64 0, .int .i64 (n : Int), .bool false]

theorem rtake47_loop {k n : Nat} {l t : Sl} {zs : List Int} {all : List Bool} {A B : List Nat} {L : LHeap} (hm : may zs = true) (hl : Rd L l (zs.map iV) A) (ht : Rd L t ((codesOf zs).map uV) B) (hn : n ≤ all.length) (hall : all.length < 2 ^ 40) (hk : 60 ≤ k) :
    ∀ (m i j : Nat), i + m = zs.length → m < j → f47_l3 k j l (txt all) (n : Int) t 0 (i : Int) L = some (.ret (takenRef zs n (refTake zs (all.drop n) m i)) L) := by
  have hln := hl.len
  simp only [List.length_map] at hln
  obtain ⟨hok, h512, _⟩ := may_ok hm
  intro m
  induction m with
  | zero =>
    intro i j hi hj
    obtain ⟨j, rfl⟩ : ∃ j', j = j' + 1 := ⟨j - 1, by omega⟩
    rw [f47_l3_eq, decide_eq_false (by omega)]
    rfl
  | succ m ih =>
    intro i j hi hj
    obtain ⟨j, rfl⟩ : ∃ j', j = j' + 1 := ⟨j - 1, by omega⟩
    have hiz : i < zs.length := by omega
    have hg : zs.getD i 0 = zs[i] := by rw [List.getD_eq_getElem?_getD, List.getElem?_eq_getElem hiz]; rfl
    obtain ⟨z0, z1⟩ := okLen_mem hok (List.getElem_mem hiz)
    obtain ⟨a, a1, a2⟩ := hl.here (i := i) (v := iV zs[i]) (by simp [hiz])
    obtain ⟨b, b1, b2⟩ := ht.here (i := i) (v := uV (codeAt zs i)) (by rw [List.getElem?_map, codesOf_get hiz]; rfl)
    have hr := ih (i + 1) j (by omega) (by omega)
    rw [f47_l3_eq, decide_eq_true (by omega)]
    simp only [BEq.rfl, lif_true, a1, a2, iV, obind_some, Option.bind_some, asI_int, refTake, hg]
    rw [wI64 (n := (i : Int) + 1) (by omega) (by omega)]
    by_cases hz : zs[i] > 0
    · rw [decide_eq_true hz]
      obtain ⟨z, hze⟩ : ∃ z : Nat, zs[i] = (z : Int) := ⟨zs[i].toNat, by omega⟩
      rw [hze, wI64 (n := (n : Int) + (z : Int)) (by omega) (by omega), txt_size]
      by_cases hle : n + z ≤ all.length
      · rw [decide_eq_true (show (n : Int) + (z : Int) ≤ (all.length : Int) by omega)]
        have hsub : subS (txt all) (some (n : Int)) (some ((n : Int) + (z : Int))) = some (txt ((all.drop n).take z)) := by
          simp only [subS, bound, Option.bind_eq_bind, txt_size]
          rw [show (decide ((0 : Int) ≤ (n : Int) + (z : Int)) && decide ((n : Int) + (z : Int) ≤ (all.length : Int))) = true by simp only [Bool.and_eq_true, decide_eq_true_eq]; omega]
          simp only [cond_true, Option.bind_some, show ((n : Int) + (z : Int)).toNat = n + z by omega]
          rw [show (decide ((0 : Int) ≤ (n : Int)) && decide ((n : Int) ≤ ((n + z : Nat) : Int))) = true by simp only [Bool.and_eq_true, decide_eq_true_eq]; omega]
          simp only [cond_true, Option.bind_some, Int.toNat_natCast]
          rw [txt_extract, List.drop_take, show n + z - n = z by omega]
        have hc16 := codeAt_le hm i
        have hb := bits40_ok (k := k) (v := codeAt zs i) (n := z) (L := L) (by omega) (by omega) (by omega)
        have hsb : symBits zs i = bitsOf (codeAt zs i) z := by rw [symBits, hg, hze, Int.toNat_natCast]
        simp only [lif_true, hsub, obind_some, b1, b2, uV, Option.bind_some, asI_int, hb, lbindR_ret, asS_string, txt_inj, Int.toNat_natCast]
        by_cases heq : (all.drop n).take z = bitsOf (codeAt zs i) z
        · rw [decide_eq_true heq, if_pos ⟨by omega, by rw [List.length_drop]; omega, by rw [hsb]; exact heq⟩]
          simp only [lif_true, takenRef, hg, hze]
        · rw [decide_eq_false heq, if_neg (fun h => heq (by rw [← hsb]; exact h.2.2))]
          exact hr
      · rw [decide_eq_false (show ¬ ((n : Int) + (z : Int) ≤ (all.length : Int)) by omega), if_neg (fun h => by have := h.2.1; rw [List.length_drop, Int.toNat_natCast] at this; omega)]
        exact hr
    · rw [decide_eq_false hz, if_neg (fun h => hz h.1)]
      exact hr

theorem rtake47_ok {k n : Nat} {l : Sl} {zs : List Int} {all : List Bool} {A : List Nat} {L : LHeap} (hm : may zs = true) (hl : Rd L l (zs.map iV) A) (hn : n ≤ all.length) (hall : all.length < 2 ^ 40) (hk : zs.length + 70 ≤ k) :
    ∃ L', f47 k l (txt all) (n : Int) L = some (.ret (takenRef zs n (readSym zs (all.drop n)).1) L') ∧ Step [] L [] L' := by
  obtain ⟨k, rfl⟩ : ∃ k', k = k' + 1 := ⟨k - 1, by omega⟩
  obtain ⟨hok, h512, _⟩ := may_ok hm
  obtain ⟨t, L1, F, a1, a2, a3⟩ := rcodes_ok (k := k) hl (by omega) (by omega)
  rw [codesErr, if_pos hm] at a1
  rw [codesRes, if_pos hm] at a2
  have hl1 := hl.mono (a3.others hl.within (none_apart _))
  have hr := rtake47_loop (k := k) hm hl1 a2.rd hn hall (by omega) zs.length 0 k (by omega) (by omega)
  rw [refTake_read hm] at hr
  refine ⟨L1, ?_, a3.less fun i hi => by simp at hi⟩
  rw [f47_eq]
  simp only [a1, lbind_ret, tupL_tuple, uncons_cons, nilL_nil, asSl_slice, asI_int, obind_some]
  exact hr

end Go.Proofs.Ytlcchghlhfamjaa.X

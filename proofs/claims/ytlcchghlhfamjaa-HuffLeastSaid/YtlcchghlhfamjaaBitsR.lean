/- The readers of bits: what the printed forms of Open, Take, Left and End do, the program's and the reference's. -/
import Derived.Test.YtlcchghlhfamjaaBitsW
set_option linter.unusedVariables false
namespace Go.Proofs.Ytlcchghlhfamjaa.X
open Go Go.Rlm

/-! ### What is taken -/

def takeErr (r : List Bool) (n : Int) : Int := if n < 0 ∨ n > 32 then 1 else if n > r.length then 4 else 0
def takeCnt (r : List Bool) (n : Int) : Nat := if n < 0 ∨ n > 32 then 0 else if n > r.length then 0 else n.toNat
def takeVal (r : List Bool) (n : Int) : Nat := bitNum (r.take (takeCnt r n))
def endOf (r : List Bool) : Bool := decide (r.length < 8) && r.all (!·)
def taken (r : List Bool) (n : Int) : Value := .tuple #[.int .u32 (takeVal r n), .int .i64 (takeErr r n)]

theorem takeCnt_le (r : List Bool) (n : Int) : takeCnt r n ≤ r.length ∧ takeCnt r n ≤ 32 := by
  unfold takeCnt
  split
  · omega
  · split <;> omega
theorem takeVal_lt (r : List Bool) (n : Int) : takeVal r n < 4294967296 := by
  have h1 := bitNum_lt (r.take (takeCnt r n))
  have h2 := takeCnt_le r n
  have h3 : (r.take (takeCnt r n)).length ≤ 32 := by simp; omega
  have : 2 ^ (r.take (takeCnt r n)).length ≤ 2 ^ 32 := Nat.pow_le_pow_right (by omega) h3
  unfold takeVal
  omega

/-- A reader: at b, of the bits that are left. -/
def BR (L : LHeap) (b : Nat) (r : List Bool) : Prop :=
  ∃ (s : ByteArray) (g : Nat), L[b]? = some (.cells [.string s, .int .i64 (g : Int)] 76 false 0) ∧ g ≤ 8 * s.size ∧ s.size < 2 ^ 40 ∧ r = (unpack s).drop g

theorem BR.mono {L L' : LHeap} {b : Nat} {r : List Bool} (h : BR L b r) (hk : L'[b]? = L[b]?) : BR L' b r := by
  obtain ⟨s, g, h1, h2, h3, h4⟩ := h
  exact ⟨s, g, by rw [hk, h1], h2, h3, h4⟩
theorem BR.lt {L : LHeap} {b : Nat} {r : List Bool} (h : BR L b r) : b < L.length := by
  obtain ⟨s, g, h1, h2, h3, h4⟩ := h
  exact get_lt h1

theorem open_ok {k : Nat} {s : ByteArray} {L : LHeap} (hs : s.size < 2 ^ 40) (hk : 1 ≤ k) :
    ∃ L', f24 k s L = some (.ret (.pointer (some ⟨L.length, 0, none⟩)) L') ∧ BR L' L.length (unpack s) ∧ Step [] L [L.length] L' := by
  obtain ⟨k, rfl⟩ : ∃ k', k = k' + 1 := ⟨k - 1, by omega⟩
  rw [f24_eq]
  exact ⟨_, rfl, ⟨s, 0, get_new, by omega, hs, by simp⟩, .new [] L _⟩

theorem bit_ok {k b i g : Nat} {s : ByteArray} {L : LHeap} (h : L[b]? = some (.cells [.string s, .int .i64 (g : Int)] 76 false 0)) (hs : s.size < 2 ^ 40) (hi : i < 8 * s.size) (hk : 1 ≤ k) :
    f48 k (some ⟨b, 0, none⟩) (i : Int) L = some (.ret (.int .u32 (((bitAt s i).toNat : Nat) : Int)) L) := by
  obtain ⟨k, rfl⟩ : ∃ k', k = k' + 1 := ⟨k - 1, by omega⟩
  have c0 : cell L ⟨b, 0, none⟩ = some (.string s) := by rw [cell_of h]; rfl
  have e1 : IntKind.wrap .i64 (Int.tdiv (i : Int) 8) = ((i / 8 : Nat) : Int) := by
    rw [show (8 : Int) = ((8 : Nat) : Int) from rfl, tdiv_nat, wI64] <;> omega
  have e2 : IntKind.wrap .i64 (7 - Int.tmod (i : Int) 8) = ((7 - i % 8 : Nat) : Int) := by
    rw [show (8 : Int) = ((8 : Nat) : Int) from rfl, tmod_nat, wI64] <;> omega
  have hsz : s.data.toList.length = s.size := rfl
  have e3 : byteAt s ((i / 8 : Nat) : Int) = some (((s.data.toList.getD (i / 8) 0).toNat : Nat) : Int) := by
    simp only [byteAt]
    rw [decide_eq_true (Int.natCast_nonneg _), cond_true, Int.toNat_natCast]
    have : s[i / 8]? = some (s.data.toList.getD (i / 8) 0) := by
      rw [List.getD_eq_getElem?_getD, List.getElem?_eq_getElem (by omega), Option.getD_some]
      rw [getElem?_pos s (i / 8) (by omega)]
      rfl
    rw [this]; rfl
  rw [f48_eq]
  simp only [obind_some, mk_add, Nat.add_zero, c0, Option.bind_some, asS_string, e1, e2, e3, ndec (Int.natCast_nonneg _), when_true, Int.toNat_natCast]
  have hb := (s.data.toList.getD (i / 8) 0).toNat_lt
  have hbit : bitAt s i = (s.data.toList.getD (i / 8) 0).toNat.testBit (7 - i % 8) := rfl
  generalize (s.data.toList.getD (i / 8) 0) = y at *
  rw [show min (7 - i % 8) 8 = 7 - i % 8 by omega, fdiv_pow]
  have hle : y.toNat / 2 ^ (7 - i % 8) ≤ y.toNat := Nat.div_le_self _ _
  rw [Nat.testBit_eq_decide_div_mod_eq] at hbit
  generalize y.toNat / 2 ^ (7 - i % 8) = z at *
  rw [wU32 (by omega) (by omega)]
  have := bitop_and (k := .u32) (a := z) (b := 1) rfl (by simp only [IntKind.bits]; omega) (by decide)
  rw [show ((1 : Nat) : Int) = 1 from rfl] at this
  rw [this, Nat.and_one_is_mod, hbit]
  rcases Nat.mod_two_eq_zero_or_one z with h | h <;> simp [h]

theorem left_ok {k b : Nat} {L : LHeap} {r : List Bool} (h : BR L b r) (hk : 1 ≤ k) : f28 k (some ⟨b, 0, none⟩) L = some (.ret (.int .i64 (r.length : Int)) L) := by
  obtain ⟨k, rfl⟩ : ∃ k', k = k' + 1 := ⟨k - 1, by omega⟩
  obtain ⟨s, g, h1, h2, h3, rfl⟩ := h
  have c0 : cell L ⟨b, 0, none⟩ = some (.string s) := by rw [cell_of h1]; rfl
  have c1 : cell L ⟨b, 1, none⟩ = some (.int .i64 (g : Int)) := by rw [cell_of h1]; rfl
  rw [f28_eq]
  simp only [Option.isNone_some, lif_false, obind_some, mk_add, Nat.zero_add, c0, c1, Option.bind_some, asS_string, asI_int]
  rw [wI64 (n := 8 * (s.size : Int)) (by omega) (by omega), wI64 (by omega) (by omega)]
  simp only [List.length_drop, unpack_length]
  congr 4
  omega

theorem take_loop {k b n : Nat} {s : ByteArray} (hs : s.size < 2 ^ 40) (hn : n ≤ 32) (hk : 1 ≤ k) : ∀ (m i g j : Nat) (L : LHeap) (a : List Bool), i + m = n → m < j → a.length = i → g + m ≤ 8 * s.size →
    L[b]? = some (.cells [.string s, .int .i64 (g : Int)] 76 false 0) →
    ∃ L', f26_l9 k j (some ⟨b, 0, none⟩) ((bitNum a : Nat) : Int) n i L = some (.ret (.tuple #[.int .u32 ((bitNum (a ++ ((unpack s).drop g).take m) : Nat) : Int), .int .i64 0]) L') ∧
      L'[b]? = some (.cells [.string s, .int .i64 ((g + m : Nat) : Int)] 76 false 0) ∧ Step [b] L [b] L' := by
  intro m
  induction m with
  | zero =>
    intro i g j L a him hj ha hg hL
    obtain ⟨j, rfl⟩ : ∃ j', j = j' + 1 := ⟨j - 1, by omega⟩
    refine ⟨L, ?_, by simpa using hL, .refl _ _⟩
    rw [f26_l9_eq, decide_eq_false (by omega)]
    simp
  | succ m ih =>
    intro i g j L a him hj ha hg hL
    obtain ⟨j, rfl⟩ : ∃ j', j = j' + 1 := ⟨j - 1, by omega⟩
    have c1 : cell L ⟨b, 1, none⟩ = some (.int .i64 (g : Int)) := by rw [cell_of hL]; rfl
    rw [f26_l9_eq, decide_eq_true (by omega)]
    simp only [lif_true, obind_some, mk_add, Nat.zero_add, c1, Option.bind_some, asI_int, bit_ok hL hs (show g < 8 * s.size by omega) hk, lbind_ret]
    rw [stores_of hL (by simp)]
    have hx := Bool.toNat_le (bitAt s g)
    have hva := bitNum_lt a
    have hp : 2 ^ a.length ≤ 2 ^ 31 := Nat.pow_le_pow_right (by omega) (by omega)
    have e1 : IntKind.wrap .u32 (((bitNum a : Nat) : Int) * 2) = ((bitNum a * 2 : Nat) : Int) := by rw [wU32] <;> omega
    have e2 : bitop .or .u32 ((bitNum a * 2 : Nat) : Int) (((bitAt s g).toNat : Nat) : Int) = ((bitNum (a ++ [bitAt s g]) : Nat) : Int) := by
      rw [bitop_or rfl (by simp only [IntKind.bits]; omega) (by simp only [IntKind.bits]; omega), bitNum_snoc]
      congr 1
      have := Nat.two_pow_add_eq_or_of_lt (i := 1) (b := (bitAt s g).toNat) (by omega) (bitNum a)
      rw [Nat.mul_comm]
      exact this.symm
    have e3 : IntKind.wrap .i64 ((i : Int) + 1) = ((i + 1 : Nat) : Int) := by rw [wI64] <;> omega
    have e4 : IntKind.wrap .i64 ((g : Int) + 1) = ((g + 1 : Nat) : Int) := by rw [wI64] <;> omega
    simp only [obind_some, e1, e2, e3, e4, setAll]
    obtain ⟨L', r1, r2, r3⟩ := ih (i + 1) (g + 1) j (L.set b (.cells [.string s, .int .i64 ((g + 1 : Nat) : Int)] 76 false 0)) (a ++ [bitAt s g]) (by omega) (by omega) (by simp [ha]) (by omega) (get_set_self hL)
    refine ⟨L', ?_, by rw [r2]; congr 5; omega, (Step.set _ (by simp)).trans r3⟩
    have hd : (unpack s).drop g = bitAt s g :: (unpack s).drop (g + 1) := by
      rw [List.drop_eq_getElem_cons (by simp; omega)]
      congr 1
      have := unpack_get (s := s) (i := g) (by omega)
      rw [List.getElem?_eq_getElem (by simp; omega)] at this
      exact Option.some.inj this
    rw [hd, List.take_succ_cons]
    rw [List.append_assoc] at r1
    exact r1

theorem take_ok {k b : Nat} {n : Int} {L : LHeap} {r : List Bool} (h : BR L b r) (hk : 40 ≤ k) :
    ∃ L', f26 k (some ⟨b, 0, none⟩) n L = some (.ret (taken r n) L') ∧ BR L' b (r.drop (takeCnt r n)) ∧ Step [b] L [b] L' := by
  obtain ⟨k, rfl⟩ : ∃ k', k = k' + 1 := ⟨k - 1, by omega⟩
  rw [f26_eq]
  by_cases h0 : n < 0
  · refine ⟨L, ?_, by simpa [takeCnt, h0] using h, .refl _ _⟩
    simp [h0, taken, takeVal, takeCnt, takeErr, bitNum]
  by_cases h1 : n > 32
  · refine ⟨L, ?_, by simpa [takeCnt, h1] using h, .refl _ _⟩
    simp [h0, h1, taken, takeVal, takeCnt, takeErr, bitNum]
  rw [decide_eq_false h0, decide_eq_false h1]
  simp only [Option.isNone_some, lif_false, left_ok h (show 1 ≤ k by omega), lbind_ret, asI_int, obind_some]
  have hor : ¬ (n < 0 ∨ n > 32) := by omega
  by_cases h2 : n > (r.length : Int)
  · refine ⟨L, ?_, by simpa [takeCnt, hor, h2] using h, .refl _ _⟩
    simp [h2, taken, takeVal, takeCnt, takeErr, bitNum, hor]
  rw [decide_eq_false h2]
  simp only [lif_false]
  obtain ⟨m, rfl⟩ : ∃ m : Nat, n = m := ⟨n.toNat, by omega⟩
  obtain ⟨s, g, g1, g2, g3, rfl⟩ := h
  simp only [List.length_drop, unpack_length] at h2
  obtain ⟨L', r1, r2, r3⟩ := take_loop g3 (show m ≤ 32 by omega) (show 1 ≤ k by omega) m 0 g k L [] (by omega) (by omega) rfl (by omega) g1
  have hc : takeCnt ((unpack s).drop g) (m : Int) = m := by
    unfold takeCnt
    rw [if_neg hor, if_neg (by simp only [List.length_drop, unpack_length]; omega)]; rfl
  refine ⟨L', ?_, ⟨s, g + m, r2, by omega, g3, by rw [hc, List.drop_drop]⟩, r3⟩
  rw [taken, takeVal, hc, takeErr, if_neg hor, if_neg (by simp only [List.length_drop, unpack_length]; omega)]
  exact r1

theorem end_loop {k b g : Nat} {s : ByteArray} {L : LHeap} (hs : s.size < 2 ^ 40) (hL : L[b]? = some (.cells [.string s, .int .i64 (g : Int)] 76 false 0)) (hk : 1 ≤ k) (n : Nat) (hn : g + n = 8 * s.size) :
    ∀ (m i j : Nat), i + m = n → m < j → f30_l5 k j (some ⟨b, 0, none⟩) n i L = some (.ret (.bool (((unpack s).drop (g + i)).all (!·))) L) := by
  intro m
  induction m with
  | zero =>
    intro i j him hj
    obtain ⟨j, rfl⟩ : ∃ j', j = j' + 1 := ⟨j - 1, by omega⟩
    rw [f30_l5_eq, decide_eq_false (by omega), List.drop_eq_nil_of_le (by simp; omega)]
    rfl
  | succ m ih =>
    intro i j him hj
    obtain ⟨j, rfl⟩ : ∃ j', j = j' + 1 := ⟨j - 1, by omega⟩
    have c1 : cell L ⟨b, 1, none⟩ = some (.int .i64 (g : Int)) := by rw [cell_of hL]; rfl
    have e1 : IntKind.wrap .i64 ((g : Int) + (i : Int)) = ((g + i : Nat) : Int) := by rw [wI64] <;> omega
    have e3 : IntKind.wrap .i64 ((i : Int) + 1) = ((i + 1 : Nat) : Int) := by rw [wI64] <;> omega
    have hd : (unpack s).drop (g + i) = bitAt s (g + i) :: (unpack s).drop (g + (i + 1)) := by
      rw [List.drop_eq_getElem_cons (by simp; omega)]
      congr 1
      have := unpack_get (s := s) (i := g + i) (by omega)
      rw [List.getElem?_eq_getElem (by simp; omega)] at this
      exact Option.some.inj this
    rw [f30_l5_eq, decide_eq_true (by omega)]
    simp only [lif_true, obind_some, mk_add, Nat.zero_add, c1, Option.bind_some, asI_int, e1, e3, bit_ok hL hs (show g + i < 8 * s.size by omega) hk, lbind_ret]
    rw [hd, List.all_cons]
    cases hb : bitAt s (g + i)
    · simpa using ih (i + 1) j (by omega) (by omega)
    · rfl

theorem end_ok {k b : Nat} {L : LHeap} {r : List Bool} (h : BR L b r) (hk : 20 ≤ k) : f30 k (some ⟨b, 0, none⟩) L = some (.ret (.bool (endOf r)) L) := by
  obtain ⟨k, rfl⟩ : ∃ k', k = k' + 1 := ⟨k - 1, by omega⟩
  rw [f30_eq]
  simp only [left_ok h (show 1 ≤ k by omega), lbind_ret, asI_int, obind_some]
  by_cases h8 : r.length < 8
  · rw [decide_eq_false (by omega)]
    obtain ⟨s, g, g1, g2, g3, rfl⟩ := h
    simp only [List.length_drop, unpack_length] at h8
    have := end_loop g3 g1 (show 1 ≤ k by omega) (8 * s.size - g) (by omega) (8 * s.size - g) 0 k (by omega) (by omega)
    simp only [lif_false, List.length_drop, unpack_length, endOf, decide_eq_true h8, Bool.true_and]
    exact this
  · rw [decide_eq_true (by omega)]
    simp [endOf, h8]


/-! ### The reference's -/

/-- A row that is read and cut. -/
def RS (L : LHeap) (s : Sl) (vs : List Value) (F : List Nat) : Prop :=
  (s = ⟨none, 0, 0⟩ ∧ vs = [] ∧ F = []) ∨ (∃ a, s = ⟨some a, 0, LOOSE⟩ ∧ vs = [] ∧ F = []) ∨
    ∃ (c o : Nat) (cs : List Value), s = ⟨some ⟨c, o, none⟩, vs.length, OPEN⟩ ∧ L[c]? = some (.cells cs 5 false 1) ∧ vs = cs.drop o ∧ F = [c]

theorem RS.mono {L L' : LHeap} {s : Sl} {vs : List Value} {F : List Nat} (h : RS L s vs F) (hk : ∀ i ∈ F, L'[i]? = L[i]?) : RS L' s vs F := by
  rcases h with h | h | ⟨c, o, cs, h1, h2, h3, rfl⟩
  · exact .inl h
  · exact .inr (.inl h)
  · exact .inr (.inr ⟨c, o, cs, h1, by rw [hk c (by simp), h2], h3, rfl⟩)
theorem RS.within {L : LHeap} {s : Sl} {vs : List Value} {F : List Nat} (h : RS L s vs F) : Within F L := by
  rcases h with ⟨_, _, rfl⟩ | ⟨_, _, _, rfl⟩ | ⟨c, o, cs, h1, h2, h3, rfl⟩
  · intro i hi; simp at hi
  · intro i hi; simp at hi
  · intro i hi; simp at hi; subst hi; exact get_lt h2
theorem RS.len {L : LHeap} {s : Sl} {vs : List Value} {F : List Nat} (h : RS L s vs F) : s.n = vs.length := by
  rcases h with ⟨rfl, rfl, _⟩ | ⟨_, rfl, rfl, _⟩ | ⟨c, o, cs, rfl, h2, h3, rfl⟩ <;> rfl
theorem OS.rs {L : LHeap} {s : Sl} {vs : List Value} {F : List Nat} (h : OS L s vs 5 F) : RS L s vs F := by
  rcases h with h | ⟨c, h1, h2, h3⟩
  · exact .inl h
  · exact .inr (.inr ⟨c, 0, vs, h1, h2, rfl, h3⟩)
theorem RS.get {L : LHeap} {s : Sl} {vs : List Value} {F : List Nat} (h : RS L s vs F) {i : Nat} {v : Value} (hv : vs[i]? = some v) :
    ∃ a, idx s (i : Int) 1 = some a ∧ cell L a = some v := by
  rcases h with ⟨rfl, rfl, _⟩ | ⟨_, rfl, rfl, _⟩ | ⟨c, o, cs, rfl, h2, h3, rfl⟩
  · simp at hv
  · simp at hv
  · refine ⟨⟨c, o + i * 1, none⟩, idx_of (get_lt hv), ?_⟩
    rw [cell_of h2, ← hv, h3, List.getElem?_drop, Nat.mul_one]
theorem RS.cut {L : LHeap} {s : Sl} {vs : List Value} {F : List Nat} (h : RS L s vs F) {n : Nat} (hn : n ≤ vs.length) :
    ∃ s' F', Rlm.cut L s (some (n : Int)) none none 1 = some s' ∧ RS L s' (vs.drop n) F' ∧ ∀ i ∈ F', i ∈ F := by
  rcases h with ⟨rfl, rfl, rfl⟩ | ⟨a, rfl, rfl, rfl⟩ | ⟨c, o, cs, rfl, h2, h3, rfl⟩
  · obtain rfl : n = 0 := by simpa using hn
    exact ⟨⟨none, 0, 0⟩, [], rfl, .inl ⟨rfl, rfl, rfl⟩, fun i hi => hi⟩
  · obtain rfl : n = 0 := by simpa using hn
    refine ⟨⟨some a, 0, LOOSE⟩, [], ?_, .inr (.inl ⟨a, rfl, rfl, rfl⟩), fun i hi => hi⟩
    simp only [Rlm.cut]
    rw [show Nat.blt LOOSE OPEN = false by decide, show Nat.beq LOOSE OPEN = false by decide, show Nat.beq LOOSE LOOSE = true from Nat.beq_refl _]
    rfl
  · have hl : vs.length = cs.length - o := by rw [h3]; simp
    simp only [Rlm.cut]
    rw [show Nat.blt OPEN OPEN = false by decide, show Nat.beq OPEN OPEN = true from Nat.beq_refl _]
    simp only [cond_true, cond_false, blen_of (o := o) h2, Option.bind_eq_bind, Option.bind_some, bound]
    rw [Nat.ble_eq_true_of_le (show vs.length ≤ cs.length - o by omega)]
    simp only [cond_true, Option.bind_some]
    rw [show (decide (0 ≤ (n : Int)) && decide ((n : Int) ≤ (vs.length : Int))) = true by simpa using hn]
    simp only [cond_true, Option.bind_some, Int.toNat_natCast]
    by_cases h0 : n = 0
    · subst h0
      exact ⟨_, [c], rfl, .inr (.inr ⟨c, o, cs, by simp, h2, by simpa using h3, rfl⟩), fun i hi => hi⟩
    · rw [if_neg h0]
      by_cases h1 : n < cs.length - o
      · rw [if_pos h1]
        exact ⟨_, [c], rfl, .inr (.inr ⟨c, o + n, cs, by simp, h2, by rw [h3, List.drop_drop], rfl⟩), fun i hi => hi⟩
      · rw [if_neg h1]
        exact ⟨_, [], rfl, .inr (.inl ⟨_, rfl, List.drop_eq_nil_of_le (by omega), rfl⟩), fun i hi => by simp at hi⟩

def RR (L : LHeap) (b : Nat) (r : List Bool) (F : List Nat) : Prop :=
  ∃ (s : Sl) (G : List Nat), L[b]? = some (.cells [.slice s.a s.n s.c] 77 false 0) ∧ RS L s (r.map bb) G ∧ b ∉ G ∧ F = b :: G

theorem RR.mono {L L' : LHeap} {b : Nat} {bs : List Bool} {F : List Nat} (h : RR L b bs F) (hk : ∀ i ∈ F, L'[i]? = L[i]?) : RR L' b bs F := by
  obtain ⟨s, G, h1, h2, h4, rfl⟩ := h
  exact ⟨s, G, by rw [hk b (by simp), h1], h2.mono fun i hi => hk i (by simp [hi]), h4, rfl⟩
theorem RR.within {L : LHeap} {b : Nat} {bs : List Bool} {F : List Nat} (h : RR L b bs F) : Within F L := by
  obtain ⟨s, G, h1, h2, h4, rfl⟩ := h
  intro i hi
  rcases List.mem_cons.1 hi with rfl | hi
  · exact get_lt h1
  · exact h2.within i hi

theorem rleft_ok {k b : Nat} {L : LHeap} {r : List Bool} {F : List Nat} (h : RR L b r F) (hk : 1 ≤ k) : f29 k (some ⟨b, 0, none⟩) L = some (.ret (.int .i64 (r.length : Int)) L) := by
  obtain ⟨k, rfl⟩ : ∃ k', k = k' + 1 := ⟨k - 1, by omega⟩
  obtain ⟨s, G, h1, h2, h4, rfl⟩ := h
  have c0 : cell L ⟨b, 0, none⟩ = some (.slice s.a s.n s.c) := by rw [cell_of h1]; rfl
  have hn := h2.len
  simp only [List.length_map] at hn
  rw [f29_eq]
  simp [c0, hn]

theorem rend_loop {k b : Nat} {L : LHeap} {r : List Bool} {F : List Nat} (h : RR L b r F) (hr : r.length < 2 ^ 60) :
    ∀ (m i j : Nat), i + m = r.length → m < j → f31_l2 k j (some ⟨b, 0, none⟩) i L = some (.ret (.bool ((r.drop i).all (!·) && decide (r.length < 8))) L) := by
  obtain ⟨s, G, h1, h2, h4, rfl⟩ := h
  have c0 : cell L ⟨b, 0, none⟩ = some (.slice s.a s.n s.c) := by rw [cell_of h1]; rfl
  have hn := h2.len
  simp only [List.length_map] at hn
  intro m
  induction m with
  | zero =>
    intro i j him hj
    obtain ⟨j, rfl⟩ : ∃ j', j = j' + 1 := ⟨j - 1, by omega⟩
    rw [f31_l2_eq, List.drop_eq_nil_of_le (by omega)]
    simp only [obind_some, mk_add, Nat.zero_add, c0, Option.bind_some, asSl_slice]
    rw [decide_eq_false (by omega), show decide ((s.n : Int) < 8) = decide (r.length < 8) from decide_eq_decide.2 (by omega)]
    rfl
  | succ m ih =>
    intro i j him hj
    obtain ⟨j, rfl⟩ : ∃ j', j = j' + 1 := ⟨j - 1, by omega⟩
    have e3 : IntKind.wrap .i64 ((i : Int) + 1) = ((i + 1 : Nat) : Int) := by rw [wI64] <;> omega
    obtain ⟨a, i1, i2⟩ := h2.get (i := i) (v := bb r[i]) (by simp [show i < r.length by omega])
    rw [f31_l2_eq, List.drop_eq_getElem_cons (by omega)]
    simp only [obind_some, mk_add, Nat.zero_add, c0, Option.bind_some, asSl_slice]
    rw [decide_eq_true (by omega)]
    simp only [lif_true, i1, i2, obind_some, bb, bV, Option.bind_some, asI_int, e3, List.all_cons]
    cases r[i]
    · simpa using ih (i + 1) j (by omega) (by omega)
    · rfl

theorem rend_ok {k b : Nat} {L : LHeap} {r : List Bool} {F : List Nat} (h : RR L b r F) (hr : r.length < 2 ^ 60) (hk : r.length + 5 ≤ k) : f31 k (some ⟨b, 0, none⟩) L = some (.ret (.bool (endOf r)) L) := by
  obtain ⟨k, rfl⟩ : ∃ k', k = k' + 1 := ⟨k - 1, by omega⟩
  rw [f31_eq]
  have := rend_loop (k := k) h hr r.length 0 k (by omega) (by omega)
  rw [List.drop_zero, Bool.and_comm] at this
  exact this

theorem rtake_loop {k b n : Nat} {L : LHeap} {r : List Bool} {F : List Nat} (h : RR L b r F) (hn : n ≤ 32) (hr : n ≤ r.length) : ∀ (m i j : Nat), i + m = n → m < j →
    ∃ L' F', f27_l7 k j (some ⟨b, 0, none⟩) n ((bitNum (r.take i) : Nat) : Int) i L = some (.ret (.tuple #[.int .u32 ((bitNum (r.take n) : Nat) : Int), .int .i64 0]) L') ∧ RR L' b (r.drop n) F' ∧ Step F L F' L' := by
  obtain ⟨s, G, h1, h2, h4, rfl⟩ := h
  have c0 : cell L ⟨b, 0, none⟩ = some (.slice s.a s.n s.c) := by rw [cell_of h1]; rfl
  have hsn := h2.len
  simp only [List.length_map] at hsn
  intro m
  induction m with
  | zero =>
    intro i j him hj
    obtain ⟨j, rfl⟩ : ∃ j', j = j' + 1 := ⟨j - 1, by omega⟩
    obtain rfl : i = n := by omega
    obtain ⟨s', F', q1, q2, q3⟩ := h2.cut (n := i) (by simpa using hr)
    have a4 : b ∉ F' := fun hg => h4 (q3 b hg)
    refine ⟨L.set b (.cells [.slice s'.a s'.n s'.c] 77 false 0), b :: F', ?_, ⟨s', F', by rw [get_set_self h1], ?_, a4, rfl⟩, ?_⟩
    · rw [f27_l7_eq, decide_eq_false (by omega)]
      simp only [lif_false, obind_some, mk_add, Nat.zero_add, c0, Option.bind_some, asSl_slice, q1]
      rw [stores_of h1 (by simp)]
      rfl
    · rw [List.map_drop]
      exact q2.mono fun i hi => get_set_ne (b := b) (c := i) (fun e => a4 (e ▸ hi))
    · exact (Step.set (F := b :: G) _ (by simp)).less fun i hi => by rcases List.mem_cons.1 hi with rfl | hi; exact .inl (by simp); exact .inl (by simp [q3 i hi])
  | succ m ih =>
    intro i j him hj
    obtain ⟨j, rfl⟩ : ∃ j', j = j' + 1 := ⟨j - 1, by omega⟩
    have hi : i < r.length := by omega
    obtain ⟨a, i1, i2⟩ := h2.get (i := i) (v := bb r[i]) (by simp [hi])
    have hv := bitNum_lt (r.take i)
    have hp : 2 ^ (r.take i).length ≤ 2 ^ 31 := Nat.pow_le_pow_right (by omega) (by simp; omega)
    have hx := Bool.toNat_le r[i]
    rw [f27_l7_eq, decide_eq_true (by omega)]
    simp only [lif_true, obind_some, mk_add, Nat.zero_add, c0, Option.bind_some, asSl_slice, i1, i2, bb, bV, asI_int]
    rw [wU32 (n := ((r[i].toNat : Nat) : Int)) (by omega) (by omega), wU32 (n := ((bitNum (r.take i) : Nat) : Int) * 2) (by omega) (by omega), wU32 (by omega) (by omega), wI64 (by omega) (by omega)]
    obtain ⟨L', F', r1, r2, r3⟩ := ih (i + 1) j (by omega) (by omega)
    refine ⟨L', F', ?_, r2, r3⟩
    rw [← r1, List.take_succ_eq_append_getElem hi, bitNum_snoc]
    congr 1

theorem rtake_ok {k b : Nat} {n : Int} {L : LHeap} {r : List Bool} {F : List Nat} (h : RR L b r F) (hk : 40 ≤ k) :
    ∃ L' F', f27 k (some ⟨b, 0, none⟩) n L = some (.ret (taken r n) L') ∧ RR L' b (r.drop (takeCnt r n)) F' ∧ Step F L F' L' := by
  obtain ⟨k, rfl⟩ : ∃ k', k = k' + 1 := ⟨k - 1, by omega⟩
  rw [f27_eq]
  by_cases h0 : n < 0
  · refine ⟨L, F, ?_, by simpa [takeCnt, h0] using h, .refl _ _⟩
    simp [h0, taken, takeVal, takeCnt, takeErr, bitNum]
  by_cases h1 : n > 32
  · refine ⟨L, F, ?_, by simpa [takeCnt, h1] using h, .refl _ _⟩
    simp [h0, h1, taken, takeVal, takeCnt, takeErr, bitNum]
  have hor : ¬ (n < 0 ∨ n > 32) := by omega
  obtain ⟨s, G, g1, g2, g4, rfl⟩ := h
  have c0 : cell L ⟨b, 0, none⟩ = some (.slice s.a s.n s.c) := by rw [cell_of g1]; rfl
  have hsn := g2.len
  simp only [List.length_map] at hsn
  rw [decide_eq_false h0, decide_eq_false h1]
  simp only [lif_false, obind_some, mk_add, Nat.zero_add, c0, Option.bind_some, asSl_slice]
  by_cases h2 : n > (r.length : Int)
  · refine ⟨L, b :: G, ?_, ⟨s, G, g1, by simpa [takeCnt, hor, h2] using g2, g4, rfl⟩, .refl _ _⟩
    rw [decide_eq_true (by omega)]
    simp [h2, taken, takeVal, takeCnt, takeErr, bitNum, hor]
  rw [decide_eq_false (by omega)]
  simp only [lif_false]
  obtain ⟨m, rfl⟩ : ∃ m : Nat, n = m := ⟨n.toNat, by omega⟩
  obtain ⟨L', F', r1, r2, r3⟩ := rtake_loop (k := k) (show RR L b r (b :: G) from ⟨s, G, g1, g2, g4, rfl⟩) (show m ≤ 32 by omega) (by omega) m 0 k (by omega) (by omega)
  have hc : takeCnt r (m : Int) = m := by
    unfold takeCnt
    rw [if_neg hor, if_neg h2]; rfl
  refine ⟨L', F', ?_, by rw [hc]; exact r2, r3⟩
  rw [taken, takeVal, hc, takeErr, if_neg hor, if_neg h2]
  exact r1

/-! ### The reference's Open -/

def RO (L : LHeap) (b : Nat) (r : List Bool) (F : List Nat) : Prop :=
  ∃ (s : Sl) (G : List Nat), L[b]? = some (.cells [.slice s.a s.n s.c] 77 false 0) ∧ OS L s (r.map bb) 5 G ∧ b ∉ G ∧ F = b :: G

theorem pow128 : ∀ t, t < 8 → 128 / 2 ^ t = 2 ^ (7 - t) := by decide

theorem ropen_in {k j3 b i : Nat} {s : ByteArray} (hs : s.size < 2 ^ 34) (hi : i < s.size) : ∀ (m t j : Nat) (F : List Nat) (L : LHeap), t + m = 8 → m < j → RO L b ((unpack s).take (8 * i + t)) F →
    ∃ L' F', f25_l6 k j3 j s b (i : Int) ((128 / 2 ^ t : Nat) : Int) L = f25_l3 k j3 s b ((i + 1 : Nat) : Int) L' ∧ RO L' b ((unpack s).take (8 * (i + 1))) F' ∧ Step F L F' L' := by
  intro m
  induction m with
  | zero =>
    intro t j F L ht hj h
    obtain ⟨j, rfl⟩ : ∃ j', j = j' + 1 := ⟨j - 1, by omega⟩
    obtain rfl : t = 8 := by omega
    refine ⟨L, F, ?_, by rw [Nat.mul_add]; exact h, .refl _ _⟩
    rw [f25_l6_eq, decide_eq_false (by decide), wI64 (n := (i : Int) + 1) (by omega) (by omega)]
    rfl
  | succ m ih =>
    intro t j F L ht hj h
    obtain ⟨j, rfl⟩ : ∃ j', j = j' + 1 := ⟨j - 1, by omega⟩
    obtain ⟨sl, G, g1, g2, g4, rfl⟩ := h
    have c0 : cell L ⟨b, 0, none⟩ = some (.slice sl.a sl.n sl.c) := by rw [cell_of g1]; rfl
    have ht8 : t < 8 := by omega
    have hp : 0 < 2 ^ (7 - t) := Nat.two_pow_pos _
    have hsz : s.data.toList.length = s.size := rfl
    have e3 : byteAt s (i : Int) = some (((s.data.toList.getD i 0).toNat : Nat) : Int) := by
      simp only [byteAt]
      rw [decide_eq_true (Int.natCast_nonneg _), cond_true, Int.toNat_natCast]
      have : s[i]? = some (s.data.toList.getD i 0) := by
        rw [List.getD_eq_getElem?_getD, List.getElem?_eq_getElem (by omega), Option.getD_some]
        rw [getElem?_pos s i (by omega)]
        rfl
      rw [this]; rfl
    have hbit : bitAt s (8 * i + t) = (s.data.toList.getD i 0).toNat.testBit (7 - t) := by
      unfold bitAt
      rw [show (8 * i + t) / 8 = i by omega, show (8 * i + t) % 8 = t by omega]
    have hnx : ((128 / 2 ^ (t + 1) : Nat) : Int) = IntKind.wrap .i64 (Int.tdiv ((128 / 2 ^ t : Nat) : Int) 2) := by
      have hh := Nat.div_le_self 128 (2 ^ (t + 1))
      rw [show (2 : Int) = ((2 : Nat) : Int) from rfl, tdiv_nat, Nat.div_div_eq_div_mul, ← Nat.pow_succ, Nat.succ_eq_add_one]
      generalize 128 / 2 ^ (t + 1) = z at *
      rw [wI64] <;> omega
    have hb := (s.data.toList.getD i 0).toNat_lt
    rw [f25_l6_eq, ← hnx, pow128 t ht8, decide_eq_true (by omega)]
    rw [Nat.testBit_eq_decide_div_mod_eq] at hbit
    have hle : (s.data.toList.getD i 0).toNat / 2 ^ (7 - t) ≤ (s.data.toList.getD i 0).toNat := Nat.div_le_self _ _
    have e5 : IntKind.wrap .u8 (Int.tmod (IntKind.wrap .i64 (Int.tdiv (IntKind.wrap .i64 (((s.data.toList.getD i 0).toNat : Nat) : Int)) ((2 ^ (7 - t) : Nat) : Int))) 2) = (((bitAt s (8 * i + t)).toNat : Nat) : Int) := by
      generalize (s.data.toList.getD i 0) = y at *
      rw [wI64 (n := ((y.toNat : Nat) : Int)) (by omega) (by omega), tdiv_nat]
      generalize y.toNat / 2 ^ (7 - t) = z at *
      rw [wI64 (by omega) (by omega), show (2 : Int) = ((2 : Nat) : Int) from rfl, tmod_nat, wU8 (by omega) (by omega), hbit]
      rcases Nat.mod_two_eq_zero_or_one z with h | h <;> simp [h]
    have c0' : ∀ X : LBlk, cell (L ++ [X]) ⟨b, 0, none⟩ = some (.slice sl.a sl.n sl.c) := fun X => by rw [cell_of (by rw [get_push (get_lt g1), g1])]; rfl
    have hz : ((2 ^ (7 - t) : Nat) : Int) ≠ 0 := by omega
    simp only [lif_true, mk_add, Nat.zero_add, c0, c0', e3, e5, Option.bind_some, asSl_slice, obind_some, decide_eq_false hz, Bool.not_false, when_true, same_self, size5, bytes5, src_new]
    have hlen : ((unpack s).take (8 * i + t)).length = 8 * i + t := by simp; omega
    obtain ⟨s', L', G', a1, a2, a3⟩ := (g2.mono (L' := L ++ [.cells [.int .u8 (((bitAt s (8 * i + t)).toNat : Nat) : Int)] 5 false 0]) fun i hi => get_push (g2.within i hi)).app [bb (bitAt s (8 * i + t))] 1
      (by rw [List.length_map, hlen]; simp; omega) (by rw [List.length_map, hlen]; simp; omega)
    have a1 : app (L ++ [.cells [.int .u8 (((bitAt s (8 * i + t)).toNat : Nat) : Int)] 5 false 0]) 5 1 1 sl 1 [.int .u8 (((bitAt s (8 * i + t)).toNat : Nat) : Int)] = some (s', L') := a1
    have hb' : L'[b]? = some (.cells [.slice sl.a sl.n sl.c] 77 false 0) := by rw [a3.keep b (by have := get_lt g1; simp; omega) g4, get_push (get_lt g1), g1]
    have a4 : b ∉ G' := fun hg => by rcases a3.foot b hg with q | q; exact g4 q; have := get_lt g1; simp at q; omega
    simp only [a1, obind_some]
    rw [stores_of hb' (by simp)]
    have hd : (unpack s).take (8 * i + (t + 1)) = (unpack s).take (8 * i + t) ++ [bitAt s (8 * i + t)] := by
      have hlt : 8 * i + t < (unpack s).length := by simp; omega
      rw [← Nat.add_assoc, List.take_succ_eq_append_getElem hlt]
      congr 2
      have := unpack_get (s := s) (i := 8 * i + t) (by simpa using hlt)
      rw [List.getElem?_eq_getElem hlt] at this
      exact Option.some.inj this
    obtain ⟨L2, F2, r1, r2, r3⟩ := ih (t + 1) j (b :: G') (L'.set b (.cells [.slice s'.a s'.n s'.c] 77 false 0)) (by omega) (by omega)
      ⟨s', G', by rw [get_set_self hb'], by rw [hd, List.map_append]; exact a2.mono fun i hi => get_set_ne (b := b) (c := i) (fun e => a4 (e ▸ hi)), a4, rfl⟩
    refine ⟨L2, F2, r1, r2, ((Step.push (b :: G) L _).trans (((a3.mono (G := b :: G) fun i hi => by simp [hi]).less (G := b :: G') fun i hi => by rcases List.mem_cons.1 hi with rfl | hi; exact .inr (by simp); exact .inl hi))).trans (Step.set _ (by simp)) |>.trans r3⟩

theorem ropen_out {k b : Nat} {s : ByteArray} (hs : s.size < 2 ^ 34) (hk : 20 ≤ k) : ∀ (m i j : Nat) (F : List Nat) (L : LHeap), i + m = s.size → m < j → RO L b ((unpack s).take (8 * i)) F →
    ∃ L' F', f25_l3 k j s b (i : Int) L = some (.ret (.pointer (some ⟨b, 0, none⟩)) L') ∧ RO L' b (unpack s) F' ∧ Step F L F' L' := by
  intro m
  induction m with
  | zero =>
    intro i j F L him hj h
    obtain ⟨j, rfl⟩ : ∃ j', j = j' + 1 := ⟨j - 1, by omega⟩
    refine ⟨L, F, ?_, by rwa [List.take_of_length_le (by simp; omega)] at h, .refl _ _⟩
    rw [f25_l3_eq, decide_eq_false (by omega)]
    rfl
  | succ m ih =>
    intro i j F L him hj h
    obtain ⟨j, rfl⟩ : ∃ j', j = j' + 1 := ⟨j - 1, by omega⟩
    obtain ⟨L1, F1, r1, r2, r3⟩ := ropen_in (k := k) (j3 := j) hs (show i < s.size by omega) 8 0 k F L rfl (by omega) h
    obtain ⟨L2, F2, q1, q2, q3⟩ := ih (i + 1) j F1 L1 (by omega) (by omega) r2
    refine ⟨L2, F2, ?_, q2, r3.trans q3⟩
    rw [f25_l3_eq, decide_eq_true (by omega), ← q1]
    exact r1

theorem ropen_ok {k : Nat} {s : ByteArray} {L : LHeap} (hs : s.size < 2 ^ 34) (hk : s.size + 30 ≤ k) :
    ∃ L' F', f25 k s L = some (.ret (.pointer (some ⟨L.length, 0, none⟩)) L') ∧ RR L' L.length (unpack s) F' ∧ Step [] L F' L' := by
  obtain ⟨k, rfl⟩ : ∃ k', k = k' + 1 := ⟨k - 1, by omega⟩
  rw [f25_eq]
  obtain ⟨L', F', r1, ⟨sl, G, g1, g2, g4, rfl⟩, r3⟩ := ropen_out (k := k) hs (by omega) s.size 0 k [L.length] (L ++ [LBlk.cells [Value.slice none 0 0] 77 false 0]) (by omega) (by omega) ⟨⟨none, 0, 0⟩, [], get_new, by simpa using OS.nil _ _, by simp, rfl⟩
  exact ⟨L', _, r1, ⟨sl, G, g1, OS.rs g2, g4, rfl⟩, (Step.new [] L _).trans r3⟩

end Go.Proofs.Ytlcchghlhfamjaa.X

/- The writers of bits: what the printed forms of Put, Bits and Bytes do, the program's and the reference's. -/
import Derived.Test.YtlcchghlhfamjaaRlmRead
import Derived.Test.YtlcchghlhfamjaaFB
set_option linter.unusedVariables false
namespace Go.Proofs.Ytlcchghlhfamjaa.X
open Go Go.Rlm

theorem size5 : Proofs.Try.prog.types[5].size = 1 := by kernel_rfl
theorem bytes5 : Proofs.Try.prog.types[5].bytes = 1 := by kernel_rfl

/-- A writer: at b, of these bits; it owns the blocks F. -/
def BW (L : LHeap) (b : Nat) (bs : List Bool) (F : List Nat) : Prop :=
  ∃ (s : Sl) (vs G : List Nat), L[b]? = some (.cells [.slice s.a s.n s.c, .int .i64 (bs.length : Int)] 26 false 0) ∧ OS L s (vs.map bV) 5 G ∧ Packs vs bs ∧ b ∉ G ∧ F = b :: G

theorem BW.mono {L L' : LHeap} {b : Nat} {bs : List Bool} {F : List Nat} (h : BW L b bs F) (hk : ∀ i ∈ F, L'[i]? = L[i]?) : BW L' b bs F := by
  obtain ⟨s, vs, G, h1, h2, h3, h4, rfl⟩ := h
  exact ⟨s, vs, G, by rw [hk b (by simp), h1], h2.mono fun i hi => hk i (by simp [hi]), h3, h4, rfl⟩
theorem BW.within {L : LHeap} {b : Nat} {bs : List Bool} {F : List Nat} (h : BW L b bs F) : Within F L := by
  obtain ⟨s, vs, G, h1, h2, h3, h4, rfl⟩ := h
  intro i hi
  rcases List.mem_cons.1 hi with rfl | hi
  · exact get_lt h1
  · exact h2.within i hi
theorem BW.mem {L : LHeap} {b : Nat} {bs : List Bool} {F : List Nat} (h : BW L b bs F) : b ∈ F := by
  obtain ⟨s, vs, G, h1, h2, h3, h4, rfl⟩ := h
  simp

theorem BW.new (L : LHeap) : BW (L ++ [.cells [.slice none 0 0, .int .i64 0] 26 false 0]) L.length [] [L.length] :=
  ⟨⟨none, 0, 0⟩, [], [], get_new, OS.nil _ _, Packs.nil, by simp, rfl⟩

/-- A bit is laid into the room that there is. -/
theorem put_tail {L : LHeap} {b : Nat} {s : Sl} {vs G : List Nat} {bs : List Bool} (x : Bool) (h1 : L[b]? = some (.cells [.slice s.a s.n s.c, .int .i64 (bs.length : Int)] 26 false 0))
    (h2 : OS L s (vs.map bV) 5 G) (h3 : PacksR vs bs) (h4 : b ∉ G) (hsm : bs.length < 2 ^ 40) :
    ∃ a L2 L3, idx s (IntKind.wrap .i64 ((s.n : Int) - 1)) 1 = some a ∧ cell L a = some (bV (vs.getD (vs.length - 1) 0)) ∧
      stores L a [bV (vs.getD (vs.length - 1) 0 ||| x.toNat * 2 ^ (7 - bs.length % 8))] = some L2 ∧
      cell L2 ⟨b, 1, none⟩ = some (.int .i64 (bs.length : Int)) ∧ stores L2 ⟨b, 1, none⟩ [.int .i64 (IntKind.wrap .i64 ((bs.length : Int) + 1))] = some L3 ∧
      BW L3 b (bs ++ [x]) (b :: G) ∧ Step (b :: G) L (b :: G) L3 := by
  have hn := h2.len
  have hl := h3.1
  simp only [List.length_map] at hn
  have e : IntKind.wrap .i64 ((s.n : Int) - 1) = ((vs.length - 1 : Nat) : Int) := by rw [wI64] <;> omega
  have hlt : vs.length - 1 < (vs.map bV).length := by simp; omega
  have hv : (vs.map bV)[vs.length - 1]? = some (bV (vs.getD (vs.length - 1) 0)) := by
    rw [List.getElem?_map, List.getD_eq_getElem?_getD, List.getElem?_eq_getElem (by omega)]; rfl
  obtain ⟨a, g1, g2⟩ := h2.get hv
  obtain ⟨a', L2, g3, g4, g5, g6⟩ := h2.put hlt (bV (vs.getD (vs.length - 1) 0 ||| x.toNat * 2 ^ (7 - bs.length % 8)))
  obtain rfl : a = a' := by rw [g1] at g3; exact Option.some.inj g3
  have g7 : L2[b]? = some (.cells [.slice s.a s.n s.c, .int .i64 (bs.length : Int)] 26 false 0) := by rw [g6.keep b (get_lt h1) h4, h1]
  refine ⟨a, L2, _, by rw [e]; exact g1, g2, g4, by rw [cell_of g7]; rfl, stores_of g7 (by simp), ⟨s, vs.set (vs.length - 1) (vs.getD (vs.length - 1) 0 ||| x.toNat * 2 ^ (7 - bs.length % 8)), G, ?_, ?_, h3.put x, h4, rfl⟩, ?_⟩
  · rw [get_set_self g7]
    simp only [setAll, List.length_append, List.length_singleton]
    rw [wI64 (by omega) (by omega)]
    rfl
  · rw [List.map_set]
    exact g5.mono fun i hi => get_set_ne (fun h => h4 (h ▸ hi))
  · exact ((g6.mono (fun i hi => by simp [hi])).less (fun i hi => .inr hi)).trans (Step.set _ (by simp))

theorem ndec {n : Int} (h : 0 ≤ n) : (!decide (n < 0)) = true := by simpa using h

theorem src_new {L : LHeap} {v : Value} {e : TypeId} {ro : Bool} {sp c : Nat} : srcOf (L ++ [.cells [v] e ro sp]) 1 1 (.slice (some ⟨L.length, 0, none⟩) 1 c) = some [v] := by
  simp [srcOf, srcCells, cellsAt]
  rfl

/-- The bit that is laid. -/
theorem put_bit (v m q : Nat) (hv : v < 4294967296) (hm : m < 32) (hq : q < 8) (y : Nat) (hy : y < 256) :
    bitop BinOp.or IntKind.u8 (y : Int) (IntKind.wrap IntKind.u8 (IntKind.wrap IntKind.u8 (bitop BinOp.and IntKind.u32 (Int.fdiv (v : Int) (2 ^ min (Int.toNat ((m : Nat) : Int)) 32)) 1) * 2 ^ min (Int.toNat ((7 - q : Nat) : Int)) 8)) =
      ((y ||| (v.testBit m).toNat * 2 ^ (7 - q) : Nat) : Int) := by
  have b1 : bitop BinOp.and IntKind.u32 (Int.fdiv (v : Int) (2 ^ min (Int.toNat ((m : Nat) : Int)) 32)) 1 = (((v.testBit m).toNat : Nat) : Int) := by
    rw [show min (Int.toNat ((m : Nat) : Int)) 32 = m by simp; omega, fdiv_pow]
    have hlt : v / 2 ^ m < 2 ^ IntKind.u32.bits := Nat.lt_of_le_of_lt (Nat.div_le_self _ _) hv
    have := bitop_and (k := .u32) rfl hlt (b := 1) (by decide)
    rw [show ((1 : Nat) : Int) = 1 from rfl] at this
    rw [this, Nat.and_one_is_mod, Nat.testBit_eq_decide_div_mod_eq]
    rcases Nat.mod_two_eq_zero_or_one (v / 2 ^ m) with h | h <;> simp [h]
  have hx := Bool.toNat_le (v.testBit m)
  have hp : 2 ^ (7 - q) ≤ 2 ^ 7 := Nat.pow_le_pow_right (by omega) (by omega)
  have hpx : (v.testBit m).toNat * 2 ^ (7 - q) < 256 := by
    have : (v.testBit m).toNat * 2 ^ (7 - q) ≤ 1 * 2 ^ 7 := Nat.mul_le_mul (by omega) (by omega)
    omega
  rw [b1, wU8 (n := (((v.testBit m).toNat : Nat) : Int)) (by omega) (by omega), show min (Int.toNat ((7 - q : Nat) : Int)) 8 = 7 - q by simp; omega]
  have e : (((v.testBit m).toNat : Nat) : Int) * 2 ^ (7 - q) = (((v.testBit m).toNat * 2 ^ (7 - q) : Nat) : Int) := by push_cast; rfl
  rw [e, wU8 (by omega) (by omega)]
  exact bitop_or (k := .u8) rfl (by simpa [IntKind.bits] using hy) (by simpa [IntKind.bits] using hpx)

theorem put_loop {k v n b : Nat} (hv : v < 4294967296) (hn : n ≤ 32) : ∀ (m i j : Nat) (bs : List Bool) (F : List Nat) (L : LHeap), i + m = n → m < j → BW L b bs F → bs.length + m < 2 ^ 40 →
    ∃ L' F', f18_l6 k j (some ⟨b, 0, none⟩) v n n i L = some (.ret (.int .i64 0) L') ∧ BW L' b (bs ++ bitsOf v m) F' ∧ Step F L F' L' := by
  intro m
  induction m with
  | zero =>
    intro i j bs F L him hj h hsm
    obtain ⟨j, rfl⟩ : ∃ j', j = j' + 1 := ⟨j - 1, by omega⟩
    refine ⟨L, F, ?_, by simpa using h, .refl _ _⟩
    rw [f18_l6_eq, decide_eq_false (by omega)]
    rfl
  | succ m ih =>
    intro i j bs F L him hj h hsm
    obtain ⟨j, rfl⟩ : ∃ j', j = j' + 1 := ⟨j - 1, by omega⟩
    obtain ⟨s, vs, G, h1, h2, h3, h4, rfl⟩ := h
    have e1 : IntKind.wrap .i64 (IntKind.wrap .i64 ((n : Int) - 1) - (i : Int)) = ((m : Nat) : Int) := by rw [wI64, wI64] <;> (try rw [wI64]) <;> omega
    have e2 : IntKind.wrap .i64 ((i : Int) + 1) = ((i + 1 : Nat) : Int) := by rw [wI64] <;> omega
    have e3 : IntKind.wrap .i64 (7 - Int.tmod (bs.length : Int) 8) = ((7 - bs.length % 8 : Nat) : Int) := by
      have := tmod_nat bs.length 8
      rw [show ((8 : Nat) : Int) = 8 from rfl] at this
      rw [this, wI64] <;> omega
    have e4 : Int.tmod (bs.length : Int) 8 = ((bs.length % 8 : Nat) : Int) := tmod_nat bs.length 8
    have c0 : cell L ⟨b, 0, none⟩ = some (.slice s.a s.n s.c) := by rw [cell_of h1]; rfl
    have c1 : cell L ⟨b, 1, none⟩ = some (.int .i64 (bs.length : Int)) := by rw [cell_of h1]; rfl
    rw [f18_l6_eq, decide_eq_true (by omega)]
    simp only [lif_true, obind_some, mk_add, Nat.zero_add, c1, c0, Option.bind_some, asI_int, asSl_slice, e1, e2, e3, size5, bytes5, src_new]
    by_cases h8 : bs.length % 8 = 0
    · rw [show (Int.tmod (bs.length : Int) 8 == 0) = true by rw [e4, h8]; rfl]
      obtain ⟨s', L', G', a1, a2, a3⟩ := (h2.mono (L' := L ++ [.cells [.int .u8 0] 5 false 0]) fun i hi => get_push (h2.within i hi)).app [bV 0] 1 (by simp; have := h3.1; omega) (by simp; have := h3.1; omega)
      have a1 : app (L ++ [.cells [.int .u8 0] 5 false 0]) 5 1 1 s 1 [.int .u8 0] = some (s', L') := a1
      have hb' : L'[b]? = some (.cells [.slice s.a s.n s.c, .int .i64 (bs.length : Int)] 26 false 0) := by rw [a3.keep b (by have := get_lt h1; simp; omega) h4, get_push (get_lt h1), h1]
      have a4 : b ∉ G' := fun hg => by rcases a3.foot b hg with q | q; exact h4 q; have := get_lt h1; simp at q; omega
      simp only [lif_true, a1, obind_some]
      rw [stores_of hb' (by simp)]
      have hb2 : (L'.set b (.cells (setAll [.slice s.a s.n s.c, .int .i64 (bs.length : Int)] 0 [.slice s'.a s'.n s'.c]) 26 false 0))[b]? = some (.cells [.slice s'.a s'.n s'.c, .int .i64 (bs.length : Int)] 26 false 0) := by
        rw [get_set_self hb']; rfl
      have st : Step (b :: G) L (b :: G') (L'.set b (.cells (setAll [.slice s.a s.n s.c, .int .i64 (bs.length : Int)] 0 [.slice s'.a s'.n s'.c]) 26 false 0)) :=
        ((Step.push (b :: G) L _).trans (((a3.mono (G := b :: G) fun i hi => by simp [hi]).less (G := b :: G') fun i hi => by rcases List.mem_cons.1 hi with rfl | hi; exact .inr (by simp); exact .inl hi))).trans (Step.set _ (by simp))
      generalize hL2 : L'.set b (.cells (setAll [.slice s.a s.n s.c, .int .i64 (bs.length : Int)] 0 [.slice s'.a s'.n s'.c]) 26 false 0) = L1 at *
      have a2' : OS L1 s' ((vs ++ [0]).map bV) 5 G' := by
        rw [List.map_append]
        exact a2.mono fun i' hi => by rw [← hL2, get_set_ne (b := b) (c := i') (fun e => a4 (e ▸ hi))]
      obtain ⟨a, L2, L3, t1, t2, t3, t4, t5, t6, t7⟩ := put_tail (v.testBit m) hb2 a2' (h3.room0 h8) a4 (by omega)
      have hy : (vs ++ [0]).getD ((vs ++ [0]).length - 1) 0 < 256 := ((h3.room0 h8).2 _ (by simp)).1
      have c0 : cell L1 ⟨b, 0, none⟩ = some (.slice s'.a s'.n s'.c) := by rw [cell_of hb2]; rfl
      have c1 : cell L1 ⟨b, 1, none⟩ = some (.int .i64 (bs.length : Int)) := by rw [cell_of hb2]; rfl
      simp only [bV] at t2 t3
      rw [← put_bit v m (bs.length % 8) hv (by omega) (by omega) _ hy] at t3
      obtain ⟨L4, F4, r1, r2, r3⟩ := ih (i + 1) j (bs ++ [v.testBit m]) _ L3 (by omega) (by omega) t6 (by simp; omega)
      refine ⟨L4, F4, ?_, by rw [bitsOf_succ]; simpa using r2, (st.trans t7).trans r3⟩
      simp only [obind_some, ndec (Int.natCast_nonneg _), when_true, c0, c1, asSl_slice, asI_int, Option.bind_some, t1, t2, e3, t3, t4, t5]
      exact r1
    · rw [show (Int.tmod (bs.length : Int) 8 == 0) = false by rw [e4]; simp; omega]
      simp only [lif_false]
      obtain ⟨a, L2, L3, t1, t2, t3, t4, t5, t6, t7⟩ := put_tail (v.testBit m) h1 h2 (h3.room h8) h4 (by omega)
      have hy : vs.getD (vs.length - 1) 0 < 256 := ((h3.room h8).2 _ (by have := (h3.room h8).1; omega)).1
      simp only [bV] at t2 t3
      rw [← put_bit v m (bs.length % 8) hv (by omega) (by omega) _ hy] at t3
      obtain ⟨L4, F4, r1, r2, r3⟩ := ih (i + 1) j (bs ++ [v.testBit m]) _ L3 (by omega) (by omega) t6 (by simp; omega)
      refine ⟨L4, F4, ?_, by rw [bitsOf_succ]; simpa using r2, t7.trans r3⟩
      simp only [obind_some, ndec (Int.natCast_nonneg _), when_true, t1, t2, e3, t3, t4, t5, asI_int, asSl_slice, Option.bind_some]
      exact r1


/-! ### What Put answers -/

def putOk (v : Nat) (n : Int) : Bool := decide (0 ≤ n) && decide (n ≤ 32) && decide (v < 2 ^ n.toNat)
def putRes (v : Nat) (n : Int) : Int := if putOk v n then 0 else 1
def putBits (v : Nat) (n : Int) : List Bool := if putOk v n then bitsOf v n.toNat else []

theorem putBits_le (v : Nat) (n : Int) : (putBits v n).length ≤ 32 := by
  unfold putBits
  split
  · rename_i h
    simp only [putOk, Bool.and_eq_true, decide_eq_true_eq] at h
    rw [bitsOf_length]; omega
  · simp

theorem put_ok {k b v : Nat} {n : Int} {L : LHeap} {bs : List Bool} {F : List Nat} (h : BW L b bs F) (hv : v < 4294967296) (hs : bs.length < 2 ^ 39) (hk : 40 ≤ k) :
    ∃ L' F', f18 k (some ⟨b, 0, none⟩) v n L = some (.ret (.int .i64 (putRes v n)) L') ∧ BW L' b (bs ++ putBits v n) F' ∧ Step F L F' L' := by
  obtain ⟨k, rfl⟩ : ∃ k', k = k' + 1 := ⟨k - 1, by omega⟩
  rw [f18_eq]
  simp only [Option.isNone_some, lif_false]
  by_cases h0 : n < 0
  · refine ⟨L, F, ?_, ?_, .refl _ _⟩
    · simp [h0, putRes, putOk]; omega
    · simpa [putBits, putOk, show ¬ 0 ≤ n by omega] using h
  by_cases h1 : n > 32
  · refine ⟨L, F, ?_, ?_, .refl _ _⟩
    · simp [h0, h1, putRes, putOk, show ¬ n ≤ 32 by omega]
    · simpa [putBits, putOk, show ¬ n ≤ 32 by omega] using h
  obtain ⟨m, rfl⟩ : ∃ m : Nat, n = m := ⟨n.toNat, by omega⟩
  rw [decide_eq_false h0, decide_eq_false h1]
  simp only [lif_false, Bool.not_false, when_true]
  rw [wU64 (by omega) (by omega), show min (Int.toNat (m : Int)) 64 = m by simp; omega, fdiv_pow]
  by_cases h2 : v < 2 ^ m
  · have ok : putOk v (m : Int) = true := by simp [putOk, h2]; omega
    rw [Nat.div_eq_of_lt h2]
    obtain ⟨L', F', r1, r2, r3⟩ := put_loop hv (show m ≤ 32 by omega) m 0 k bs F L (by omega) (by omega) h (by omega)
    refine ⟨L', F', ?_, by simpa [putBits, ok] using r2, r3⟩
    rw [putRes, if_pos ok]
    simpa using r1
  · have ok : putOk v (m : Int) = false := by simp [putOk, h2]
    refine ⟨L, F, ?_, by simpa [putBits, ok] using h, .refl _ _⟩
    have : v / 2 ^ m ≠ 0 := by
      intro h; rcases Nat.div_eq_zero_iff.1 h with h | h
      · have := Nat.two_pow_pos m; omega
      · exact h2 h
    rw [show (((v / 2 ^ m : Nat) : Int) != 0) = true by simp only [bne_iff_ne, ne_eq]; omega]
    simp [putRes, ok]

theorem bits_ok {k b : Nat} {L : LHeap} {bs : List Bool} {F : List Nat} (h : BW L b bs F) (hk : 1 ≤ k) : f20 k (some ⟨b, 0, none⟩) L = some (.ret (.int .i64 (bs.length : Int)) L) := by
  obtain ⟨k, rfl⟩ : ∃ k', k = k' + 1 := ⟨k - 1, by omega⟩
  obtain ⟨s, vs, G, h1, h2, h3, h4, rfl⟩ := h
  have c1 : cell L ⟨b, 1, none⟩ = some (.int .i64 (bs.length : Int)) := by rw [cell_of h1]; rfl
  rw [f20_eq]
  simp [c1]

theorem bytes_ok {k b : Nat} {L : LHeap} {bs : List Bool} {F : List Nat} (h : BW L b bs F) (hk : 1 ≤ k) : ∃ vs, Packs vs bs ∧ f22 k (some ⟨b, 0, none⟩) L = some (.ret (.string (strOf vs)) L) := by
  obtain ⟨k, rfl⟩ : ∃ k', k = k' + 1 := ⟨k - 1, by omega⟩
  obtain ⟨s, vs, G, h1, h2, h3, h4, rfl⟩ := h
  have c0 : cell L ⟨b, 0, none⟩ = some (.slice s.a s.n s.c) := by rw [cell_of h1]; rfl
  refine ⟨vs, h3, ?_⟩
  rw [f22_eq]
  simp [c0, h2.bytes h3.small]

/-! ### The reference's -/

def bb (x : Bool) : Value := bV x.toNat

def RW (L : LHeap) (b : Nat) (bs : List Bool) (F : List Nat) : Prop :=
  ∃ (s : Sl) (G : List Nat), L[b]? = some (.cells [.slice s.a s.n s.c] 29 false 0) ∧ OS L s (bs.map bb) 5 G ∧ b ∉ G ∧ F = b :: G

theorem RW.mono {L L' : LHeap} {b : Nat} {bs : List Bool} {F : List Nat} (h : RW L b bs F) (hk : ∀ i ∈ F, L'[i]? = L[i]?) : RW L' b bs F := by
  obtain ⟨s, G, h1, h2, h4, rfl⟩ := h
  exact ⟨s, G, by rw [hk b (by simp), h1], h2.mono fun i hi => hk i (by simp [hi]), h4, rfl⟩
theorem RW.within {L : LHeap} {b : Nat} {bs : List Bool} {F : List Nat} (h : RW L b bs F) : Within F L := by
  obtain ⟨s, G, h1, h2, h4, rfl⟩ := h
  intro i hi
  rcases List.mem_cons.1 hi with rfl | hi
  · exact get_lt h1
  · exact h2.within i hi
theorem RW.new (L : LHeap) : RW (L ++ [.cells [.slice none 0 0] 29 false 0]) L.length [] [L.length] :=
  ⟨⟨none, 0, 0⟩, [], get_new, OS.nil _ _, by simp, rfl⟩

theorem rput_loop {k n c : Nat} {p : Option Addr} : ∀ (r v j : Nat) (pre suf : List Value) (L : LHeap), pre.length = r → r + suf.length = n → v < 4294967296 → n < 2 ^ 40 → L[c]? = some (.cells (pre ++ suf) 5 false 0) →
    f19_l5 k (j + r) p v ⟨some ⟨c, 0, none⟩, n, n⟩ ((r : Int) - 1) L = f19_l5 k j p ((v / 2 ^ r : Nat) : Int) ⟨some ⟨c, 0, none⟩, n, n⟩ (-1) (L.set c (.cells ((bitsOf v r).map bb ++ suf) 5 false 0)) := by
  intro r
  induction r with
  | zero =>
    intro v j pre suf L h1 h2 hv hn hL
    obtain rfl := List.eq_nil_of_length_eq_zero h1
    simp only [List.nil_append] at hL
    have : L.set c (.cells suf 5 false 0) = L := by
      apply List.ext_getElem?
      intro i
      by_cases hi : i = c
      · subst hi; rw [get_set_self hL, hL]
      · rw [get_set_ne (fun h => hi h.symm)]
    simp [this]
  | succ r ih =>
    intro v j pre suf L h1 h2 hv hn hL
    obtain ⟨pre', x, rfl⟩ : ∃ pre' x, pre = pre' ++ [x] := by
      refine ⟨pre.dropLast, pre.getLast (by intro h0; rw [h0] at h1; cases h1), (List.dropLast_concat_getLast _).symm⟩
    simp only [List.length_append, List.length_singleton] at h1
    rw [← Nat.add_assoc, f19_l5_eq, show ((r + 1 : Nat) : Int) - 1 = (r : Int) by omega, decide_eq_true (by omega)]
    have i1 : idx ⟨some ⟨c, 0, none⟩, n, n⟩ (r : Int) 1 = some ⟨c, 0 + r * 1, none⟩ := idx_of (by omega)
    have e0 : Int.tmod (v : Int) 2 = ((v % 2 : Nat) : Int) := tmod_nat v 2
    have e1 : Int.tdiv (v : Int) 2 = ((v / 2 : Nat) : Int) := tdiv_nat v 2
    simp only [lif_true, i1, obind_some]
    rw [stores_of hL (by simp; omega)]
    simp only [obind_some, setAll, Nat.zero_add, Nat.mul_one]
    rw [e0, wU8 (by omega) (by omega), e1, wU32 (by omega) (by omega), wI64 (by omega) (by omega)]
    have hset : ((pre' ++ [x]) ++ suf).set r (.int .u8 ((v % 2 : Nat) : Int)) = pre' ++ (bb (v.testBit 0) :: suf) := by
      rw [show r = pre'.length by omega]
      simp only [List.append_assoc, List.singleton_append, List.set_append_right _ _ (Nat.le_refl _), Nat.sub_self, List.set_cons_zero]
      congr 2
      rw [bb, bV, Nat.testBit_zero]
      rcases Nat.mod_two_eq_zero_or_one v with h | h <;> simp [h]
    rw [hset, ih (v / 2) j pre' (bb (v.testBit 0) :: suf) _ (by omega) (by simp; omega) (by omega) hn (get_set_self hL)]
    rw [List.set_set, bitsOf_last, Nat.div_div_eq_div_mul, Nat.pow_succ, Nat.mul_comm 2]
    simp

theorem rput_ok {k b v : Nat} {n : Int} {L : LHeap} {bs : List Bool} {F : List Nat} (h : RW L b bs F) (hv : v < 4294967296) (hs : bs.length < 2 ^ 39) (hk : 40 ≤ k) :
    ∃ L' F', f19 k (some ⟨b, 0, none⟩) v n L = some (.ret (.int .i64 (putRes v n)) L') ∧ RW L' b (bs ++ putBits v n) F' ∧ Step F L F' L' := by
  obtain ⟨k, rfl⟩ : ∃ k', k = k' + 1 := ⟨k - 1, by omega⟩
  rw [f19_eq]
  by_cases h0 : n < 0
  · refine ⟨L, F, ?_, ?_, .refl _ _⟩
    · simp [h0, putRes, putOk]; omega
    · simpa [putBits, putOk, show ¬ 0 ≤ n by omega] using h
  by_cases h1 : n > 32
  · refine ⟨L, F, ?_, ?_, .refl _ _⟩
    · simp [h0, h1, putRes, putOk, show ¬ n ≤ 32 by omega]
    · simpa [putBits, putOk, show ¬ n ≤ 32 by omega] using h
  obtain ⟨m, rfl⟩ : ∃ m : Nat, n = m := ⟨n.toNat, by omega⟩
  rw [decide_eq_false h0, decide_eq_false h1]
  simp only [lif_false, bytes5, room_ok (n := m) (b := 1) (by omega) (by omega), when_true, Int.toNat_natCast]
  obtain ⟨j, rfl⟩ : ∃ j, k = j + 1 + m := ⟨k - 1 - m, by omega⟩
  rw [wI64 (by omega) (by omega)]
  rw [rput_loop m v (j + 1) (List.replicate m (.int .u8 0)) [] _ (by simp) (by simp) hv (by omega) (by simp [get_new]), f19_l5_eq]
  generalize hX : List.replicate m [Value.int IntKind.u8 0] = X
  have st : Step [] L [] ((L ++ [LBlk.cells X.flatten 5 false 0]).set L.length (LBlk.cells ((bitsOf v m).map bb ++ []) 5 false 0)) := by
    refine ⟨by simp, fun i hi hn => ?_, fun i hi => .inl hi⟩
    rw [get_set_ne (by omega), get_push hi]
  have hnew : ((L ++ [LBlk.cells X.flatten 5 false 0]).set L.length (LBlk.cells ((bitsOf v m).map bb ++ []) 5 false 0))[L.length]? = some (.cells ((bitsOf v m).map bb) 5 false 0) := by
    rw [get_set_self get_new]; simp
  generalize (L ++ [LBlk.cells X.flatten 5 false 0]).set L.length (LBlk.cells ((bitsOf v m).map bb ++ []) 5 false 0) = L1 at *
  have h' : RW L1 b bs F := h.mono (st.others h.within fun i hi => by simp at hi)
  have st' : Step F L F L1 := (st.mono fun i hi => by simp at hi).less fun i hi => .inr hi
  rw [decide_eq_false (show ¬ ((-1 : Int) ≥ 0) by omega)]
  simp only [lif_false]
  by_cases h2 : v < 2 ^ m
  · have ok : putOk v (m : Int) = true := by simp [putOk, h2]; omega
    rw [Nat.div_eq_of_lt h2, putRes, if_pos ok, putBits, if_pos ok]
    obtain ⟨s, G, g1, g2, g3, rfl⟩ := h'
    have c0 : cell L1 ⟨b, 0, none⟩ = some (.slice s.a s.n s.c) := by rw [cell_of g1]; rfl
    have sr : srcOf L1 1 m (.slice (some ⟨L.length, 0, none⟩) m m) = some ((bitsOf v m).map bb) := by
      simp only [srcOf, srcCells]
      cases m with
      | zero => rfl
      | succ m =>
        simp only [show Nat.beq (m + 1) 0 = false from rfl, cond_false, cellsAt, hnew, Nat.zero_add, Nat.mul_one, List.length_map, bitsOf_length, List.drop_zero]
        rw [Nat.ble_eq_true_of_le (Nat.le_refl _), cond_true, List.take_of_length_le (by simp)]
    obtain ⟨s', L', G', a1, a2, a3⟩ := g2.app ((bitsOf v m).map bb) 1 (by simp; omega) (by simp; omega)
    have a1 : app L1 5 1 1 s m ((bitsOf v m).map bb) = some (s', L') := by simpa using a1
    have hb' : L'[b]? = some (.cells [.slice s.a s.n s.c] 29 false 0) := by rw [a3.keep b (get_lt g1) g3, g1]
    have a4 : b ∉ G' := fun hg => by rcases a3.foot b hg with q | q; exact g3 q; have := get_lt g1; omega
    refine ⟨L'.set b (.cells [.slice s'.a s'.n s'.c] 29 false 0), b :: G', ?_, ⟨s', G', by rw [get_set_self hb'], ?_, a4, rfl⟩, ?_⟩
    · simp only [Int.natCast_zero, bne_self_eq_false, lif_false, obind_some, mk_add, Nat.add_zero, c0, Option.bind_some, asSl_slice, size5, bytes5, sr, a1]
      rw [stores_of hb' (by simp)]
      rfl
    · rw [List.map_append]
      exact a2.mono fun i hi => get_set_ne (b := b) (c := i) (fun e => a4 (e ▸ hi))
    · exact st'.trans (((a3.mono (G := b :: G) fun i hi => by simp [hi]).less (G := b :: G') fun i hi => by rcases List.mem_cons.1 hi with rfl | hi; exact .inr (by simp); exact .inl hi).trans (Step.set _ (by simp)))
  · have ok : putOk v (m : Int) = false := by simp [putOk, h2]
    refine ⟨L1, F, ?_, by simpa [putBits, ok] using h', st'⟩
    have : v / 2 ^ m ≠ 0 := by
      intro h; rcases Nat.div_eq_zero_iff.1 h with h | h
      · have := Nat.two_pow_pos m; omega
      · exact h2 h
    rw [show (((v / 2 ^ m : Nat) : Int) != 0) = true by simp only [bne_iff_ne, ne_eq]; omega]
    simp [putRes, ok]

theorem rbits_ok {k b : Nat} {L : LHeap} {bs : List Bool} {F : List Nat} (h : RW L b bs F) (hk : 1 ≤ k) : f21 k (some ⟨b, 0, none⟩) L = some (.ret (.int .i64 (bs.length : Int)) L) := by
  obtain ⟨k, rfl⟩ : ∃ k', k = k' + 1 := ⟨k - 1, by omega⟩
  obtain ⟨s, G, h1, h2, h4, rfl⟩ := h
  have c0 : cell L ⟨b, 0, none⟩ = some (.slice s.a s.n s.c) := by rw [cell_of h1]; rfl
  have hn := h2.len
  simp only [List.length_map] at hn
  rw [f21_eq]
  simp [c0, hn]

/-- The bits of a byte, as far as they are. -/
def byteBits (bs : List Bool) (q t : Nat) : List Bool := (List.range t).map fun k => bs.getD (8 * q + k) false
theorem byteBits_succ (bs : List Bool) (q t : Nat) : byteBits bs q (t + 1) = byteBits bs q t ++ [bs.getD (8 * q + t) false] := by simp [byteBits, List.range_succ]
@[simp] theorem byteBits_length (bs : List Bool) (q t : Nat) : (byteBits bs q t).length = t := by simp [byteBits]

theorem bitNum_byte (bs : List Bool) (q : Nat) : bitNum (byteBits bs q 8) < 256 ∧ ∀ k, k < 8 → (bitNum (byteBits bs q 8)).testBit (7 - k) = bs.getD (8 * q + k) false := by
  refine ⟨by have := bitNum_lt (byteBits bs q 8); simpa using this, fun k hk => ?_⟩
  have h1 := bitsOf_bitNum (byteBits bs q 8)
  rw [byteBits_length] at h1
  generalize bitNum (byteBits bs q 8) = X at *
  have h2 : (bitsOf X 8)[k]? = (byteBits bs q 8)[k]? := by rw [h1]
  simp only [bitsOf, byteBits, List.getElem?_map, List.getElem?_range hk, Option.map_some, Option.some.injEq] at h2
  rw [← h2]

theorem rbytes_in {k j3 b q : Nat} {bs : List Bool} {l : Sl} {L : LHeap} {F : List Nat} (h : RW L b bs F) (hs : bs.length < 2 ^ 39) (hq : 8 * q < bs.length) : ∀ (r t j : Nat), t + r = 8 → r < j →
    f23_l7 k j3 j (some ⟨b, 0, none⟩) l ((8 * q : Nat) : Int) ((bitNum (byteBits bs q t) : Nat) : Int) (t : Int) L =
      f23_l7 k j3 (j - r) (some ⟨b, 0, none⟩) l ((8 * q : Nat) : Int) ((bitNum (byteBits bs q 8) : Nat) : Int) ((8 : Nat) : Int) L := by
  intro r
  induction r with
  | zero => intro t j ht hj; obtain rfl : t = 8 := (by omega); rfl
  | succ r ih =>
    intro t j ht hj
    obtain ⟨j, rfl⟩ : ∃ j', j = j' + 1 := ⟨j - 1, by omega⟩
    obtain ⟨s, G, g1, g2, g3, rfl⟩ := h
    have c0 : cell L ⟨b, 0, none⟩ = some (.slice s.a s.n s.c) := by rw [cell_of g1]; rfl
    have hn := g2.len
    simp only [List.length_map] at hn
    have hv := bitNum_lt (byteBits bs q t)
    rw [byteBits_length] at hv
    have hp : 2 ^ t ≤ 2 ^ 7 := Nat.pow_le_pow_right (by omega) (by omega)
    have e1 : IntKind.wrap .u8 (((bitNum (byteBits bs q t) : Nat) : Int) * 2) = ((bitNum (byteBits bs q t) * 2 : Nat) : Int) := by rw [wU8] <;> omega
    have e2 : IntKind.wrap .i64 ((t : Int) + 1) = ((t + 1 : Nat) : Int) := by rw [wI64] <;> omega
    have e3 : IntKind.wrap .i64 (((8 * q : Nat) : Int) + (t : Int)) = ((8 * q + t : Nat) : Int) := by rw [wI64] <;> omega
    rw [f23_l7_eq, decide_eq_true (by omega)]
    simp only [lif_true, obind_some, mk_add, Nat.add_zero, c0, Option.bind_some, asSl_slice, e1, e2, e3]
    rw [show j + 1 - (r + 1) = j - r by omega, ← ih (t + 1) j (by omega) (by omega)]
    rw [byteBits_succ, bitNum_snoc]
    by_cases hl : 8 * q + t < bs.length
    · rw [decide_eq_true (by omega)]
      obtain ⟨a, i1, i2⟩ := g2.get (i := 8 * q + t) (v := bb bs[8 * q + t]) (by simp [hl])
      have hx := Bool.toNat_le bs[8 * q + t]
      simp only [lif_true, i1, obind_some, i2, bb, bV, Option.bind_some, asI_int]
      rw [wU8 (by omega) (by omega), List.getD_eq_getElem?_getD, List.getElem?_eq_getElem hl, Option.getD_some]
      rfl
    · rw [decide_eq_false (by omega), List.getD_eq_getElem?_getD, List.getElem?_eq_none (by omega)]
      rfl

theorem rbytes_out {k b : Nat} {bs : List Bool} {F : List Nat} (hs : bs.length < 2 ^ 39) (hk : 20 ≤ k) : ∀ (r q j : Nat) (l : Sl) (vs G : List Nat) (L : LHeap), q + r = (bs.length + 7) / 8 → r < j → RW L b bs F → Apart F G → OS L l (vs.map bV) 5 G →
    vs.length = q → (∀ i, i < vs.length → vs.getD i 0 < 256 ∧ ∀ k, k < 8 → (vs.getD i 0).testBit (7 - k) = bs.getD (8 * i + k) false) →
    ∃ us L' G', f23_l3 k j (some ⟨b, 0, none⟩) l ((8 * q : Nat) : Int) L = some (.ret (.string (strOf us)) L') ∧ Packs us bs ∧ Step G L G' L' := by
  intro r
  induction r with
  | zero =>
    intro q j l vs G L hq hj h hap hl hvl hv
    obtain ⟨j, rfl⟩ : ∃ j', j = j' + 1 := ⟨j - 1, by omega⟩
    obtain ⟨s, G0, g1, g2, g3, rfl⟩ := h
    have c0 : cell L ⟨b, 0, none⟩ = some (.slice s.a s.n s.c) := by rw [cell_of g1]; rfl
    have hn := g2.len
    simp only [List.length_map] at hn
    have hp : Packs vs bs := ⟨by omega, hv⟩
    refine ⟨vs, L, G, ?_, hp, .refl _ _⟩
    rw [f23_l3_eq]
    simp only [obind_some, mk_add, Nat.add_zero, c0, Option.bind_some, asSl_slice, hn]
    rw [decide_eq_false (by omega)]
    simp [hl.bytes hp.small]
  | succ r ih =>
    intro q j l vs G L hq hj h hap hl hvl hv
    obtain ⟨j, rfl⟩ : ∃ j', j = j' + 1 := ⟨j - 1, by omega⟩
    have h' := h
    obtain ⟨s, G0, g1, g2, g3, rfl⟩ := h'
    have c0 : cell L ⟨b, 0, none⟩ = some (.slice s.a s.n s.c) := by rw [cell_of g1]; rfl
    have hn := g2.len
    simp only [List.length_map] at hn
    obtain ⟨k', hk'⟩ : ∃ k', k - 8 = k' + 1 := ⟨k - 9, by omega⟩
    have hin := rbytes_in (k := k) (j3 := j) (l := l) h hs (show 8 * q < bs.length by omega) 8 0 k (by omega) (by omega)
    have hz : ((bitNum (byteBits bs q 0) : Nat) : Int) = 0 := rfl
    rw [hz, hk', f23_l7_eq] at hin
    rw [f23_l3_eq]
    simp only [obind_some, mk_add, Nat.add_zero, c0, Option.bind_some, asSl_slice, hn]
    rw [decide_eq_true (by omega)]
    simp only [lif_true]
    rw [show ((0 : Nat) : Int) = 0 from rfl] at hin
    rw [hin, decide_eq_false (by omega)]
    have hby := bitNum_byte bs q
    obtain ⟨s', L', G', a1, a2, a3⟩ := (hl.mono (L' := L ++ [.cells [.int .u8 ((bitNum (byteBits bs q 8) : Nat) : Int)] 5 false 0]) fun i hi => get_push (hl.within i hi)).app [bV (bitNum (byteBits bs q 8))] 1 (by simp; omega) (by simp; omega)
    have a1 : app (L ++ [.cells [.int .u8 ((bitNum (byteBits bs q 8) : Nat) : Int)] 5 false 0]) 5 1 1 l 1 [.int .u8 ((bitNum (byteBits bs q 8) : Nat) : Int)] = some (s', L') := a1
    simp only [lif_false, size5, bytes5, src_new, obind_some, a1]
    rw [show IntKind.wrap .i64 (((8 * q : Nat) : Int) + 8) = ((8 * (q + 1) : Nat) : Int) by rw [wI64] <;> omega]
    have st : Step G L G' L' := (Step.push G L _).trans a3
    obtain ⟨us, L2, G2, r1, r2, r3⟩ := ih (q + 1) j s' (vs ++ [bitNum (byteBits bs q 8)]) G' L' (by omega) (by omega) (h.mono (st.others h.within hap.symm)) (st.apart h.within hap.symm).symm (by simpa using a2) (by simp [hvl]) (fun i hi => by
      simp only [List.length_append, List.length_singleton] at hi
      by_cases hi' : i < vs.length
      · rw [show (vs ++ [bitNum (byteBits bs q 8)]).getD i 0 = vs.getD i 0 by simp [List.getD_eq_getElem?_getD, List.getElem?_append_left hi']]
        exact hv i hi'
      · obtain rfl : i = vs.length := by omega
        rw [show (vs ++ [bitNum (byteBits bs q 8)]).getD vs.length 0 = bitNum (byteBits bs q 8) by simp]
        rw [hvl]; exact hby)
    exact ⟨us, L2, G2, r1, r2, st.trans r3⟩

theorem rbytes_ok {k b : Nat} {L : LHeap} {bs : List Bool} {F : List Nat} (h : RW L b bs F) (hs : bs.length < 2 ^ 39) (hk : bs.length + 30 ≤ k) :
    ∃ vs L', Packs vs bs ∧ f23 k (some ⟨b, 0, none⟩) L = some (.ret (.string (strOf vs)) L') ∧ Step [] L [] L' := by
  obtain ⟨k, rfl⟩ : ∃ k', k = k' + 1 := ⟨k - 1, by omega⟩
  obtain ⟨vs, L', G', r1, r2, r3⟩ := rbytes_out (k := k) hs (by omega) ((bs.length + 7) / 8) 0 k ⟨none, 0, 0⟩ [] [] L (by omega) (by omega) h (fun i _ hi => by simp at hi) (OS.nil _ _) rfl (fun i hi => by simp at hi)
  exact ⟨vs, L', r2, by rw [f23_eq]; exact r1, r3.less fun i hi => .inr hi⟩

end Go.Proofs.Ytlcchghlhfamjaa.X

/- Lengths and codes: what the printed forms of Ints, count, May, Fill, firsts and Codes do, the program's and the reference's. -/
import Derived.Test.YtlcchghlhfamjaaRlmRead
import Derived.Test.YtlcchghlhfamjaaRlmCodes
import Derived.Test.YtlcchghlhfamjaaBitsLaw
import Derived.Test.YtlcchghlhfamjaaFH
set_option linter.unusedVariables false
namespace Go.Proofs.Ytlcchghlhfamjaa.X
open Go Go.Rlm

theorem ints_loop {k : Nat} {l m : Sl} {xs ys : List Int} {A B : List Nat} {L : LHeap} (hl : Rd L l (xs.map iV) A) (hm : Rd L m (ys.map iV) B) (hs : xs.length < 2 ^ 60) (he : xs.length = ys.length) :
    ∀ (z i j : Nat), i + z = xs.length → z < j → f36_l4 k j l m i L = some (.ret (.bool (decide (xs.drop i = ys.drop i))) L) := by
  have hn := hl.len
  simp only [List.length_map] at hn
  intro z
  induction z with
  | zero =>
    intro i j hi hj
    obtain ⟨j, rfl⟩ : ∃ j', j = j' + 1 := ⟨j - 1, by omega⟩
    rw [f36_l4_eq, decide_eq_false (by omega), List.drop_eq_nil_of_le (by omega), List.drop_eq_nil_of_le (by omega)]
    rfl
  | succ z ih =>
    intro i j hi hj
    obtain ⟨j, rfl⟩ : ∃ j', j = j' + 1 := ⟨j - 1, by omega⟩
    obtain ⟨a, a1, a2⟩ := hl.here (i := i) (v := iV xs[i]) (by simp [show i < xs.length by omega])
    obtain ⟨b, b1, b2⟩ := hm.here (i := i) (v := iV ys[i]) (by simp [show i < ys.length by omega])
    rw [f36_l4_eq, decide_eq_true (by omega)]
    simp only [lif_true, a1, a2, b1, b2, iV, obind_some, Option.bind_some, asI_int]
    rw [wI64 (by omega) (by omega), List.drop_eq_getElem_cons (show i < xs.length by omega), List.drop_eq_getElem_cons (show i < ys.length by omega)]
    by_cases hxy : xs[i] = ys[i]
    · rw [hxy]
      simp only [bne_self_eq_false, lif_false, List.cons.injEq, true_and]
      exact ih (i + 1) j (by omega) (by omega)
    · rw [show (xs[i] != ys[i]) = true by simpa using hxy, decide_eq_false (fun h => hxy (List.cons.inj h).1)]
      rfl

theorem ints_ok {k : Nat} {l m : Sl} {xs ys : List Int} {A B : List Nat} {L : LHeap} (hl : Rd L l (xs.map iV) A) (hm : Rd L m (ys.map iV) B) (hs : xs.length < 2 ^ 60) (hk : xs.length + 5 ≤ k) :
    f36 k l m L = some (.ret (.bool (decide (xs = ys))) L) := by
  obtain ⟨k, rfl⟩ : ∃ k', k = k' + 1 := ⟨k - 1, by omega⟩
  have hn := hl.len
  have hn2 := hm.len
  simp only [List.length_map] at hn hn2
  rw [f36_eq]
  by_cases he : xs.length = ys.length
  · rw [show ((l.n : Int) != (m.n : Int)) = false by rw [hn, hn2, he]; simp]
    simpa using ints_loop (k := k) hl hm hs he xs.length 0 k (by omega) (by omega)
  · rw [show ((l.n : Int) != (m.n : Int)) = true by simp only [bne_iff_ne, ne_eq]; omega, decide_eq_false (fun h => he (by rw [h]))]
    rfl

/-! ### Arrays -/

theorem cellsAt_all {L : LHeap} {b n : Nat} {cs : List Value} {e : TypeId} {ro : Bool} {sp : Nat} (h : L[b]? = some (.cells cs e ro sp)) (hn : cs.length = n) : cellsAt L ⟨b, 0, none⟩ n = some cs := by
  simp only [cellsAt, h, Nat.zero_add]
  rw [Nat.ble_eq_true_of_le (by omega), cond_true, List.drop_zero, List.take_of_length_le (by omega)]
theorem stores_all {L : LHeap} {b : Nat} {cs news : List Value} {e : TypeId} {sp : Nat} (h : L[b]? = some (.cells cs e false sp)) (hn : news.length = cs.length) : stores L ⟨b, 0, none⟩ news = some (L.set b (.cells news e false sp)) := by
  rw [stores_of h (by omega)]
  have := setAll_append [] [] news cs hn.symm
  simp only [List.nil_append, List.append_nil, List.length_nil] at this
  rw [this]
theorem set_same {L : LHeap} {b : Nat} {x : LBlk} (h : L[b]? = some x) : L.set b x = L := by
  apply List.ext_getElem?
  intro i
  by_cases hi : b = i
  · subst hi; rw [get_set_self h, h]
  · rw [get_set_ne hi]

/-! ### How many of each length -/

def cntCells (zs : List Int) : List Value := (List.range 16).map fun n => iV (cnt zs n)
@[simp] theorem cntCells_length (zs : List Int) : (cntCells zs).length = 16 := by simp [cntCells]
theorem cntCells_get (zs : List Int) {n : Nat} (h : n < 16) : (cntCells zs)[n]? = some (iV (cnt zs n)) := by simp [cntCells, h]
theorem cntCells_set (zs : List Int) {z : Int} (h0 : 0 ≤ z) (h : z ≤ 15) : (cntCells zs).set z.toNat (iV ((cnt zs z.toNat : Int) + 1)) = cntCells (zs ++ [z]) := by
  apply List.ext_getElem?
  intro i
  by_cases hi : i < 16
  · rw [cntCells_get _ hi, cnt_snoc]
    by_cases hz : z.toNat = i
    · subst hz
      rw [List.getElem?_set_self (by simp; omega), if_pos (by omega)]
      simp [iV]
    · rw [List.getElem?_set_ne hz, cntCells_get _ hi, if_neg (by omega)]
      rfl
  · rw [List.getElem?_eq_none (by simp; omega), List.getElem?_eq_none (by simp; omega)]

theorem okLen_false {zs : List Int} {z : Int} (hz : z ∈ zs) (h : ¬ (0 ≤ z ∧ z ≤ 15)) : okLen zs = false := by
  cases hk : okLen zs with
  | false => rfl
  | true => exact absurd (okLen_mem hk hz) h

theorem count_loop {k r : Nat} {l : Sl} {zs : List Int} {A : List Nat} (hs : zs.length < 2 ^ 60) (hrA : r ∉ A) (hn : l.n = zs.length) :
    ∀ (m i j : Nat) (L : LHeap), i + m = zs.length → m < j → L[r]? = some (.cells (cntCells (zs.take i)) 84 false 0) → (∀ z ∈ zs.take i, 0 ≤ z ∧ z ≤ 15) → Rd L l (zs.map iV) A →
      ∃ L' cs, f55_l2 k j r l (l.n : Int) i L = some (.ret (.tuple #[.agg (List.toArray cs), .bool (okLen zs)]) L') ∧ cs.length = 16 ∧ (okLen zs = true → cs = cntCells zs) ∧ Step [r] L [] L' := by
  intro m
  induction m with
  | zero =>
    intro i j L hi hj hL hok hl
    obtain ⟨j, rfl⟩ : ∃ j', j = j' + 1 := ⟨j - 1, by omega⟩
    rw [List.take_of_length_le (by omega)] at hL hok
    have hz : okLen zs = true := by
      simp only [okLen, List.all_eq_true]
      intro z hz
      have := hok z hz
      simpa using this
    refine ⟨L, cntCells zs, ?_, by simp, fun _ => rfl, (Step.refl [r] L).less fun i hi => .inr (by simp at hi)⟩
    rw [f55_l2_eq, decide_eq_false (by omega)]
    simp only [lif_false, cellsAt_all hL (cntCells_length zs), obind_some, cntCells_length, Nat.beq_refl, when_true, stores_all hL rfl]
    rw [set_same hL]
    simp only [cellsAt_all hL (cntCells_length zs), obind_some, hz]
  | succ m ih =>
    intro i j L hi hj hL hok hl
    obtain ⟨j, rfl⟩ : ∃ j', j = j' + 1 := ⟨j - 1, by omega⟩
    have hiz : i < zs.length := by omega
    obtain ⟨a, a1, a2⟩ := hl.here (i := i) (v := iV zs[i]) (by simp [hiz])
    have fail : ¬ (0 ≤ zs[i] ∧ zs[i] ≤ 15) → okLen zs = false := okLen_false (List.getElem_mem hiz)
    rw [f55_l2_eq, decide_eq_true (by omega)]
    simp only [lif_true, a1, a2, iV, obind_some, Option.bind_some, asI_int]
    by_cases h0 : zs[i] < 0
    · refine ⟨L, cntCells (zs.take i), ?_, by simp, fun h => (by rw [fail (by omega)] at h; cases h), (Step.refl [r] L).less fun i hi => .inr (by simp at hi)⟩
      rw [decide_eq_true h0, fail (by omega)]
      simp only [lif_true, cellsAt_all hL (cntCells_length _), obind_some, cntCells_length, Nat.beq_refl, when_true, stores_all hL rfl]
      rw [set_same hL]
      simp only [cellsAt_all hL (cntCells_length _), obind_some]
    by_cases h1 : zs[i] > 15
    · refine ⟨L, cntCells (zs.take i), ?_, by simp, fun h => (by rw [fail (by omega)] at h; cases h), (Step.refl [r] L).less fun i hi => .inr (by simp at hi)⟩
      rw [decide_eq_false h0, decide_eq_true h1, fail (by omega)]
      simp only [lif_true, lif_false, cellsAt_all hL (cntCells_length _), obind_some, cntCells_length, Nat.beq_refl, when_true, stores_all hL rfl]
      rw [set_same hL]
      simp only [cellsAt_all hL (cntCells_length _), obind_some]
    have hn1 : zs[i].toNat < 16 := by omega
    have hcl := cnt_le (zs.take i) zs[i].toNat
    simp only [List.length_take] at hcl
    have c0 : cell L ⟨r, 0 + zs[i].toNat * 1, none⟩ = some (.int .i64 (cnt (zs.take i) zs[i].toNat : Int)) := by
      rw [cell_of hL, Nat.zero_add, Nat.mul_one, cntCells_get _ hn1]; rfl
    rw [decide_eq_false h0, decide_eq_false h1, decide_eq_true (show 0 ≤ zs[i] by omega), decide_eq_true (show zs[i] < 16 by omega)]
    simp only [lif_false, when_true, mk_add, c0, Option.bind_some, asI_int, obind_some]
    rw [wI64 (n := (cnt (zs.take i) zs[i].toNat : Int) + 1) (by omega) (by omega), wI64 (n := (i : Int) + 1) (by omega) (by omega), stores_of hL (by simp; omega)]
    have hset : setAll (cntCells (zs.take i)) (0 + zs[i].toNat * 1) [Value.int .i64 ((cnt (zs.take i) zs[i].toNat : Int) + 1)] = cntCells (zs.take (i + 1)) := by
      rw [take_succ_int hiz, ← cntCells_set _ (by omega) (by omega), Nat.zero_add, Nat.mul_one]; rfl
    rw [hset]
    obtain ⟨L', cs, r1, r2, r3, r4⟩ := ih (i + 1) j (L.set r (.cells (cntCells (zs.take (i + 1))) 84 false 0)) (by omega) (by omega) (get_set_self hL)
      (fun z hz => by rw [take_succ_int hiz] at hz; rcases List.mem_append.1 hz with hz | hz; exact hok z hz; simp at hz; subst hz; omega)
      (hl.mono fun x hx => get_set_ne (fun e => hrA (e ▸ hx)))
    exact ⟨L', cs, r1, r2, r3, (Step.set _ (by simp)).trans r4⟩

theorem count_ok {k : Nat} {l : Sl} {zs : List Int} {A : List Nat} {L : LHeap} (hl : Rd L l (zs.map iV) A) (hs : zs.length < 2 ^ 60) (hk : zs.length + 5 ≤ k) :
    ∃ L' cs, f55 k l L = some (.ret (.tuple #[.agg (List.toArray cs), .bool (okLen zs)]) L') ∧ cs.length = 16 ∧ (okLen zs = true → cs = cntCells zs) ∧ Step [] L [] L' := by
  obtain ⟨k, rfl⟩ : ∃ k', k = k' + 1 := ⟨k - 1, by omega⟩
  have hn := hl.len
  simp only [List.length_map] at hn
  rw [f55_eq]
  generalize hX : LBlk.cells _ 84 false 0 = X
  have hX' : X = .cells (cntCells ([].take 0)) 84 false 0 := by rw [← hX]; rfl
  obtain ⟨L', cs, r1, r2, r3, r4⟩ := count_loop (k := k) (r := L.length) hs (fun h => by have := hl.within _ h; omega) hn zs.length 0 k (L ++ [X]) (by omega) (by omega) (by rw [get_new, hX']; rfl) (fun z hz => by simp at hz) (hl.mono fun x hx => get_push (hl.within x hx))
  exact ⟨L', cs, r1, r2, r3, (Step.new [] L X).trans r4⟩

/-! ### May they be a code's? -/

theorem may_loop {k r : Nat} {zs : List Int} {L : LHeap} (hok : okLen zs = true) (h512 : zs.length ≤ 512) (hL : L[r]? = some (.cells (cntCells zs) 84 false 0)) :
    ∀ (m n j : Nat), n + m = 15 → m < j → f37_l6 k j r (fillTo zs n : Int) (usedTo zs n : Int) ((n + 1 : Nat) : Int) L = some (.ret (.bool (may zs)) L) := by
  intro m
  induction m with
  | zero =>
    intro n j hn hj
    obtain ⟨j, rfl⟩ : ∃ j', j = j' + 1 := ⟨j - 1, by omega⟩
    obtain rfl : n = 15 := by omega
    rw [f37_l6_eq, decide_eq_false (by omega)]
    simp only [lif_false, may, hok, decide_eq_true h512, Bool.true_and]
    generalize fillTo zs 15 = x
    generalize usedTo zs 15 = y
    by_cases h0 : x = 0
    · subst h0; rfl
    rw [show ((x : Int) == 0) = false by simpa using h0, decide_eq_false h0]
    by_cases h1 : x = 32768
    · subst h1; rfl
    rw [show ((x : Int) == 32768) = false by simp; omega, decide_eq_false h1]
    by_cases h2 : y = 1
    · subst h2
      simp only [lif_false, Bool.false_or, decide_true, Bool.true_and]
      rw [show (((1 : Nat) : Int) == 1) = true from rfl, lif_true]
      by_cases h3 : x = 16384
      · subst h3; rfl
      · rw [decide_eq_false h3, show ((x : Int) == 16384) = false by simp; omega]
    · rw [show ((y : Int) == 1) = false by simp; omega, decide_eq_false h2]
      rfl
  | succ m ih =>
    intro n j hn hj
    obtain ⟨j, rfl⟩ : ∃ j', j = j' + 1 := ⟨j - 1, by omega⟩
    have c0 : cell L ⟨r, 0 + (n + 1) * 1, none⟩ = some (.int .i64 (cnt zs (n + 1) : Int)) := by
      rw [cell_of hL, Nat.zero_add, Nat.mul_one, cntCells_get _ (by omega)]; rfl
    have h1 := cnt_le zs (n + 1)
    have h2 := fillTo_le hok n (by omega)
    have h3 := usedTo_le hok n (by omega)
    have hp : 2 ^ (15 - (n + 1)) ≤ 2 ^ 14 := Nat.pow_le_pow_right (by omega) (by omega)
    have hm : cnt zs (n + 1) * 2 ^ (15 - (n + 1)) ≤ 512 * 2 ^ 14 := Nat.mul_le_mul (by omega) hp
    have e1 : IntKind.wrap .i64 (15 - ((n + 1 : Nat) : Int)) = ((15 - (n + 1) : Nat) : Int) := by rw [wI64] <;> omega
    have e2 : (cnt zs (n + 1) : Int) * 2 ^ (15 - (n + 1)) = ((cnt zs (n + 1) * 2 ^ (15 - (n + 1)) : Nat) : Int) := by push_cast; rfl
    rw [f37_l6_eq, decide_eq_true (show ((n + 1 : Nat) : Int) < 16 by omega), decide_eq_true (show (0 : Int) ≤ ((n + 1 : Nat) : Int) by omega)]
    simp only [lif_true, when_true, Int.toNat_natCast, mk_add, c0, Option.bind_some, asI_int, obind_some, e1, ndec (Int.natCast_nonneg _)]
    rw [show min (15 - (n + 1)) 64 = 15 - (n + 1) by omega, e2]
    generalize hX : cnt zs (n + 1) * 2 ^ (15 - (n + 1)) = X at *
    rw [wI64 (n := (X : Int)) (by omega) (by omega), wI64 (n := (fillTo zs n : Int) + (X : Int)) (by omega) (by omega), wI64 (n := (usedTo zs n : Int) + (cnt zs (n + 1) : Int)) (by omega) (by omega), wI64 (n := ((n + 1 : Nat) : Int) + 1) (by omega) (by omega)]
    have := ih (n + 1) j (by omega) (by omega)
    rw [show fillTo zs (n + 1) = fillTo zs n + X by rw [← hX]; rfl, show usedTo zs (n + 1) = usedTo zs n + cnt zs (n + 1) from rfl] at this
    exact this

theorem may_false_of {zs : List Int} (h : okLen zs = false ∨ 512 < zs.length) : may zs = false := by
  rcases h with h | h
  · simp [may, h]
  · simp [may, show ¬ zs.length ≤ 512 by omega]

theorem may_okay {k : Nat} {l : Sl} {zs : List Int} {A : List Nat} {L : LHeap} (hl : Rd L l (zs.map iV) A) (hs : zs.length < 2 ^ 60) (hk : zs.length + 30 ≤ k) :
    ∃ L', f37 k l L = some (.ret (.bool (may zs)) L') ∧ Step [] L [] L' := by
  obtain ⟨k, rfl⟩ : ∃ k', k = k' + 1 := ⟨k - 1, by omega⟩
  have hn := hl.len
  simp only [List.length_map] at hn
  obtain ⟨L1, cs, a1, a2, a3, a4⟩ := count_ok (k := k) hl hs (by omega)
  rw [f37_eq]
  simp only [a1, lbind_ret, tupL_tuple, uncons_cons, nilL_nil, asAgg_agg, asB_bool, obind_some, a2, Nat.beq_refl, when_true]
  generalize hX : LBlk.cells _ 84 false 0 = X
  have hX' : X = .cells (cntCells []) 84 false 0 := by rw [← hX]; rfl
  have hnew : (L1 ++ [X])[L1.length]? = some (.cells (cntCells []) 84 false 0) := by rw [get_new, hX']
  rw [stores_all hnew (by simp [a2])]
  have st : Step [] L [] ((L1 ++ [X]).set L1.length (.cells cs 84 false 0)) := a4.trans (((Step.new [] L1 X).trans (Step.set _ (by simp))).less fun i hi => by simp at hi)
  refine ⟨_, ?_, st⟩
  simp only [obind_some]
  cases hok : okLen zs with
  | false => rw [may_false_of (.inl hok)]; rfl
  | true =>
    simp only [Bool.not_true, lif_false]
    by_cases h512 : 512 < zs.length
    · rw [decide_eq_true (by omega), may_false_of (.inr h512)]; rfl
    · rw [decide_eq_false (by omega), a3 hok]
      exact may_loop hok (by omega) (get_set_self hnew) 15 0 k (by omega) (by omega)

/-! ### The reference's -/

theorem fillE_snoc (a : List Int) (z : Int) : fillE (a ++ [z]) = fillE a + (if 0 < z then 2 ^ (15 - z.toNat) else 0) := by simp [fillE]
theorem usedE_snoc (a : List Int) (z : Int) : usedE (a ++ [z]) = usedE a + (if 0 < z then 1 else 0) := by simp [usedE]

theorem fill_loop {k : Nat} {l : Sl} {zs : List Int} {A : List Nat} {L : LHeap} (hl : Rd L l (zs.map iV) A) (hs : zs.length < 2 ^ 40) :
    ∀ (m i j : Nat), i + m = zs.length → m < j → (∀ z ∈ zs.take i, 0 ≤ z ∧ z ≤ 15) →
      f38_l3 k j l (fillE (zs.take i) : Int) (usedE (zs.take i) : Int) i L = some (.ret (.tuple #[.int .i64 (if okLen zs then (fillE zs : Int) else -1), .int .i64 (if okLen zs then (usedE zs : Int) else 0)]) L) := by
  have hn := hl.len
  simp only [List.length_map] at hn
  intro m
  induction m with
  | zero =>
    intro i j hi hj hok
    obtain ⟨j, rfl⟩ : ∃ j', j = j' + 1 := ⟨j - 1, by omega⟩
    rw [List.take_of_length_le (by omega)] at hok ⊢
    have hz : okLen zs = true := by
      simp only [okLen, List.all_eq_true]
      intro z hz
      have := hok z hz
      simpa using this
    rw [f38_l3_eq, decide_eq_false (by omega), hz]
    rfl
  | succ m ih =>
    intro i j hi hj hok
    obtain ⟨j, rfl⟩ : ∃ j', j = j' + 1 := ⟨j - 1, by omega⟩
    have hiz : i < zs.length := by omega
    obtain ⟨a, a1, a2⟩ := hl.here (i := i) (v := iV zs[i]) (by simp [hiz])
    have fail : ¬ (0 ≤ zs[i] ∧ zs[i] ≤ 15) → okLen zs = false := okLen_false (List.getElem_mem hiz)
    rw [f38_l3_eq, decide_eq_true (by omega)]
    simp only [lif_true, a1, a2, iV, obind_some, Option.bind_some, asI_int]
    by_cases h0 : zs[i] < 0
    · rw [decide_eq_true h0, fail (by omega)]; rfl
    by_cases h1 : zs[i] > 15
    · rw [decide_eq_false h0, decide_eq_true h1, fail (by omega)]; rfl
    rw [decide_eq_false h0, decide_eq_false h1, wI64 (n := (i : Int) + 1) (by omega) (by omega)]
    have hok' : ∀ z ∈ zs.take (i + 1), 0 ≤ z ∧ z ≤ 15 := fun z hz => by
      rw [take_succ_int hiz] at hz
      rcases List.mem_append.1 hz with hz | hz
      · exact hok z hz
      · simp at hz; subst hz; omega
    have hi1 := ih (i + 1) j (by omega) (by omega) hok'
    have hf1 := fillE_le (zs.take i)
    have hu1 := usedE_le (zs.take i)
    simp only [List.length_take] at hf1 hu1
    have hfs : fillE (zs.take (i + 1)) = fillE (zs.take i) + (if 0 < zs[i] then 2 ^ (15 - zs[i].toNat) else 0) := by
      rw [take_succ_int hiz, fillE_snoc]
    have hus : usedE (zs.take (i + 1)) = usedE (zs.take i) + (if 0 < zs[i] then 1 else 0) := by
      rw [take_succ_int hiz, usedE_snoc]
    simp only [lif_false]
    by_cases h2 : zs[i] > 0
    · rw [if_pos (by omega)] at hfs hus
      have hp : 2 ^ (15 - zs[i].toNat) ≤ 2 ^ 15 := Nat.pow_le_pow_right (by omega) (by omega)
      have e1 : IntKind.wrap .i64 (15 - zs[i]) = ((15 - zs[i].toNat : Nat) : Int) := by rw [wI64] <;> omega
      have e2 : (1 : Int) * 2 ^ (15 - zs[i].toNat) = ((2 ^ (15 - zs[i].toNat) : Nat) : Int) := by push_cast; omega
      rw [decide_eq_true h2]
      simp only [lif_true, e1, ndec (Int.natCast_nonneg _), when_true, Int.toNat_natCast]
      rw [show min (15 - zs[i].toNat) 64 = 15 - zs[i].toNat by omega, e2]
      generalize 2 ^ (15 - zs[i].toNat) = X at *
      rw [wI64 (n := (X : Int)) (by omega) (by omega), wI64 (n := (fillE (zs.take i) : Int) + (X : Int)) (by omega) (by omega), wI64 (n := (usedE (zs.take i) : Int) + 1) (by omega) (by omega)]
      rw [hfs, hus] at hi1
      exact hi1
    · rw [if_neg (by omega)] at hfs hus
      rw [decide_eq_false h2]
      rw [hfs, hus] at hi1
      exact hi1

theorem fill_ok {k : Nat} {l : Sl} {zs : List Int} {A : List Nat} {L : LHeap} (hl : Rd L l (zs.map iV) A) (hs : zs.length < 2 ^ 40) (hk : zs.length + 5 ≤ k) :
    f38 k l L = some (.ret (.tuple #[.int .i64 (if okLen zs then (fillE zs : Int) else -1), .int .i64 (if okLen zs then (usedE zs : Int) else 0)]) L) := by
  obtain ⟨k, rfl⟩ : ∃ k', k = k' + 1 := ⟨k - 1, by omega⟩
  rw [f38_eq]
  exact fill_loop (k := k) hl hs zs.length 0 k (by omega) (by omega) (fun z hz => by simp at hz)

theorem rmay_ok {k : Nat} {l : Sl} {zs : List Int} {A : List Nat} {L : LHeap} (hl : Rd L l (zs.map iV) A) (hs : zs.length < 2 ^ 40) (hk : zs.length + 30 ≤ k) :
    f43 k l L = some (.ret (.bool (may zs)) L) := by
  obtain ⟨k, rfl⟩ : ∃ k', k = k' + 1 := ⟨k - 1, by omega⟩
  have hn := hl.len
  simp only [List.length_map] at hn
  rw [f43_eq]
  by_cases h512 : 512 < zs.length
  · rw [decide_eq_true (by omega), may_false_of (.inr h512)]; rfl
  rw [decide_eq_false (by omega)]
  simp only [lif_false, fill_ok (k := k) hl hs (by omega), lbind_ret, tupL_tuple, uncons_cons, nilL_nil, asI_int, obind_some]
  cases hok : okLen zs with
  | false => rw [may_false_of (.inl hok)]; rfl
  | true =>
    rw [if_pos rfl, if_pos rfl, fillE_eq hok, usedE_eq hok]
    simp only [may, hok, decide_eq_true (show zs.length ≤ 512 by omega), Bool.true_and]
    generalize fillTo zs 15 = x
    generalize usedTo zs 15 = y
    by_cases h0 : x = 0
    · subst h0; rfl
    rw [show ((x : Int) == 0) = false by simpa using h0, decide_eq_false h0]
    by_cases h1 : x = 32768
    · subst h1
      by_cases h2 : y = 1
      · subst h2; rfl
      · rw [show ((y : Int) == 1) = false by simp; omega]; rfl
    rw [show ((x : Int) == 32768) = false by simp; omega, decide_eq_false h1]
    by_cases h2 : y = 1
    · subst h2
      simp only [lif_false, Bool.false_or, decide_true, Bool.true_and]
      rw [show (((1 : Nat) : Int) == 1) = true from rfl, lif_true]
      by_cases h3 : x = 16384
      · subst h3; rfl
      · rw [decide_eq_false h3, show ((x : Int) == 16384) = false by simp; omega]; rfl
    · rw [show ((y : Int) == 1) = false by simp; omega, decide_eq_false h2]
      rfl

end Go.Proofs.Ytlcchghlhfamjaa.X

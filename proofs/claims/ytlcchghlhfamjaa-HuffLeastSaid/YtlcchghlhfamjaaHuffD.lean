/- Codes: what the printed forms of firsts and Codes do, the program's and the reference's. -/
import Derived.Test.YtlcchghlhfamjaaHuffC
set_option linter.unusedVariables false
namespace Go.Proofs.Ytlcchghlhfamjaa.X
open Go Go.Rlm

theorem bytes32 : Proofs.Try.prog.types[32].bytes = 4 := by kernel_rfl
theorem size3 : Proofs.Try.prog.types[3].size = 1 := by kernel_rfl
theorem bytes3 : Proofs.Try.prog.types[3].bytes = 8 := by kernel_rfl

def fcAll (zs : List Int) : List Value := (List.range 16).map fun q => uV (fc zs q)
def fcCells (zs : List Int) (n : Nat) : List Value := (List.range 16).map fun q => if q < n then uV (fc zs q) else uV 0
@[simp] theorem fcCells_length (zs : List Int) (n : Nat) : (fcCells zs n).length = 16 := by simp [fcCells]
@[simp] theorem fcAll_length (zs : List Int) : (fcAll zs).length = 16 := by simp [fcAll]
theorem fcCells_all (zs : List Int) : fcCells zs 16 = fcAll zs := by
  refine List.map_congr_left fun q hq => ?_
  rw [if_pos (List.mem_range.1 hq)]
theorem fcCells_set (zs : List Int) {n : Nat} (h : n < 16) : (fcCells zs n).set n (uV (fc zs n)) = fcCells zs (n + 1) := by
  apply List.ext_getElem?
  intro i
  by_cases hi : i < 16
  · have e : (fcCells zs (n + 1))[i]? = some (if i < n + 1 then uV (fc zs i) else uV 0) := by simp [fcCells, hi]
    rw [e]
    by_cases hn : n = i
    · subst hn
      rw [List.getElem?_set_self (by simp; omega), if_pos (by omega)]
    · rw [List.getElem?_set_ne hn]
      have e2 : (fcCells zs n)[i]? = some (if i < n then uV (fc zs i) else uV 0) := by simp [fcCells, hi]
      rw [e2]
      by_cases h2 : i < n
      · rw [if_pos h2, if_pos (by omega)]
      · rw [if_neg h2, if_neg (by omega)]
  · rw [List.getElem?_eq_none (by simp; omega), List.getElem?_eq_none (by simp; omega)]

theorem firsts_loop {k r0 r1 : Nat} {zs : List Int} (hf : fillTo zs 15 ≤ 32768) (hne : r0 ≠ r1) : ∀ (m n j : Nat) (L : LHeap), n + 1 + m = 16 → m < j → L[r0]? = some (.cells (cntCells zs) 84 false 0) → L[r1]? = some (.cells (fcCells zs (n + 1)) 87 false 0) →
    ∃ L', f56_l3 k j r0 r1 (fc zs (n + 1) : Int) ((n + 1 : Nat) : Int) L = some (.ret (.agg (List.toArray (fcAll zs))) L') ∧ Step [r1] L [] L' := by
  intro m
  induction m with
  | zero =>
    intro n j L hn hj h0 h1
    obtain ⟨j, rfl⟩ : ∃ j', j = j' + 1 := ⟨j - 1, by omega⟩
    obtain rfl : n = 15 := by omega
    refine ⟨L, ?_, (Step.refl [r1] L).less fun i hi => .inr (by simp at hi)⟩
    rw [f56_l3_eq, decide_eq_false (by omega)]
    have h1 : L[r1]? = some (.cells (fcAll zs) 87 false 0) := by rw [← fcCells_all]; exact h1
    simp only [lif_false, cellsAt_all h1 (fcAll_length _), obind_some, fcAll_length, Nat.beq_refl, when_true, stores_all h1 rfl]
    rw [set_same h1]
    simp only [cellsAt_all h1 (fcAll_length _), obind_some]
  | succ m ih =>
    intro n j L hn hj h0 h1
    obtain ⟨j, rfl⟩ : ∃ j', j = j' + 1 := ⟨j - 1, by omega⟩
    rw [f56_l3_eq, decide_eq_true (show ((n + 1 : Nat) : Int) < 16 by omega), decide_eq_true (show (0 : Int) ≤ ((n + 1 : Nat) : Int) by omega)]
    simp only [lif_true, when_true, Int.toNat_natCast, mk_add]
    rw [stores_of h1 (by simp; omega)]
    have hset : setAll (fcCells zs (n + 1)) (0 + (n + 1) * 1) [Value.int .u32 (fc zs (n + 1) : Int)] = fcCells zs (n + 1 + 1) := by
      rw [← fcCells_set zs (show n + 1 < 16 by omega), Nat.zero_add, Nat.mul_one]; rfl
    rw [hset]
    have h0' : (L.set r1 (.cells (fcCells zs (n + 1 + 1)) 87 false 0))[r0]? = some (.cells (cntCells zs) 84 false 0) := by rw [get_set_ne hne.symm, h0]
    have c0 : cell (L.set r1 (.cells (fcCells zs (n + 1 + 1)) 87 false 0)) ⟨r0, 0 + (n + 1) * 1, none⟩ = some (.int .i64 (cnt zs (n + 1) : Int)) := by
      rw [cell_of h0', Nat.zero_add, Nat.mul_one, cntCells_get _ (by omega)]; rfl
    have hle := fc_cnt_le hf (n + 1) (by omega) (by omega)
    have hp : 2 ^ (n + 1) ≤ 2 ^ 15 := Nat.pow_le_pow_right (by omega) (by omega)
    have e1 : IntKind.wrap .u32 (IntKind.wrap .u32 ((fc zs (n + 1) : Int) + IntKind.wrap .u32 (cnt zs (n + 1) : Int)) * 2) = (fc zs (n + 1 + 1) : Int) := by
      rw [show fc zs (n + 1 + 1) = (fc zs (n + 1) + cnt zs (n + 1)) * 2 from rfl]
      rw [wU32 (n := (cnt zs (n + 1) : Int)) (by omega) (by omega), wU32 (n := (fc zs (n + 1) : Int) + (cnt zs (n + 1) : Int)) (by omega) (by omega), wU32] <;> omega
    simp only [obind_some, c0, Option.bind_some, asI_int, e1]
    rw [wI64 (n := ((n + 1 : Nat) : Int) + 1) (by omega) (by omega)]
    obtain ⟨L', r, st⟩ := ih (n + 1) j _ (by omega) (by omega) h0' (get_set_self h1)
    exact ⟨L', r, (Step.set _ (by simp)).trans st⟩

theorem firsts_ok {k : Nat} {zs : List Int} {L : LHeap} (hf : fillTo zs 15 ≤ 32768) (hk : 30 ≤ k) :
    ∃ L', f56 k (List.toArray (cntCells zs)) L = some (.ret (.agg (List.toArray (fcAll zs))) L') ∧ Step [] L [] L' := by
  obtain ⟨k, rfl⟩ : ∃ k', k = k' + 1 := ⟨k - 1, by omega⟩
  rw [f56_eq]
  generalize hX : LBlk.cells _ 87 false 0 = X
  have hX' : X = .cells (fcCells zs 1) 87 false 0 := by rw [← hX]; rfl
  have hlt : L.length < (L ++ [LBlk.cells (cntCells zs) 84 false 0]).length := by simp
  obtain ⟨L', r, st⟩ := firsts_loop (k := k) (r0 := L.length) (r1 := (L ++ [LBlk.cells (cntCells zs) 84 false 0]).length) hf (by omega) 15 0 k (L ++ [LBlk.cells (cntCells zs) 84 false 0] ++ [X]) (by omega) (by omega)
    (by rw [get_push hlt, get_new]) (by rw [get_new, hX'])
  refine ⟨L', r, ((Step.push [] L _).trans ((Step.new [] _ X).trans st)).less fun i hi => by simp at hi⟩

/-! ### The program's Codes -/

def nextCells (zs : List Int) (i : Nat) : List Value := (List.range 16).map fun q => uV (if q = 0 then 0 else fc zs q + cnt (zs.take i) q)
@[simp] theorem nextCells_length (zs : List Int) (n : Nat) : (nextCells zs n).length = 16 := by simp [nextCells]
theorem nextCells_get (zs : List Int) (i : Nat) {q : Nat} (h : q < 16) (h0 : q ≠ 0) : (nextCells zs i)[q]? = some (uV (fc zs q + cnt (zs.take i) q)) := by simp [nextCells, h, h0]
theorem nextCells_zero (zs : List Int) : nextCells zs 0 = fcAll zs := by
  refine List.map_congr_left fun q hq => ?_
  by_cases h : q = 0
  · subst h; rfl
  · simp [h]
theorem nextCells_same (zs : List Int) {i : Nat} (h : i < zs.length) (hz : zs[i] ≤ 0) : nextCells zs (i + 1) = nextCells zs i := by
  refine List.map_congr_left fun q hq => ?_
  by_cases hq0 : q = 0
  · simp [hq0]
  · rw [if_neg hq0, if_neg hq0, cnt_take_succ h, if_neg (by omega)]; rfl
theorem nextCells_set (zs : List Int) {i : Nat} (h : i < zs.length) (h0 : 0 < zs[i]) (h1 : zs[i] ≤ 15) :
    (nextCells zs i).set zs[i].toNat (uV (fc zs zs[i].toNat + cnt (zs.take i) zs[i].toNat + 1)) = nextCells zs (i + 1) := by
  apply List.ext_getElem?
  intro q
  by_cases hq : q < 16
  · by_cases hz : zs[i].toNat = q
    · rw [hz, List.getElem?_set_self (by simp; omega), nextCells_get _ _ hq (by omega), cnt_take_succ h, if_pos (by omega)]
      rfl
    · rw [List.getElem?_set_ne hz]
      by_cases hq0 : q = 0
      · subst hq0; simp [nextCells]
      · rw [nextCells_get _ _ hq hq0, nextCells_get _ _ hq hq0, cnt_take_succ h, if_neg (by omega)]; rfl
  · rw [List.getElem?_eq_none (by simp; omega), List.getElem?_eq_none (by simp; omega)]

def outCells (zs : List Int) (i : Nat) : List Value := (List.range zs.length).map fun q => if q < i then uV (codeAt zs q) else uV 0
@[simp] theorem outCells_length (zs : List Int) (i : Nat) : (outCells zs i).length = zs.length := by simp [outCells]
theorem outCells_zero (zs : List Int) : outCells zs 0 = List.replicate zs.length (uV 0) := by
  rw [List.eq_replicate_iff]; simp [outCells]
theorem outCells_all (zs : List Int) {i : Nat} (h : zs.length ≤ i) : outCells zs i = (codesOf zs).map uV := by
  rw [codesOf, List.map_map]
  refine List.map_congr_left fun q hq => ?_
  have := List.mem_range.1 hq
  rw [if_pos (by omega)]; rfl
theorem outCells_set (zs : List Int) {i : Nat} (h : i < zs.length) : (outCells zs i).set i (uV (codeAt zs i)) = outCells zs (i + 1) := by
  apply List.ext_getElem?
  intro q
  by_cases hq : q < zs.length
  · have e : ∀ n, (outCells zs n)[q]? = some (if q < n then uV (codeAt zs q) else uV 0) := fun n => by simp [outCells, hq]
    by_cases hi : i = q
    · subst hi
      rw [List.getElem?_set_self (by simpa using hq), e, if_pos (by omega)]
    · rw [List.getElem?_set_ne hi, e, e]
      by_cases h2 : q < i
      · rw [if_pos h2, if_pos (by omega)]
      · rw [if_neg h2, if_neg (by omega)]
  · rw [List.getElem?_eq_none (by simp; omega), List.getElem?_eq_none (by simp; omega)]
theorem outCells_same (zs : List Int) {i : Nat} (h : i < zs.length) (hz : zs[i] ≤ 0) : outCells zs (i + 1) = outCells zs i := by
  refine List.map_congr_left fun q hq => ?_
  by_cases h2 : q < i
  · rw [if_pos h2, if_pos (by omega)]
  · rw [if_neg h2]
    by_cases h3 : q = i
    · subst h3
      rw [if_pos (by omega)]
      unfold codeAt
      rw [List.getD_eq_getElem?_getD, List.getElem?_eq_getElem h, Option.getD_some, if_neg (by omega)]
    · rw [if_neg (by omega)]

theorem codes_loop {k r : Nat} {l s : Sl} {zs : List Int} {A : List Nat} (hm : may zs = true) (hrA : r ∉ A) (hn : l.n = zs.length) :
    ∀ (m i j : Nat) (F : List Nat) (L : LHeap), i + m = zs.length → m < j → L[r]? = some (.cells (nextCells zs i) 87 false 0) → WS L s (outCells zs i) 32 F → r ∉ F → Apart F A → Rd L l (zs.map iV) A →
      ∃ L', f39_l7 k j r s l (l.n : Int) i L = some (.ret (.tuple #[.slice s.a s.n s.c, .int .i64 0]) L') ∧ WS L' s ((codesOf zs).map uV) 32 F ∧ Step (r :: F) L F L' := by
  obtain ⟨hok, h512, hfill⟩ := may_ok hm
  intro m
  induction m with
  | zero =>
    intro i j F L hi hj hr hs hrF hFA hl
    obtain ⟨j, rfl⟩ : ∃ j', j = j' + 1 := ⟨j - 1, by omega⟩
    rw [outCells_all zs (by omega)] at hs
    refine ⟨L, ?_, hs, (Step.refl (r :: F) L).less fun i hi => .inr (by simp [hi])⟩
    rw [f39_l7_eq, decide_eq_false (by omega)]
    rfl
  | succ m ih =>
    intro i j F L hi hj hr hs hrF hFA hl
    obtain ⟨j, rfl⟩ : ∃ j', j = j' + 1 := ⟨j - 1, by omega⟩
    have hiz : i < zs.length := by omega
    obtain ⟨a, a1, a2⟩ := hl.here (i := i) (v := iV zs[i]) (by simp [hiz])
    have hz := okLen_mem hok (List.getElem_mem hiz)
    rw [f39_l7_eq, decide_eq_true (by omega)]
    simp only [lif_true, a1, a2, iV, obind_some, Option.bind_some, asI_int]
    rw [wI64 (n := (i : Int) + 1) (by omega) (by omega)]
    by_cases h0 : zs[i] > 0
    · have hg : zs.getD i 0 = zs[i] := by rw [List.getD_eq_getElem?_getD, List.getElem?_eq_getElem hiz]; rfl
      have hcode : codeAt zs i = fc zs zs[i].toNat + cnt (zs.take i) zs[i].toNat := by unfold codeAt; rw [hg, if_pos (by omega)]
      have hc := codeAt_le hm i
      have c0 : cell L ⟨r, 0 + zs[i].toNat * 1, none⟩ = some (.int .u32 (codeAt zs i : Int)) := by
        rw [cell_of hr, Nat.zero_add, Nat.mul_one, nextCells_get _ _ (by omega) (by omega), hcode]; rfl
      obtain ⟨a', L1, b1, b2, b3, b4⟩ := hs.put (i := i) (by simpa using hiz) (uV (codeAt zs i))
      have hr1 : L1[r]? = some (.cells (nextCells zs i) 87 false 0) := by rw [b4.keep r (get_lt hr) hrF, hr]
      have c1 : cell L1 ⟨r, 0 + zs[i].toNat * 1, none⟩ = some (.int .u32 (codeAt zs i : Int)) := by
        rw [cell_of hr1, Nat.zero_add, Nat.mul_one, nextCells_get _ _ (by omega) (by omega), hcode]; rfl
      rw [decide_eq_true h0, decide_eq_true (show 0 ≤ zs[i] by omega), decide_eq_true (show zs[i] < 16 by omega)]
      have b2 : stores L a' [Value.int .u32 (codeAt zs i : Int)] = some L1 := b2
      simp only [lif_true, when_true, mk_add, c0, Option.bind_some, asI_int, obind_some, b1, b2, c1]
      rw [wU32 (n := (codeAt zs i : Int) + 1) (by omega) (by omega), stores_of hr1 (by simp; omega)]
      have hset : setAll (nextCells zs i) (0 + zs[i].toNat * 1) [Value.int .u32 ((codeAt zs i : Int) + 1)] = nextCells zs (i + 1) := by
        rw [← nextCells_set zs hiz h0 hz.2, Nat.zero_add, Nat.mul_one, ← hcode]; rfl
      rw [hset]
      have hl1 := hl.mono (b4.others hl.within hFA)
      rw [outCells_set zs hiz] at b3
      obtain ⟨L', e1, e2, e3⟩ := ih (i + 1) j F (L1.set r (.cells (nextCells zs (i + 1)) 87 false 0)) (by omega) (by omega) (get_set_self hr1) (b3.mono fun x hx => get_set_ne (fun e => hrF (e ▸ hx))) hrF hFA
        (hl1.mono fun x hx => get_set_ne (fun e => hrA (e ▸ hx)))
      refine ⟨L', e1, e2, ?_⟩
      exact ((b4.mono (fun x hx => by simp [hx])).less (G := r :: F) (fun x hx => .inr hx)).trans ((Step.set _ (by simp)).trans e3)
    · rw [decide_eq_false h0]
      have hs' := hs
      rw [← outCells_same zs hiz (by omega)] at hs'
      exact ih (i + 1) j F L (by omega) (by omega) (by rw [nextCells_same zs hiz (by omega)]; exact hr) hs' hrF hFA hl

def codesRes (zs : List Int) : List Nat := if may zs then codesOf zs else []
def codesErr (zs : List Int) : Int := if may zs then 0 else 4

theorem codes_ok {k : Nat} {l : Sl} {zs : List Int} {A : List Nat} {L : LHeap} (hl : Rd L l (zs.map iV) A) (hs : zs.length < 2 ^ 40) (hk : zs.length + 40 ≤ k) :
    ∃ s L' F, f39 k l L = some (.ret (.tuple #[.slice s.a s.n s.c, .int .i64 (codesErr zs)]) L') ∧ WS L' s ((codesRes zs).map uV) 32 F ∧ Step [] L F L' := by
  obtain ⟨k, rfl⟩ : ∃ k', k = k' + 1 := ⟨k - 1, by omega⟩
  have hn := hl.len
  simp only [List.length_map] at hn
  obtain ⟨L1, a1, a2⟩ := may_okay (k := k) hl (by omega) (by omega)
  rw [f39_eq]
  simp only [a1, lbind_ret, asB_bool, obind_some]
  cases hm : may zs with
  | false => exact ⟨⟨none, 0, 0⟩, L1, [], by rw [codesErr, hm]; rfl, .inl ⟨rfl, by rw [codesRes, hm]; rfl, rfl⟩, a2⟩
  | true =>
    obtain ⟨hok, h512, hfill⟩ := may_ok hm
    have hl1 := hl.mono (a2.others hl.within (none_apart _))
    obtain ⟨L2, cs, b1, b2, b3, b4⟩ := count_ok (k := k) hl1 (by omega) (by omega)
    obtain rfl := b3 hok
    have hl2 := hl1.mono (b4.others hl1.within (none_apart _))
    simp only [Bool.not_true, lif_false, b1, lbind_ret, tupL_tuple, uncons_cons, nilL_nil, asAgg_agg, asB_bool, obind_some, b2, Nat.beq_refl, when_true]
    generalize hX : LBlk.cells _ 84 false 0 = X
    have hX' : X = .cells (cntCells []) 84 false 0 := by rw [← hX]; rfl
    have hnew : (L2 ++ [X])[L2.length]? = some (.cells (cntCells []) 84 false 0) := by rw [get_new, hX']
    rw [stores_all hnew (by simp)]
    have st3 : Step [] L2 [] ((L2 ++ [X]).set L2.length (.cells (cntCells zs) 84 false 0)) := ((Step.new [] L2 X).trans (Step.set _ (by simp))).less fun i hi => by simp at hi
    have hb3 := get_set_self (x := LBlk.cells (cntCells zs) 84 false 0) hnew
    generalize (L2 ++ [X]).set L2.length (.cells (cntCells zs) 84 false 0) = L3 at *
    have hl3 := hl2.mono (st3.others hl2.within (none_apart _))
    simp only [obind_some, cellsAt_all hb3 (cntCells_length zs)]
    obtain ⟨L4, d1, d2⟩ := firsts_ok (k := k) (L := L3) hfill (by omega)
    have hl4 := hl3.mono (d2.others hl3.within (none_apart _))
    simp only [d1, lbind_ret, asAgg_agg, obind_some, fcAll_length, Nat.beq_refl, when_true]
    generalize hY : LBlk.cells _ 87 false 0 = Y
    have hY' : Y = .cells (fcCells zs 0) 87 false 0 := by rw [← hY]; rfl
    have hnew4 : (L4 ++ [Y])[L4.length]? = some (.cells (fcCells zs 0) 87 false 0) := by rw [get_new, hY']
    rw [stores_all hnew4 (by simp)]
    have st5 : Step [] L4 [L4.length] ((L4 ++ [Y]).set L4.length (.cells (fcAll zs) 87 false 0)) := (Step.new [] L4 Y).trans (Step.set _ (by simp))
    have hb5 := get_set_self (x := LBlk.cells (fcAll zs) 87 false 0) hnew4
    generalize (L4 ++ [Y]).set L4.length (.cells (fcAll zs) 87 false 0) = L5 at *
    have hl5 := hl4.mono (st5.others hl4.within (none_apart _))
    have hlt5 := get_lt hb5
    simp only [obind_some, bytes32, hn, room_ok (n := zs.length) (b := 4) (by omega) (by omega), when_true, Int.toNat_natCast]
    have hw := WS.made (L := L5) (n := zs.length) (v := Value.int .u32 0) (e := 32)
    have st6 := Step.new [] L5 (LBlk.cells (List.flatten (List.replicate zs.length [Value.int .u32 0])) 32 false 0)
    generalize L5 ++ [LBlk.cells (List.flatten (List.replicate zs.length [Value.int .u32 0])) 32 false 0] = L6 at *
    have hl6 := hl5.mono (st6.others hl5.within (none_apart _))
    have hb6 : L6[L4.length]? = some (.cells (nextCells zs 0) 87 false 0) := by rw [st6.keep _ hlt5 (by simp), hb5, nextCells_zero]
    have hw' : WS L6 ⟨some ⟨L5.length, 0, none⟩, zs.length, zs.length⟩ (outCells zs 0) 32 [L5.length] := by rw [outCells_zero]; exact hw
    obtain ⟨L7, e1, e2, e3⟩ := codes_loop (k := k) (r := L4.length) hm (fun h => by have := hl4.within _ h; omega) hn zs.length 0 k [L5.length] L6 (by omega) (by omega) hb6 hw' (by simp; omega) (st6.apart hl5.within (none_apart _)) hl6
    rw [hn] at e1
    refine ⟨_, L7, [L5.length], by rw [codesErr, if_pos hm]; exact e1, by rw [codesRes, if_pos hm]; exact e2, ?_⟩
    have p1 : Step [] L [] L4 := a2.trans (b4.trans (st3.trans d2))
    have p2 : Step [] L4 [L4.length, L5.length] L6 := by
      refine ⟨Nat.le_trans st5.len st6.len, fun i hi _ => by rw [st6.keep i (Nat.lt_of_lt_of_le hi st5.len) (by simp), st5.keep i hi (by simp)], fun i hi => ?_⟩
      have := st5.len
      simp at hi
      exact .inr (by omega)
    exact p1.trans (p2.trans e3)

/-! ### The reference's Codes -/

def rOut (zs : List Int) (n i : Nat) : List Value := (List.range zs.length).map fun q => if 0 < zs.getD q 0 ∧ (zs.getD q 0 < (n : Int) ∨ (zs.getD q 0 = (n : Int) ∧ q < i)) then uV (codeAt zs q) else uV 0
@[simp] theorem rOut_length (zs : List Int) (n i : Nat) : (rOut zs n i).length = zs.length := by simp [rOut]
theorem rOut_get (zs : List Int) (n i : Nat) {q : Nat} (h : q < zs.length) : (rOut zs n i)[q]? = some (if 0 < zs.getD q 0 ∧ (zs.getD q 0 < (n : Int) ∨ (zs.getD q 0 = (n : Int) ∧ q < i)) then uV (codeAt zs q) else uV 0) := by simp [rOut, h]
theorem rOut_first (zs : List Int) : rOut zs 1 0 = List.replicate zs.length (uV 0) := by
  rw [List.eq_replicate_iff]
  refine ⟨by simp, fun b hb => ?_⟩
  obtain ⟨q, hq, rfl⟩ := List.mem_map.1 hb
  rw [if_neg (by omega)]
theorem rOut_next (zs : List Int) (n : Nat) : rOut zs n zs.length = rOut zs (n + 1) 0 := by
  refine List.map_congr_left fun q hq => ?_
  have := List.mem_range.1 hq
  by_cases h : 0 < zs.getD q 0 ∧ (zs.getD q 0 < (n : Int) ∨ (zs.getD q 0 = (n : Int) ∧ q < zs.length))
  · rw [if_pos h, if_pos (by omega)]
  · rw [if_neg h, if_neg (by omega)]
theorem rOut_last {zs : List Int} (hok : okLen zs = true) : rOut zs 16 0 = (codesOf zs).map uV := by
  rw [codesOf, List.map_map]
  refine List.map_congr_left fun q hq => ?_
  have hq := List.mem_range.1 hq
  have hd : zs.getD q 0 = zs[q] := by rw [List.getD_eq_getElem?_getD, List.getElem?_eq_getElem hq]; rfl
  have := okLen_mem hok (List.getElem_mem hq)
  by_cases h : 0 < zs[q]
  · rw [if_pos (by rw [hd]; omega)]; rfl
  · rw [if_neg (by rw [hd]; omega)]
    simp only [Function.comp, codeAt]
    rw [hd, if_neg h]
theorem rOut_same (zs : List Int) {n i : Nat} (h : i < zs.length) (hz : zs[i] ≠ (n : Int)) : rOut zs n (i + 1) = rOut zs n i := by
  refine List.map_congr_left fun q hq => ?_
  have hq := List.mem_range.1 hq
  have hd : zs.getD q 0 = zs[q] := by rw [List.getD_eq_getElem?_getD, List.getElem?_eq_getElem hq]; rfl
  rw [hd]
  by_cases hqi : q = i
  · subst hqi
    by_cases h1 : 0 < zs[q] ∧ zs[q] < (n : Int)
    · rw [if_pos (by omega), if_pos (by omega)]
    · rw [if_neg (by omega), if_neg (by omega)]
  · by_cases h1 : 0 < zs[q] ∧ (zs[q] < (n : Int) ∨ (zs[q] = (n : Int) ∧ q < i))
    · rw [if_pos h1, if_pos (by omega)]
    · rw [if_neg h1, if_neg (by omega)]
theorem rOut_set (zs : List Int) {n i : Nat} (hn : 0 < n) (h : i < zs.length) (hz : zs[i] = (n : Int)) : (rOut zs n i).set i (uV (codeAt zs i)) = rOut zs n (i + 1) := by
  apply List.ext_getElem?
  intro q
  by_cases hq : q < zs.length
  · have hd : zs.getD q 0 = zs[q] := by rw [List.getD_eq_getElem?_getD, List.getElem?_eq_getElem hq]; rfl
    rw [rOut_get _ _ _ hq, hd]
    by_cases hi : i = q
    · subst hi
      rw [List.getElem?_set_self (by simpa using hq), if_pos (by omega)]
    · rw [List.getElem?_set_ne hi, rOut_get _ _ _ hq, hd]
      by_cases h1 : 0 < zs[q] ∧ (zs[q] < (n : Int) ∨ (zs[q] = (n : Int) ∧ q < i))
      · rw [if_pos h1, if_pos (by omega)]
      · rw [if_neg h1, if_neg (by omega)]
  · rw [List.getElem?_eq_none (by simp; omega), List.getElem?_eq_none (by simp; omega)]

theorem rcodes_in {k j6 n : Nat} {l s : Sl} {zs : List Int} {A : List Nat} (hm : may zs = true) (hn0 : 0 < n) (hn16 : n < 16) (hn : l.n = zs.length) :
    ∀ (m i j : Nat) (F : List Nat) (L : LHeap), i + m = zs.length → m < j → WS L s (rOut zs n i) 32 F → Apart F A → Rd L l (zs.map iV) A →
      ∃ L', f41_l9 k j6 j l s ((fc zs n + cnt (zs.take i) n : Nat) : Int) n i L = f41_l6 k j6 l s (fc zs (n + 1) : Int) ((n + 1 : Nat) : Int) L' ∧ WS L' s (rOut zs (n + 1) 0) 32 F ∧ Step F L F L' := by
  obtain ⟨hok, h512, hfill⟩ := may_ok hm
  have hle := fc_cnt_le hfill n (by omega) (by omega)
  have hp : 2 ^ n ≤ 2 ^ 15 := Nat.pow_le_pow_right (by omega) (by omega)
  intro m
  induction m with
  | zero =>
    intro i j F L hi hj hs hFA hl
    obtain ⟨j, rfl⟩ : ∃ j', j = j' + 1 := ⟨j - 1, by omega⟩
    obtain rfl : i = zs.length := by omega
    rw [rOut_next] at hs
    refine ⟨L, ?_, hs, .refl _ _⟩
    rw [f41_l9_eq, decide_eq_false (by omega), List.take_length]
    obtain ⟨q, rfl⟩ : ∃ q, n = q + 1 := ⟨n - 1, by omega⟩
    rw [show fc zs (q + 1 + 1) = (fc zs (q + 1) + cnt zs (q + 1)) * 2 from rfl]
    generalize fc zs (q + 1) + cnt zs (q + 1) = y at *
    simp only [lif_false]
    rw [wU32 (n := (y : Int) * 2) (by omega) (by omega), wI64 (n := ((q + 1 : Nat) : Int) + 1) (by omega) (by omega)]
    rfl
  | succ m ih =>
    intro i j F L hi hj hs hFA hl
    obtain ⟨j, rfl⟩ : ∃ j', j = j' + 1 := ⟨j - 1, by omega⟩
    have hiz : i < zs.length := by omega
    obtain ⟨a, a1, a2⟩ := hl.here (i := i) (v := iV zs[i]) (by simp [hiz])
    have htk := cnt_take_succ hiz n
    have htl := cnt_take_le zs (i + 1) n
    rw [f41_l9_eq, decide_eq_true (by omega)]
    simp only [lif_true, a1, a2, iV, obind_some, Option.bind_some, asI_int]
    rw [wI64 (n := (i : Int) + 1) (by omega) (by omega)]
    by_cases hz : zs[i] = (n : Int)
    · rw [if_pos hz] at htk
      have hg : zs.getD i 0 = zs[i] := by rw [List.getD_eq_getElem?_getD, List.getElem?_eq_getElem hiz]; rfl
      have hcode : codeAt zs i = fc zs n + cnt (zs.take i) n := by unfold codeAt; rw [hg, hz, if_pos (by omega), Int.toNat_natCast]
      obtain ⟨a', L1, b1, b2, b3, b4⟩ := hs.put (i := i) (by simpa using hiz) (uV (codeAt zs i))
      rw [rOut_set zs hn0 hiz hz] at b3
      rw [hcode] at b2
      have b2 : stores L a' [Value.int .u32 ((fc zs n + cnt (zs.take i) n : Nat) : Int)] = some L1 := b2
      rw [show (zs[i] == (n : Int)) = true by simpa using hz]
      simp only [lif_true, b1, b2, obind_some]
      rw [wU32 (n := ((fc zs n + cnt (zs.take i) n : Nat) : Int) + 1) (by omega) (by omega)]
      obtain ⟨L', e1, e2, e3⟩ := ih (i + 1) j F L1 (by omega) (by omega) b3 hFA (hl.mono (b4.others hl.within hFA))
      refine ⟨L', ?_, e2, b4.trans e3⟩
      rw [← e1, htk]
      rfl
    · rw [if_neg hz] at htk
      rw [show (zs[i] == (n : Int)) = false by simpa using hz]
      rw [← rOut_same zs hiz hz] at hs
      obtain ⟨L', e1, e2, e3⟩ := ih (i + 1) j F L (by omega) (by omega) hs hFA hl
      refine ⟨L', ?_, e2, e3⟩
      rw [← e1, htk]
      rfl

theorem rcodes_out {k : Nat} {l s : Sl} {zs : List Int} {A : List Nat} (hm : may zs = true) (hn : l.n = zs.length) (hk : zs.length + 5 ≤ k) :
    ∀ (m n j : Nat) (F : List Nat) (L : LHeap), n + m = 15 → m + 1 ≤ j → WS L s (rOut zs (n + 1) 0) 32 F → Apart F A → Rd L l (zs.map iV) A →
      ∃ L', f41_l6 k j l s (fc zs (n + 1) : Int) ((n + 1 : Nat) : Int) L = some (.ret (.tuple #[.slice s.a s.n s.c, .int .i64 0]) L') ∧ WS L' s ((codesOf zs).map uV) 32 F ∧ Step F L F L' := by
  obtain ⟨hok, h512, hfill⟩ := may_ok hm
  intro m
  induction m with
  | zero =>
    intro n j F L hi hj hs hFA hl
    obtain ⟨j, rfl⟩ : ∃ j', j = j' + 1 := ⟨j - 1, by omega⟩
    obtain rfl : n = 15 := by omega
    have hs : WS L s (rOut zs 16 0) 32 F := hs
    rw [rOut_last hok] at hs
    refine ⟨L, ?_, hs, .refl _ _⟩
    rw [f41_l6_eq, decide_eq_false (by omega)]
    rfl
  | succ m ih =>
    intro n j F L hi hj hs hFA hl
    obtain ⟨j, rfl⟩ : ∃ j', j = j' + 1 := ⟨j - 1, by omega⟩
    obtain ⟨L1, a1, a2, a3⟩ := rcodes_in (k := k) (j6 := j) (n := n + 1) hm (by omega) (by omega) hn zs.length 0 k F L (by omega) (by omega) hs hFA hl
    obtain ⟨L2, b1, b2, b3⟩ := ih (n + 1) j F L1 (by omega) (by omega) a2 hFA (hl.mono (a3.others hl.within hFA))
    refine ⟨L2, ?_, b2, a3.trans b3⟩
    rw [f41_l6_eq, decide_eq_true (by omega), ← b1, ← a1]
    rfl

theorem rcodes_ok {k : Nat} {l : Sl} {zs : List Int} {A : List Nat} {L : LHeap} (hl : Rd L l (zs.map iV) A) (hs : zs.length < 2 ^ 40) (hk : zs.length + 40 ≤ k) :
    ∃ s L' F, f41 k l L = some (.ret (.tuple #[.slice s.a s.n s.c, .int .i64 (codesErr zs)]) L') ∧ WS L' s ((codesRes zs).map uV) 32 F ∧ Step [] L F L' := by
  obtain ⟨k, rfl⟩ : ∃ k', k = k' + 1 := ⟨k - 1, by omega⟩
  have hn := hl.len
  simp only [List.length_map] at hn
  rw [f41_eq]
  simp only [rmay_ok (k := k) hl hs (by omega), lbind_ret, asB_bool, obind_some]
  cases hm : may zs with
  | false => exact ⟨⟨none, 0, 0⟩, L, [], by rw [codesErr, hm]; rfl, .inl ⟨rfl, by rw [codesRes, hm]; rfl, rfl⟩, .refl _ _⟩
  | true =>
    obtain ⟨hok, h512, hfill⟩ := may_ok hm
    simp only [Bool.not_true, lif_false, bytes32, hn, room_ok (n := zs.length) (b := 4) (by omega) (by omega), when_true, Int.toNat_natCast]
    have hw := WS.made (L := L) (n := zs.length) (v := Value.int .u32 0) (e := 32)
    have st6 := Step.new [] L (LBlk.cells (List.flatten (List.replicate zs.length [Value.int .u32 0])) 32 false 0)
    generalize L ++ [LBlk.cells (List.flatten (List.replicate zs.length [Value.int .u32 0])) 32 false 0] = L6 at *
    have hw' : WS L6 ⟨some ⟨L.length, 0, none⟩, zs.length, zs.length⟩ (rOut zs 1 0) 32 [L.length] := by rw [rOut_first]; exact hw
    obtain ⟨L7, e1, e2, e3⟩ := rcodes_out (k := k) hm hn (by omega) 15 0 k [L.length] L6 (by omega) (by omega) hw' (st6.apart hl.within (none_apart _)) (hl.mono (st6.others hl.within (none_apart _)))
    exact ⟨_, L7, [L.length], by rw [codesErr, if_pos hm]; exact e1, by rw [codesRes, if_pos hm]; exact e2, st6.trans e3⟩

end Go.Proofs.Ytlcchghlhfamjaa.X

/- The program's Lengths, and 'awake', that each statement asks. -/
import Derived.Test.YtlcchghlhfamjaaRlmHuffB
import Derived.Test.YtlcchghlhfamjaaHuffH
set_option linter.unusedVariables false
namespace Go.Proofs.Ytlcchghlhfamjaa.X
open Go Go.Rlm

def bad (f : Int) : Bool := decide (f < 0) || decide (f > 1073741824)
def fnBad : Value := .func (.func 50) #[] #[]
theorem bad_app (k : Nat) (f : Int) (L : LHeap) : lapp (lcall Proofs.Try.prog T (k + 1)) fnBad [.int .i64 f] L = some (.ret (.bool (bad f)) L) := by
  show f50 (k + 1) f L = _
  rw [f50_eq]
  unfold bad
  by_cases h : f < 0
  · rw [decide_eq_true h]; rfl
  · rw [decide_eq_false h]; rfl

theorem index_loop {k : Nat} {l : Sl} {fs : List Int} {A : List Nat} {L : LHeap} (hl : Rd L l (fs.map iV) A) (hs : fs.length < 2 ^ 60) :
    ∀ (m i j : Nat), i + m = fs.length → m < j → ∃ n : Int, f57_l2 (k + 1) j l fnBad (l.n : Int) (i : Int) L = some (.ret (.int .i64 n) L) ∧ decide (n ≥ 0) = (fs.drop i).any bad := by
  have hn := hl.len
  simp only [List.length_map] at hn
  intro m
  induction m with
  | zero =>
    intro i j hi hj
    obtain ⟨j, rfl⟩ : ∃ j', j = j' + 1 := ⟨j - 1, by omega⟩
    refine ⟨-1, ?_, by rw [List.drop_eq_nil_of_le (by omega)]; rfl⟩
    rw [f57_l2_eq, decide_eq_false (by omega)]
    rfl
  | succ m ih =>
    intro i j hi hj
    obtain ⟨j, rfl⟩ : ∃ j', j = j' + 1 := ⟨j - 1, by omega⟩
    obtain ⟨a, a1, a2⟩ := hl.here (i := i) (v := iV fs[i]) (by simp [show i < fs.length by omega])
    rw [f57_l2_eq, decide_eq_true (by omega), List.drop_eq_getElem_cons (show i < fs.length by omega), List.any_cons]
    simp only [lif_true, a1, a2, iV, obind_some, Option.bind_some, asI_int, bad_app, lbind_ret, asB_bool]
    rw [wI64 (n := (i : Int) + 1) (by omega) (by omega)]
    cases hb : bad fs[i]
    · simpa using ih (i + 1) j (by omega) (by omega)
    · exact ⟨(i : Int), rfl, by simp⟩

theorem contains_ok {k : Nat} {l : Sl} {fs : List Int} {A : List Nat} {L : LHeap} (hl : Rd L l (fs.map iV) A) (hs : fs.length < 2 ^ 60) (hk : fs.length + 10 ≤ k) :
    f49 k l fnBad L = some (.ret (.bool (fs.any bad)) L) := by
  obtain ⟨k, rfl⟩ : ∃ k', k = k' + 3 := ⟨k - 3, by omega⟩
  obtain ⟨n, h1, h2⟩ := index_loop (k := k) hl hs fs.length 0 (k + 1) (by omega) (by omega)
  rw [f49_eq, f57_eq]
  have h1 : f57_l2 (k + 1) (k + 1) l fnBad (l.n : Int) 0 L = some (.ret (.int .i64 n) L) := h1
  simp only [h1, lbind_ret, asI_int, obind_some]
  rw [h2, List.drop_zero]

theorem clone_ok {k : Nat} {l : Sl} {fs : List Int} {A : List Nat} {L : LHeap} (hl : Rd L l (fs.map iV) A) (hs : fs.length ≤ 2 ^ 40) (hk : 1 ≤ k) :
    ∃ s L' F, f51 k l L = some (.ret (.slice s.a s.n s.c) L') ∧ WS L' s (fs.map iV) 3 F ∧ Step [] L F L' := by
  obtain ⟨k, rfl⟩ : ∃ k', k = k' + 1 := ⟨k - 1, by omega⟩
  have hn := hl.len
  rw [f51_eq]
  cases ha : l.a with
  | none =>
    have hv : fs.map iV = [] := by
      obtain ⟨h1, ⟨h2, _⟩ | ⟨c, o, cs, e, ro, sp, h2, _⟩⟩ := hl
      · exact h2
      · rw [ha] at h2; cases h2
    exact ⟨⟨none, 0, 0⟩, L, [], rfl, .inl ⟨rfl, hv, rfl⟩, .refl _ _⟩
  | some a =>
    have hl' := (hl.mono fun i hi => get_push (X := [LBlk.cells [] 3 false 0]) (hl.within i hi)).src
    rw [ha] at hl'
    obtain ⟨s', L', F', c1, c2, c3, c4⟩ := copy_ok (L := L) (vs := fs.map iV) 3 8 (by simp; omega) (by simp; omega)
    rw [← hn] at c1
    refine ⟨s', L', F', ?_, c2, c3⟩
    simp only [Option.isNone_some, lif_false, size3, bytes3, hl', obind_some, c1]

theorem max_loop {k : Nat} {l : Sl} {zs : List Int} {A : List Nat} {L : LHeap} (hl : Rd L l (zs.map iV) A) (hs : zs.length < 2 ^ 60) :
    ∀ (m i j : Nat) (x : Int), i + m = zs.length → m < j → ∃ y : Int, f53_l5 k j l x (i : Int) L = some (.ret (.int .i64 y) L) ∧ (y ≤ 15 ↔ x ≤ 15 ∧ ∀ z ∈ zs.drop i, z ≤ 15) := by
  have hn := hl.len
  simp only [List.length_map] at hn
  intro m
  induction m with
  | zero =>
    intro i j x hi hj
    obtain ⟨j, rfl⟩ : ∃ j', j = j' + 1 := ⟨j - 1, by omega⟩
    refine ⟨x, ?_, by rw [List.drop_eq_nil_of_le (by omega)]; simp⟩
    rw [f53_l5_eq, decide_eq_false (by omega)]
    rfl
  | succ m ih =>
    intro i j x hi hj
    obtain ⟨j, rfl⟩ : ∃ j', j = j' + 1 := ⟨j - 1, by omega⟩
    obtain ⟨a, a1, a2⟩ := hl.here (i := i) (v := iV zs[i]) (by simp [show i < zs.length by omega])
    obtain ⟨y, h1, h2⟩ := ih (i + 1) j (if zs[i] > x then zs[i] else x) (by omega) (by omega)
    refine ⟨y, ?_, ?_⟩
    · rw [f53_l5_eq, decide_eq_true (by omega)]
      simp only [lif_true, a1, a2, iV, obind_some, Option.bind_some, asI_int, if_true]
      rw [wI64 (n := (i : Int) + 1) (by omega) (by omega)]
      exact h1
    · have hd : zs.drop i = zs[i] :: zs.drop (i + 1) := List.drop_eq_getElem_cons (by omega)
      rw [h2, hd]
      simp only [List.mem_cons, forall_eq_or_imp]
      by_cases hgt : zs[i] > x
      · rw [if_pos hgt]
        exact ⟨fun ⟨p, q⟩ => ⟨by omega, p, q⟩, fun ⟨p, q, r⟩ => ⟨q, r⟩⟩
      · rw [if_neg hgt]
        exact ⟨fun ⟨p, q⟩ => ⟨p, by omega, q⟩, fun ⟨p, q, r⟩ => ⟨p, r⟩⟩

theorem max_ok {k : Nat} {l : Sl} {zs : List Int} {A : List Nat} {L : LHeap} (hl : Rd L l (zs.map iV) A) (hs : zs.length < 2 ^ 60) (h0 : 0 < zs.length) (hk : zs.length + 10 ≤ k) :
    ∃ y : Int, f53 k l L = some (.ret (.int .i64 y) L) ∧ decide (y ≤ 15) = fits zs := by
  obtain ⟨k, rfl⟩ : ∃ k', k = k' + 1 := ⟨k - 1, by omega⟩
  have hn := hl.len
  simp only [List.length_map] at hn
  obtain ⟨a, a1, a2⟩ := hl.here (i := 0) (v := iV zs[0]) (by simp [h0])
  obtain ⟨y, h1, h2⟩ := max_loop (k := k) hl hs (zs.length - 1) 1 k zs[0] (by omega) (by omega)
  refine ⟨y, ?_, ?_⟩
  · rw [f53_eq, decide_eq_false (by omega)]
    have a1 : idx l 0 1 = some a := a1
    simp only [lif_false, a1, a2, iV, obind_some, Option.bind_some, asI_int]
    exact h1
  · have hd : zs = zs[0] :: zs.drop 1 := by
      have := List.drop_eq_getElem_cons (l := zs) (i := 0) h0
      simpa using this
    rw [Bool.eq_iff_iff, decide_eq_true_eq, h2, fits_iff]
    constructor
    · rintro ⟨p, q⟩ z hz
      rw [hd] at hz
      rcases List.mem_cons.1 hz with rfl | hz
      · exact p
      · exact q z hz
    · exact fun p => ⟨p _ (List.getElem_mem h0), fun z hz => p z (List.mem_of_mem_drop hz)⟩

theorem halve_loop {k j4 : Nat} {l : Sl} {fs : List Int} (hf : ∀ f ∈ fs, 0 ≤ f ∧ f ≤ 1073741824) (hs : fs.length < 2 ^ 60) :
    ∀ (m i j : Nat) (F : List Nat) (L : LHeap), i + m = fs.length → m < j → WS L l ((halve (fs.take i) ++ fs.drop i).map iV) 3 F →
      ∃ L', f34_l8 k j4 j l (fs.length : Int) (i : Int) L = f34_l4 k j4 l L' ∧ WS L' l ((halve fs).map iV) 3 F ∧ Step F L F L' := by
  intro m
  induction m with
  | zero =>
    intro i j F L hi hj hw
    obtain ⟨j, rfl⟩ : ∃ j', j = j' + 1 := ⟨j - 1, by omega⟩
    rw [List.take_of_length_le (by omega), List.drop_eq_nil_of_le (by omega), List.append_nil] at hw
    refine ⟨L, ?_, hw, .refl _ _⟩
    rw [f34_l8_eq, decide_eq_false (by omega)]
    rfl
  | succ m ih =>
    intro i j F L hi hj hw
    obtain ⟨j, rfl⟩ : ∃ j', j = j' + 1 := ⟨j - 1, by omega⟩
    have hiz : i < fs.length := by omega
    obtain ⟨f1, f2⟩ := hf _ (List.getElem_mem hiz)
    have hlen : (halve (fs.take i)).length = i := by rw [halve_length, List.length_take]; omega
    have hget : ((halve (fs.take i) ++ fs.drop i).map iV)[i]? = some (iV fs[i]) := by
      rw [List.getElem?_map, List.getElem?_append_right (by omega), hlen, Nat.sub_self, List.getElem?_drop, Nat.add_zero, List.getElem?_eq_getElem hiz]; rfl
    obtain ⟨a, a1, a2⟩ := hw.rd.here hget
    obtain ⟨a', L1, b1, b2, b3, b4⟩ := hw.put (i := i) (get_lt hget) (iV ((fs[i] + 1).tdiv 2))
    rw [← List.map_set] at b3
    have hset : (halve (fs.take i) ++ fs.drop i).set i ((fs[i] + 1).tdiv 2) = halve (fs.take (i + 1)) ++ fs.drop (i + 1) := by
      rw [List.set_append_right _ _ (by omega), hlen, Nat.sub_self, List.drop_eq_getElem_cons hiz, List.set_cons_zero, take_succ_int hiz]
      simp only [halve, List.map_append, List.map_cons, List.map_nil, List.append_assoc, List.singleton_append]
    rw [hset] at b3
    obtain ⟨L2, c1, c2, c3⟩ := ih (i + 1) j F L1 (by omega) (by omega) b3
    refine ⟨L2, ?_, c2, b4.trans c3⟩
    rw [← c1, f34_l8_eq, decide_eq_true (by omega)]
    simp only [lif_true, a1, a2, iV, obind_some, Option.bind_some, asI_int]
    have e1 : IntKind.wrap .i64 (Int.tdiv (IntKind.wrap .i64 (fs[i] + 1)) 2) = (fs[i] + 1).tdiv 2 := by
      rw [wI64 (n := fs[i] + 1) (by omega) (by omega), Int.tdiv_eq_ediv_of_nonneg (by omega), wI64] <;> omega
    rw [e1, wI64 (n := (i : Int) + 1) (by omega) (by omega)]
    have b2 : stores L a' [Value.int .i64 ((fs[i] + 1).tdiv 2)] = some L1 := b2
    obtain rfl : a = a' := Option.some.inj (a1.symm.trans b1)
    simp only [b2, obind_some]
    rfl

theorem lengths_loop {k : Nat} {l : Sl} : ∀ (n j : Nat) (fs : List Int) (F : List Nat) (L : LHeap), n < j → n ≤ 30 → (∀ f ∈ fs, 0 ≤ f ∧ f ≤ 2 ^ n) → fs.length ≤ 512 → 2 * fs.length + 70 ≤ k → WS L l (fs.map iV) 3 F →
    ∃ s L' F', f34_l4 k j l L = some (.ret (.tuple #[.slice s.a s.n s.c, .int .i64 0]) L') ∧ WS L' s ((lensLoop n fs).map iV) 3 F' ∧ Step F L F' L' := by
  intro n
  have main : ∀ (n j : Nat) (fs : List Int) (F : List Nat) (L : LHeap), n ≤ 30 → (∀ f ∈ fs, 0 ≤ f ∧ f ≤ 2 ^ n) → fs.length ≤ 512 → 2 * fs.length + 70 ≤ k → WS L l (fs.map iV) 3 F →
      (fits (lensOf fs) = true → ∃ s L' F', f34_l4 k (j + 1) l L = some (.ret (.tuple #[.slice s.a s.n s.c, .int .i64 0]) L') ∧ WS L' s ((lensOf fs).map iV) 3 F' ∧ Step F L F' L') ∧
      (fits (lensOf fs) = false → ∃ L', f34_l4 k (j + 1) l L = f34_l4 k j l L' ∧ WS L' l ((halve fs).map iV) 3 F ∧ Step F L F L') := by
    intro n j fs F L hn30 hf hl hk hw
    have hln := hw.rd.len
    simp only [List.length_map] at hln
    have hb : (2 : Int) ^ n ≤ 2 ^ 30 := by
      have : (2 : Nat) ^ n ≤ 2 ^ 30 := Nat.pow_le_pow_right (by omega) hn30
      exact_mod_cast this
    have hf' : ∀ f ∈ fs, 0 ≤ f ∧ f ≤ 1073741824 := fun f hff => by have := hf f hff; omega
    obtain ⟨s, L1, F1, a1, a2, a3⟩ := once_ok (k := k) hw.rd (fun f hff => (hf' f hff).2) (by omega) (by omega)
    have hsn := a2.rd.len
    simp only [List.length_map, lensOf_length] at hsn
    have hw1 : WS L1 l (fs.map iV) 3 F := hw.mono (a3.others hw.within (none_apart _))
    have st : Step F L F1 L1 := a3.mono fun i hi => by simp at hi
    rw [f34_l4_eq]
    simp only [a1, lbind_ret, asSl_slice, obind_some]
    by_cases h0 : fs.length = 0
    · have hnil : fs = [] := List.eq_nil_of_length_eq_zero h0
      refine ⟨fun _ => ⟨s, L1, F1, ?_, a2, st⟩, fun h => ?_⟩
      · rw [show ((s.n : Int) == 0) = true by simp; omega]; rfl
      · subst hnil
        exact absurd h (by decide)
    · rw [show ((s.n : Int) == 0) = false by simp; omega]
      obtain ⟨y, b1, b2⟩ := max_ok (k := k) a2.rd (by rw [lensOf_length]; omega) (by rw [lensOf_length]; omega) (by rw [lensOf_length]; omega)
      simp only [lif_false, b1, lbind_ret, asI_int, obind_some, b2]
      refine ⟨fun h => ⟨s, L1, F1, by rw [h]; rfl, a2, st⟩, fun h => ?_⟩
      rw [h]
      obtain ⟨L2, c1, c2, c3⟩ := halve_loop (k := k) (j4 := j) (l := l) hf' (by omega) fs.length 0 k F L1 (by omega) (by omega) (by simpa [halve] using hw1)
      refine ⟨L2, ?_, c2, ?_⟩
      · rw [← c1, hln]; rfl
      · exact (st.less (G := F) fun i hi => .inr hi).trans c3
  induction n with
  | zero =>
    intro j fs F L hj hn30 hf hl hk hw
    obtain ⟨j, rfl⟩ : ∃ j', j = j' + 1 := ⟨j - 1, by omega⟩
    exact (main 0 j fs F L hn30 hf hl hk hw).1 (fits_ones (fun f hff => by have := (hf f hff).2; simpa using this) hl)
  | succ n ih =>
    intro j fs F L hj hn30 hf hl hk hw
    obtain ⟨j, rfl⟩ : ∃ j', j = j' + 1 := ⟨j - 1, by omega⟩
    obtain ⟨m1, m2⟩ := main (n + 1) j fs F L hn30 hf hl hk hw
    simp only [lensLoop]
    cases hfit : fits (lensOf fs) with
    | true => simpa using m1 hfit
    | false =>
      obtain ⟨L1, c1, c2, c3⟩ := m2 hfit
      obtain ⟨s, L2, F2, d1, d2, d3⟩ := ih j (halve fs) F L1 (by omega) (by omega) (halve_mem hf) (by rw [halve_length]; exact hl) (by rw [halve_length]; exact hk) c2
      exact ⟨s, L2, F2, by rw [c1, d1], by simpa using d2, c3.trans d3⟩

def lenOk (fs : List Int) : Bool := decide (fs.length ≤ 512) && !fs.any bad
def lenRes (fs : List Int) : List Int := if lenOk fs then lengthsOf fs else []
def lenErr (fs : List Int) : Int := if lenOk fs then 0 else 1

theorem lenOk_mem {fs : List Int} (h : lenOk fs = true) : fs.length ≤ 512 ∧ ∀ f ∈ fs, 0 ≤ f ∧ f ≤ 1073741824 := by
  simp only [lenOk, Bool.and_eq_true, decide_eq_true_eq, Bool.not_eq_true', List.any_eq_false] at h
  refine ⟨h.1, fun f hf => ?_⟩
  have := h.2 f hf
  simp only [bad, Bool.or_eq_true, decide_eq_true_eq] at this
  omega

theorem lengths_ok {k : Nat} {l : Sl} {fs : List Int} {A : List Nat} {L : LHeap} (hl : Rd L l (fs.map iV) A) (hs : fs.length < 2 ^ 40) (hk : 2 * fs.length + 80 ≤ k) :
    ∃ s L' F, f34 k l L = some (.ret (.tuple #[.slice s.a s.n s.c, .int .i64 (lenErr fs)]) L') ∧ WS L' s ((lenRes fs).map iV) 3 F ∧ Step [] L F L' := by
  obtain ⟨k, rfl⟩ : ∃ k', k = k' + 1 := ⟨k - 1, by omega⟩
  have hn := hl.len
  simp only [List.length_map] at hn
  rw [f34_eq]
  by_cases h512 : fs.length > 512
  · have hno : lenOk fs = false := by simp [lenOk, show ¬ fs.length ≤ 512 by omega]
    rw [decide_eq_true (by omega)]
    exact ⟨⟨none, 0, 0⟩, L, [], by rw [lenErr, hno]; rfl, .inl ⟨rfl, by rw [lenRes, hno]; rfl, rfl⟩, .refl _ _⟩
  rw [decide_eq_false (by omega)]
  have hc := contains_ok (k := k) hl (by omega) (by omega)
  have hc : f49 k l (.func (.func 50) #[] #[]) L = some (.ret (.bool (fs.any bad)) L) := hc
  simp only [lif_false, hc, lbind_ret, asB_bool, obind_some]
  cases hb : fs.any bad with
  | true =>
    have hno : lenOk fs = false := by simp [lenOk, hb]
    exact ⟨⟨none, 0, 0⟩, L, [], by rw [lenErr, hno]; rfl, .inl ⟨rfl, by rw [lenRes, hno]; rfl, rfl⟩, .refl _ _⟩
  | false =>
    have hok : lenOk fs = true := by simp [lenOk, hb]; omega
    obtain ⟨_, hf⟩ := lenOk_mem hok
    obtain ⟨s1, L1, F1, c1, c2, c3⟩ := clone_ok (k := k) hl (by omega) (by omega)
    obtain ⟨s, L2, F2, d1, d2, d3⟩ := lengths_loop (k := k) 30 k fs F1 L1 (by omega) (by omega) (fun f hff => by have := hf f hff; omega) (by omega) (by omega) c2
    refine ⟨s, L2, F2, ?_, by rw [lenRes, hok]; exact d2, c3.trans d3⟩
    rw [lenErr, hok]
    simp only [lif_false, c1, lbind_ret, asSl_slice, obind_some]
    exact d1

end Go.Proofs.Ytlcchghlhfamjaa.X

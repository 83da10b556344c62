/- Trees of frequencies, plain: the depths fill a code. No program in sight. -/
import Derived.Test.YtlcchghlhfamjaaRlmHuffB
namespace Go.Rlm

def allSyms (ts : List HT) : List Nat := ts.flatMap HT.syms

theorem erase_perm : ∀ (l : List HT) (i : Nat) (h : i < l.length), List.Perm (l[i] :: l.eraseIdx i) l
  | x :: l, 0, _ => .refl _
  | x :: l, i + 1, h => (List.Perm.swap x (l[i]'(by simpa using h)) _).trans ((erase_perm l i (by simpa using h)).cons x)

theorem rest_perm {ts : List HT} (h : ts ≠ []) : List.Perm (pick ts :: rest ts) ts := by
  have hl := least_lt h
  rw [pick, List.getD_eq_getElem?_getD, List.getElem?_eq_getElem hl]
  exact erase_perm ts _ hl
theorem join_perm {ts : List HT} (h2 : 2 ≤ ts.length) : List.Perm (allSyms (join ts)) (allSyms ts) := by
  have h1 : ts ≠ [] := by intro h0; subst h0; simp at h2
  have h3 : rest ts ≠ [] := by intro h0; have := rest_length h1; rw [h0] at this; simp at this; omega
  have p1 : List.Perm (allSyms (pick ts :: rest ts)) (allSyms ts) := (rest_perm h1).flatMap_right _
  have p2 : List.Perm (allSyms (pick (rest ts) :: rest (rest ts))) (allSyms (rest ts)) := (rest_perm h3).flatMap_right _
  simp only [allSyms, List.flatMap_cons] at p1 p2
  simp only [allSyms, join, List.flatMap_append, List.flatMap_cons, List.flatMap_nil, List.append_nil, HT.syms]
  refine List.perm_append_comm.trans (List.Perm.trans ?_ p1)
  rw [List.append_assoc]
  exact p2.append_left _
theorem joinAll_perm : ∀ (m : Nat) (ts : List HT), ts.length = m + 1 → List.Perm (allSyms (joinAll m ts)) (allSyms ts)
  | 0, ts, _ => .refl _
  | m + 1, ts, hl => (joinAll_perm m (join ts) (by rw [join_length (by omega)]; omega)).trans (join_perm (by omega))

theorem leaves_syms_ge {fs : List Int} {i : Nat} : ∀ x ∈ allSyms (leavesFrom i fs), i ≤ x ∧ x < i + fs.length := by
  intro x hx
  obtain ⟨t, ht, hx⟩ := List.mem_flatMap.1 hx
  obtain ⟨q, hq, rfl, _⟩ := leavesFrom_leaf ht
  simp [HT.syms] at hx
  omega
theorem leaves_nodup (fs : List Int) (i : Nat) : (allSyms (leavesFrom i fs)).Nodup := by
  induction fs generalizing i with
  | nil => simp [leavesFrom, allSyms]
  | cons f fs ih =>
    simp only [leavesFrom]
    split
    · simp only [allSyms, List.flatMap_cons, HT.syms, List.singleton_append]
      refine List.nodup_cons.2 ⟨fun h => ?_, ih _⟩
      have := leaves_syms_ge i h
      omega
    · exact ih _

/-! ### The depths -/

theorem lay_other (t : HT) : ∀ (n : Nat) (out : List Int) (j : Nat), j ∉ t.syms → (t.lay n out)[j]? = out[j]? := by
  induction t with
  | leaf w i =>
    intro n out j hj
    simp only [HT.syms, List.mem_singleton] at hj
    exact List.getElem?_set_ne (Ne.symm hj)
  | node l r ihl ihr =>
    intro n out j hj
    simp only [HT.syms, List.mem_append, not_or] at hj
    simp only [HT.lay]
    rw [ihr _ _ _ hj.2, ihl _ _ _ hj.1]

theorem fillE_set {out : List Int} {i : Nat} (h : i < out.length) (h0 : out[i]? = some 0) (z : Int) : fillE (out.set i z) = fillE out + (if 0 < z then 2 ^ (15 - z.toNat) else 0) := by
  induction out generalizing i with
  | nil => simp at h
  | cons x xs ih =>
    cases i with
    | zero =>
      simp at h0
      subst h0
      simp [fillE, Nat.add_comm]
    | succ i =>
      have := ih (i := i) (by simpa using h) (by simpa using h0)
      simp only [fillE, List.set_cons_succ, List.map_cons, List.sum_cons] at this ⊢
      omega
theorem usedE_set {out : List Int} {i : Nat} (h : i < out.length) (h0 : out[i]? = some 0) (z : Int) : usedE (out.set i z) = usedE out + (if 0 < z then 1 else 0) := by
  induction out generalizing i with
  | nil => simp at h
  | cons x xs ih =>
    cases i with
    | zero =>
      simp at h0
      subst h0
      simp [usedE, Nat.add_comm]
    | succ i =>
      have := ih (i := i) (by simpa using h) (by simpa using h0)
      simp only [usedE, List.set_cons_succ, List.map_cons, List.sum_cons] at this ⊢
      omega

theorem kraft (t : HT) : ∀ (n : Nat) (out : List Int), n + t.height ≤ 15 → 0 < n + t.height → t.syms.Nodup → (∀ i ∈ t.syms, out[i]? = some 0) → fillE (t.lay n out) = fillE out + 2 ^ (15 - n) := by
  induction t with
  | leaf w i =>
    intro n out hn hp hd h0
    have hi := h0 i (by simp [HT.syms])
    simp only [HT.height, HT.lay] at hn hp ⊢
    have hlt : i < out.length := by
      rcases Nat.lt_or_ge i out.length with h | h
      · exact h
      · rw [List.getElem?_eq_none h] at hi; cases hi
    rw [fillE_set hlt hi, if_pos (by omega)]
    rfl
  | node l r ihl ihr =>
    intro n out hn hp hd h0
    simp only [HT.height, HT.syms] at hn hd h0
    obtain ⟨d1, d2, d3⟩ := List.nodup_append.1 hd
    simp only [HT.lay]
    rw [ihr (n + 1) _ (by omega) (by omega) d2 (fun i hi => ?_), ihl (n + 1) out (by omega) (by omega) d1 (fun i hi => h0 i (List.mem_append.2 (.inl hi)))]
    · have : 2 ^ (15 - n) = 2 ^ (15 - (n + 1)) + 2 ^ (15 - (n + 1)) := by
        rw [← Nat.two_mul, ← Nat.pow_succ']
        congr 1
        omega
      omega
    · rw [lay_other l _ _ _ (fun h => d3 i h i hi rfl)]
      exact h0 i (List.mem_append.2 (.inr hi))

theorem lay_deep (t : HT) : ∀ (n : Nat) (out : List Int), t.syms.Nodup → (∀ i ∈ t.syms, i < out.length) → ∃ i ∈ t.syms, (t.lay n out)[i]? = some (((n + t.height : Nat)) : Int) := by
  induction t with
  | leaf w i =>
    intro n out hd hs
    have hi := hs i (by simp [HT.syms])
    exact ⟨i, by simp [HT.syms], by simp [HT.lay, HT.height, hi]⟩
  | node l r ihl ihr =>
    intro n out hd hs
    simp only [HT.syms] at hd hs
    obtain ⟨d1, d2, d3⟩ := List.nodup_append.1 hd
    simp only [HT.height, HT.syms, HT.lay]
    rcases Nat.le_total r.height l.height with hh | hh
    · obtain ⟨i, hi, h⟩ := ihl (n + 1) out d1 (fun i hi => hs i (List.mem_append.2 (.inl hi)))
      refine ⟨i, List.mem_append.2 (.inl hi), ?_⟩
      rw [lay_other r _ _ _ (fun h => d3 i hi i h rfl), h, Nat.max_eq_left hh]
      congr 2; omega
    · obtain ⟨i, hi, h⟩ := ihr (n + 1) (l.lay (n + 1) out) d2 (fun i hi => by rw [HT.lay_length]; exact hs i (List.mem_append.2 (.inr hi)))
      refine ⟨i, List.mem_append.2 (.inr hi), ?_⟩
      rw [h, Nat.max_eq_right hh]
      congr 2; omega

theorem lay_ge {t : HT} : ∀ (n : Nat) (out : List Int), (∀ z ∈ out, 0 ≤ z) → ∀ z ∈ t.lay n out, 0 ≤ z := by
  induction t with
  | leaf w i =>
    intro n out ho z hz
    rcases List.mem_or_eq_of_mem_set hz with h | h
    · exact ho z h
    · rw [h]; omega
  | node l r ihl ihr =>
    intro n out ho
    exact ihr (n + 1) _ (ihl (n + 1) out ho)

theorem fillE_zero (n : Nat) : fillE (List.replicate n 0) = 0 := by
  induction n with
  | zero => rfl
  | succ n ih => simp only [fillE, List.replicate_succ, List.map_cons, List.sum_cons] at ih ⊢; rw [ih, if_neg (by omega)]
theorem usedE_zero (n : Nat) : usedE (List.replicate n 0) = 0 := by
  induction n with
  | zero => rfl
  | succ n ih => simp only [usedE, List.replicate_succ, List.map_cons, List.sum_cons] at ih ⊢; rw [ih, if_neg (by omega)]

theorem okLen_of {zs : List Int} (h0 : ∀ z ∈ zs, 0 ≤ z) (hf : fits zs = true) : okLen zs = true := by
  simp only [okLen, List.all_eq_true, Bool.and_eq_true, decide_eq_true_eq]
  exact fun z hz => ⟨h0 z hz, fits_iff.1 hf z hz⟩

/-- The one tree of more than one leaf. -/
theorem joined {fs : List Int} {m : Nat} {t : HT} (hm : (leavesFrom 0 fs).length = m + 1) (ht : joinAll m (leavesFrom 0 fs) = [t]) : t.syms.Nodup ∧ (∀ i ∈ t.syms, i < fs.length) ∧ List.Perm t.syms (allSyms (leavesFrom 0 fs)) := by
  have hp := joinAll_perm m _ hm
  rw [ht] at hp
  simp only [allSyms, List.flatMap_cons, List.flatMap_nil, List.append_nil] at hp
  exact ⟨hp.nodup_iff.2 (leaves_nodup fs 0), fun i hi => by have := leaves_syms_ge i (hp.mem_iff.1 hi); omega, hp⟩
theorem joinAll_one {ts : List HT} {m : Nat} (hm : ts.length = m + 1) : ∃ t, joinAll m ts = [t] := List.length_eq_one_iff.1 (joinAll_length m ts hm)

/-- How full: nothing, one of length 1, or just full. -/
theorem lensOf_fill {fs : List Int} (hf : fits (lensOf fs) = true) : okLen (lensOf fs) = true ∧
    (((leavesFrom 0 fs).length = 0 ∧ fillE (lensOf fs) = 0) ∨ ((leavesFrom 0 fs).length = 1 ∧ fillE (lensOf fs) = 16384 ∧ usedE (lensOf fs) = 1) ∨ (2 ≤ (leavesFrom 0 fs).length ∧ fillE (lensOf fs) = 32768)) := by
  have hrep : ∀ z ∈ List.replicate fs.length (0 : Int), 0 ≤ z := fun z hz => by rw [List.eq_of_mem_replicate hz]; omega
  have hget : ∀ i, i < fs.length → (List.replicate fs.length (0 : Int))[i]? = some 0 := fun i hi => by simp [hi]
  match hx : leavesFrom 0 fs with
  | [] =>
    have e : lensOf fs = List.replicate fs.length 0 := by unfold lensOf; rw [hx]
    rw [e]
    refine ⟨okLen_of hrep (fits_iff.2 fun z hz => by rw [List.eq_of_mem_replicate hz]; omega), .inl ⟨rfl, fillE_zero _⟩⟩
  | [t] =>
    have e : lensOf fs = t.lay 1 (List.replicate fs.length 0) := by unfold lensOf; rw [hx]
    obtain ⟨q, hq, rfl, hp⟩ := leavesFrom_leaf (show t ∈ leavesFrom 0 fs by rw [hx]; simp)
    have hq' := hget (0 + q) (by omega)
    rw [e] at hf ⊢
    refine ⟨okLen_of (lay_ge _ _ hrep) hf, .inr (.inl ⟨rfl, ?_, ?_⟩)⟩
    · simp only [HT.lay]
      rw [fillE_set (by simp; omega) hq', fillE_zero]; decide
    · simp only [HT.lay]
      rw [usedE_set (by simp; omega) hq', usedE_zero]; decide
  | a :: b :: ts =>
    obtain ⟨t, ht⟩ := joinAll_one (ts := leavesFrom 0 fs) (m := ts.length + 1) (by rw [hx]; simp)
    have e : lensOf fs = t.lay 0 (List.replicate fs.length 0) := by
      unfold lensOf
      rw [hx] at ht ⊢
      simp only [List.length_cons, Nat.add_sub_cancel]
      rw [ht]
    obtain ⟨j1, j2, j3⟩ := joined (m := ts.length + 1) (by rw [hx]; simp) ht
    rw [e] at hf ⊢
    obtain ⟨i, hi, hd⟩ := lay_deep t 0 (List.replicate fs.length 0) j1 (by simpa using j2)
    have hle := fits_iff.1 hf _ (List.mem_of_getElem? hd)
    have hpos : 0 < t.height := by
      rcases Nat.eq_zero_or_pos t.height with h0 | h0
      · cases t with
        | leaf w i =>
          have := j3.length_eq
          rw [hx] at this
          simp only [allSyms, List.flatMap_cons, HT.syms, List.length_append, List.length_singleton] at this
          have h1 := leavesFrom_leaf (show a ∈ leavesFrom 0 fs by rw [hx]; simp)
          have h2 := leavesFrom_leaf (show b ∈ leavesFrom 0 fs by rw [hx]; simp)
          obtain ⟨_, _, rfl, _⟩ := h1
          obtain ⟨_, _, rfl, _⟩ := h2
          simp only [HT.syms, List.length_singleton] at this
          omega
        | node l r => simp [HT.height] at h0
      · exact h0
    refine ⟨okLen_of (lay_ge _ _ hrep) hf, .inr (.inr ⟨by simp, ?_⟩)⟩
    rw [kraft t 0 _ (by omega) (by omega) j1 (fun i hi => hget i (j2 i hi)), fillE_zero]

theorem may_lensOf {fs : List Int} (hf : fits (lensOf fs) = true) (hl : fs.length ≤ 512) : may (lensOf fs) = true := by
  obtain ⟨h1, h2⟩ := lensOf_fill hf
  simp only [may, h1, lensOf_length, decide_eq_true hl, Bool.true_and, Bool.or_eq_true, Bool.and_eq_true, decide_eq_true_eq, ← fillE_eq h1, ← usedE_eq h1]
  omega

/-! ### Halved: the same ones have a length -/

def pos (fs : List Int) : List Bool := fs.map fun f => decide (f > 0)
theorem halve_pos {fs : List Int} (h : ∀ f ∈ fs, 0 ≤ f) : pos (halve fs) = pos fs := by
  simp only [pos, halve, List.map_map]
  refine List.map_congr_left fun f hf => ?_
  have := h f hf
  have e : (f + 1).tdiv 2 = (f + 1) / 2 := Int.tdiv_eq_ediv_of_nonneg (by omega)
  simp only [Function.comp]
  exact decide_eq_decide.2 (by rw [e]; omega)
theorem halve_ge {fs : List Int} (h : ∀ f ∈ fs, 0 ≤ f) : ∀ f ∈ halve fs, 0 ≤ f := by
  intro f hf
  obtain ⟨g, hg, rfl⟩ := List.mem_map.1 hf
  have := h g hg
  rw [Int.tdiv_eq_ediv_of_nonneg (by omega)]
  omega
theorem lensLoop_of : ∀ (n : Nat) (fs : List Int), (∀ f ∈ fs, 0 ≤ f) → ∃ gs, lensLoop n fs = lensOf gs ∧ gs.length = fs.length ∧ pos gs = pos fs ∧ ∀ g ∈ gs, 0 ≤ g
  | 0, fs, h => ⟨fs, rfl, rfl, rfl, h⟩
  | n + 1, fs, h => by
    simp only [lensLoop]
    split
    · exact ⟨fs, rfl, rfl, rfl, h⟩
    · obtain ⟨gs, h1, h2, h3, h4⟩ := lensLoop_of n (halve fs) (halve_ge h)
      exact ⟨gs, h1, by rw [h2, halve_length], by rw [h3, halve_pos h], h4⟩

theorem may_lengthsOf {fs : List Int} (h : ∀ f ∈ fs, 0 ≤ f ∧ f ≤ 1073741824) (hl : fs.length ≤ 512) : may (lengthsOf fs) = true := by
  obtain ⟨gs, h1, h2, h3, h4⟩ := lensLoop_of 30 fs (fun f hf => (h f hf).1)
  have hf := lensLoop_fits 30 fs (fun f hf => by have := h f hf; omega) hl
  unfold lengthsOf
  rw [h1] at hf ⊢
  exact may_lensOf hf (by omega)

end Go.Rlm

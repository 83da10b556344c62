/- Trees of frequencies, plain: how deep they are at most. No program in sight. -/
import Derived.Test.YtlcchghlhfamjaaRlmHuff
namespace Go.Rlm

def fibo : Nat → Nat
  | 0 => 1
  | 1 => 2
  | n + 2 => fibo (n + 1) + fibo n
theorem fibo_mono {a b : Nat} (h : a ≤ b) : fibo a ≤ fibo b := by
  have step : ∀ n, fibo n ≤ fibo (n + 1) := by
    intro n
    match n with
    | 0 => decide
    | n + 1 => simp only [fibo]; omega
  induction h with
  | refl => exact Nat.le_refl _
  | step _ ih => exact Nat.le_trans ih (step _)

def HT.key : HT → Nat
  | .leaf _ _ => 0
  | .node l r => max l.wt r.wt
/-- Deep trees are heavy. -/
def Heavy (t : HT) : Prop := fibo t.height ≤ t.wt ∧ (0 < t.height → fibo (t.height - 1) ≤ t.key)
def Near (a b : HT) : Prop := a.key ≤ b.wt ∧ b.key ≤ a.wt

theorem pairwise_erase {ts : List HT} (h : ts.Pairwise Near) {i : Nat} (hi : i < ts.length) : ∀ u ∈ ts.eraseIdx i, Near ts[i] u := by
  induction ts generalizing i with
  | nil => simp at hi
  | cons t ts ih =>
    obtain ⟨h1, h2⟩ := List.pairwise_cons.1 h
    cases i with
    | zero => exact fun u hu => h1 u hu
    | succ i =>
      intro u hu
      simp only [List.eraseIdx_cons_succ] at hu
      simp only [List.getElem_cons_succ]
      rcases List.mem_cons.1 hu with rfl | hu
      · have hi' : i < ts.length := by simpa using hi
        have := h1 ts[i] (List.getElem_mem _)
        exact ⟨this.2, this.1⟩
      · exact ih h2 (by simpa using hi) u hu

theorem near_rest {ts : List HT} (h : ts.Pairwise Near) (hne : ts ≠ []) : (rest ts).Pairwise Near ∧ ∀ u ∈ rest ts, Near (pick ts) u := by
  refine ⟨h.sublist (List.eraseIdx_sublist _ _), fun u hu => ?_⟩
  have hl := least_lt hne
  have := pairwise_erase h hl u hu
  rw [pick, List.getD_eq_getElem?_getD, List.getElem?_eq_getElem hl]
  exact this

theorem heavy_node {a b : HT} (ha : Heavy a) (hb : Heavy b) (h : Near a b) : Heavy (.node a b) := by
  obtain ⟨a1, a2⟩ := ha
  obtain ⟨b1, b2⟩ := hb
  have pos : ∀ n, 1 ≤ fibo n := fun n => fibo_mono (Nat.zero_le n)
  have main : ∀ {x y : HT}, fibo x.height ≤ x.wt → (0 < x.height → fibo (x.height - 1) ≤ x.key) → fibo y.height ≤ y.wt → x.key ≤ y.wt → fibo (x.height + 1) ≤ x.wt + y.wt := by
    intro x y h1 h2 h3 h4
    match hx : x.height with
    | 0 =>
      rw [hx] at h1
      have := pos y.height
      simp only [fibo] at h1 ⊢
      omega
    | n + 1 =>
      rw [hx] at h1 h2
      have := h2 (by omega)
      change fibo n ≤ x.key at this
      change fibo (n + 1) ≤ x.wt at h1
      show fibo (n + 1) + fibo n ≤ _
      omega
  constructor
  · simp only [HT.height, HT.wt]
    rcases Nat.le_total b.height a.height with hh | hh
    · rw [Nat.max_eq_left hh]
      exact main a1 a2 b1 h.1
    · rw [Nat.max_eq_right hh]
      have := main b1 b2 a1 h.2
      omega
  · intro _
    simp only [HT.height, HT.key, Nat.add_sub_cancel]
    rcases Nat.le_total b.height a.height with hh | hh
    · rw [Nat.max_eq_left hh]; omega
    · rw [Nat.max_eq_right hh]; omega

theorem join_heavy {ts : List HT} (h2 : 2 ≤ ts.length) (hh : ∀ t ∈ ts, Heavy t) (hn : ts.Pairwise Near) : (∀ t ∈ join ts, Heavy t) ∧ (join ts).Pairwise Near := by
  have h1 : ts ≠ [] := by intro h0; subst h0; simp at h2
  have h3 : rest ts ≠ [] := by intro h0; have := rest_length h1; rw [h0] at this; simp at this; omega
  obtain ⟨n1, n2⟩ := near_rest hn h1
  obtain ⟨n3, n4⟩ := near_rest n1 h3
  have hab := n2 _ (pick_mem h3)
  constructor
  · intro t ht
    rcases List.mem_append.1 ht with ht | ht
    · exact hh t (rest_sub (rest_sub ht))
    · simp at ht
      subst ht
      exact heavy_node (hh _ (pick_mem h1)) (hh _ (rest_sub (pick_mem h3))) hab
  · refine List.pairwise_append.2 ⟨n3, by simp, fun u hu v hv => ?_⟩
    simp at hv
    subst hv
    have q1 := n2 u (rest_sub hu)
    have q2 := pick_le (ts := ts) (rest_sub (rest_sub hu))
    have q3 := pick_le (ts := rest ts) (rest_sub hu)
    simp only [Near, HT.key, HT.wt] at q1 ⊢
    omega

theorem joinAll_heavy : ∀ (m : Nat) (ts : List HT), ts.length = m + 1 → (∀ t ∈ ts, Heavy t) → ts.Pairwise Near → ∀ t ∈ joinAll m ts, Heavy t
  | 0, ts, _, h, _ => h
  | m + 1, ts, hl, h, hn => by
    obtain ⟨h1, h2⟩ := join_heavy (by omega) h hn
    exact joinAll_heavy m (join ts) (by rw [join_length (by omega)]; omega) h1 h2
theorem joinAll_total : ∀ (m : Nat) (ts : List HT), ts.length = m + 1 → total (joinAll m ts) = total ts
  | 0, ts, _ => rfl
  | m + 1, ts, hl => by
    simp only [joinAll]
    rw [joinAll_total m (join ts) (by rw [join_length (by omega)]; omega), join_total (by omega)]

theorem lay_le {B : Int} (t : HT) : ∀ (n : Nat) (out : List Int), (n : Int) + (t.height : Int) ≤ B → (∀ z ∈ out, z ≤ B) → ∀ z ∈ t.lay n out, z ≤ B := by
  induction t with
  | leaf w i =>
    intro n out hn ho z hz
    rcases List.mem_or_eq_of_mem_set hz with h | h
    · exact ho z h
    · rw [h]; simp [HT.height] at hn; omega
  | node l r ihl ihr =>
    intro n out hn ho z hz
    simp only [HT.height] at hn
    exact ihr (n + 1) _ (by omega) (ihl (n + 1) out (by omega) ho) z hz

theorem leaves_ones {fs : List Int} (h : ∀ f ∈ fs, f ≤ 1) (i : Nat) : total (leavesFrom i fs) ≤ fs.length := by
  induction fs generalizing i with
  | nil => simp [leavesFrom, total]
  | cons f fs ih =>
    have := ih (fun g hg => h g (by simp [hg])) (i + 1)
    have hf := h f (by simp)
    simp only [total] at this
    simp only [leavesFrom, total, List.length_cons]
    split
    · simp only [List.map_cons, List.sum_cons, HT.wt]; omega
    · exact Nat.le_trans this (Nat.le_add_right _ _)
theorem leaves_heavy {fs : List Int} {i : Nat} : ∀ t ∈ leavesFrom i fs, Heavy t := by
  intro t ht
  obtain ⟨q, hq, rfl, hp⟩ := leavesFrom_leaf ht
  refine ⟨?_, fun h => by simp [HT.height] at h⟩
  simp only [HT.height, HT.wt, fibo]
  omega
theorem leaves_near (fs : List Int) (i : Nat) : (leavesFrom i fs).Pairwise Near := by
  induction fs generalizing i with
  | nil => simp [leavesFrom]
  | cons f fs ih =>
    simp only [leavesFrom]
    split
    · refine List.pairwise_cons.2 ⟨fun u hu => ?_, ih _⟩
      obtain ⟨q, hq, rfl, hp⟩ := leavesFrom_leaf hu
      simp [Near, HT.key]
    · exact ih _

theorem fits_iff {zs : List Int} : fits zs = true ↔ ∀ z ∈ zs, z ≤ 15 := by simp [fits]

theorem fits_ones {fs : List Int} (h : ∀ f ∈ fs, f ≤ 1) (hl : fs.length ≤ 512) : fits (lensOf fs) = true := by
  rw [fits_iff]
  have hrep : ∀ z ∈ List.replicate fs.length (0 : Int), z ≤ 15 := fun z hz => by rw [List.eq_of_mem_replicate hz]; omega
  unfold lensOf
  split
  · exact hrep
  · rename_i t ht
    obtain ⟨q, hq, rfl, hp⟩ := leavesFrom_leaf (show t ∈ leavesFrom 0 fs by rw [ht]; simp)
    exact lay_le _ 1 _ (by simp [HT.height]) hrep
  · rename_i ts h0 h1
    have hlen : ∃ m, (leavesFrom 0 fs).length = m + 1 := ⟨(leavesFrom 0 fs).length - 1, by
      cases hx : leavesFrom 0 fs with
      | nil => exact absurd hx h0
      | cons a l => simp⟩
    obtain ⟨m, hm⟩ := hlen
    rw [hm, Nat.add_sub_cancel]
    split
    · rename_i t rest ht
      have h2 := joinAll_heavy m _ hm leaves_heavy (leaves_near fs 0) t (by rw [ht]; simp)
      have h3 := joinAll_total m _ hm
      have h4 := leaves_ones h 0
      rw [ht] at h3
      simp only [total, List.map_cons, List.sum_cons] at h3 h4
      have h5 : t.height ≤ 14 := by
        rcases Nat.lt_or_ge t.height 15 with hh | hh
        · omega
        · have := fibo_mono hh
          have e : fibo 15 = 1597 := by decide
          have := h2.1
          omega
      exact lay_le _ 0 _ (by omega) hrep
    · exact hrep

/-! ### Halved again and again -/

theorem halve_mem {fs : List Int} {n : Nat} (h : ∀ f ∈ fs, 0 ≤ f ∧ f ≤ 2 ^ (n + 1)) : ∀ f ∈ halve fs, 0 ≤ f ∧ f ≤ 2 ^ n := by
  intro f hf
  obtain ⟨g, hg, rfl⟩ := List.mem_map.1 hf
  obtain ⟨h1, h2⟩ := h g hg
  rw [Int.tdiv_eq_ediv_of_nonneg (by omega)]
  have : (2 : Int) ^ (n + 1) = 2 ^ n * 2 := by rw [Int.pow_succ]
  omega

theorem lensLoop_fits : ∀ (n : Nat) (fs : List Int), (∀ f ∈ fs, 0 ≤ f ∧ f ≤ 2 ^ n) → fs.length ≤ 512 → fits (lensLoop n fs) = true
  | 0, fs, h, hl => fits_ones (fun f hf => by have := (h f hf).2; simpa using this) hl
  | n + 1, fs, h, hl => by
    simp only [lensLoop]
    split
    · assumption
    · exact lensLoop_fits n _ (halve_mem h) (by rw [halve_length]; exact hl)

end Go.Rlm

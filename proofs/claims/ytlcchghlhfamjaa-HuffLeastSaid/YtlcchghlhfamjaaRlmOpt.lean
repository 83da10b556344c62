/- Trees of frequencies take the fewest bits. No program in sight. -/
import Derived.Test.YtlcchghlhfamjaaRlmTwo
namespace Go.Rlm

/-! ### Weights and lengths, side by side -/

def costP (P : List (Nat × Nat)) : Nat := (P.map fun p => p.1 * p.2).sum
def krP (D : Nat) (ls : List Nat) : Nat := (ls.map fun l => 2 ^ (D - l)).sum
theorem costP_cons (p : Nat × Nat) (P : List (Nat × Nat)) : costP (p :: P) = p.1 * p.2 + costP P := by simp [costP]
theorem krP_cons (D l : Nat) (ls : List Nat) : krP D (l :: ls) = 2 ^ (D - l) + krP D ls := by simp [krP]
theorem costP_perm {P Q : List (Nat × Nat)} (h : P.Perm Q) : costP P = costP Q := (h.map _).sum_nat
theorem krP_perm {D : Nat} {P Q : List Nat} (h : P.Perm Q) : krP D P = krP D Q := (h.map _).sum_nat

/-- The greatest length comes to the least weight. -/
theorem max_swap (w : Nat) : ∀ (R : List (Nat × Nat)) (x : Nat), (∀ p ∈ R, w ≤ p.1) →
    ∃ (x' : Nat) (R' : List (Nat × Nat)), R'.map Prod.fst = R.map Prod.fst ∧ (x' :: R'.map Prod.snd).Perm (x :: R.map Prod.snd) ∧ (∀ p ∈ R', p.2 ≤ x') ∧ w * x' + costP R' ≤ w * x + costP R
  | [], x, _ => ⟨x, [], rfl, .refl _, fun p hp => by simp at hp, Nat.le_refl _⟩
  | (v, y) :: R, x, h => by
    obtain ⟨x', R', h1, h2, h3, h4⟩ := max_swap w R x fun p hp => h p (by simp [hp])
    have hv := h (v, y) (by simp)
    simp only at hv
    by_cases hy : y ≤ x'
    · refine ⟨x', (v, y) :: R', by simp [h1], ?_, fun p hp => ?_, ?_⟩
      · exact ((List.Perm.swap y x' _).trans (h2.cons y)).trans (List.Perm.swap x y _)
      · rcases List.mem_cons.1 hp with rfl | hp
        · exact hy
        · exact h3 p hp
      · simp only [costP_cons]; omega
    · refine ⟨y, (v, x') :: R', by simp [h1], ?_, fun p hp => ?_, ?_⟩
      · exact (h2.cons y).trans (List.Perm.swap x y _)
      · rcases List.mem_cons.1 hp with rfl | hp
        · exact Nat.le_of_lt (Nat.lt_of_not_le hy)
        · exact Nat.le_trans (h3 p hp) (Nat.le_of_lt (Nat.lt_of_not_le hy))
      · obtain ⟨d, rfl⟩ : ∃ d, v = w + d := ⟨v - w, by omega⟩
        obtain ⟨e, rfl⟩ : ∃ e, y = x' + e := ⟨y - x', by omega⟩
        simp only [costP_cons, Nat.mul_add, Nat.add_mul] at h4 ⊢
        omega

theorem perm_split {P : List (Nat × Nat)} {a : Nat} {W : List Nat} (h : (P.map Prod.fst).Perm (a :: W)) : ∃ x R, P.Perm ((a, x) :: R) ∧ (R.map Prod.fst).Perm W := by
  have ha : a ∈ P.map Prod.fst := h.mem_iff.2 (by simp)
  obtain ⟨⟨b, x⟩, hp, hb⟩ := List.mem_map.1 ha
  simp only at hb
  subst hb
  have e := List.perm_cons_erase hp
  refine ⟨x, P.erase (b, x), e, ?_⟩
  exact ((e.map Prod.fst).symm.trans h).cons_inv

theorem krP_dvd {D y : Nat} {ls : List Nat} (h : ∀ l ∈ ls, l ≤ y) : 2 ^ (D - y) ∣ krP D ls := by
  induction ls with
  | nil => exact ⟨0, rfl⟩
  | cons l ls ih =>
    rw [krP_cons]
    exact Nat.dvd_add (Nat.pow_dvd_pow 2 (by have := h l (by simp); omega)) (ih fun q hq => h q (by simp [hq]))

def HT.cost : HT → Nat
  | .leaf _ _ => 0
  | .node l r => l.cost + r.cost + (l.wt + r.wt)

theorem huff_least {D : Nat} {t : HT} : ∀ (m : Nat) (ts : List HT) (P : List (Nat × Nat)), ts.length = m + 1 → (P.map Prod.fst).Perm (ts.map HT.wt) → (∀ l ∈ P.map Prod.snd, l ≤ D) → krP D (P.map Prod.snd) ≤ 2 ^ D → joinAll m ts = [t] →
    t.cost ≤ costP P + (ts.map HT.cost).sum
  | 0, ts, P, _, _, _, _, ht => by
    have ht : ts = [t] := ht
    subst ht
    simp
  | m + 1, ts, P, hm, hw, hD, hk, ht => by
    have h2 : 2 ≤ ts.length := by omega
    have h1 : ts ≠ [] := by intro h0; subst h0; simp at hm
    have hr1 := rest_length h1
    have h3 : rest ts ≠ [] := by intro h0; rw [h0] at hr1; simp at hr1; omega
    have p1 := (rest_perm h1).map HT.wt
    have p2 := (rest_perm h3).map HT.wt
    simp only [List.map_cons] at p1 p2
    have hw2 : (P.map Prod.fst).Perm ((pick ts).wt :: (pick (rest ts)).wt :: (rest (rest ts)).map HT.wt) := hw.trans (p1.symm.trans (p2.symm.cons _))
    obtain ⟨x, R0, q1, q2⟩ := perm_split hw2
    obtain ⟨y, R, q3, q4⟩ := perm_split q2
    have hPp : P.Perm (((pick ts).wt, x) :: ((pick (rest ts)).wt, y) :: R) := q1.trans (q3.cons _)
    have hab : (pick ts).wt ≤ (pick (rest ts)).wt := pick_le (rest_sub (pick_mem h3))
    have hR : ∀ p ∈ R, (pick (rest ts)).wt ≤ p.1 := fun p hp => by
      obtain ⟨u, hu, he⟩ := List.mem_map.1 (q4.mem_iff.1 (List.mem_map.2 ⟨p, hp, rfl⟩))
      rw [← he]
      exact pick_le (rest_sub hu)
    obtain ⟨x', R1, a1, a2, a3, a4⟩ := max_swap (pick ts).wt (((pick (rest ts)).wt, y) :: R) x (fun p hp => by
      rcases List.mem_cons.1 hp with rfl | hp
      · exact hab
      · exact Nat.le_trans hab (hR p hp))
    obtain ⟨y1, R2, rfl, hR2⟩ : ∃ y1 R2, R1 = ((pick (rest ts)).wt, y1) :: R2 ∧ R2.map Prod.fst = R.map Prod.fst := by
      cases R1 with
      | nil => simp at a1
      | cons p R2 =>
        simp only [List.map_cons, List.cons.injEq] at a1
        exact ⟨p.2, R2, by rw [← a1.1], a1.2⟩
    obtain ⟨y', R', b1, b2, b3, b4⟩ := max_swap (pick (rest ts)).wt R2 y1 (fun p hp => by
      have : p.1 ∈ R.map Prod.fst := by rw [← hR2]; exact List.mem_map.2 ⟨p, hp, rfl⟩
      obtain ⟨p', hp', he⟩ := List.mem_map.1 this
      rw [← he]
      exact hR p' hp')
    have hlen : (x' :: y' :: R'.map Prod.snd).Perm (P.map Prod.snd) := by
      refine (b2.cons x').trans (a2.trans ?_)
      exact (hPp.map Prod.snd).symm
    have hyx : y' ≤ x' := by
      have : y' ∈ y1 :: R2.map Prod.snd := b2.mem_iff.1 (by simp)
      rcases List.mem_cons.1 this with h | h
      · rw [h]; exact a3 ((pick (rest ts)).wt, y1) (by simp)
      · obtain ⟨p, hp, he⟩ := List.mem_map.1 h
        rw [← he]
        exact a3 p (by simp [hp])
    have hyD : y' ≤ D := hD y' (hlen.mem_iff.1 (by simp))
    have hRD : ∀ l ∈ R'.map Prod.snd, l ≤ D := fun l hl => hD l (hlen.mem_iff.1 (by simp [hl]))
    have hRy : ∀ l ∈ R'.map Prod.snd, l ≤ y' := fun l hl => by
      obtain ⟨p, hp, rfl⟩ := List.mem_map.1 hl
      exact b3 p hp
    have hk2 : 2 ^ (D - x') + (2 ^ (D - y') + krP D (R'.map Prod.snd)) ≤ 2 ^ D := by
      rw [← krP_perm hlen, krP_cons, krP_cons] at hk
      exact hk
    have hxp : 0 < 2 ^ (D - x') := Nat.pow_pos (by omega)
    obtain ⟨s, hs⟩ := krP_dvd (D := D) hRy
    obtain ⟨q, hq⟩ : 2 ^ (D - y') ∣ 2 ^ D := Nat.pow_dvd_pow 2 (by omega)
    have hy1 : 1 ≤ y' := by
      rcases Nat.eq_zero_or_pos y' with h0 | h0
      · rw [h0, Nat.sub_zero] at hk2; omega
      · exact h0
    have hm2 : 2 ^ (D - (y' - 1)) = 2 * 2 ^ (D - y') := by rw [show D - (y' - 1) = D - y' + 1 by omega, Nat.pow_succ, Nat.mul_comm]
    have hk3 : 2 ^ (D - (y' - 1)) + krP D (R'.map Prod.snd) ≤ 2 ^ D := by
      rw [hm2]
      rw [hs, hq] at hk2 ⊢
      generalize 2 ^ (D - y') = u at *
      have hlt : u * (s + 1) < u * q := by rw [Nat.mul_add, Nat.mul_one]; omega
      have := Nat.lt_of_mul_lt_mul_left hlt
      have := Nat.mul_le_mul_left u (show s + 2 ≤ q by omega)
      rw [Nat.mul_add] at this
      omega
    have hPw : (((((pick ts).wt + (pick (rest ts)).wt), y' - 1) :: R').map Prod.fst).Perm ((join ts).map HT.wt) := by
      simp only [List.map_cons, join, List.map_append, List.map_nil, HT.wt]
      refine List.Perm.trans ?_ List.perm_append_comm
      rw [b1, hR2]
      exact q4.cons _
    have ih := huff_least (D := D) (t := t) m (join ts) (((pick ts).wt + (pick (rest ts)).wt, y' - 1) :: R') (by rw [join_length h2]; omega) hPw (fun l hl => by
      simp only [List.map_cons, List.mem_cons] at hl
      rcases hl with rfl | hl
      · omega
      · exact hRD l hl) (by simp only [List.map_cons, krP_cons]; exact hk3) ht
    have hsum := sum_join HT.cost h2
    simp only [HT.cost] at hsum
    rw [costP_perm hPp]
    simp only [costP_cons] at ih a4 ⊢
    obtain ⟨z, rfl⟩ : ∃ z, y' = z + 1 := ⟨y' - 1, by omega⟩
    have hwx : (pick ts).wt * (z + 1) ≤ (pick ts).wt * x' := Nat.mul_le_mul_left _ hyx
    rw [Nat.add_sub_cancel] at ih
    simp only [Nat.add_mul, Nat.mul_add, Nat.mul_one] at ih a4 b4 hwx ⊢
    omega

/-! ### Leaves -/

def HT.lvs : HT → List (Nat × Nat)
  | .leaf w i => [(w, i)]
  | .node l r => l.lvs ++ r.lvs
def allLvs (ts : List HT) : List (Nat × Nat) := ts.flatMap HT.lvs
theorem lvs_syms (t : HT) : t.lvs.map Prod.snd = t.syms := by
  induction t with
  | leaf w i => rfl
  | node l r ihl ihr => simp [HT.lvs, HT.syms, ihl, ihr]
theorem join_lvs {ts : List HT} (h2 : 2 ≤ ts.length) : List.Perm (allLvs (join ts)) (allLvs ts) := by
  have h1 : ts ≠ [] := by intro h0; subst h0; simp at h2
  have h3 : rest ts ≠ [] := by intro h0; have := rest_length h1; rw [h0] at this; simp at this; omega
  have p1 : List.Perm (allLvs (pick ts :: rest ts)) (allLvs ts) := (rest_perm h1).flatMap_right _
  have p2 : List.Perm (allLvs (pick (rest ts) :: rest (rest ts))) (allLvs (rest ts)) := (rest_perm h3).flatMap_right _
  simp only [allLvs, List.flatMap_cons] at p1 p2
  simp only [allLvs, join, List.flatMap_append, List.flatMap_cons, List.flatMap_nil, List.append_nil, HT.lvs]
  refine List.perm_append_comm.trans (List.Perm.trans ?_ p1)
  rw [List.append_assoc]
  exact p2.append_left _
theorem joinAll_lvs : ∀ (m : Nat) (ts : List HT), ts.length = m + 1 → List.Perm (allLvs (joinAll m ts)) (allLvs ts)
  | 0, ts, _ => .refl _
  | m + 1, ts, hl => (joinAll_lvs m (join ts) (by rw [join_length (by omega)]; omega)).trans (join_lvs (by omega))

def dotL (ls : List (Nat × Nat)) (g : Nat → Nat) : Nat := (ls.map fun p => p.1 * g p.2).sum
theorem dotL_append (a b : List (Nat × Nat)) (g : Nat → Nat) : dotL (a ++ b) g = dotL a g + dotL b g := by simp [dotL]
theorem dotL_congr {ls : List (Nat × Nat)} {g h : Nat → Nat} (e : ∀ p ∈ ls, g p.2 = h p.2) : dotL ls g = dotL ls h := by
  unfold dotL
  rw [List.map_congr_left fun p hp => by rw [e p hp]]
theorem dotL_perm {a b : List (Nat × Nat)} (h : a.Perm b) (g : Nat → Nat) : dotL a g = dotL b g := (h.map _).sum_nat

theorem dpt_cost (t : HT) : ∀ n, t.syms.Nodup → dotL t.lvs (fun i => n + t.dpt i) = n * t.wt + t.cost := by
  induction t with
  | leaf w i => intro n _; simp [HT.lvs, dotL, HT.dpt, HT.wt, HT.cost, Nat.mul_comm]
  | node l r ihl ihr =>
    intro n hd
    simp only [HT.syms] at hd
    obtain ⟨d1, d2, d3⟩ := List.nodup_append.1 hd
    have el := ihl (n + 1) d1
    have er := ihr (n + 1) d2
    simp only [HT.lvs, dotL_append, HT.wt, HT.cost]
    rw [dotL_congr (ls := l.lvs) (h := fun i => n + 1 + l.dpt i) (fun p hp => by
      have : p.2 ∈ l.syms := by rw [← lvs_syms]; exact List.mem_map.2 ⟨p, hp, rfl⟩
      simp only [HT.dpt, if_pos this]; omega)]
    rw [dotL_congr (ls := r.lvs) (h := fun i => n + 1 + r.dpt i) (fun p hp => by
      have hr : p.2 ∈ r.syms := by rw [← lvs_syms]; exact List.mem_map.2 ⟨p, hp, rfl⟩
      have hn : p.2 ∉ l.syms := fun hh => d3 _ hh _ hr rfl
      simp only [HT.dpt, if_neg hn]; omega)]
    rw [el, er]
    simp only [Nat.mul_add, Nat.add_mul]
    omega

/-! ### Of frequencies -/

def dotZ : List Int → List Int → Int
  | z :: zs, f :: fs => z * f + dotZ zs fs
  | _, _ => 0

theorem leaves_dot {fs zs : List Int} (g : Nat → Nat) : ∀ (i : Nat), (∀ f ∈ fs, 0 ≤ f) → zs.length = fs.length → (∀ q, q < fs.length → zs.getD q 0 = (g (i + q) : Int)) → (dotL (allLvs (leavesFrom i fs)) g : Int) = dotZ zs fs := by
  induction fs generalizing zs with
  | nil => intro i _ hl _; cases zs <;> rfl
  | cons f fs ih =>
    intro i hf hl hg
    cases zs with
    | nil => simp at hl
    | cons z zs =>
      have h0 := hg 0 (by simp)
      simp at h0
      have := ih (zs := zs) (i + 1) (fun x hx => hf x (by simp [hx])) (by simpa using hl) (fun q hq => by
        have := hg (q + 1) (by simpa using hq)
        rw [show i + (q + 1) = i + 1 + q by omega] at this
        simpa using this)
      simp only [dotZ, leavesFrom]
      have hf0 := hf f (by simp)
      by_cases h : f > 0
      · rw [if_pos h]
        have e : dotL (allLvs (HT.leaf f.toNat i :: leavesFrom (i + 1) fs)) g = f.toNat * g i + dotL (allLvs (leavesFrom (i + 1) fs)) g := by
          simp [allLvs, dotL, HT.lvs]
        rw [e, ← this, h0]
        push_cast
        rw [Int.toNat_of_nonneg hf0, Int.mul_comm]
      · rw [if_neg h, this, show f = 0 by omega]
        simp
theorem leaves_kraft {fs zs : List Int} (g : Nat → Nat) : ∀ (i : Nat), zs.length = fs.length → (∀ q, q < fs.length → zs.getD q 0 = (g (i + q) : Int) ∧ (0 < zs.getD q 0 ↔ 0 < fs.getD q 0)) →
    krP 15 ((allLvs (leavesFrom i fs)).map fun p => g p.2) = fillE zs := by
  induction fs generalizing zs with
  | nil => intro i hl _; cases zs; rfl; simp at hl
  | cons f fs ih =>
    intro i hl hg
    cases zs with
    | nil => simp at hl
    | cons z zs =>
      obtain ⟨h0, h1⟩ := hg 0 (by simp)
      simp at h0 h1
      have := ih (zs := zs) (i + 1) (by simpa using hl) (fun q hq => by
        have := hg (q + 1) (by simpa using hq)
        rw [show i + (q + 1) = i + 1 + q by omega] at this
        simpa using this)
      simp only [leavesFrom]
      by_cases h : f > 0
      · rw [if_pos h]
        have e : fillE (z :: zs) = 2 ^ (15 - z.toNat) + fillE zs := by simp only [fillE, List.map_cons, List.sum_cons]; rw [if_pos (h1.2 h)]
        have e2 : (allLvs (HT.leaf f.toNat i :: leavesFrom (i + 1) fs)).map (fun p => g p.2) = g i :: (allLvs (leavesFrom (i + 1) fs)).map fun p => g p.2 := by simp [allLvs, HT.lvs]
        rw [e, e2, krP_cons, this, h0, Int.toNat_natCast]
      · have e : fillE (z :: zs) = fillE zs := by simp only [fillE, List.map_cons, List.sum_cons]; rw [if_neg (fun hh => h (h1.1 hh)), Nat.zero_add]
        rw [if_neg h, this, e]
theorem leaves_wts (fs : List Int) (i : Nat) : (allLvs (leavesFrom i fs)).map Prod.fst = (leavesFrom i fs).map HT.wt ∧ ((leavesFrom i fs).map HT.cost).sum = 0 := by
  induction fs generalizing i with
  | nil => exact ⟨rfl, rfl⟩
  | cons f fs ih =>
    simp only [leavesFrom]
    split
    · have e : allLvs (HT.leaf f.toNat i :: leavesFrom (i + 1) fs) = (f.toNat, i) :: allLvs (leavesFrom (i + 1) fs) := by simp [allLvs, HT.lvs]
      rw [e]
      simp [HT.wt, HT.cost, (ih (i + 1)).1, (ih (i + 1)).2]
    · exact ih _
theorem dotZ_le {xs zs fs : List Int} (hf : ∀ f ∈ fs, 0 ≤ f) (h1 : xs.length = fs.length) (h2 : zs.length = fs.length) (h : ∀ q, q < fs.length → 0 < fs.getD q 0 → xs.getD q 0 ≤ zs.getD q 0) : dotZ xs fs ≤ dotZ zs fs := by
  induction fs generalizing xs zs with
  | nil => cases xs <;> cases zs <;> simp [dotZ]
  | cons f fs ih =>
    cases xs with
    | nil => simp at h1
    | cons x xs =>
      cases zs with
      | nil => simp at h2
      | cons z zs =>
        simp only [dotZ]
        have := ih (xs := xs) (zs := zs) (fun y hy => hf y (by simp [hy])) (by simpa using h1) (by simpa using h2) (fun q hq hp => by
          have := h (q + 1) (by simpa using hq) (by simpa using hp)
          simpa using this)
        have hf0 := hf f (by simp)
        have : x * f ≤ z * f := by
          rcases Int.lt_or_eq_of_le hf0 with hp | hp
          · exact Int.mul_le_mul_of_nonneg_right (by have := h 0 (by simp) (by simpa using hp); simpa using this) hf0
          · rw [← hp]; simp
        omega

theorem mem_leaves {fs : List Int} : ∀ (i q : Nat), q < fs.length → (i + q ∈ allSyms (leavesFrom i fs) ↔ 0 < fs.getD q 0) := by
  induction fs with
  | nil => intro i q hq; simp at hq
  | cons f fs ih =>
    intro i q hq
    simp only [leavesFrom]
    cases q with
    | zero =>
      simp only [List.getD_cons_zero, Nat.add_zero]
      by_cases h : f > 0
      · rw [if_pos h]
        exact ⟨fun _ => h, fun _ => by simp [allSyms, HT.syms]⟩
      · rw [if_neg h]
        refine ⟨fun hh => ?_, fun hh => absurd hh h⟩
        have := leaves_syms_ge i hh
        omega
    | succ q =>
      have := ih (i + 1) q (by simpa using hq)
      rw [show i + 1 + q = i + (q + 1) by omega] at this
      simp only [List.getD_cons_succ]
      rw [← this]
      split
      · simp only [allSyms, List.flatMap_cons, HT.syms, List.singleton_append, List.mem_cons]
        constructor
        · rintro (hh | hh)
          · omega
          · exact hh
        · exact .inr
      · rfl

/-- What the tree has: depths. -/
theorem lensOf_dpt {fs : List Int} {m : Nat} {t : HT} (hm : (leavesFrom 0 fs).length = m + 2) (ht : joinAll (m + 1) (leavesFrom 0 fs) = [t]) (hl : lensOf fs = t.lay 0 (List.replicate fs.length 0)) :
    ∀ q, q < fs.length → (lensOf fs).getD q 0 = if 0 < fs.getD q 0 then ((t.dpt q : Nat) : Int) else 0 := by
  intro q hq
  obtain ⟨j1, j2, j3⟩ := joined (m := m + 1) hm ht
  have hmem := mem_leaves (fs := fs) 0 q hq
  rw [Nat.zero_add, ← j3.mem_iff] at hmem
  rw [hl, List.getD_eq_getElem?_getD]
  by_cases h : 0 < fs.getD q 0
  · rw [if_pos h, lay_dpt t 0 _ q j1 (hmem.2 h) (by simpa using hq), Nat.zero_add]; rfl
  · rw [if_neg h, lay_other t _ _ _ (fun hh => h (hmem.1 hh))]
    simp [hq]

theorem more {fs : List Int} {m : Nat} {t : HT} (h : (leavesFrom 0 fs).length = m + 2) (ht : joinAll (m + 1) (leavesFrom 0 fs) = [t]) : lensOf fs = t.lay 0 (List.replicate fs.length 0) := by
  unfold lensOf
  split
  · rename_i h0; rw [h0] at h; simp at h
  · rename_i h0; rw [h0] at h; simp at h
  · rename_i ts h0 h1
    rw [h, show m + 2 - 1 = m + 1 by omega, ht]

theorem one_get {fs : List Int} {t : HT} (h : leavesFrom 0 fs = [t]) : ∀ q, q < fs.length → (lensOf fs).getD q 0 = if 0 < fs.getD q 0 then 1 else 0 := by
  intro q hq
  obtain ⟨p, hp, rfl, hpp⟩ := leavesFrom_leaf (show t ∈ leavesFrom 0 fs by rw [h]; simp)
  have hmem := mem_leaves (fs := fs) 0 q hq
  have e : lensOf fs = (HT.leaf (fs.getD p 0).toNat (0 + p)).lay 1 (List.replicate fs.length 0) := by unfold lensOf; rw [h]
  rw [h] at hmem
  simp only [allSyms, List.flatMap_cons, List.flatMap_nil, HT.syms, List.append_nil, List.mem_singleton, Nat.zero_add] at hmem
  rw [e, HT.lay, List.getD_eq_getElem?_getD, Nat.zero_add]
  by_cases h : 0 < fs.getD q 0
  · rw [if_pos h, hmem.2 h, List.getElem?_set_self (by simpa using hp)]; rfl
  · rw [if_neg h, List.getElem?_set_ne (fun hh => h (hmem.1 hh.symm))]; simp [hq]
theorem none_get {fs : List Int} (h : leavesFrom 0 fs = []) : ∀ q, q < fs.length → (lensOf fs).getD q 0 = 0 ∧ ¬ 0 < fs.getD q 0 := by
  intro q hq
  have hmem := mem_leaves (fs := fs) 0 q hq
  rw [h] at hmem
  have e : lensOf fs = List.replicate fs.length 0 := by unfold lensOf; rw [h]
  refine ⟨by rw [e, List.getD_eq_getElem?_getD]; simp [hq], fun hh => ?_⟩
  have := hmem.2 hh
  simp [allSyms] at this

theorem dpt_pos {fs : List Int} {m : Nat} {t : HT} (hm : (leavesFrom 0 fs).length = m + 2) (ht : joinAll (m + 1) (leavesFrom 0 fs) = [t]) (q : Nat) : 0 < t.dpt q := by
  obtain ⟨j1, j2, j3⟩ := joined (m := m + 1) hm ht
  cases t with
  | leaf w i =>
    have h1 := j3.length_eq
    have h2 : ∀ (us : List HT), (∀ u ∈ us, u.syms.length = 1) → (allSyms us).length = us.length := by
      intro us
      induction us with
      | nil => intro _; rfl
      | cons u us ih =>
        intro hu
        simp only [allSyms, List.flatMap_cons, List.length_append, List.length_cons]
        have := ih fun v hv => hu v (by simp [hv])
        simp only [allSyms] at this
        rw [this, hu u (by simp)]
        omega
    rw [h2 _ (fun u hu => by obtain ⟨p, hp, rfl, _⟩ := leavesFrom_leaf hu; rfl), hm] at h1
    simp [HT.syms] at h1
  | node l r => simp only [HT.dpt]; omega

theorem lens_pos {fs : List Int} : ∀ q, q < fs.length → (0 < (lensOf fs).getD q 0 ↔ 0 < fs.getD q 0) := by
  intro q hq
  rcases Nat.lt_or_ge (leavesFrom 0 fs).length 2 with h | h
  · rcases Nat.eq_zero_or_pos (leavesFrom 0 fs).length with h0 | h0
    · obtain ⟨h1, h2⟩ := none_get (List.eq_nil_of_length_eq_zero h0) q hq
      rw [h1]; exact ⟨fun hh => by omega, fun hh => absurd hh h2⟩
    · obtain ⟨t, ht⟩ := List.length_eq_one_iff.1 (show (leavesFrom 0 fs).length = 1 by omega)
      rw [one_get ht q hq]
      split <;> rename_i hh
      · exact ⟨fun _ => hh, fun _ => by omega⟩
      · exact ⟨fun hx => by omega, fun hx => absurd hx hh⟩
  · obtain ⟨m, hm⟩ : ∃ m, (leavesFrom 0 fs).length = m + 2 := ⟨(leavesFrom 0 fs).length - 2, by omega⟩
    obtain ⟨t, ht⟩ := joinAll_one (ts := leavesFrom 0 fs) (m := m + 1) hm
    have hp := dpt_pos hm ht q
    rw [lensOf_dpt hm ht (more hm ht) q hq]
    split <;> rename_i hh
    · exact ⟨fun _ => hh, fun _ => by omega⟩
    · exact ⟨fun hx => by omega, fun hx => absurd hx hh⟩

/-- No lengths that might be take fewer bits. -/
theorem lensOf_least {fs zs : List Int} (hf : ∀ f ∈ fs, 0 ≤ f) (hl : zs.length = fs.length) (hz : okLen zs = true) (hs : ∀ q, q < fs.length → (0 < zs.getD q 0 ↔ 0 < fs.getD q 0)) (hk : fillE zs ≤ 32768) : dotZ (lensOf fs) fs ≤ dotZ zs fs := by
  rcases Nat.lt_or_ge (leavesFrom 0 fs).length 2 with h | h
  · refine dotZ_le hf (lensOf_length fs) hl fun q hq hp => ?_
    have hzq := (hs q hq).2 hp
    rcases Nat.eq_zero_or_pos (leavesFrom 0 fs).length with h0 | h0
    · exact absurd hp (none_get (List.eq_nil_of_length_eq_zero h0) q hq).2
    · obtain ⟨t, ht⟩ := List.length_eq_one_iff.1 (show (leavesFrom 0 fs).length = 1 by omega)
      rw [one_get ht q hq, if_pos hp]
      omega
  · obtain ⟨m, hm⟩ : ∃ m, (leavesFrom 0 fs).length = m + 2 := ⟨(leavesFrom 0 fs).length - 2, by omega⟩
    obtain ⟨t, ht⟩ := joinAll_one (ts := leavesFrom 0 fs) (m := m + 1) hm
    obtain ⟨j1, j2, j3⟩ := joined (m := m + 1) hm ht
    have hzg : ∀ q, q < fs.length → 0 ≤ zs.getD q 0 ∧ zs.getD q 0 ≤ 15 := fun q hq => by
      have e : zs.getD q 0 = zs[q] := by rw [List.getD_eq_getElem?_getD, List.getElem?_eq_getElem (by omega)]; rfl
      rw [e]
      exact okLen_mem hz (List.getElem_mem _)
    have e1 := leaves_dot (fs := fs) (zs := zs) (fun i => (zs.getD i 0).toNat) 0 hf hl (fun q hq => by rw [Nat.zero_add, Int.toNat_of_nonneg (hzg q hq).1])
    have e2 := leaves_kraft (fs := fs) (zs := zs) (fun i => (zs.getD i 0).toNat) 0 hl (fun q hq => ⟨by rw [Nat.zero_add, Int.toNat_of_nonneg (hzg q hq).1], hs q hq⟩)
    obtain ⟨w1, w2⟩ := leaves_wts fs 0
    have main := huff_least (D := 15) (t := t) (m + 1) (leavesFrom 0 fs) ((allLvs (leavesFrom 0 fs)).map fun p => (p.1, (zs.getD p.2 0).toNat)) hm
      (by rw [List.map_map]; rw [← w1]; exact .refl _)
      (fun l hl => by
        rw [List.map_map] at hl
        obtain ⟨p, hp, rfl⟩ := List.mem_map.1 hl
        simp only [Function.comp]
        have hps : p.2 ∈ allSyms (leavesFrom 0 fs) := by
          obtain ⟨u, hu, hpu⟩ := List.mem_flatMap.1 hp
          exact List.mem_flatMap.2 ⟨u, hu, by rw [← lvs_syms]; exact List.mem_map.2 ⟨p, hpu, rfl⟩⟩
        have := leaves_syms_ge _ hps
        have := hzg p.2 (by omega)
        omega)
      (by rw [List.map_map]; exact Nat.le_trans (Nat.le_of_eq e2) hk) ht
    have e3 : costP ((allLvs (leavesFrom 0 fs)).map fun p => (p.1, (zs.getD p.2 0).toNat)) = dotL (allLvs (leavesFrom 0 fs)) fun i => (zs.getD i 0).toNat := by
      unfold costP dotL
      rw [List.map_map]
      rfl
    have e4 := dpt_cost t 0 j1
    have hlv := joinAll_lvs (m + 1) _ hm
    rw [ht] at hlv
    simp only [allLvs, List.flatMap_cons, List.flatMap_nil, List.append_nil] at hlv
    have hlv : t.lvs.Perm (allLvs (leavesFrom 0 fs)) := hlv
    have hd := lensOf_dpt hm ht (more hm ht)
    have e5 := leaves_dot (fs := fs) (zs := lensOf fs) (fun i => ((lensOf fs).getD i 0).toNat) 0 hf (lensOf_length fs) (fun q hq => by
      rw [Nat.zero_add, hd q hq]
      split <;> simp)
    have e6 : dotL (allLvs (leavesFrom 0 fs)) (fun i => ((lensOf fs).getD i 0).toNat) = t.cost := by
      rw [Nat.zero_mul, Nat.zero_add] at e4
      rw [← e4, dotL_perm hlv]
      refine dotL_congr fun p hp => ?_
      have hps : p.2 ∈ allSyms (leavesFrom 0 fs) := by
        obtain ⟨u, hu, hpu⟩ := List.mem_flatMap.1 hp
        exact List.mem_flatMap.2 ⟨u, hu, by rw [← lvs_syms]; exact List.mem_map.2 ⟨p, hpu, rfl⟩⟩
      have hlt := leaves_syms_ge _ hps
      have hm0 := (mem_leaves (fs := fs) 0 p.2 (by omega)).1 (by rw [Nat.zero_add]; exact hps)
      rw [hd p.2 (by omega), if_pos hm0]
      simp
    rw [← e5, ← e1, e6, ← e3]
    rw [w2] at main
    exact_mod_cast main

/-! ### A greater frequency has no longer a length -/

theorem dotZ_set {zs fs : List Int} (v : Int) : ∀ {i : Nat}, zs.length = fs.length → i < fs.length → dotZ (zs.set i v) fs + zs.getD i 0 * fs.getD i 0 = dotZ zs fs + v * fs.getD i 0 := by
  induction fs generalizing zs with
  | nil => intro i _ hi; simp at hi
  | cons f fs ih =>
    intro i hl hi
    cases zs with
    | nil => simp at hl
    | cons z zs =>
      cases i with
      | zero => simp only [List.set_cons_zero, dotZ, List.getD_cons_zero]; omega
      | succ i =>
        have := ih (zs := zs) (i := i) (by simpa using hl) (by simpa using hi)
        simp only [List.set_cons_succ, dotZ, List.getD_cons_succ]
        omega
def fl (z : Int) : Nat := if 0 < z then 2 ^ (15 - z.toNat) else 0
theorem fillE_put {zs : List Int} (v : Int) : ∀ {i : Nat}, i < zs.length → fillE (zs.set i v) + fl (zs.getD i 0) = fillE zs + fl v := by
  induction zs with
  | nil => intro i hi; simp at hi
  | cons z zs ih =>
    intro i hi
    have e : ∀ (x : Int) (xs : List Int), fillE (x :: xs) = fl x + fillE xs := fun x xs => by simp only [fillE, List.map_cons, List.sum_cons]; rfl
    cases i with
    | zero => simp only [List.set_cons_zero, e, List.getD_cons_zero]; omega
    | succ i =>
      have := ih (i := i) (by simpa using hi)
      simp only [List.set_cons_succ, e, List.getD_cons_succ]
      omega
theorem getD_set {zs : List Int} (v : Int) (i q : Nat) (hi : i < zs.length) : (zs.set i v).getD q 0 = if q = i then v else zs.getD q 0 := by
  rw [List.getD_eq_getElem?_getD, List.getD_eq_getElem?_getD]
  split
  · rename_i h; rw [h, List.getElem?_set_self hi]; rfl
  · rename_i h; rw [List.getElem?_set_ne (Ne.symm h)]

theorem mem_getD {zs : List Int} {z : Int} (h : z ∈ zs) : ∃ q, q < zs.length ∧ zs.getD q 0 = z := by
  obtain ⟨q, hq, rfl⟩ := List.getElem_of_mem h
  exact ⟨q, hq, by rw [List.getD_eq_getElem?_getD, List.getElem?_eq_getElem hq]; rfl⟩

theorem lensOf_mono {fs : List Int} (hf : ∀ f ∈ fs, 0 ≤ f) (hfit : fits (lensOf fs) = true) (hlen : fs.length ≤ 512) {i k : Nat} (hi : i < fs.length) (hk : k < fs.length) (hp : 0 < fs.getD k 0) (hik : fs.getD k 0 < fs.getD i 0) : (lensOf fs).getD i 0 ≤ (lensOf fs).getD k 0 := by
  by_cases hc : (lensOf fs).getD k 0 < (lensOf fs).getD i 0
  · exfalso
    have hne : i ≠ k := by intro h; subst h; omega
    obtain ⟨m1, _, m3⟩ := may_ok (may_lensOf hfit hlen)
    rw [← fillE_eq m1] at m3
    have hll := lensOf_length fs
    have hgl : ∀ q, q < fs.length → 0 ≤ (lensOf fs).getD q 0 ∧ (lensOf fs).getD q 0 ≤ 15 := fun q hq => by
      have e : (lensOf fs).getD q 0 = (lensOf fs)[q]'(by omega) := by rw [List.getD_eq_getElem?_getD, List.getElem?_eq_getElem (by omega)]; rfl
      rw [e]
      exact okLen_mem m1 (List.getElem_mem _)
    have hpos := lens_pos (fs := fs)
    have hleast := fun zs h1 h2 h3 h4 => lensOf_least (fs := fs) (zs := zs) hf h1 h2 h3 h4
    generalize lensOf fs = ls at *
    have hg : ∀ q, (((ls.set i (ls.getD k 0)).set k (ls.getD i 0)).getD q 0) = if q = k then ls.getD i 0 else if q = i then ls.getD k 0 else ls.getD q 0 := fun q => by
      rw [getD_set _ _ _ (by simp; omega), getD_set _ _ _ (by omega)]
    have d1 := dotZ_set (zs := ls) (fs := fs) (ls.getD k 0) hll hi
    have d2 := dotZ_set (zs := ls.set i (ls.getD k 0)) (fs := fs) (ls.getD i 0) (by simp; omega) hk
    have k1 := fillE_put (zs := ls) (ls.getD k 0) (show i < ls.length by omega)
    have k2 := fillE_put (zs := ls.set i (ls.getD k 0)) (ls.getD i 0) (show k < (ls.set i (ls.getD k 0)).length by simp; omega)
    rw [getD_set _ _ _ (by omega), if_neg (Ne.symm hne)] at d2 k2
    have hle := hleast ((ls.set i (ls.getD k 0)).set k (ls.getD i 0)) (by simp; omega) (by
      simp only [okLen, List.all_eq_true, Bool.and_eq_true, decide_eq_true_eq]
      intro z hz
      obtain ⟨q, hq, rfl⟩ := mem_getD hz
      simp only [List.length_set] at hq
      rw [hg]
      have := hgl i hi
      have := hgl k hk
      have := hgl q (by omega)
      split
      · omega
      · split <;> omega) (fun q hq => by
      rw [hg]
      split
      · rename_i h; rw [h, hpos i hi]; constructor <;> intro <;> omega
      · split
        · rename_i h; rw [h, hpos k hk]; constructor <;> intro <;> omega
        · exact hpos q hq) (by omega)
    obtain ⟨d, hd⟩ : ∃ d : Nat, ls.getD i 0 = ls.getD k 0 + (d : Int) + 1 := ⟨(ls.getD i 0 - ls.getD k 0 - 1).toNat, by omega⟩
    obtain ⟨e, he⟩ : ∃ e : Nat, fs.getD i 0 = fs.getD k 0 + (e : Int) + 1 := ⟨(fs.getD i 0 - fs.getD k 0 - 1).toNat, by omega⟩
    rw [hd, he] at d1
    rw [hd] at d2
    have hde : (0 : Int) ≤ (d : Int) * (e : Int) := Int.mul_nonneg (by omega) (by omega)
    simp only [Int.mul_add, Int.add_mul, Int.mul_one, Int.one_mul] at d1 d2
    rw [hd] at hle
    omega
  · omega

end Go.Rlm

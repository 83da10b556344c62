/- Trees of frequencies, plain: which two are put together, how deep a symbol lies. No program in sight. -/
import Derived.Test.YtlcchghlhfamjaaRlmCodes
namespace Go.Rlm

inductive HT where
  | leaf (w : Nat) (i : Nat)
  | node (l r : HT)

def HT.wt : HT → Nat
  | .leaf w _ => w
  | .node l r => l.wt + r.wt
def HT.syms : HT → List Nat
  | .leaf _ i => [i]
  | .node l r => l.syms ++ r.syms
def HT.height : HT → Nat
  | .leaf _ _ => 0
  | .node l r => max l.height r.height + 1

/-- The depths are laid into a row. -/
def HT.lay : HT → Nat → List Int → List Int
  | .leaf _ i, n, out => out.set i (n : Int)
  | .node l r, n, out => r.lay (n + 1) (l.lay (n + 1) out)

@[simp] theorem HT.lay_length (t : HT) (n : Nat) (out : List Int) : (t.lay n out).length = out.length := by
  induction t generalizing n out with
  | leaf w i => simp [lay]
  | node l r ihl ihr => simp [lay, ihl, ihr]

/-! ### The first of the least -/

def minLoop (ws : List Nat) : Nat → Nat → Nat → Nat
  | 0, _, a => a
  | m + 1, i, a => minLoop ws m (i + 1) (if ws.getD i 0 < ws.getD a 0 then i else a)
def minAt (ws : List Nat) : Nat := minLoop ws ws.length 0 0

def FirstMin (ws : List Nat) (n a : Nat) : Prop := a < n ∧ (∀ q, q < n → ws.getD a 0 ≤ ws.getD q 0) ∧ ∀ q, q < a → ws.getD a 0 < ws.getD q 0

theorem minLoop_spec {ws : List Nat} : ∀ (m i a : Nat), 0 < i → FirstMin ws i a → FirstMin ws (i + m) (minLoop ws m i a) := by
  intro m
  induction m with
  | zero => intro i a _ h; exact h
  | succ m ih =>
    intro i a hi h
    rw [show i + (m + 1) = i + 1 + m by omega]
    refine ih (i + 1) _ (by omega) ?_
    obtain ⟨h1, h2, h3⟩ := h
    by_cases hw : ws.getD i 0 < ws.getD a 0
    · rw [if_pos hw]
      refine ⟨by omega, fun q hq => ?_, fun q hq => ?_⟩
      · by_cases h : q = i
        · rw [h]; exact Nat.le_refl _
        · have := h2 q (by omega); omega
      · have := h2 q hq; omega
    · rw [if_neg hw]
      refine ⟨by omega, fun q hq => ?_, h3⟩
      by_cases h : q = i
      · rw [h]; omega
      · exact h2 q (by omega)

theorem minAt_spec {ws : List Nat} (h : ws ≠ []) : FirstMin ws ws.length (minAt ws) := by
  obtain ⟨n, hn⟩ : ∃ n, ws.length = n + 1 := ⟨ws.length - 1, by cases ws; exact absurd rfl h; simp⟩
  unfold minAt
  rw [hn]
  simp only [minLoop]
  have := minLoop_spec (ws := ws) n 1 0 (by omega) ⟨by omega, fun q hq => by rw [show q = 0 by omega]; exact Nat.le_refl _, fun q hq => by omega⟩
  rw [if_neg (by omega), show n + 1 = 1 + n by omega]
  exact this

theorem FirstMin.unique {ws : List Nat} {n a b : Nat} (h : FirstMin ws n a) (k : FirstMin ws n b) : a = b := by
  rcases Nat.lt_trichotomy a b with h1 | h1 | h1
  · have := k.2.2 a h1
    have := h.2.1 b k.1
    omega
  · exact h1
  · have := h.2.2 b h1
    have := k.2.1 a h.1
    omega

/-! ### Two are put together -/

def least (ts : List HT) : Nat := minAt (ts.map HT.wt)
def dflt : HT := .leaf 0 0
def pick (ts : List HT) : HT := ts.getD (least ts) dflt
def rest (ts : List HT) : List HT := ts.eraseIdx (least ts)
def join (ts : List HT) : List HT := rest (rest ts) ++ [.node (pick ts) (pick (rest ts))]
def joinAll : Nat → List HT → List HT
  | 0, ts => ts
  | n + 1, ts => joinAll n (join ts)

theorem least_lt {ts : List HT} (h : ts ≠ []) : least ts < ts.length := by
  have := (minAt_spec (ws := ts.map HT.wt) (by simpa using h)).1
  simpa [least] using this
theorem wt_getD (ts : List HT) (i : Nat) (h : i < ts.length) : (ts.map HT.wt).getD i 0 = (ts.getD i dflt).wt := by
  simp [List.getD_eq_getElem?_getD, h]
theorem pick_le {ts : List HT} {t : HT} (ht : t ∈ ts) : (pick ts).wt ≤ t.wt := by
  have hne : ts ≠ [] := List.ne_nil_of_mem ht
  obtain ⟨q, hq, rfl⟩ := List.getElem_of_mem ht
  obtain ⟨h1, h2, h3⟩ := minAt_spec (ws := ts.map HT.wt) (by simpa using hne)
  have := h2 q (by simpa using hq)
  rw [wt_getD ts q hq, wt_getD ts _ (by simpa using h1)] at this
  simpa [pick, least, List.getD_eq_getElem?_getD, hq] using this
theorem pick_mem {ts : List HT} (h : ts ≠ []) : pick ts ∈ ts := by
  have := least_lt h
  rw [pick, List.getD_eq_getElem?_getD, List.getElem?_eq_getElem this]
  exact List.getElem_mem this
theorem rest_length {ts : List HT} (h : ts ≠ []) : (rest ts).length = ts.length - 1 := by
  rw [rest, List.length_eraseIdx_of_lt (least_lt h)]
theorem rest_sub {ts : List HT} {t : HT} (h : t ∈ rest ts) : t ∈ ts := List.mem_of_mem_eraseIdx h
theorem join_length {ts : List HT} (h : 2 ≤ ts.length) : (join ts).length = ts.length - 1 := by
  have h1 : ts ≠ [] := by intro h0; subst h0; simp at h
  have h2 : rest ts ≠ [] := by intro h0; have := rest_length h1; rw [h0] at this; simp at this; omega
  simp only [join, List.length_append, List.length_singleton, rest_length h2, rest_length h1]
  omega
theorem joinAll_length : ∀ (n : Nat) (ts : List HT), ts.length = n + 1 → (joinAll n ts).length = 1
  | 0, ts, h => h
  | n + 1, ts, h => by
    simp only [joinAll]
    exact joinAll_length n _ (by rw [join_length (by omega)]; omega)

/-- What holds of all trees stays. -/
theorem join_all {p : HT → Prop} {ts : List HT} (h2 : 2 ≤ ts.length) (h : ∀ t ∈ ts, p t) (hn : ∀ a b, p a → p b → p (.node a b)) : ∀ t ∈ join ts, p t := by
  have h1 : ts ≠ [] := by intro h0; subst h0; simp at h2
  have h3 : rest ts ≠ [] := by intro h0; have := rest_length h1; rw [h0] at this; simp at this; omega
  intro t ht
  rcases List.mem_append.1 ht with ht | ht
  · exact h t (rest_sub (rest_sub ht))
  · simp at ht
    subst ht
    exact hn _ _ (h _ (pick_mem h1)) (h _ (rest_sub (pick_mem h3)))

def total (ts : List HT) : Nat := (ts.map HT.wt).sum
theorem sum_erase {ts : List HT} (f : HT → Nat) {i : Nat} (h : i < ts.length) : ((ts.eraseIdx i).map f).sum + f ts[i] = (ts.map f).sum := by
  induction ts generalizing i with
  | nil => simp at h
  | cons t ts ih =>
    cases i with
    | zero => simp [Nat.add_comm]
    | succ i =>
      have := ih (i := i) (by simpa using h)
      simp only [List.eraseIdx_cons_succ, List.map_cons, List.sum_cons, List.getElem_cons_succ]
      omega
theorem sum_rest {ts : List HT} (f : HT → Nat) (h : ts ≠ []) : ((rest ts).map f).sum + f (pick ts) = (ts.map f).sum := by
  have hl := least_lt h
  have := sum_erase f hl
  rw [pick, List.getD_eq_getElem?_getD, List.getElem?_eq_getElem hl]
  exact this
theorem sum_join {ts : List HT} (f : HT → Nat) (h2 : 2 ≤ ts.length) : ((join ts).map f).sum + f (pick ts) + f (pick (rest ts)) = (ts.map f).sum + f (.node (pick ts) (pick (rest ts))) := by
  have h1 : ts ≠ [] := by intro h0; subst h0; simp at h2
  have h3 : rest ts ≠ [] := by intro h0; have := rest_length h1; rw [h0] at this; simp at this; omega
  have a := sum_rest f h1
  have b := sum_rest f h3
  simp only [join, List.map_append, List.sum_append, List.map_cons, List.map_nil, List.sum_cons, List.sum_nil]
  omega
theorem join_total {ts : List HT} (h2 : 2 ≤ ts.length) : total (join ts) = total ts := by
  have := sum_join HT.wt h2
  simp only [HT.wt] at this
  simp only [total]
  omega

/-! ### Lengths of frequencies -/

def leavesFrom : Nat → List Int → List HT
  | _, [] => []
  | i, f :: fs => if f > 0 then .leaf f.toNat i :: leavesFrom (i + 1) fs else leavesFrom (i + 1) fs
def lensOf (fs : List Int) : List Int :=
  match leavesFrom 0 fs with
  | [] => List.replicate fs.length 0
  | [t] => t.lay 1 (List.replicate fs.length 0)
  | ts =>
    match joinAll (ts.length - 1) ts with
    | t :: _ => t.lay 0 (List.replicate fs.length 0)
    | [] => List.replicate fs.length 0
def fits (zs : List Int) : Bool := zs.all fun z => decide (z ≤ 15)
def halve (fs : List Int) : List Int := fs.map fun f => (f + 1).tdiv 2
def lensLoop : Nat → List Int → List Int
  | 0, fs => lensOf fs
  | n + 1, fs => if fits (lensOf fs) then lensOf fs else lensLoop n (halve fs)
def lengthsOf (fs : List Int) : List Int := lensLoop 30 fs

theorem lengths112 : lengthsOf [1, 1, 2] = [2, 2, 1] := by decide
theorem lengths070 : lengthsOf [0, 7, 0] = [0, 1, 0] := by decide

theorem leavesFrom_snoc (fs : List Int) (f : Int) (i : Nat) : leavesFrom i (fs ++ [f]) = leavesFrom i fs ++ (if f > 0 then [.leaf f.toNat (i + fs.length)] else []) := by
  induction fs generalizing i with
  | nil => simp [leavesFrom]
  | cons g fs ih =>
    simp only [List.cons_append, leavesFrom, ih, List.length_cons]
    rw [show i + 1 + fs.length = i + (fs.length + 1) by omega]
    split <;> simp
theorem leavesFrom_length (fs : List Int) (i : Nat) : (leavesFrom i fs).length ≤ fs.length := by
  induction fs generalizing i with
  | nil => simp [leavesFrom]
  | cons g fs ih =>
    simp only [leavesFrom]
    have := ih (i + 1)
    split <;> simp <;> omega
theorem leavesFrom_leaf {fs : List Int} {i : Nat} {t : HT} (h : t ∈ leavesFrom i fs) : ∃ q, q < fs.length ∧ t = .leaf (fs.getD q 0).toNat (i + q) ∧ 0 < fs.getD q 0 := by
  induction fs generalizing i with
  | nil => simp [leavesFrom] at h
  | cons g fs ih =>
    have key : t ∈ leavesFrom (i + 1) fs → ∃ q, q < (g :: fs).length ∧ t = .leaf ((g :: fs).getD q 0).toNat (i + q) ∧ 0 < (g :: fs).getD q 0 := fun h => by
      obtain ⟨q, h1, h2, h3⟩ := ih h
      exact ⟨q + 1, by simpa using h1, by rw [h2, show i + 1 + q = i + (q + 1) by omega]; rfl, by simpa using h3⟩
    simp only [leavesFrom] at h
    split at h
    · rename_i hg
      rcases List.mem_cons.1 h with rfl | h
      · exact ⟨0, by simp, by simp, by simpa using hg⟩
      · exact key h
    · exact key h

theorem lensOf_length (fs : List Int) : (lensOf fs).length = fs.length := by
  unfold lensOf
  split
  · simp
  · simp
  · split <;> simp
theorem halve_length (fs : List Int) : (halve fs).length = fs.length := by simp [halve]
theorem lensLoop_length : ∀ (n : Nat) (fs : List Int), (lensLoop n fs).length = fs.length
  | 0, fs => lensOf_length fs
  | n + 1, fs => by
    simp only [lensLoop]
    split
    · exact lensOf_length fs
    · rw [lensLoop_length n, halve_length]
theorem lengthsOf_length (fs : List Int) : (lengthsOf fs).length = fs.length := lensLoop_length 30 fs

end Go.Rlm

/- The two least ones in one pass; depths, symbol by symbol. No program in sight. -/
import Derived.Test.YtlcchghlhfamjaaRlmHuffC
namespace Go.Rlm

/-- One pass: the least one, and the least of the others. -/
def twoStep (ws : List Nat) (p : Nat) (ab : Option Nat × Option Nat) : Option Nat × Option Nat :=
  match ab.1 with
  | none => (some p, none)
  | some a =>
    if ws.getD p 0 < ws.getD a 0 then (some p, some a)
    else match ab.2 with
      | none => (some a, some p)
      | some b => if ws.getD p 0 < ws.getD b 0 then (some a, some p) else (some a, some b)
def twoTo (ws : List Nat) : Nat → Option Nat × Option Nat
  | 0 => (none, none)
  | p + 1 => twoStep ws p (twoTo ws p)

def SecondMin (ws : List Nat) (n a b : Nat) : Prop := b < n ∧ b ≠ a ∧ (∀ q, q < n → q ≠ a → ws.getD b 0 ≤ ws.getD q 0) ∧ ∀ q, q < b → q ≠ a → ws.getD b 0 < ws.getD q 0
theorem SecondMin.unique {ws : List Nat} {n a b c : Nat} (h : SecondMin ws n a b) (k : SecondMin ws n a c) : b = c := by
  rcases Nat.lt_trichotomy b c with h1 | h1 | h1
  · have := k.2.2.2 b h1 h.2.1
    have := h.2.2.1 c k.1 k.2.1
    omega
  · exact h1
  · have := h.2.2.2 c h1 k.2.1
    have := k.2.2.1 b h.1 h.2.1
    omega

theorem twoTo_spec (ws : List Nat) : ∀ p, (p = 0 → twoTo ws p = (none, none)) ∧ (p = 1 → twoTo ws p = (some 0, none)) ∧ (2 ≤ p → ∃ a b, twoTo ws p = (some a, some b) ∧ FirstMin ws p a ∧ SecondMin ws p a b) := by
  intro p
  induction p with
  | zero => exact ⟨fun _ => rfl, fun h => by omega, fun h => by omega⟩
  | succ p ih =>
    refine ⟨fun h => by omega, fun h => ?_, fun h => ?_⟩
    · obtain rfl : p = 0 := by omega
      rfl
    · simp only [twoTo]
      by_cases h1 : p = 1
      · subst h1
        rw [ih.2.1 rfl]
        simp only [twoStep]
        by_cases hw : ws.getD 1 0 < ws.getD 0 0
        · rw [if_pos hw]
          refine ⟨1, 0, rfl, ⟨by omega, fun q hq => ?_, fun q hq => ?_⟩, ⟨by omega, by omega, fun q hq hne => ?_, fun q hq => by omega⟩⟩
          · rcases (show q = 0 ∨ q = 1 by omega) with rfl | rfl <;> omega
          · obtain rfl : q = 0 := by omega
            exact hw
          · obtain rfl : q = 0 := by omega
            exact Nat.le_refl _
        · rw [if_neg hw]
          refine ⟨0, 1, rfl, ⟨by omega, fun q hq => ?_, fun q hq => by omega⟩, ⟨by omega, by omega, fun q hq hne => ?_, fun q hq hne => by omega⟩⟩
          · rcases (show q = 0 ∨ q = 1 by omega) with rfl | rfl <;> omega
          · obtain rfl : q = 1 := by omega
            exact Nat.le_refl _
      · obtain ⟨a, b, e, ⟨f1, f2, f3⟩, ⟨s1, s2, s3, s4⟩⟩ := ih.2.2 (by omega)
        rw [e]
        simp only [twoStep]
        by_cases hw : ws.getD p 0 < ws.getD a 0
        · rw [if_pos hw]
          refine ⟨p, a, rfl, ⟨by omega, fun q hq => ?_, fun q hq => ?_⟩, ⟨by omega, by omega, fun q hq hne => f2 q (by omega), fun q hq hne => f3 q hq⟩⟩
          · by_cases hqp : q = p
            · rw [hqp]; exact Nat.le_refl _
            · have := f2 q (by omega); omega
          · have := f2 q (by omega); omega
        · rw [if_neg hw]
          have F : FirstMin ws (p + 1) a := ⟨by omega, fun q hq => by
            by_cases hqp : q = p
            · rw [hqp]; omega
            · exact f2 q (by omega), f3⟩
          by_cases hw2 : ws.getD p 0 < ws.getD b 0
          · rw [if_pos hw2]
            refine ⟨a, p, rfl, F, ⟨by omega, by omega, fun q hq hne => ?_, fun q hq hne => ?_⟩⟩
            · by_cases hqp : q = p
              · rw [hqp]; exact Nat.le_refl _
              · have := s3 q (by omega) hne; omega
            · have := s3 q (by omega) hne; omega
          · rw [if_neg hw2]
            refine ⟨a, b, rfl, F, ⟨by omega, s2, fun q hq hne => ?_, s4⟩⟩
            by_cases hqp : q = p
            · rw [hqp]; omega
            · exact s3 q (by omega) hne

theorem getD_erase {ws : List Nat} {a : Nat} (q : Nat) : (ws.eraseIdx a).getD q 0 = ws.getD (if q < a then q else q + 1) 0 := by
  rw [List.getD_eq_getElem?_getD, List.getD_eq_getElem?_getD, List.getElem?_eraseIdx]
  split <;> rfl

/-- The two that the pass finds are the two that are put together. -/
theorem two_least {ts : List HT} (h : 2 ≤ ts.length) : twoTo (ts.map HT.wt) ts.length = (some (least ts), some (if least (rest ts) < least ts then least (rest ts) else least (rest ts) + 1)) := by
  have hne : ts ≠ [] := by intro h0; subst h0; simp at h
  have hrl := rest_length hne
  have hne2 : rest ts ≠ [] := by intro h0; rw [h0] at hrl; simp at hrl; omega
  obtain ⟨a, b, e, f, s⟩ := (twoTo_spec (ts.map HT.wt) ts.length).2.2 h
  have hm := minAt_spec (ws := ts.map HT.wt) (by simpa using hne)
  rw [List.length_map] at hm
  obtain rfl : a = least ts := f.unique hm
  have hm2 := minAt_spec (ws := (rest ts).map HT.wt) (by simpa using hne2)
  have hmap : (rest ts).map HT.wt = (ts.map HT.wt).eraseIdx (least ts) := by
    unfold rest
    generalize least ts = i
    clear hm hm2 s f e hrl hne hne2 h
    induction ts generalizing i with
    | nil => simp
    | cons t ts ih => cases i with
      | zero => simp
      | succ i => simp [ih]
  rw [List.length_map, hrl] at hm2
  have hlt : least ts < ts.length := hm.1
  obtain ⟨g1, g2, g3⟩ := hm2
  have hl2 : minAt ((rest ts).map HT.wt) = least (rest ts) := rfl
  rw [hl2] at g1 g2 g3
  generalize hj : least (rest ts) = j at *
  simp only [hmap, getD_erase] at g2 g3
  have hs : SecondMin (ts.map HT.wt) ts.length (least ts) (if j < least ts then j else j + 1) := by
    refine ⟨by split <;> omega, by split <;> omega, fun q hq hne => ?_, fun q hq hne => ?_⟩
    · by_cases hqa : q < least ts
      · have := g2 q (by omega)
        rw [if_pos hqa] at this
        exact this
      · have := g2 (q - 1) (by omega)
        rw [if_neg (show ¬ q - 1 < least ts by omega), show q - 1 + 1 = q by omega] at this
        exact this
    · by_cases hqa : q < least ts
      · have := g3 q (by split at hq <;> omega)
        rw [if_pos hqa] at this
        exact this
      · have := g3 (q - 1) (by split at hq <;> omega)
        rw [if_neg (show ¬ q - 1 < least ts by omega), show q - 1 + 1 = q by omega] at this
        exact this
  rw [e, s.unique hs]

/-! ### Depths, symbol by symbol -/

def HT.dpt : HT → Nat → Nat
  | .leaf _ _, _ => 0
  | .node l r, i => 1 + (if i ∈ l.syms then l.dpt i else r.dpt i)

theorem lay_dpt (t : HT) : ∀ (n : Nat) (out : List Int) (i : Nat), t.syms.Nodup → i ∈ t.syms → i < out.length → (t.lay n out)[i]? = some ((n + t.dpt i : Nat) : Int) := by
  induction t with
  | leaf w j =>
    intro n out i hd hi hl
    simp only [HT.syms, List.mem_singleton] at hi
    subst hi
    simp [HT.lay, HT.dpt, hl]
  | node l r ihl ihr =>
    intro n out i hd hi hl
    simp only [HT.syms] at hd hi
    obtain ⟨d1, d2, d3⟩ := List.nodup_append.1 hd
    simp only [HT.lay, HT.dpt]
    by_cases h : i ∈ l.syms
    · rw [if_pos h, lay_other r _ _ _ (fun h2 => d3 i h i h2 rfl), ihl (n + 1) out i d1 h hl]
      congr 2; omega
    · rw [if_neg h, ihr (n + 1) _ i d2 ((List.mem_append.1 hi).resolve_left h) (by rw [HT.lay_length]; exact hl)]
      congr 2; omega

def inc (out : List Int) (i : Nat) : List Int := out.set i (out.getD i 0 + 1)
def incAll (is : List Nat) (out : List Int) : List Int := is.foldl inc out
@[simp] theorem incAll_length (is : List Nat) (out : List Int) : (incAll is out).length = out.length := by
  unfold incAll
  induction is generalizing out with
  | nil => rfl
  | cons i is ih => rw [List.foldl_cons, ih]; simp [inc]
theorem incAll_get {is : List Nat} : ∀ {out : List Int} {j : Nat} {z : Int}, is.Nodup → out[j]? = some z → (incAll is out)[j]? = some (if j ∈ is then z + 1 else z) := by
  induction is with
  | nil => intro out j z _ h; simpa [incAll] using h
  | cons i is ih =>
    intro out j z hd h
    obtain ⟨d1, d2⟩ := List.nodup_cons.1 hd
    have hlt : j < out.length := (List.getElem?_eq_some_iff.1 h).1
    simp only [incAll, List.foldl_cons]
    by_cases hij : i = j
    · subst hij
      have : (inc out i)[i]? = some (z + 1) := by
        unfold inc
        rw [List.getElem?_set_self hlt, List.getD_eq_getElem?_getD, h]; rfl
      have := ih d2 this
      rw [if_neg d1] at this
      rw [if_pos (by simp)]
      exact this
    · have : (inc out i)[j]? = some z := by unfold inc; rw [List.getElem?_set_ne hij, h]
      have := ih d2 this
      have hmem : (j ∈ i :: is) ↔ j ∈ is := by simp [Ne.symm hij]
      by_cases hjs : j ∈ is
      · rw [if_pos (hmem.2 hjs)]; rw [if_pos hjs] at this; exact this
      · rw [if_neg (fun hh => hjs (hmem.1 hh))]; rw [if_neg hjs] at this; exact this

/-- The row as far as the forest goes. -/
def Laid (N : Nat) (ts : List HT) (out : List Int) : Prop :=
  out.length = N ∧ (∀ t ∈ ts, ∀ i ∈ t.syms, out[i]? = some ((t.dpt i : Nat) : Int)) ∧ ∀ i, i < N → (∀ t ∈ ts, i ∉ t.syms) → out[i]? = some 0

theorem laid_join {N : Nat} {ts : List HT} {out : List Int} (h2 : 2 ≤ ts.length) (hd : (allSyms ts).Nodup) (h : Laid N ts out) : Laid N (join ts) (incAll ((pick ts).syms ++ (pick (rest ts)).syms) out) := by
  have h1 : ts ≠ [] := by intro h0; subst h0; simp at h2
  have h3 : rest ts ≠ [] := by intro h0; have := rest_length h1; rw [h0] at this; simp at this; omega
  obtain ⟨l1, l2, l3⟩ := h
  have pa := pick_mem h1
  have pb := rest_sub (pick_mem h3)
  have hp := join_perm h2
  have hdj : (allSyms (join ts)).Nodup := hp.nodup_iff.2 hd
  simp only [allSyms, join, List.flatMap_append, List.flatMap_cons, List.flatMap_nil, List.append_nil, HT.syms] at hdj
  obtain ⟨n1, n2, n3⟩ := List.nodup_append.1 hdj
  refine ⟨by rw [incAll_length]; exact l1, fun t ht i hi => ?_, fun i hi hno => ?_⟩
  · rcases List.mem_append.1 ht with ht | ht
    · have hz := l2 t (rest_sub (rest_sub ht)) i hi
      have hni : i ∉ (pick ts).syms ++ (pick (rest ts)).syms := fun hh => n3 i (List.mem_flatMap.2 ⟨t, ht, hi⟩) i hh rfl
      have := incAll_get n2 hz
      rw [if_neg hni] at this
      exact this
    · simp only [List.mem_singleton] at ht
      subst ht
      simp only [HT.syms] at hi
      simp only [HT.dpt]
      by_cases ha : i ∈ (pick ts).syms
      · have := incAll_get n2 (l2 _ pa i ha)
        rw [if_pos hi] at this
        rw [this, if_pos ha]
        congr 1; omega
      · have hb := (List.mem_append.1 hi).resolve_left ha
        have := incAll_get n2 (l2 _ pb i hb)
        rw [if_pos hi] at this
        rw [this, if_neg ha]
        congr 1; omega
  · have hno' : ∀ t ∈ ts, i ∉ t.syms := fun t ht hh => by
      have hmem : i ∈ allSyms (join ts) := hp.mem_iff.2 (List.mem_flatMap.2 ⟨t, ht, hh⟩)
      obtain ⟨u, hu, hiu⟩ := List.mem_flatMap.1 hmem
      exact hno u hu hiu
    have := incAll_get n2 (l3 i hi hno')
    rw [if_neg (fun hh => by
      rcases List.mem_append.1 hh with hh | hh
      · exact hno' _ pa hh
      · exact hno' _ pb hh)] at this
    exact this

theorem laid_one {N : Nat} {t : HT} {out : List Int} (hd : t.syms.Nodup) (hs : ∀ i ∈ t.syms, i < N) (h : Laid N [t] out) : out = t.lay 0 (List.replicate N 0) := by
  obtain ⟨l1, l2, l3⟩ := h
  apply List.ext_getElem?
  intro i
  by_cases hi : i < N
  · by_cases hm : i ∈ t.syms
    · rw [l2 t (by simp) i hm, lay_dpt t 0 _ i hd hm (by simpa using hi), Nat.zero_add]
    · rw [l3 i hi (by simpa using hm), lay_other t _ _ _ hm]
      simp [hi]
  · rw [List.getElem?_eq_none (by omega), List.getElem?_eq_none (by rw [HT.lay_length]; simp; omega)]

end Go.Rlm

/- The logical machine: what came in. A slice that is only read is a block of its own. -/
import Derived.Test.YtlcchghlhfamjaaRlmS19
namespace Go.Rlm

/-- The block of what came in: it is only read; nothing there: it is not looked at. -/
def inp : List Value → LBlk
  | [] => .dead
  | v :: vs => .cells (v :: vs) 0 true 0

theorem not_own_inp {L : LHeap} (h : ∀ r, ¬ own L r) (vs : List Value) (r : Nat) : ¬ own (L ++ [inp vs]) r := by
  rintro ⟨cs, e, sp, hr⟩
  rcases Nat.lt_trichotomy r L.length with hl | hl | hl
  · rw [List.getElem?_append_left hl] at hr
    exact h r ⟨cs, e, sp, hr⟩
  · subst hl
    rw [List.getElem?_append_right (Nat.le_refl _)] at hr
    cases vs <;> simp [inp] at hr
  · rw [List.getElem?_append_right (Nat.le_of_lt hl)] at hr
    have : r - L.length ≠ 0 := by omega
    match h : r - L.length, this with
    | k + 1, _ => rw [h] at hr; simp at hr

theorem Rep.input {P : Program} {m : RMap} {L : LHeap} {w : World} (h : Rep P m L w) (hno : ∀ r, ¬ own L r) {x : Addr} {vs : List Value}
    (hc : ∀ (i : Nat) (v : Value), vs[i]? = some v → w.cell? (x.add i) = some v) (hf : ∀ v ∈ vs, Rlm.flat1 v = true) (n c : Nat) (hcap : c < OPEN) :
    ∃ m', MExt m m' ∧ Rep P m' (L ++ [inp vs]) w ∧ (∀ r, ¬ own (L ++ [inp vs]) r) ∧ VR m' (.slice (some ⟨L.length, 0, x.spot⟩) n c) (.slice (some x) n c) ∧ (vs ≠ [] → x.spot = none) := by
  have hfr : m L.length = none := h.fresh _ (Nat.le_refl _)
  have hext := MExt.ins (m := m) (r := L.length) ⟨x.block, x.off, 0, 0⟩ hfr
  have hnow := not_own_inp hno vs
  have hat : (⟨x.block, x.off, 0, 0⟩ : Info).at ⟨L.length, 0, x.spot⟩ = x := by cases x; simp [Info.at]
  have hself : ins m L.length ⟨x.block, x.off, 0, 0⟩ L.length = some ⟨x.block, x.off, 0, 0⟩ := by simp [Rlm.ins]
  have hspot : vs ≠ [] → x.spot = none := by
    intro hne
    cases vs with
    | nil => exact absurd rfl hne
    | cons v vs =>
      have := hc 0 v rfl
      simp only [Addr.add, if_true, World.cell?] at this
      split at this
      · split at this
        · cases this
        · rename_i hs
          cases hx : x.spot with
          | none => rfl
          | some s => rw [hx] at hs; simp at hs
      · cases this
  refine ⟨ins m L.length ⟨x.block, x.off, 0, 0⟩, hext, ⟨fun r hr => ?_, fun r cs e ro sp hr => ?_, fun r r' i i' ho => absurd ho (hnow r)⟩, hnow, ?_, hspot⟩
  · simp only [List.length_append, List.length_singleton] at hr
    simp only [Rlm.ins]
    rw [if_neg (by omega)]
    exact h.fresh r (by omega)
  · rcases Nat.lt_trichotomy r L.length with hl | hl | hl
    · rw [List.getElem?_append_left hl] at hr
      obtain ⟨i, h1, h2⟩ := h.row r cs e ro sp hr
      refine ⟨i, hext _ _ h1, ⟨?_, h2.ones⟩⟩
      obtain ⟨cp, e', fz, k1, k2, k3, k4⟩ := h2.there
      exact ⟨cp, e', fz, k1, fun j v hj => let ⟨v', q1, q2⟩ := k2 j v hj; ⟨v', q1, q2.mono hext⟩, k3, k4⟩
    · subst hl
      rw [List.getElem?_append_right (Nat.le_refl _)] at hr
      cases vs with
      | nil => simp [inp] at hr
      | cons v vs =>
        simp [inp] at hr
        obtain ⟨rfl, rfl, rfl, rfl⟩ := hr
        have hs := hspot (by simp)
        have cellAt : ∀ (i : Nat) (u : Value), (v :: vs)[i]? = some u → ∃ cp e' fz, w.heap[x.block]? = some (.cells cp e' fz) ∧ cp[x.off + i]? = some u := by
          intro i u hu
          have := hc i u hu
          have e : x.add i = ⟨x.block, x.off + i, none⟩ := by
            unfold Addr.add
            split
            · rename_i h0; subst h0; cases x; simp_all
            · rfl
          rw [e] at this
          simp only [World.cell?] at this
          split at this
          · rename_i cp e' fz hw
            simp at this
            exact ⟨cp, e', fz, hw, this⟩
          · cases this
        obtain ⟨cp, e', fz, hw, _⟩ := cellAt 0 v rfl
        refine ⟨_, hself, ⟨⟨cp, e', fz, hw, fun j u hu => ?_, fun h => (by cases h), fun h => absurd rfl h⟩, fun u hu => one_of_flat1 (hf u hu)⟩⟩
        obtain ⟨cp', e'', fz', hw', hu'⟩ := cellAt j u hu
        rw [hw] at hw'
        injection hw' with hw'
        injection hw' with q1 q2 q3
        subst q1
        exact ⟨u, hu', .flat1 (hf u (List.mem_of_getElem? hu))⟩
    · rw [List.getElem?_append_right (Nat.le_of_lt hl)] at hr
      have : r - L.length ≠ 0 := by omega
      match hk : r - L.length, this with
      | k + 1, _ => rw [hk] at hr; simp at hr
  · have := VR.slice (m := ins m L.length ⟨x.block, x.off, 0, 0⟩) (a := ⟨L.length, 0, x.spot⟩) (n := n) (c := c) hself hcap
    rwa [hat] at this

end Go.Rlm

/- Slices that somebody owns, of elements of several cells. No program in sight. -/
import Derived.Test.YtlcchghlhfamjaaRlmHeap
namespace Go.Rlm

def OZ (L : LHeap) (s : Sl) (vs : List Value) (e : TypeId) (z : Nat) (F : List Nat) : Prop :=
  s.n * z = vs.length ∧ 0 < z ∧ ((s = ⟨none, 0, 0⟩ ∧ vs = [] ∧ F = []) ∨ ∃ c, s = ⟨some ⟨c, 0, none⟩, s.n, OPEN⟩ ∧ L[c]? = some (.cells vs e false z) ∧ F = [c])

theorem OZ.nil (L : LHeap) (e : TypeId) {z : Nat} (hz : 0 < z) : OZ L ⟨none, 0, 0⟩ [] e z [] := ⟨by simp, hz, .inl ⟨rfl, rfl, rfl⟩⟩
theorem OZ.mono {L L' : LHeap} {s : Sl} {vs : List Value} {e : TypeId} {z : Nat} {F : List Nat} (h : OZ L s vs e z F) (hk : ∀ i ∈ F, L'[i]? = L[i]?) : OZ L' s vs e z F := by
  obtain ⟨h1, h2, h | ⟨c, h3, h4, rfl⟩⟩ := h
  · exact ⟨h1, h2, .inl h⟩
  · exact ⟨h1, h2, .inr ⟨c, h3, by rw [hk c (by simp), h4], rfl⟩⟩
theorem OZ.within {L : LHeap} {s : Sl} {vs : List Value} {e : TypeId} {z : Nat} {F : List Nat} (h : OZ L s vs e z F) : Within F L := by
  obtain ⟨h1, h2, ⟨_, _, rfl⟩ | ⟨c, h3, h4, rfl⟩⟩ := h
  · intro i hi; simp at hi
  · intro i hi; simp at hi; subst hi; exact get_lt h4
theorem OZ.get {L : LHeap} {s : Sl} {vs : List Value} {e : TypeId} {z : Nat} {F : List Nat} (h : OZ L s vs e z F) {i : Nat} (hi : i < s.n) :
    ∃ c, idx s (i : Int) z = some ⟨c, i * z, none⟩ ∧ ∀ L', (∀ x ∈ F, L'[x]? = L[x]?) → ∀ o, cell L' ⟨c, o, none⟩ = vs[o]? := by
  obtain ⟨h1, h2, ⟨rfl, _, _⟩ | ⟨c, h3, h4, rfl⟩⟩ := h
  · simp at hi
  · refine ⟨c, ?_, fun L' hk o => cell_of (by rw [hk c (by simp), h4])⟩
    rw [h3, idx_of hi]
    simp

theorem OZ.app {L : LHeap} {s : Sl} {vs : List Value} {e : TypeId} {z : Nat} {F : List Nat} (h : OZ L s vs e z F) (news : List Value) (q bytes : Nat) (hq : 0 < q) (hn : news.length = q * z)
    (hb : (s.n + q) * bytes ≤ 2 ^ 47) (hl : s.n + q ≤ 2 ^ 62) :
    ∃ s' L' F', Rlm.app L e z bytes s q news = some (s', L') ∧ OZ L' s' (vs ++ news) e z F' ∧ s'.n = s.n + q ∧ Step F L F' L' := by
  obtain ⟨h1, h2, ⟨rfl, rfl, rfl⟩ | ⟨c, h3, h4, rfl⟩⟩ := h
  · refine ⟨⟨some ⟨L.length, 0, none⟩, q, OPEN⟩, L ++ [.cells news e false z], [L.length], ?_, ⟨by simp [hn], h2, .inr ⟨L.length, by simp, by simp, rfl⟩⟩, by simp, .new [] L _⟩
    simp only [Nat.zero_add] at hb hl
    have hf : Nat.ble q 0 = false := by
      cases hc : Nat.ble q 0 with
      | false => rfl
      | true => have := Nat.le_of_ble_eq_true hc; omega
    simp only [Rlm.app, Nat.zero_add]
    rw [show Nat.blt 0 OPEN = true from rfl, hf, Nat.ble_eq_true_of_le hb, Nat.ble_eq_true_of_le hl]
    simp [srcCells]
  · have hx : blen L ⟨c, 0, none⟩ z = some s.n := by
      simp only [blen, h4, Nat.beq_refl, Bool.true_and, Nat.sub_zero]
      rw [show Nat.blt 0 z = true from Nat.ble_eq_true_of_le h2, cond_true, ← h1, Nat.mul_div_cancel _ h2]
    generalize hsn : s.n = n at *
    subst h3
    have hf : Nat.ble (n + q) n = false := by
      cases hc : Nat.ble (n + q) n with
      | false => rfl
      | true => have := Nat.le_of_ble_eq_true hc; omega
    refine ⟨⟨some ⟨L.length, 0, none⟩, n + q, OPEN⟩, L.set c .dead ++ [.cells (vs ++ news) e false z], [L.length], ?_, ⟨by simp [hn, Nat.add_mul, h1], h2, .inr ⟨L.length, by simp, by rw [← List.length_set (as := L) (i := c) (a := .dead)]; exact get_new, rfl⟩⟩, rfl, ?_⟩
    · simp only [Rlm.app]
      rw [show Nat.blt OPEN OPEN = false by decide, show Nat.beq OPEN OPEN = true from Nat.beq_refl _]
      simp only [cond_true, cond_false, hx]
      rw [hf, Nat.ble_eq_true_of_le hb, Nat.ble_eq_true_of_le hl]
      simp [h4, Nat.ble_eq_true_of_le, h1]
    · refine ⟨by simp, fun i hi hn => ?_, fun i hi => by simp at hi; subst hi; exact .inr (Nat.le_refl _)⟩
      rw [get_push (by simpa using hi), get_set_ne (fun e => hn (by simp [e]))]

end Go.Rlm

/- The logical machine and the model: stores and new blocks. -/
import Derived.Test.YtlcchghlhfamjaaRlmS1
namespace Go.Rlm

theorem one_eq_oneCell (v : Value) : v.oneCell' = one v := by cases v <;> rfl

/-! ### Stores -/

theorem setAll_length (vs : List Value) : ∀ (cs : List Value) (o : Nat), (setAll cs o vs).length = cs.length := by
  induction vs with
  | nil => intro cs o; rfl
  | cons v vs ih => intro cs o; simp [setAll, ih]

theorem setAll_get (vs : List Value) : ∀ (cs : List Value) (o j : Nat), o + vs.length ≤ cs.length →
    (setAll cs o vs)[j]? = if o ≤ j ∧ j < o + vs.length then vs[j - o]? else cs[j]? := by
  induction vs with
  | nil => intro cs o j _; rw [setAll, if_neg (by simp only [List.length_nil]; omega)]
  | cons v vs ih =>
    intro cs o j h
    simp only [List.length_cons] at h
    rw [setAll, ih (cs.set o v) (o + 1) j (by simp; omega)]
    by_cases h1 : o + 1 ≤ j ∧ j < o + 1 + vs.length
    · rw [if_pos h1, if_pos (by simp; omega), show j - o = (j - (o + 1)) + 1 by omega]
      simp
    · rw [if_neg h1]
      by_cases h2 : j = o
      · subst h2
        rw [List.getElem?_set_self (by omega), if_pos (by simp)]
        simp
      · rw [if_neg (by simp; omega), List.getElem?_set_ne (by omega)]

/-- Cells written one behind the other into a block. -/
theorem run_stores (P : Program) (b : Nat) (e : TypeId) (fz : Nat × Nat) (vs : List Value) : ∀ (cp : Array Value) (o k : Nat) (w : World),
    w.heap[b]? = some (.cells cp e fz) → o + k + vs.length ≤ cp.size → (∀ j, j < cp.size → ¬ (fz.1 ≤ j ∧ j < fz.2)) → (∀ v ∈ vs, one v = true) →
    ∃ w', (storeCells ⟨b, o, none⟩ vs k).run P w = .ok () w' ∧ w'.heap = w.heap.setIfInBounds b (.cells ⟨setAll cp.toList (o + k) vs⟩ e fz) ∧
      w'.os = w.os ∧ w'.tape = w.tape ∧ w'.output = w.output := by
  induction vs with
  | nil =>
    intro cp o k w hh _ _ _
    refine ⟨w, rfl, ?_, rfl, rfl, rfl⟩
    apply Array.ext_getElem?
    intro j
    rw [Array.getElem?_setIfInBounds]
    split
    · rename_i hj
      subst hj
      rw [if_pos (Array.getElem?_eq_some_iff.1 hh).1, hh]
      rfl
    · rfl
  | cons v vs ih =>
    intro cp o k w hh hle hfz ho
    simp only [List.length_cons] at hle
    have hlt : o + k < cp.size := by omega
    have hadd : (Addr.mk b o none).add k = ⟨b, o + k, none⟩ := by unfold Addr.add; split <;> simp_all
    have hc : w.cell? ⟨b, o + k, none⟩ = some cp[o + k] := by simp [World.cell?, hh, hlt]
    have hf : w.frozen? ⟨b, o + k, none⟩ = false := by
      have := hfz (o + k) hlt
      simp [World.frozen?, hh]
      intro h1
      exact Nat.le_of_not_lt fun h2 => this ⟨h1, h2⟩
    have h1 : (w.setCell ⟨b, o + k, none⟩ v).heap[b]? = some (.cells ⟨cp.toList.set (o + k) v⟩ e fz) := by
      have hb := (Array.getElem?_eq_some_iff.1 hh)
      simp only [World.setCell]
      rw [Array.getElem?_modify, if_pos rfl, hh]
      simp only [Option.map_some, Option.isSome_none, Bool.false_eq_true, if_false, Array.setIfInBounds]
      simp [hlt, Array.set]
    obtain ⟨w', h2, h3, h4, h5, h6⟩ := ih ⟨cp.toList.set (o + k) v⟩ o (k + 1) (w.setCell ⟨b, o + k, none⟩ v) h1 (by simp; omega) (by simpa using hfz) (fun u hu => ho u (by simp [hu]))
    refine ⟨w', ?_, ?_, h4.trans rfl, h5.trans rfl, h6.trans rfl⟩
    · simp only [storeCells, Sem.run_bind, hadd]
      rw [run_store P w ⟨b, o + k, none⟩ v .plain (by rw [one_eq_oneCell]; exact ho v (by simp))]
      simp only [hc, hf, Bool.false_eq_true, if_false, Result.andThen_ok]
      exact h2
    · rw [h3]
      simp only [setAll, ← Nat.add_assoc]
      apply Array.ext_getElem?
      intro j
      simp only [Array.getElem?_setIfInBounds, World.setCell, Array.size_modify, Array.getElem?_modify]
      by_cases hj : b = j
      · simp [hj]
      · simp [hj]

theorem Rep.stores {P : Program} {m : RMap} {L L' : LHeap} {w : World} (h : Rep P m L w) {a : Addr} {vs vs' : List Value} (hs : stores L a vs = some L')
    (hv : VRs m vs vs') (ho : ∀ v ∈ vs, one v = true) {i : Info} (hi : m a.block = some i) :
    ∃ w', (storeCells (i.at a) vs').run P w = .ok () w' ∧ Rep P m L' w' ∧ Tr m L w m L' w' := by
  unfold Rlm.stores at hs
  split at hs
  · cases hs
  rename_i hspot
  split at hs
  case h_2 => cases hs
  rename_i cs e sp hr
  simp only [hif_eq, cond_eq_ite] at hs
  split at hs
  case isFalse => cases hs
  rename_i hle
  simp only [Nat.ble_eq] at hle
  injection hs with hs
  subst hs
  obtain ⟨i', hm, hrow⟩ := h.row _ _ _ _ _ hr
  rw [hi] at hm; injection hm with hm; subst hm
  obtain ⟨cp, e', fz, hh, hcell, hro, hsp⟩ := hrow.there
  obtain ⟨hbase, rfl, hfz⟩ := hro rfl
  have hlt : a.block < L.length := (List.getElem?_eq_some_iff.1 hr).1
  have hcs : cs.length ≤ cp.size := by
    rcases Nat.eq_zero_or_pos cs.length with h0 | h0
    · omega
    · obtain ⟨v', h1, _⟩ := hcell (cs.length - 1) cs[cs.length - 1] (by simp)
      have := (Array.getElem?_eq_some_iff.1 h1).1
      omega
  have hlen := hv.length
  have hat : i.at a = ⟨i.blk, a.off, none⟩ := by simp [Info.at, hbase, hspot]
  obtain ⟨w', h1, h2, h3, h4, h5⟩ := run_stores P i.blk e' fz vs' cp a.off 0 w hh (by omega) hfz (hv.ones ho)
  have hnew : w'.heap[i.blk]? = some (.cells ⟨setAll cp.toList a.off vs'⟩ e' fz) := by
    rw [h2, Array.getElem?_setIfInBounds, if_pos rfl, if_pos (Array.getElem?_eq_some_iff.1 hh).1]; rfl
  have hold : ∀ b, b ≠ i.blk → w'.heap[b]? = w.heap[b]? := fun b hb => by
    rw [h2, Array.getElem?_setIfInBounds, if_neg (fun e => hb e.symm)]
  have hsize : w'.heap.size = w.heap.size := by rw [h2]; simp
  rw [hat]
  refine ⟨w', h1, ⟨fun r hr => h.fresh r (by simpa using hr), fun r ds e2 ro2 sp2 hr2 => ?_, fun r r' j j' h6 h7 h8 h9 h10 => ?_⟩, ?_⟩
  · by_cases hrr : a.block = r
    · subst hrr
      rw [List.getElem?_set_self hlt] at hr2
      injection hr2 with hr2; injection hr2 with e1 e2 e3 e4
      subst e1; subst e2; subst e3; subst e4
      refine ⟨i, hi, ⟨⟨_, _, fz, hnew, ?_, fun _ => ⟨hbase, rfl, ?_⟩, fun hne => ?_⟩, ?_⟩⟩
      · intro j v hv2
        rw [setAll_get vs cs a.off j hle] at hv2
        simp only [List.getElem?_toArray, hbase, Nat.zero_add]
        rw [setAll_get vs' cp.toList a.off j (by simp; omega)]
        rw [hlen]
        split at hv2
        · rename_i hj; rw [if_pos hj]; exact hv.get hv2
        · rename_i hj; rw [if_neg hj]
          obtain ⟨v', h11, h12⟩ := hcell j v hv2
          exact ⟨v', by simpa [hbase] using h11, h12⟩
      · intro o ho2
        simp [setAll_length] at ho2
        exact hfz o ho2
      · obtain ⟨_, h11, h12, h13⟩ := hsp hne
        exact ⟨rfl, by rw [h11]; simp [setAll_length], h12, h13⟩
      · intro v hv2
        obtain ⟨j, hj⟩ := List.mem_iff_getElem?.1 hv2
        rw [setAll_get vs cs a.off j hle] at hj
        split at hj
        · exact ho v (List.mem_of_getElem? hj)
        · exact hrow.ones v (List.mem_of_getElem? hj)
    · rw [List.getElem?_set_ne hrr] at hr2
      obtain ⟨j, h6, h7⟩ := h.row _ _ _ _ _ hr2
      have hne : j.blk ≠ i.blk := (h.sep a.block r i j ⟨cs, e', sp, hr⟩ ⟨ds, e2, ro2, sp2, hr2⟩ hrr hi h6).symm
      refine ⟨j, h6, ⟨?_, h7.ones⟩⟩
      obtain ⟨cp2, e3, fz2, h8, h9⟩ := h7.there
      exact ⟨cp2, e3, fz2, by rw [hold _ hne]; exact h8, h9⟩
  · have o1 : own L r := by
      by_cases hrr : a.block = r
      · subst hrr; exact ⟨cs, e', sp, hr⟩
      · obtain ⟨c1, c2, c3, c4⟩ := h6
        rw [List.getElem?_set_ne hrr] at c4
        exact ⟨c1, c2, c3, c4⟩
    have o2 : live L r' := by
      by_cases hrr : a.block = r'
      · subst hrr; exact ⟨cs, e', false, sp, hr⟩
      · obtain ⟨c1, c2, c3, c4, c5⟩ := h7
        rw [List.getElem?_set_ne hrr] at c5
        exact ⟨c1, c2, c3, c4, c5⟩
    exact h.sep r r' j j' o1 o2 h8 h9 h10
  · refine ⟨.refl m, by simp, by omega, h3, h4, h5, fun r j h6 h7 => .inl ⟨r, j, ?_, h7, rfl⟩, fun b _ hb2 => hold b fun e => hb2 a.block i ⟨cs, e', sp, hr⟩ hi e.symm⟩
    by_cases hrr : a.block = r
    · subst hrr; exact ⟨cs, e', sp, hr⟩
    · obtain ⟨c1, c2, c3, c4⟩ := h6
      rw [List.getElem?_set_ne hrr] at c4
      exact ⟨c1, c2, c3, c4⟩

/-! ### New blocks -/

def ins (m : RMap) (r : Nat) (i : Info) : RMap := fun q => if q = r then some i else m q

theorem MExt.ins {m : RMap} {r : Nat} (i : Info) (h : m r = none) : MExt m (ins m r i) := by
  intro q j hq
  unfold Rlm.ins
  split
  · rename_i e; subst e; rw [h] at hq; cases hq
  · exact hq

theorem Rep.push {P : Program} {m : RMap} {L : LHeap} {w w' : World} (h : Rep P m L w) {cs cs' : List Value} {e : TypeId} (sp top : Nat) {fz : Nat × Nat} {extra : List Value}
    (hw : w'.heap = w.heap.push (.cells ⟨cs' ++ extra⟩ e fz)) (hfz : ∀ o, o < cs'.length + extra.length → ¬ (fz.1 ≤ o ∧ o < fz.2))
    (hos : w'.os = w.os) (ht : w'.tape = w.tape) (hout : w'.output = w.output)
    (hv : VRs m cs cs') (ho : ∀ v ∈ cs, one v = true) (hsp : sp ≠ 0 → top = cs'.length + extra.length ∧ sp = P.cellsOf e) :
    Rep P (ins m L.length ⟨w.heap.size, 0, top, sp⟩) (L ++ [.cells cs e false sp]) w' ∧ Tr m L w (ins m L.length ⟨w.heap.size, 0, top, sp⟩) (L ++ [.cells cs e false sp]) w' := by
  have hext := MExt.ins (m := m) (r := L.length) ⟨w.heap.size, 0, top, sp⟩ (h.fresh _ (Nat.le_refl _))
  have hnew : w'.heap[w.heap.size]? = some (.cells ⟨cs' ++ extra⟩ e fz) := by rw [hw]; simp
  have hold : ∀ b, b < w.heap.size → w'.heap[b]? = w.heap[b]? := fun b hb => by rw [hw, Array.getElem?_push, if_neg (by omega)]
  have hblk : ∀ r i cs e ro sp, L[r]? = some (.cells cs e ro sp) → m r = some i → i.blk < w.heap.size := fun r i cs e ro sp hr hm => by
    obtain ⟨j, h1, h2⟩ := h.row _ _ _ _ _ hr
    rw [hm] at h1; injection h1 with h1; subst h1
    obtain ⟨_, _, _, h3, _⟩ := h2.there
    exact (Array.getElem?_eq_some_iff.1 h3).1
  have hins : ∀ r i, r < L.length → ins m L.length ⟨w.heap.size, 0, top, sp⟩ r = some i → m r = some i := fun r i hr hm => by
    unfold Rlm.ins at hm
    rw [if_neg (by omega)] at hm
    exact hm
  have hinsL : ∀ i, ins m L.length ⟨w.heap.size, 0, top, sp⟩ L.length = some i → i = ⟨w.heap.size, 0, top, sp⟩ := fun i hm => by
    unfold Rlm.ins at hm
    rw [if_pos rfl] at hm
    injection hm with hm
    exact hm.symm
  have hget : ∀ r b, (L ++ [LBlk.cells cs e false sp])[r]? = some b → (r < L.length ∧ L[r]? = some b) ∨ (r = L.length ∧ b = .cells cs e false sp) := fun r b hr => by
    rcases Nat.lt_trichotomy r L.length with h1 | h1 | h1
    · rw [List.getElem?_append_left h1] at hr; exact .inl ⟨h1, hr⟩
    · subst h1; rw [List.getElem?_append_right (Nat.le_refl _)] at hr; simp at hr; exact .inr ⟨rfl, hr.symm⟩
    · rw [List.getElem?_eq_none (by simp; omega)] at hr; cases hr
  refine ⟨⟨fun r hr => ?_, fun r ds e2 ro2 sp2 hr2 => ?_, fun r r' j j' h6 h7 h8 h9 h10 => ?_⟩, ⟨hext, by simp, by rw [hw]; simp, hos, ht, hout, fun r j h6 h7 => ?_, fun b hb _ => hold b hb⟩⟩
  · unfold Rlm.ins
    simp at hr
    rw [if_neg (by omega)]
    exact h.fresh r (by omega)
  · rcases hget _ _ hr2 with ⟨h1, h2⟩ | ⟨h1, h2⟩
    · obtain ⟨j, h3, h4⟩ := h.row _ _ _ _ _ h2
      refine ⟨j, hext _ _ h3, ⟨?_, h4.ones⟩⟩
      obtain ⟨cp2, e3, fz2, h8, h9, h10⟩ := h4.there
      refine ⟨cp2, e3, fz2, by rw [hold _ (hblk _ _ _ _ _ _ h2 h3)]; exact h8, fun k v hk => ?_, h10⟩
      obtain ⟨v', h11, h12⟩ := h9 k v hk
      exact ⟨v', h11, h12.mono hext⟩
    · subst h1
      injection h2 with e1 e2 e3 e4
      subst e1; subst e2; subst e3; subst e4
      refine ⟨_, by unfold Rlm.ins; rw [if_pos rfl], ⟨⟨_, _, _, hnew, fun j v hj => ?_, fun _ => ⟨rfl, rfl, by simpa using hfz⟩, fun hne => ?_⟩, ho⟩⟩
      · obtain ⟨v', h3, h4⟩ := hv.get hj
        have hjl := (List.getElem?_eq_some_iff.1 h3).1
        exact ⟨v', by simp only [Nat.zero_add, List.getElem?_toArray]; rw [List.getElem?_append_left hjl]; exact h3, h4.mono hext⟩
      · obtain ⟨h3, h4⟩ := hsp hne
        exact ⟨rfl, by simpa using h3, rfl, h4⟩
  · obtain ⟨c1, c2, c3, c4⟩ := h6
    obtain ⟨d1, d2, d3, d4, d5⟩ := h7
    rcases hget _ _ c4 with ⟨g1, g2⟩ | ⟨g1, g2⟩ <;> rcases hget _ _ d5 with ⟨g3, g4⟩ | ⟨g3, g4⟩
    · exact h.sep r r' j j' ⟨_, _, _, g2⟩ ⟨_, _, _, _, g4⟩ h8 (hins _ _ g1 h9) (hins _ _ g3 h10)
    · subst g3
      have := hblk _ _ _ _ _ _ g2 (hins _ _ g1 h9)
      rw [hinsL _ h10]
      simp only
      omega
    · subst g1
      have := hblk _ _ _ _ _ _ g4 (hins _ _ g3 h10)
      rw [hinsL _ h9]
      simp only
      omega
    · omega
  · obtain ⟨c1, c2, c3, c4⟩ := h6
    rcases hget _ _ c4 with ⟨g1, g2⟩ | ⟨g1, g2⟩
    · exact .inl ⟨r, j, ⟨_, _, _, g2⟩, hins _ _ g1 h7, rfl⟩
    · subst g1
      rw [hinsL _ h7]
      exact .inr (Nat.le_refl _)

end Go.Rlm

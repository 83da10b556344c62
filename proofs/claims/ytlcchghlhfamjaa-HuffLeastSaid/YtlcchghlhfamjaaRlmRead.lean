/- Slices of single cells: what is read, what is written, what grows and shrinks. No program in sight. -/
import Derived.Test.YtlcchghlhfamjaaRlmArgs
namespace Go.Rlm

def iV (n : Int) : Value := .int .i64 n
def uV (n : Nat) : Value := .int .u32 (n : Int)

/-! ### Read -/

/-- These cells can be read by it; they stand in the block that A names. -/
def Rd (L : LHeap) (s : Sl) (vs : List Value) (A : List Nat) : Prop :=
  s.n = vs.length ∧ ((vs = [] ∧ A = []) ∨ ∃ (c o : Nat) (cs : List Value) (e : TypeId) (ro : Bool) (sp : Nat), s.a = some ⟨c, o, none⟩ ∧ L[c]? = some (.cells cs e ro sp) ∧ (∀ i, i < vs.length → cs[o + i]? = vs[i]?) ∧ A = [c])

theorem Rd.len {L : LHeap} {s : Sl} {vs : List Value} {A : List Nat} (h : Rd L s vs A) : s.n = vs.length := h.1
theorem Rd.mono {L L' : LHeap} {s : Sl} {vs : List Value} {A : List Nat} (h : Rd L s vs A) (hk : ∀ i ∈ A, L'[i]? = L[i]?) : Rd L' s vs A := by
  obtain ⟨h1, h | ⟨c, o, cs, e, ro, sp, h2, h3, h4, rfl⟩⟩ := h
  · exact ⟨h1, .inl h⟩
  · exact ⟨h1, .inr ⟨c, o, cs, e, ro, sp, h2, by rw [hk c (by simp), h3], h4, rfl⟩⟩
theorem Rd.within {L : LHeap} {s : Sl} {vs : List Value} {A : List Nat} (h : Rd L s vs A) : Within A L := by
  obtain ⟨h1, ⟨_, rfl⟩ | ⟨c, o, cs, e, ro, sp, h2, h3, h4, rfl⟩⟩ := h
  · intro i hi; simp at hi
  · intro i hi; simp at hi; subst hi; exact get_lt h3
theorem Rd.get {L : LHeap} {s : Sl} {vs : List Value} {A : List Nat} (h : Rd L s vs A) {i : Nat} (hi : i < vs.length) :
    ∃ a, idx s (i : Int) 1 = some a ∧ ∀ L', (∀ x ∈ A, L'[x]? = L[x]?) → cell L' a = vs[i]? := by
  obtain ⟨h1, ⟨rfl, _⟩ | ⟨c, o, cs, e, ro, sp, h2, h3, h4, rfl⟩⟩ := h
  · simp at hi
  · refine ⟨⟨c, o + i * 1, none⟩, ?_, fun L' hk => ?_⟩
    · have := idx_of (b := c) (o := o) (n := s.n) (c := s.c) (esz := 1) (i := i) (by omega)
      rw [← h2] at this
      exact this
    · rw [cell_of (by rw [hk c (by simp), h3]), Nat.mul_one, h4 i hi]
theorem Rd.here {L : LHeap} {s : Sl} {vs : List Value} {A : List Nat} (h : Rd L s vs A) {i : Nat} {v : Value} (hv : vs[i]? = some v) : ∃ a, idx s (i : Int) 1 = some a ∧ cell L a = some v := by
  obtain ⟨a, h1, h2⟩ := h.get (get_lt hv)
  exact ⟨a, h1, by rw [h2 L fun _ _ => rfl, hv]⟩
theorem Inp.rd {L : LHeap} {l : Sl} {vs : List Value} {A : List Nat} (h : Inp L l 1 vs A) : Rd L l vs A := by
  obtain ⟨h1, h | ⟨c, h2, h3, h4⟩⟩ := h
  · exact ⟨by omega, .inl h⟩
  · exact ⟨by omega, .inr ⟨c, 0, vs, 0, true, 0, h2, h3, fun i _ => by simp, h4⟩⟩

theorem Rd.src {L : LHeap} {s : Sl} {vs : List Value} {A : List Nat} (h : Rd L s vs A) : srcOf L 1 s.n (.slice s.a s.n s.c) = some vs := by
  obtain ⟨h1, ⟨rfl, _⟩ | ⟨c, o, cs, e, ro, sp, h2, h3, h4, rfl⟩⟩ := h
  · simp only [List.length_nil] at h1
    simp only [srcOf, srcCells, h1]
    rfl
  · simp only [srcOf, srcCells, h1, h2]
    cases hv : vs with
    | nil => rfl
    | cons v vs' =>
      rw [hv] at h4
      have hle : o + (v :: vs').length ≤ cs.length := by
        have := h4 vs'.length (by simp)
        rw [List.getElem?_eq_getElem (l := v :: vs') (by simp)] at this
        have := get_lt this
        simp; omega
      simp only [List.length_cons, show Nat.beq (vs'.length + 1) 0 = false from rfl, cond_false, cellsAt, h3, Nat.mul_one]
      simp only [List.length_cons] at hle
      rw [Nat.ble_eq_true_of_le hle, cond_true]
      congr 1
      apply List.ext_getElem?
      intro i
      rw [List.getElem?_take]
      split
      · rename_i hi
        rw [List.getElem?_drop]
        exact h4 i (by simpa using hi)
      · rw [List.getElem?_eq_none (by simp; omega)]

/-! ### Written in place -/

def WS (L : LHeap) (s : Sl) (vs : List Value) (e : TypeId) (F : List Nat) : Prop :=
  (s = ⟨none, 0, 0⟩ ∧ vs = [] ∧ F = []) ∨ ∃ c cap sp, s = ⟨some ⟨c, 0, none⟩, vs.length, cap⟩ ∧ L[c]? = some (.cells vs e false sp) ∧ F = [c]

theorem WS.mono {L L' : LHeap} {s : Sl} {vs : List Value} {e : TypeId} {F : List Nat} (h : WS L s vs e F) (hk : ∀ i ∈ F, L'[i]? = L[i]?) : WS L' s vs e F := by
  rcases h with h | ⟨c, cap, sp, h1, h2, rfl⟩
  · exact .inl h
  · exact .inr ⟨c, cap, sp, h1, by rw [hk c (by simp), h2], rfl⟩
theorem WS.rd {L : LHeap} {s : Sl} {vs : List Value} {e : TypeId} {F : List Nat} (h : WS L s vs e F) : Rd L s vs F := by
  rcases h with ⟨rfl, rfl, rfl⟩ | ⟨c, cap, sp, rfl, h2, rfl⟩
  · exact ⟨rfl, .inl ⟨rfl, rfl⟩⟩
  · exact ⟨rfl, .inr ⟨c, 0, vs, e, false, sp, rfl, h2, fun i _ => by simp, rfl⟩⟩
theorem WS.within {L : LHeap} {s : Sl} {vs : List Value} {e : TypeId} {F : List Nat} (h : WS L s vs e F) : Within F L := h.rd.within
theorem WS.len {L : LHeap} {s : Sl} {vs : List Value} {e : TypeId} {F : List Nat} (h : WS L s vs e F) : s.n = vs.length := h.rd.len
theorem OS.ws {L : LHeap} {s : Sl} {vs : List Value} {e : TypeId} {F : List Nat} (h : OS L s vs e F) : WS L s vs e F := by
  rcases h with h | ⟨c, h1, h2, h3⟩
  · exact .inl h
  · exact .inr ⟨c, OPEN, 1, h1, h2, h3⟩
theorem WS.put {L : LHeap} {s : Sl} {vs : List Value} {e : TypeId} {F : List Nat} (h : WS L s vs e F) {i : Nat} (hi : i < vs.length) (v : Value) :
    ∃ a L', idx s (i : Int) 1 = some a ∧ stores L a [v] = some L' ∧ WS L' s (vs.set i v) e F ∧ Step F L F L' := by
  rcases h with ⟨rfl, rfl, rfl⟩ | ⟨c, cap, sp, rfl, h2, rfl⟩
  · simp at hi
  · refine ⟨⟨c, 0 + i * 1, none⟩, _, idx_of hi, stores_of h2 (by simp; omega), .inr ⟨c, cap, sp, by simp, ?_, rfl⟩, .set _ (by simp)⟩
    rw [get_set_self h2]; simp [setAll]
theorem flat_rep (n : Nat) (v : Value) : List.flatten (List.replicate n [v]) = List.replicate n v := by
  induction n with
  | zero => rfl
  | succ n ih => simp [List.replicate_succ, ih]
theorem WS.made {L : LHeap} {n : Nat} {v : Value} {e : TypeId} : WS (L ++ [LBlk.cells (List.flatten (List.replicate n [v])) e false 0]) ⟨some ⟨L.length, 0, none⟩, n, n⟩ (List.replicate n v) e [L.length] :=
  .inr ⟨L.length, n, 0, by simp, by rw [get_new, flat_rep], rfl⟩
theorem WS.lit {L : LHeap} {vs : List Value} {e : TypeId} {n : Nat} (hn : n = vs.length) : WS (L ++ [LBlk.cells vs e false 0]) ⟨some ⟨L.length, 0, none⟩, n, n⟩ vs e [L.length] :=
  .inr ⟨L.length, n, 0, by simp [hn], get_new, rfl⟩

theorem room_ok {n b : Nat} (h1 : n * b ≤ 2 ^ 47) (h2 : n < 2 ^ 62) : room (n : Int) (n : Int) b = true := by
  rw [room_iff]
  have : (n : Int) * (b : Int) = ((n * b : Nat) : Int) := by push_cast; rfl
  rw [this]
  omega

/-- A copy: append to an empty one. -/
theorem copy_ok {L : LHeap} {vs : List Value} (e : TypeId) (bytes : Nat) (hb : vs.length * bytes ≤ 2 ^ 47) (hl : vs.length ≤ 2 ^ 62) :
    ∃ s' L' F', Rlm.app (L ++ [LBlk.cells [] e false 0]) e 1 bytes ⟨some ⟨L.length, 0, none⟩, 0, 0⟩ vs.length vs = some (s', L') ∧ WS L' s' vs e F' ∧ Step [] L F' L' ∧ s'.a ≠ none := by
  simp only [Rlm.app, Nat.zero_add]
  rw [show Nat.blt 0 OPEN = true from rfl, cond_true]
  cases vs with
  | nil =>
    refine ⟨⟨some ⟨L.length, 0, none⟩, 0, 0⟩, _, [L.length], rfl, .inr ⟨L.length, 0, 0, rfl, get_new, rfl⟩, .new [] L _, by simp⟩
  | cons v vs =>
    have hf : Nat.ble (v :: vs).length 0 = false := rfl
    rw [hf, Nat.ble_eq_true_of_le hb, Nat.ble_eq_true_of_le hl]
    simp only [cond_false, Bool.and_self, cond_true, srcCells, Nat.beq_refl, Option.bind_eq_bind, Option.bind_some, List.nil_append]
    refine ⟨⟨some ⟨(L ++ [LBlk.cells [] e false 0]).length, 0, none⟩, (v :: vs).length, OPEN⟩, _, [(L ++ [LBlk.cells [] e false 0]).length], rfl, .inr ⟨_, OPEN, 1, rfl, get_new, rfl⟩, ?_, by simp⟩
    exact (Step.push [] L _).trans (.new [] _ _)

/-! ### Grows and shrinks -/

def OP (L : LHeap) (s : Sl) (vs : List Value) (e : TypeId) (F : List Nat) : Prop :=
  (s = ⟨none, 0, 0⟩ ∧ vs = [] ∧ F = []) ∨ ∃ c rest, s = ⟨some ⟨c, 0, none⟩, vs.length, OPEN⟩ ∧ L[c]? = some (.cells (vs ++ rest) e false 1) ∧ F = [c]

theorem OP.nil (L : LHeap) (e : TypeId) : OP L ⟨none, 0, 0⟩ [] e [] := .inl ⟨rfl, rfl, rfl⟩
theorem OP.mono {L L' : LHeap} {s : Sl} {vs : List Value} {e : TypeId} {F : List Nat} (h : OP L s vs e F) (hk : ∀ i ∈ F, L'[i]? = L[i]?) : OP L' s vs e F := by
  rcases h with h | ⟨c, rest, h1, h2, rfl⟩
  · exact .inl h
  · exact .inr ⟨c, rest, h1, by rw [hk c (by simp), h2], rfl⟩
theorem OP.rd {L : LHeap} {s : Sl} {vs : List Value} {e : TypeId} {F : List Nat} (h : OP L s vs e F) : Rd L s vs F := by
  rcases h with ⟨rfl, rfl, rfl⟩ | ⟨c, rest, rfl, h2, rfl⟩
  · exact ⟨rfl, .inl ⟨rfl, rfl⟩⟩
  · exact ⟨rfl, .inr ⟨c, 0, vs ++ rest, e, false, 1, rfl, h2, fun i hi => by rw [Nat.zero_add, List.getElem?_append_left hi], rfl⟩⟩
theorem OP.within {L : LHeap} {s : Sl} {vs : List Value} {e : TypeId} {F : List Nat} (h : OP L s vs e F) : Within F L := h.rd.within
theorem OP.len {L : LHeap} {s : Sl} {vs : List Value} {e : TypeId} {F : List Nat} (h : OP L s vs e F) : s.n = vs.length := h.rd.len

theorem setAll_append (a b news rest : List Value) (h : rest.length = news.length) : setAll (a ++ rest ++ b) a.length news = a ++ news ++ b := by
  induction news generalizing a rest with
  | nil => obtain rfl := List.eq_nil_of_length_eq_zero h; rfl
  | cons x xs ih =>
    cases rest with
    | nil => simp at h
    | cons r rest =>
      simp only [setAll]
      have e : (a ++ r :: rest ++ b).set a.length x = a ++ [x] ++ rest ++ b := by simp [List.set_append_right]
      have := ih (a ++ [x]) rest (by simpa using h)
      simp only [List.length_append, List.length_singleton] at this
      rw [e, this]
      simp

theorem OP.app {L : LHeap} {s : Sl} {vs : List Value} {e : TypeId} {F : List Nat} (h : OP L s vs e F) (news : List Value) (bytes : Nat) (hne : news ≠ [])
    (hb : (vs.length + news.length) * bytes ≤ 2 ^ 47) (hl : vs.length + news.length ≤ 2 ^ 62) :
    ∃ s' L' F', Rlm.app L e 1 bytes s news.length news = some (s', L') ∧ OP L' s' (vs ++ news) e F' ∧ Step F L F' L' := by
  rcases h with h | ⟨c, rest, rfl, h2, rfl⟩
  · have ho : OS L s vs e F := .inl h
    obtain ⟨s', L', F', h1, h2, h3⟩ := ho.app news bytes hb hl
    refine ⟨s', L', F', h1, ?_, h3⟩
    rcases h2 with h2 | ⟨c, g1, g2, g3⟩
    · exact .inl h2
    · exact .inr ⟨c, [], g1, by simpa using g2, g3⟩
  · have hbl := blen_of (o := 0) h2
    simp only [Rlm.app]
    rw [show Nat.blt OPEN OPEN = false by decide, show Nat.beq OPEN OPEN = true from Nat.beq_refl _]
    simp only [cond_true, cond_false, hbl, Nat.sub_zero, List.length_append]
    have hem : news.isEmpty = false := by cases news <;> simp_all
    by_cases hr : news.length ≤ rest.length
    · rw [Nat.ble_eq_true_of_le (by omega), cond_true, hem, cond_false]
      have hsp : rest = rest.take news.length ++ rest.drop news.length := (List.take_append_drop _ _).symm
      refine ⟨⟨some ⟨c, 0, none⟩, vs.length + news.length, OPEN⟩, L.set c (.cells (vs ++ news ++ rest.drop news.length) e false 1), [c], ?_, .inr ⟨c, rest.drop news.length, by simp, by rw [get_set_self h2], rfl⟩, .set _ (by simp)⟩
      rw [mk_add, stores_of h2 (by simp; omega)]
      simp only [Nat.zero_add, Nat.mul_one, Option.bind_eq_bind, Option.bind_some]
      congr 3
      have := setAll_append vs (rest.drop news.length) news (rest.take news.length) (by simp; omega)
      rw [List.append_assoc vs, List.take_append_drop] at this
      rw [this]
    · have hf : Nat.ble (vs.length + news.length) (vs.length + rest.length) = false := by
        cases hc : Nat.ble (vs.length + news.length) (vs.length + rest.length) with
        | false => rfl
        | true => have := Nat.le_of_ble_eq_true hc; omega
      rw [hf, Nat.ble_eq_true_of_le hb, Nat.ble_eq_true_of_le hl]
      refine ⟨⟨some ⟨L.length, 0, none⟩, vs.length + news.length, OPEN⟩, L.set c .dead ++ [.cells (vs ++ news) e false 1], [L.length], ?_, .inr ⟨L.length, [], by simp, by rw [← List.length_set (as := L) (i := c) (a := .dead), get_new]; simp, rfl⟩, ?_⟩
      · simp [h2, Nat.ble_eq_true_of_le]
      · refine ⟨by simp, fun i hi hn => ?_, fun i hi => by simp at hi; subst hi; exact .inr (Nat.le_refl _)⟩
        rw [get_push (by simpa using hi), get_set_ne (fun e => hn (by simp [e]))]

end Go.Rlm

/- The logical machine, its likeness to the model, and the contracts of the functions that the law calls. Printed by pack.py, a program of this work, out of its texts; what the law does not use is left out. -/
import Derived.Test.YtffcfaabjodpcaaDoorSliceNamesM2
import Derived.Test.YtffcfaabjodpcaaDoorProg
import Derived.KernelRfl
import Derived.Deep.SlicePairs
import Derived.ChangeArms
import Derived.ChangeSlices
section
set_option maxRecDepth 100000
set_option linter.unusedVariables false
namespace Go.Proofs.YtffcfaabjodpcaaDoor.V
open Go Go.Rlm
/-- hamper/slice.Place$1 -/
noncomputable def f41 (k : Nat) (n0 : Int) : R :=
  lpure Tryd.prog T k 41 [Value.int IntKind.u8 n0]
/-- hamper/slice.numbers -/
noncomputable def f38 (k : Nat) (s0 : ByteArray) (n1 : Int) (n2 : Int) (n3 : Int) (n4 : Int) (n5 : Int) (n6 : Int) : R :=
  lpure Tryd.prog T k 38
  [Value.agg #[Value.string s0, Value.int IntKind.i64 n1, Value.int IntKind.i64 n2, Value.int IntKind.i64 n3, Value.int IntKind.i64 n4, Value.int IntKind.i64 n5, Value.int IntKind.i64 n6]]
theorem f41_eq (k : Nat) (n0 : Int) : f41 k n0 =
 lif (decide (n0 < 97)) (lif (decide (n0 < 48)) (ok (Value.bool (n0 != 95))) (lif (decide (n0 > 57)) (ok (Value.bool (n0 != 95))) (ok (Value.bool false))))
 (lif (decide (n0 > 122)) (lif (decide (n0 < 48)) (ok (Value.bool (n0 != 95))) (lif (decide (n0 > 57)) (ok (Value.bool (n0 != 95))) (ok (Value.bool false)))) (ok (Value.bool false))) := by kernel_rfl
theorem f38_eq (k : Nat) (s0 : ByteArray) (n1 : Int) (n2 : Int) (n3 : Int) (n4 : Int) (n5 : Int) (n6 : Int) : f38 k s0 n1 n2 n3 n4 n5 n6 =
 ok (Value.agg #[Value.int IntKind.i64 n3, Value.int IntKind.i64 n4, Value.int IntKind.i64 n5, Value.int IntKind.i64 n6, Value.int IntKind.i64 n2, Value.int IntKind.i64 n1]) := by kernel_rfl
end Go.Proofs.YtffcfaabjodpcaaDoor.V
end

section
set_option maxRecDepth 100000
set_option linter.unusedVariables false
namespace Go.Proofs.YtffcfaabjodpcaaDoor.N
open Go Go.Rlm
/-- slices.ContainsFunc[[]byte,byte] -/
noncomputable def f40 (k : Nat) (l0 : Sl) (v1 : Value) (L : LHeap) : R :=
  lcall Tryd.prog T k 40 [Value.slice l0.a l0.n l0.c, v1] L
/-- slices.IndexFunc[[]byte,byte] -/
noncomputable def f59 (k : Nat) (l0 : Sl) (v1 : Value) (L : LHeap) : R :=
  lcall Tryd.prog T k 59 [Value.slice l0.a l0.n l0.c, v1] L
theorem f40_eq (k : Nat) (l0 : Sl) (v1 : Value) (L : LHeap) : f40 (k + 1) l0 v1 L =
 lbind (f59 k l0 v1 L) fun v2 L3 => obind (asI IntKind.i64 v2) fun n4 => some (LR.ret (Value.bool (decide (n4 ≥ 0))) L3) := by kernel_rfl
/-- slots 0, 1, 7, 8 -/
noncomputable def f59_l2 (k : Nat) (j2 : Nat) (l9 : Sl) (v10 : Value) (n11 : Int) (n12 : Int) (L : LHeap) : R :=
  loopAt Tryd.prog T 59 k [1, 0, 1, 0] [] j2 [(0, Value.slice l9.a l9.n l9.c), (1, v10), (7, Value.int IntKind.i64 n11), (8, Value.int IntKind.i64 n12)] L
theorem f59_eq (k : Nat) (l0 : Sl) (v1 : Value) (L : LHeap) : f59 (k + 1) l0 v1 L =
 f59_l2 k k l0 v1 (↑l0.n : Int) 0 L := by kernel_rfl
theorem f59_l2_eq (k : Nat) (j2 : Nat) (l0 : Sl) (v1 : Value) (n2 : Int) (n3 : Int) (L : LHeap) : f59_l2 k (j2 + 1) l0 v1 n2 n3 L =
 lif (decide (n3 < n2))
 (obind (idx l0 n3 1) fun a4 =>
 obind (Option.bind (cell L a4) (asI IntKind.u8)) fun n5 =>
 lbind (lapp (callee T (lcall Tryd.prog T k)) v1 [Value.int IntKind.u8 n5] L) fun v6 L7 =>
 obind (asB v6) fun b8 => lif b8 (some (LR.ret (Value.int IntKind.i64 n3) L7)) (f59_l2 k j2 l0 v1 n2 (IntKind.wrap IntKind.i64 (n3 + 1)) L7))
 (some (LR.ret (Value.int IntKind.i64 (-1)) L)) := by kernel_rfl
end Go.Proofs.YtffcfaabjodpcaaDoor.N
end

section
set_option maxRecDepth 100000
set_option linter.unusedVariables false
namespace Go.Proofs.YtffcfaabjodpcaaDoor.N
open Go Go.Rlm
/-- hamper/slice.Place -/
noncomputable def f23 (k : Nat) (s0 : ByteArray) (n1 : Int) (n2 : Int) (n3 : Int) (n4 : Int) (n5 : Int) (n6 : Int) : R :=
  lpure Tryd.prog T k 23
  [Value.agg #[Value.string s0, Value.int IntKind.i64 n1, Value.int IntKind.i64 n2, Value.int IntKind.i64 n3, Value.int IntKind.i64 n4, Value.int IntKind.i64 n5, Value.int IntKind.i64 n6]]
theorem f23_eq (k : Nat) (s0 : ByteArray) (n1 : Int) (n2 : Int) (n3 : Int) (n4 : Int) (n5 : Int) (n6 : Int) : f23 k s0 n1 n2 n3 n4 n5 n6 =
 lif (!shapeB n3 n4 n5 n6) (ok (Value.bool false))
 (lif (ByteArray.toList s0 == ByteArray.toList (ByteArray.mk #[])) (ok (Value.bool false))
 (lif (decide ((↑(ByteArray.size s0) : Int) > 60)) (ok (Value.bool false))
 (lif (decide (n2 < 1)) (ok (Value.bool false))
 (lif (decide (n2 > IntKind.wrap IntKind.i64 (96 - n6))) (ok (Value.bool false))
 (lif (decide (n1 < 0)) (ok (Value.bool false))
 (lif (decide (n1 ≥ IntKind.wrap IntKind.i64 (n2 + n6))) (ok (Value.bool false))
 (lbind
 (lcall Tryd.prog T k 40 [Value.slice (some (Addr.mk 1 0 none)) (ByteArray.size s0) OPEN, Value.func (Fn.func 41) #[] #[]]
 [LBlk.cells
 [Value.string s0, Value.int IntKind.i64 n1, Value.int IntKind.i64 n2, Value.int IntKind.i64 n3, Value.int IntKind.i64 n4, Value.int IntKind.i64 n5, Value.int IntKind.i64 n6] 41
 false 0,
 LBlk.cells (byteCells s0) 5 false 1])
 fun v7 L8 => obind (asB v7) fun b9 => ok (Value.bool !b9)))))))) := by kernel_rfl
end Go.Proofs.YtffcfaabjodpcaaDoor.N
end

section
namespace Go.Rlm
open Go.ChangeShapes Go.WideShapes
/-- At the machine: a slice that came in, of so many cells. -/
def Inp (L : LHeap) (l : Sl) (esz : Nat) (vs : List Value) (A : List Nat) : Prop :=
  l.n * esz = vs.length ∧ ((vs = [] ∧ A = []) ∨ ∃ c, l.a = some ⟨c, 0, none⟩ ∧ L[c]? = some (.cells vs 0 true 0) ∧ A = [c])
theorem Inp.mono {L L' : LHeap} {l : Sl} {esz : Nat} {vs : List Value} {A : List Nat} (h : Inp L l esz vs A) (hk : ∀ i ∈ A, L'[i]? = L[i]?) : Inp L' l esz vs A := by
  obtain ⟨h1, h | ⟨c, h2, h3, rfl⟩⟩ := h
  · exact ⟨h1, .inl h⟩
  · exact ⟨h1, .inr ⟨c, h2, by rw [hk c (by simp), h3], rfl⟩⟩
theorem Inp.within {L : LHeap} {l : Sl} {esz : Nat} {vs : List Value} {A : List Nat} (h : Inp L l esz vs A) : Within A L := by
  obtain ⟨h1, ⟨_, rfl⟩ | ⟨c, h2, h3, rfl⟩⟩ := h
  · intro i hi; simp at hi
  · intro i hi; simp at hi; subst hi; exact get_lt h3
theorem Inp.get {L : LHeap} {l : Sl} {esz : Nat} {vs : List Value} {A : List Nat} (h : Inp L l esz vs A) {i : Nat} (hi : i < l.n) (he : 0 < esz) :
    ∃ c, idx l (i : Int) esz = some ⟨c, i * esz, none⟩ ∧ ∀ L', (∀ x ∈ A, L'[x]? = L[x]?) → ∀ o, cell L' ⟨c, o, none⟩ = vs[o]? := by
  obtain ⟨h1, ⟨rfl, _⟩ | ⟨c, h2, h3, rfl⟩⟩ := h
  · have := Nat.mul_le_mul (show 1 ≤ l.n by omega) he; simp at h1 this; omega
  · refine ⟨c, ?_, fun L' hk o => cell_of (by rw [hk c (by simp), h3])⟩
    have := idx_of (b := c) (o := 0) (n := l.n) (c := l.c) (esz := esz) hi
    rw [← h2] at this
    simpa using this
/-- Pairs. -/
def pairCells : List (Nat × Int) → List Value
  | [] => []
  | p :: ps => .int .u32 (p.1 : Int) :: .int .i64 p.2 :: pairCells ps
@[simp] theorem pairCells_length (ps : List (Nat × Int)) : (pairCells ps).length = ps.length * 2 := by
  induction ps with
  | nil => rfl
  | cons p ps ih => simp [pairCells, ih]; omega
end Go.Rlm
end

section
namespace Go.Rlm
/-- These cells can be read by it; they stand in the block that A names. -/
def Rd (L : LHeap) (s : Sl) (vs : List Value) (A : List Nat) : Prop :=
  s.n = vs.length ∧ ((vs = [] ∧ A = []) ∨ ∃ (c o : Nat) (cs : List Value) (e : TypeId) (ro : Bool) (sp : Nat), s.a = some ⟨c, o, none⟩ ∧ L[c]? = some (.cells cs e ro sp) ∧ (∀ i, i < vs.length → cs[o + i]? = vs[i]?) ∧ A = [c])
theorem Rd.len {L : LHeap} {s : Sl} {vs : List Value} {A : List Nat} (h : Rd L s vs A) : s.n = vs.length := h.1
theorem Rd.mono {L L' : LHeap} {s : Sl} {vs : List Value} {A : List Nat} (h : Rd L s vs A) (hk : ∀ i ∈ A, L'[i]? = L[i]?) : Rd L' s vs A := by
  obtain ⟨h1, h | ⟨c, o, cs, e, ro, sp, h2, h3, h4, rfl⟩⟩ := h
  · exact ⟨h1, .inl h⟩
  · exact ⟨h1, .inr ⟨c, o, cs, e, ro, sp, h2, by rw [hk c (by simp), h3], h4, rfl⟩⟩
theorem Rd.within {L : LHeap} {s : Sl} {vs : List Value} {A : List Nat} (h : Rd L s vs A) : Within A L := by
  obtain ⟨h1, ⟨_, rfl⟩ | ⟨c, o, cs, e, ro, sp, h2, h3, h4, rfl⟩⟩ := h
  · intro i hi; simp at hi
  · intro i hi; simp at hi; subst hi; exact get_lt h3
theorem Rd.get {L : LHeap} {s : Sl} {vs : List Value} {A : List Nat} (h : Rd L s vs A) {i : Nat} (hi : i < vs.length) :
    ∃ a, idx s (i : Int) 1 = some a ∧ ∀ L', (∀ x ∈ A, L'[x]? = L[x]?) → cell L' a = vs[i]? := by
  obtain ⟨h1, ⟨rfl, _⟩ | ⟨c, o, cs, e, ro, sp, h2, h3, h4, rfl⟩⟩ := h
  · simp at hi
  · refine ⟨⟨c, o + i * 1, none⟩, ?_, fun L' hk => ?_⟩
    · have := idx_of (b := c) (o := o) (n := s.n) (c := s.c) (esz := 1) (i := i) (by omega)
      rw [← h2] at this
      exact this
    · rw [cell_of (by rw [hk c (by simp), h3]), Nat.mul_one, h4 i hi]
theorem Rd.here {L : LHeap} {s : Sl} {vs : List Value} {A : List Nat} (h : Rd L s vs A) {i : Nat} {v : Value} (hv : vs[i]? = some v) : ∃ a, idx s (i : Int) 1 = some a ∧ cell L a = some v := by
  obtain ⟨a, h1, h2⟩ := h.get (get_lt hv)
  exact ⟨a, h1, by rw [h2 L fun _ _ => rfl, hv]⟩
theorem Inp.rd {L : LHeap} {l : Sl} {vs : List Value} {A : List Nat} (h : Inp L l 1 vs A) : Rd L l vs A := by
  obtain ⟨h1, h | ⟨c, h2, h3, h4⟩⟩ := h
  · exact ⟨by omega, .inl h⟩
  · exact ⟨by omega, .inr ⟨c, 0, vs, 0, true, 0, h2, h3, fun i _ => by simp, h4⟩⟩
theorem Rd.src {L : LHeap} {s : Sl} {vs : List Value} {A : List Nat} (h : Rd L s vs A) : srcOf L 1 s.n (.slice s.a s.n s.c) = some vs := by
  obtain ⟨h1, ⟨rfl, _⟩ | ⟨c, o, cs, e, ro, sp, h2, h3, h4, rfl⟩⟩ := h
  · simp only [List.length_nil] at h1
    simp only [srcOf, srcCells, h1]
    rfl
  · simp only [srcOf, srcCells, h1, h2]
    cases hv : vs with
    | nil => rfl
    | cons v vs' =>
      rw [hv] at h4
      have hle : o + (v :: vs').length ≤ cs.length := by
        have := h4 vs'.length (by simp)
        rw [List.getElem?_eq_getElem (l := v :: vs') (by simp)] at this
        have := get_lt this
        simp; omega
      simp only [List.length_cons, show Nat.beq (vs'.length + 1) 0 = false from rfl, cond_false, cellsAt, h3, Nat.mul_one]
      simp only [List.length_cons] at hle
      rw [Nat.ble_eq_true_of_le hle, cond_true]
      congr 1
      apply List.ext_getElem?
      intro i
      rw [List.getElem?_take]
      split
      · rename_i hi
        rw [List.getElem?_drop]
        exact h4 i (by simpa using hi)
      · rw [List.getElem?_eq_none (by simp; omega)]
def WS (L : LHeap) (s : Sl) (vs : List Value) (e : TypeId) (F : List Nat) : Prop :=
  (s = ⟨none, 0, 0⟩ ∧ vs = [] ∧ F = []) ∨ ∃ c cap sp, s = ⟨some ⟨c, 0, none⟩, vs.length, cap⟩ ∧ L[c]? = some (.cells vs e false sp) ∧ (cap = vs.length ∨ (cap = OPEN ∧ sp = 1)) ∧ F = [c]
theorem WS.mono {L L' : LHeap} {s : Sl} {vs : List Value} {e : TypeId} {F : List Nat} (h : WS L s vs e F) (hk : ∀ i ∈ F, L'[i]? = L[i]?) : WS L' s vs e F := by
  rcases h with h | ⟨c, cap, sp, h1, h2, hc, rfl⟩
  · exact .inl h
  · exact .inr ⟨c, cap, sp, h1, by rw [hk c (by simp), h2], hc, rfl⟩
theorem WS.rd {L : LHeap} {s : Sl} {vs : List Value} {e : TypeId} {F : List Nat} (h : WS L s vs e F) : Rd L s vs F := by
  rcases h with ⟨rfl, rfl, rfl⟩ | ⟨c, cap, sp, rfl, h2, hc, rfl⟩
  · exact ⟨rfl, .inl ⟨rfl, rfl⟩⟩
  · exact ⟨rfl, .inr ⟨c, 0, vs, e, false, sp, rfl, h2, fun i _ => by simp, rfl⟩⟩
theorem WS.within {L : LHeap} {s : Sl} {vs : List Value} {e : TypeId} {F : List Nat} (h : WS L s vs e F) : Within F L := h.rd.within
theorem WS.len {L : LHeap} {s : Sl} {vs : List Value} {e : TypeId} {F : List Nat} (h : WS L s vs e F) : s.n = vs.length := h.rd.len
theorem WS.put {L : LHeap} {s : Sl} {vs : List Value} {e : TypeId} {F : List Nat} (h : WS L s vs e F) {i : Nat} (hi : i < vs.length) (v : Value) :
    ∃ a L', idx s (i : Int) 1 = some a ∧ stores L a [v] = some L' ∧ WS L' s (vs.set i v) e F ∧ Step F L F L' := by
  rcases h with ⟨rfl, rfl, rfl⟩ | ⟨c, cap, sp, rfl, h2, hc, rfl⟩
  · simp at hi
  · refine ⟨⟨c, 0 + i * 1, none⟩, _, idx_of hi, stores_of h2 (by simp; omega), .inr ⟨c, cap, sp, by simp, ?_, by simpa using hc, rfl⟩, .set _ (by simp)⟩
    rw [get_set_self h2]; simp [setAll]
theorem flat_rep (n : Nat) (v : Value) : List.flatten (List.replicate n [v]) = List.replicate n v := by
  induction n with
  | zero => rfl
  | succ n ih => simp [List.replicate_succ, ih]
theorem WS.made {L : LHeap} {n : Nat} {v : Value} {e : TypeId} : WS (L ++ [LBlk.cells (List.flatten (List.replicate n [v])) e false 0]) ⟨some ⟨L.length, 0, none⟩, n, n⟩ (List.replicate n v) e [L.length] :=
  .inr ⟨L.length, n, 0, by simp, by rw [get_new, flat_rep], .inl (by simp), rfl⟩
def OP (L : LHeap) (s : Sl) (vs : List Value) (e : TypeId) (F : List Nat) : Prop :=
  (s = ⟨none, 0, 0⟩ ∧ vs = [] ∧ F = []) ∨ ∃ c rest, s = ⟨some ⟨c, 0, none⟩, vs.length, OPEN⟩ ∧ L[c]? = some (.cells (vs ++ rest) e false 1) ∧ F = [c]
theorem OP.nil (L : LHeap) (e : TypeId) : OP L ⟨none, 0, 0⟩ [] e [] := .inl ⟨rfl, rfl, rfl⟩
theorem OP.mono {L L' : LHeap} {s : Sl} {vs : List Value} {e : TypeId} {F : List Nat} (h : OP L s vs e F) (hk : ∀ i ∈ F, L'[i]? = L[i]?) : OP L' s vs e F := by
  rcases h with h | ⟨c, rest, h1, h2, rfl⟩
  · exact .inl h
  · exact .inr ⟨c, rest, h1, by rw [hk c (by simp), h2], rfl⟩
theorem OP.rd {L : LHeap} {s : Sl} {vs : List Value} {e : TypeId} {F : List Nat} (h : OP L s vs e F) : Rd L s vs F := by
  rcases h with ⟨rfl, rfl, rfl⟩ | ⟨c, rest, rfl, h2, rfl⟩
  · exact ⟨rfl, .inl ⟨rfl, rfl⟩⟩
  · exact ⟨rfl, .inr ⟨c, 0, vs ++ rest, e, false, 1, rfl, h2, fun i hi => by rw [Nat.zero_add, List.getElem?_append_left hi], rfl⟩⟩
theorem OP.within {L : LHeap} {s : Sl} {vs : List Value} {e : TypeId} {F : List Nat} (h : OP L s vs e F) : Within F L := h.rd.within
theorem OP.len {L : LHeap} {s : Sl} {vs : List Value} {e : TypeId} {F : List Nat} (h : OP L s vs e F) : s.n = vs.length := h.rd.len
theorem setAll_append (a b news rest : List Value) (h : rest.length = news.length) : setAll (a ++ rest ++ b) a.length news = a ++ news ++ b := by
  induction news generalizing a rest with
  | nil => obtain rfl := List.eq_nil_of_length_eq_zero h; rfl
  | cons x xs ih =>
    cases rest with
    | nil => simp at h
    | cons r rest =>
      simp only [setAll]
      have e : (a ++ r :: rest ++ b).set a.length x = a ++ [x] ++ rest ++ b := by simp [List.set_append_right]
      have := ih (a ++ [x]) rest (by simpa using h)
      simp only [List.length_append, List.length_singleton] at this
      rw [e, this]
      simp
theorem OP.app {L : LHeap} {s : Sl} {vs : List Value} {e : TypeId} {F : List Nat} (h : OP L s vs e F) (news : List Value) (bytes : Nat) (hne : news ≠ [])
    (hb : (vs.length + news.length) * bytes ≤ 2 ^ 47) (hl : vs.length + news.length ≤ 2 ^ 62) :
    ∃ s' L' F', Rlm.app L e 1 bytes s news.length news = some (s', L') ∧ OP L' s' (vs ++ news) e F' ∧ Step F L F' L' := by
  rcases h with h | ⟨c, rest, rfl, h2, rfl⟩
  · have ho : OS L s vs e F := .inl h
    obtain ⟨s', L', F', h1, h2, h3⟩ := ho.app news bytes hb hl
    refine ⟨s', L', F', h1, ?_, h3⟩
    rcases h2 with h2 | ⟨c, g1, g2, g3⟩
    · exact .inl h2
    · exact .inr ⟨c, [], g1, by simpa using g2, g3⟩
  · have hbl := blen_of (o := 0) h2
    simp only [Rlm.app]
    rw [show Nat.blt OPEN OPEN = false by decide, show Nat.beq OPEN OPEN = true from Nat.beq_refl _]
    simp only [cond_true, cond_false, hbl, Nat.sub_zero, List.length_append]
    have hem : news.isEmpty = false := by cases news <;> simp_all
    by_cases hr : news.length ≤ rest.length
    · rw [Nat.ble_eq_true_of_le (by omega), cond_true, hem, cond_false]
      have hsp : rest = rest.take news.length ++ rest.drop news.length := (List.take_append_drop _ _).symm
      refine ⟨⟨some ⟨c, 0, none⟩, vs.length + news.length, OPEN⟩, L.set c (.cells (vs ++ news ++ rest.drop news.length) e false 1), [c], ?_, .inr ⟨c, rest.drop news.length, by simp, by rw [get_set_self h2], rfl⟩, .set _ (by simp)⟩
      rw [mk_add, stores_of h2 (by simp; omega)]
      simp only [Nat.zero_add, Nat.mul_one, Option.bind_eq_bind, Option.bind_some]
      congr 3
      have := setAll_append vs (rest.drop news.length) news (rest.take news.length) (by simp; omega)
      rw [List.append_assoc vs, List.take_append_drop] at this
      rw [this]
    · have hf : Nat.ble (vs.length + news.length) (vs.length + rest.length) = false := by
        cases hc : Nat.ble (vs.length + news.length) (vs.length + rest.length) with
        | false => rfl
        | true => have := Nat.le_of_ble_eq_true hc; omega
      rw [hf, Nat.ble_eq_true_of_le hb, Nat.ble_eq_true_of_le hl]
      refine ⟨⟨some ⟨L.length, 0, none⟩, vs.length + news.length, OPEN⟩, L.set c .dead ++ [.cells (vs ++ news) e false 1], [L.length], ?_, .inr ⟨L.length, [], by simp, by rw [← (List.length_set : (L.set c LBlk.dead).length = L.length), get_new]; simp, rfl⟩, ?_⟩
      · simp [h2, Nat.ble_eq_true_of_le]
      · refine ⟨by simp, fun i hi hn => ?_, fun i hi => by simp at hi; subst hi; exact .inr (Nat.le_refl _)⟩
        rw [get_push (by simpa using hi), get_set_ne (fun e => hn (by simp [e]))]
/-- A slice that is read, and of which it is known enough to cut it. -/
def CS (L : LHeap) (s : Sl) (vs : List Value) (A : List Nat) : Prop :=
  Rd L s vs A ∧ (vs = [] ∨ (s.c < OPEN ∧ s.n ≤ s.c) ∨ (s.c = OPEN ∧ ∃ (c o : Nat) (cs : List Value) (e : TypeId) (ro : Bool), s.a = some ⟨c, o, none⟩ ∧ L[c]? = some (.cells cs e ro 1) ∧ o + s.n ≤ cs.length ∧ A = [c]))
theorem CS.rd {L : LHeap} {s : Sl} {vs : List Value} {A : List Nat} (h : CS L s vs A) : Rd L s vs A := h.1
theorem CS.mono {L L' : LHeap} {s : Sl} {vs : List Value} {A : List Nat} (h : CS L s vs A) (hk : ∀ i ∈ A, L'[i]? = L[i]?) : CS L' s vs A := by
  refine ⟨h.1.mono hk, ?_⟩
  rcases h.2 with h | h | ⟨h1, c, o, cs, e, ro, h2, h3, h4, rfl⟩
  · exact .inl h
  · exact .inr (.inl h)
  · exact .inr (.inr ⟨h1, c, o, cs, e, ro, h2, by rw [hk c (by simp), h3], h4, rfl⟩)
theorem WS.cs {L : LHeap} {s : Sl} {vs : List Value} {e : TypeId} {F : List Nat} (h : WS L s vs e F) (hs : vs.length < OPEN) : CS L s vs F := by
  refine ⟨h.rd, ?_⟩
  rcases h with ⟨rfl, rfl, rfl⟩ | ⟨c, cap, sp, rfl, h2, hc, rfl⟩
  · exact .inl rfl
  · rcases hc with rfl | ⟨rfl, rfl⟩
    · exact .inr (.inl ⟨hs, Nat.le_refl _⟩)
    · exact .inr (.inr ⟨rfl, c, 0, vs, e, false, rfl, h2, by simp, rfl⟩)
theorem Rd.drop {L : LHeap} {c o n cap cap' : Nat} {vs : List Value} {A : List Nat} (h : Rd L ⟨some ⟨c, o, none⟩, vs.length, cap⟩ vs A) (hn : n ≤ vs.length) :
    ∃ A', Rd L ⟨some ⟨c, o + n, none⟩, vs.length - n, cap'⟩ (vs.drop n) A' ∧ (∀ i ∈ A', i ∈ A) ∧ (n < vs.length → A' = A) := by
  obtain ⟨h1, ⟨rfl, rfl⟩ | ⟨c', o', cs, e, ro, sp, h2, h3, h4, rfl⟩⟩ := h
  · exact ⟨[], ⟨by simp, .inl ⟨by simp, rfl⟩⟩, (fun i hi => by cases hi), (fun h => by simp at h)⟩
  · simp only [Option.some.injEq, Addr.mk.injEq, and_true] at h2
    obtain ⟨rfl, rfl⟩ := h2
    refine ⟨[c], ⟨by simp, .inr ⟨c, o + n, cs, e, ro, sp, rfl, h3, fun i hi => ?_, rfl⟩⟩, fun i hi => hi, fun _ => rfl⟩
    simp at hi
    rw [List.getElem?_drop, Nat.add_assoc]
    exact h4 (n + i) (by omega)
theorem bound_at {i y : Nat} (d : Nat) (h : i ≤ y) : bound (some (i : Int)) d y = some i := by
  simp only [bound]
  rw [decide_eq_true (by omega), decide_eq_true (by omega)]
  simp
theorem bound_out {d y : Nat} (h : d ≤ y) : bound none d y = some d := by
  simp only [bound, Nat.ble_eq_true_of_le h, cond_true]
theorem CS.cut {L : LHeap} {s : Sl} {vs : List Value} {A : List Nat} (h : CS L s vs A) {n : Nat} (h0 : 0 < n) (hn : n ≤ vs.length) :
    ∃ s' A', Rlm.cut L s (some (n : Int)) none none 1 = some s' ∧ CS L s' (vs.drop n) A' ∧ ∀ i ∈ A', i ∈ A := by
  obtain ⟨hr, hc⟩ := h
  have hlen := hr.len
  obtain ⟨sa, sn, sc⟩ := s
  simp only at hlen hc
  subst hlen
  obtain ⟨c, o, hsa⟩ : ∃ c o, sa = some ⟨c, o, none⟩ := by
    obtain ⟨_, ⟨rfl, _⟩ | ⟨c, o, cs, e, ro, sp, h2, _⟩⟩ := hr
    · simp at hn; omega
    · exact ⟨c, o, h2⟩
  subst hsa
  have hne : vs ≠ [] := fun e => by subst e; simp at hn; omega
  rcases hc with hc | ⟨hc1, hc2⟩ | ⟨hc1, c', o', cs, e, ro, h2, h3, h4, rfl⟩
  · exact absurd hc hne
  · have hb : Nat.blt sc OPEN = true := by simpa using hc1
    simp only [Rlm.cut, hb, cond_true, Option.isSome_none, cond_false, bound_out (Nat.le_refl sc), bound_out hc2, bound_at 0 hn, Option.bind_eq_bind, Option.bind_some]
    obtain ⟨A', g1, g2, g3⟩ := hr.drop (cap' := sc - n) hn
    by_cases he : sc = n
    · rw [if_pos he]
      have : vs.drop n = [] := List.drop_of_length_le (by omega)
      exact ⟨_, [], rfl, ⟨⟨by simp, .inl ⟨this, rfl⟩⟩, .inl this⟩, fun i hi => by cases hi⟩
    · rw [if_neg he]
      refine ⟨_, A', rfl, ⟨?_, .inr (.inl ⟨by simp only; omega, by simp only; omega⟩)⟩, g2⟩
      simpa [Option.map, mk_add] using g1
  · subst hc1
    simp only [Option.some.injEq, Addr.mk.injEq, and_true] at h2
    obtain ⟨rfl, rfl⟩ := h2
    have hb : Nat.blt OPEN OPEN = false := rfl
    have hbl : blen L ⟨c, o, none⟩ 1 = some (cs.length - o) := by simp [blen, h3, show Nat.blt 0 1 = true from rfl]
    simp only [Rlm.cut, hb, cond_false, Nat.beq_refl, cond_true, hbl, Option.bind_eq_bind, Option.bind_some, bound_out (show vs.length ≤ cs.length - o by omega), bound_at 0 hn]
    rw [if_neg (by omega)]
    obtain ⟨A', g1, g2, g3⟩ := hr.drop (cap' := OPEN) hn
    by_cases he : n < cs.length - o
    · rw [if_pos he]
      refine ⟨_, A', rfl, ⟨by simpa [mk_add] using g1, ?_⟩, g2⟩
      by_cases hx : n < vs.length
      · refine .inr (.inr ⟨rfl, c, o + n, cs, e, ro, by simp [mk_add], h3, by simp only; omega, g3 hx⟩)
      · exact .inl (List.drop_of_length_le (by omega))
    · rw [if_neg he]
      have : vs.drop n = [] := List.drop_of_length_le (by omega)
      exact ⟨_, [], rfl, ⟨⟨by rw [this]; rfl, .inl ⟨this, rfl⟩⟩, .inl this⟩, fun i hi => by cases hi⟩
end Go.Rlm
end

section
set_option maxRecDepth 100000
namespace Go.Proofs.YtffcfaabjodpcaaDoor
open Go Go.Rlm
theorem bad_ok (n : Int) : V.f41 0 n = ok (.bool (badC n)) := by
  rw [V.f41_eq]
  unfold badC
  generalize decide (n < 97) = b1
  generalize decide (n > 122) = b2
  generalize decide (n < 48) = b3
  generalize decide (n > 57) = b4
  generalize (n != 95) = b5
  cases b1 <;> cases b2 <;> cases b3 <;> cases b4 <;> rfl
theorem pureBad : PureOk globs Tryd.prog 41 badP :=
  .runs (T := V.T) (n := 0) specV X.mixed X.named (by decide) fun args L r0 r hr hreal => by
    unfold badP at hr
    split at hr
    case h_2 => cases hr
    injection hr with hr
    subst hr
    injection hreal with hreal
    subst hreal
    exact ⟨_, rfl, rfl, rfl, bad_ok _⟩
theorem pureNumbers : PureOk globs Tryd.prog 38 numbersP :=
  .runs (T := V.T) (n := 0) specV X.mixed X.named (by decide) fun args L r0 r hr hreal => by
    unfold numbersP at hr
    split at hr
    case h_2 => cases hr
    injection hr with hr
    subst hr
    injection hreal with hreal
    subst hreal
    exact ⟨_, rfl, rfl, rfl, V.f38_eq 0 _ _ _ _ _ _ _⟩
theorem pureIndex : PureOk globs Tryd.prog 36 indexP :=
  .steps (T := V.T) (n := 5) specV X.mixed X.named Tryd.func36 rfl (by decide) fun args L r0 r hr hreal => by
    unfold indexP at hr
    split at hr
    case h_2 => cases hr
    injection hr with hr
    subst hr
    injection hreal with hreal
    subst hreal
    rename_i s c
    refine ⟨?_, rfl⟩
    show V.f36 5 s c L = _
    rw [V.f36_eq, V.f55_eq, lbind_ret, asI_int, obind_some]
theorem cut_find (s : ByteArray) (c : UInt8) (L : LHeap) : V.f69 4 s ⟨#[c]⟩ L = some (.ret (.int .i64 (firstIdx s c)) L) := by
  rw [V.f69_eq, show ((ByteArray.mk #[c]).size : Int) = 1 from rfl, show ((1 : Int) == 0) = false from rfl, lif_false]
  cases h : (ByteArray.toList ⟨#[c]⟩ == s.toList) with
  | true =>
    have h := eq_of_beq h
    have e : s = bs [c] := by
      have h2 := congrArg List.length h
      rw [Go.ByteArray.toList_eq] at h h2
      rw [Go.ByteArray.toList_eq] at h
      rw [← bs_data s, ← h]
    rw [e, firstIdx_bs, lif_true]
    unfold partC
    simp
  | false =>
    rw [lif_false, show ((1 : Int) == 1) = true from rfl, lif_true, show byteAt (ByteArray.mk #[c]) 0 = some (c.toNat : Int) from rfl, obind_some, V.f55_eq, lbind_ret, asI_int, obind_some]
    simp
theorem pureCut : PureOk globs Tryd.prog 35 cutP :=
  .steps (T := V.T) (n := 6) specV X.mixed X.named Tryd.func35 rfl (by decide) fun args L r0 r hr hreal => by
    unfold cutP at hr
    split at hr
    case h_2 => cases hr
    rename_i s c
    injection hr with hr
    subst hr
    obtain ⟨h1, rfl⟩ := gate_real hreal
    have h1 := Nat.le_of_ble_eq_true h1
    refine ⟨?_, rfl⟩
    show V.f35 6 s ⟨#[c]⟩ L = _
    rw [V.f35_eq, V.f54_eq, cut_find, lbind_ret, asI_int, obind_some]
    obtain ⟨l, rfl⟩ : ∃ l, s = bs l := ⟨s.data.toList, (bs_data s).symm⟩
    rw [bs_size] at h1
    rw [firstIdx_bs]
    unfold cutA cutB
    rw [bs_toList]
    cases hp : partC c l with
    | none =>
      simp only [show decide ((-1 : Int) ≥ 0) = false from rfl, lif_false, lbind_ret, tupL_tuple, obind_some, uncons_cons, asS_string, asB_bool, nilL_nil]
      rfl
    | some p =>
      obtain ⟨a, b⟩ := p
      obtain ⟨rfl, _⟩ := partC_some hp
      simp only [List.length_append, List.length_cons] at h1
      have e1 : subS (bs (a ++ c :: b)) none (some (a.length : Int)) = some (bs a) := by
        simp only [subS, bound_at (bs (a ++ c :: b)).size (show a.length ≤ (bs (a ++ c :: b)).size by rw [bs_size]; simp), bound_out (Nat.zero_le _), Option.bind_eq_bind, Option.bind_some]
        rw [bs_extract]
        simp
      have e2 : subS (bs (a ++ c :: b)) (some (IntKind.wrap .i64 ((a.length : Int) + 1))) none = some (bs b) := by
        rw [wI64 (by omega) (by omega), show (a.length : Int) + 1 = ((a.length + 1 : Nat) : Int) by omega]
        simp only [subS, bound_out (Nat.le_refl (bs (a ++ c :: b)).size), bound_at 0 (show a.length + 1 ≤ (bs (a ++ c :: b)).size by rw [bs_size]; simp), Option.bind_eq_bind, Option.bind_some]
        rw [bs_extract, bs_size, List.take_of_length_le (Nat.le_refl _), show a ++ c :: b = (a ++ [c]) ++ b by simp, List.drop_left' (by simp)]
      simp only [decide_eq_true (show (a.length : Int) ≥ 0 by omega), lif_true]
      rw [e1, obind_some, show ((ByteArray.mk #[c]).size : Int) = 1 from rfl, e2, obind_some]
      simp only [lbind_ret, tupL_tuple, obind_some, uncons_cons, asS_string, asB_bool, nilL_nil]
      rfl
theorem specN : SpecOk globs Tryd.prog N.T :=
  .more pureBad <| .more pureNumbers <| .more pureIndex <| .more pureCut <| .more pureAtoi <| .more pureItoa specV
theorem any_bad {k b : Nat} {l : List UInt8} {L : LHeap} {e : TypeId} {ro : Bool} {sp : Nat} (hb : L[b]? = some (.cells (l.map fun x => .int .u8 x.toNat) e ro sp)) (hl : l.length < 1000000) :
    ∀ (q i j : Nat), i + q = l.length → q < j → ∃ r : Int, N.f59_l2 k j ⟨some ⟨b, 0, none⟩, l.length, OPEN⟩ (.func (.func 41) #[] #[]) (l.length : Int) (i : Int) L = some (.ret (.int .i64 r) L) ∧ decide (r ≥ 0) = (l.drop i).any fun c => badC c.toNat := by
  intro q
  induction q with
  | zero =>
    intro i j hi hj
    obtain ⟨j, rfl⟩ : ∃ j', j = j' + 1 := ⟨j - 1, by omega⟩
    refine ⟨-1, ?_, ?_⟩
    · rw [N.f59_l2_eq, decide_eq_false (by omega), lif_false]
    · rw [List.drop_of_length_le (by omega)]; rfl
  | succ q ih =>
    intro i j hi hj
    obtain ⟨j, rfl⟩ : ∃ j', j = j' + 1 := ⟨j - 1, by omega⟩
    have hlt : i < l.length := by omega
    have hc : cell L ⟨b, 0 + i * 1, none⟩ = some (.int .u8 (l[i].toNat : Int)) := by
      rw [cell_of hb]
      simp [hlt]
    have hcall : lapp (callee N.T (lcall Tryd.prog N.T k)) (.func (.func 41) #[] #[]) [.int .u8 (l[i].toNat : Int)] L = some (.ret (.bool (badC (l[i].toNat : Int))) L) := rfl
    rw [List.drop_eq_getElem_cons hlt, List.any_cons]
    cases hbad : badC (l[i].toNat : Int) with
    | true =>
      refine ⟨i, ?_, ?_⟩
      · rw [N.f59_l2_eq, decide_eq_true (by omega), lif_true, idx_of hlt, obind_some, hc, Option.bind_some, asI_int, obind_some, hcall, lbind_ret, asB_bool, obind_some, hbad, lif_true]
      · rw [Bool.true_or, decide_eq_true (by omega)]
    | false =>
      obtain ⟨r, h1, h2⟩ := ih (i + 1) j (by omega) (by omega)
      refine ⟨r, ?_, by rw [Bool.false_or]; exact h2⟩
      rw [N.f59_l2_eq, decide_eq_true (by omega), lif_true, idx_of hlt, obind_some, hc, Option.bind_some, asI_int, obind_some, hcall, lbind_ret, asB_bool, obind_some, hbad, lif_false, wI64 (by omega) (by omega)]
      exact h1
theorem place_ok (p : Plc) : N.f23 200 p.base p.idx p.k p.d p.r p.z p.m = ok (.bool (placeB p)) := by
  rw [N.f23_eq]
  unfold placeB
  cases hs : shapeB p.d p.r p.z p.m with
  | false => rfl
  | true =>
    have hs' := shapeB_iff.1 hs
    rw [Bool.not_true, lif_false, Bool.true_and]
    have h0 : (p.base.toList == ByteArray.toList ⟨#[]⟩) = (p.base.size == 0) := by
      rw [Go.ByteArray.toList_eq, Go.ByteArray.toList_eq, size_data]
      cases p.base.data.toList <;> rfl
    rw [h0]
    cases h1 : (p.base.size == 0) with
    | true => rfl
    | false =>
      rw [lif_false]
      by_cases h2 : p.base.size > 60
      · rw [decide_eq_true (by omega), decide_eq_true h2]; rfl
      rw [decide_eq_false (by omega), decide_eq_false h2, lif_false]
      by_cases h3 : p.k < 1
      · rw [decide_eq_true h3]; rfl
      rw [decide_eq_false h3, lif_false, wI64 (n := 96 - p.m) (by omega) (by omega)]
      by_cases h4 : p.k > 96 - p.m
      · rw [decide_eq_true h4]; rfl
      rw [decide_eq_false h4, lif_false]
      by_cases h5 : p.idx < 0
      · rw [decide_eq_true h5]; rfl
      rw [decide_eq_false h5, lif_false, wI64 (n := p.k + p.m) (by omega) (by omega)]
      by_cases h6 : p.idx ≥ p.k + p.m
      · rw [decide_eq_true h6]; rfl
      rw [decide_eq_false h6, lif_false]
      have hsz := size_data p.base
      obtain ⟨r, e1, e2⟩ := any_bad (k := 198) (b := 1) (l := p.base.data.toList) (e := 5) (ro := false) (sp := 1)
        (L := [LBlk.cells [.string p.base, .int .i64 p.idx, .int .i64 p.k, .int .i64 p.d, .int .i64 p.r, .int .i64 p.z, .int .i64 p.m] 41 false 0, .cells (byteCells p.base) 5 false 1]) rfl (by omega) p.base.data.toList.length 0 198 (by omega) (by omega)
      have hcall : lcall Tryd.prog N.T 200 40 [.slice (some ⟨1, 0, none⟩) p.base.size OPEN, .func (.func 41) #[] #[]] [LBlk.cells [.string p.base, .int .i64 p.idx, .int .i64 p.k, .int .i64 p.d, .int .i64 p.r, .int .i64 p.z, .int .i64 p.m] 41 false 0, .cells (byteCells p.base) 5 false 1] =
          some (.ret (.bool (p.base.data.toList.any fun c => badC c.toNat)) [LBlk.cells [.string p.base, .int .i64 p.idx, .int .i64 p.k, .int .i64 p.d, .int .i64 p.r, .int .i64 p.z, .int .i64 p.m] 41 false 0, .cells (byteCells p.base) 5 false 1]) := by
        show N.f40 200 ⟨some ⟨1, 0, none⟩, p.base.size, OPEN⟩ _ _ = _
        rw [N.f40_eq, N.f59_eq, hsz]
        have e1 := e1
        rw [Int.natCast_zero] at e1
        rw [e1, lbind_ret, asI_int, obind_some, e2, List.drop_zero]
      rw [hcall, lbind_ret, asB_bool, obind_some]
      rfl
theorem purePlace : PureOk globs Tryd.prog 23 placeP :=
  .runs (T := N.T) (n := 200) specN X.mixed X.named (by decide) fun args L r0 r hr hreal => by
    unfold placeP at hr
    split at hr
    case h_2 => cases hr
    injection hr with hr
    subst hr
    injection hreal with hreal
    subst hreal
    rename_i b i k d r z m
    exact ⟨_, rfl, rfl, rfl, place_ok ⟨b, i, k, d, r, z, m⟩⟩
theorem specM : SpecOk globs Tryd.prog M.T := .more purePlace specN
end Go.Proofs.YtffcfaabjodpcaaDoor
end

section
set_option maxRecDepth 100000
set_option linter.unusedVariables false
namespace Go.Proofs.YtffcfaabjodpcaaDoor.M
open Go Go.Rlm
/-- hamper/slice.Name -/
noncomputable def f22 (k : Nat) (s0 : ByteArray) (n1 : Int) (n2 : Int) (n3 : Int) (n4 : Int) (n5 : Int) (n6 : Int) : R :=
  lpure Tryd.prog T k 22
  [Value.agg #[Value.string s0, Value.int IntKind.i64 n1, Value.int IntKind.i64 n2, Value.int IntKind.i64 n3, Value.int IntKind.i64 n4, Value.int IntKind.i64 n5, Value.int IntKind.i64 n6]]
theorem f22_eq (k : Nat) (s0 : ByteArray) (n1 : Int) (n2 : Int) (n3 : Int) (n4 : Int) (n5 : Int) (n6 : Int) : f22 (k + 8) s0 n1 n2 n3 n4 n5 n6 =
 lif (!placeB (Plc.mk s0 n1 n2 n3 n4 n5 n6)) (ok (Value.tuple #[Value.string (ByteArray.mk #[]), Value.int IntKind.i64 1]))
 (when (fitsS (ByteArray.size s0 + ByteArray.size (ByteArray.mk #[46])))
 (obind (subS (ByteArray.mk #[100, 114, 115, 109, 107, 118]) (some 0) (some 1)) fun s7 =>
 when (decide (0 ≤ n3) && decide (n3 < 1000000000000000000))
 (when (fitsS (ByteArray.size s7 + ByteArray.size (itoaS (Int.toNat n3))))
 (when (fitsS (ByteArray.size (s0 ++ ByteArray.mk #[46]) + ByteArray.size (s7 ++ itoaS (Int.toNat n3))))
 (obind (subS (ByteArray.mk #[100, 114, 115, 109, 107, 118]) (some 1) (some 2)) fun s8 =>
 when (decide (0 ≤ n4) && decide (n4 < 1000000000000000000))
 (when (fitsS (ByteArray.size s8 + ByteArray.size (itoaS (Int.toNat n4))))
 (when (fitsS (ByteArray.size (s0 ++ ByteArray.mk #[46] ++ (s7 ++ itoaS (Int.toNat n3))) + ByteArray.size (s8 ++ itoaS (Int.toNat n4))))
 (obind (subS (ByteArray.mk #[100, 114, 115, 109, 107, 118]) (some 2) (some 3)) fun s9 =>
 when (decide (0 ≤ n5) && decide (n5 < 1000000000000000000))
 (when (fitsS (ByteArray.size s9 + ByteArray.size (itoaS (Int.toNat n5))))
 (when (fitsS (ByteArray.size (s0 ++ ByteArray.mk #[46] ++ (s7 ++ itoaS (Int.toNat n3)) ++ (s8 ++ itoaS (Int.toNat n4))) + ByteArray.size (s9 ++ itoaS (Int.toNat n5))))
 (obind (subS (ByteArray.mk #[100, 114, 115, 109, 107, 118]) (some 3) (some 4)) fun s10 =>
 when (decide (0 ≤ n6) && decide (n6 < 1000000000000000000))
 (when (fitsS (ByteArray.size s10 + ByteArray.size (itoaS (Int.toNat n6))))
 (when
 (fitsS
 (ByteArray.size (s0 ++ ByteArray.mk #[46] ++ (s7 ++ itoaS (Int.toNat n3)) ++ (s8 ++ itoaS (Int.toNat n4)) ++ (s9 ++ itoaS (Int.toNat n5))) +
 ByteArray.size (s10 ++ itoaS (Int.toNat n6))))
 (obind (subS (ByteArray.mk #[100, 114, 115, 109, 107, 118]) (some 4) (some 5)) fun s11 =>
 when (decide (0 ≤ n2) && decide (n2 < 1000000000000000000))
 (when (fitsS (ByteArray.size s11 + ByteArray.size (itoaS (Int.toNat n2))))
 (when
 (fitsS
 (ByteArray.size
 (s0 ++ ByteArray.mk #[46] ++ (s7 ++ itoaS (Int.toNat n3)) ++ (s8 ++ itoaS (Int.toNat n4)) ++ (s9 ++ itoaS (Int.toNat n5)) ++
 (s10 ++ itoaS (Int.toNat n6))) +
 ByteArray.size (s11 ++ itoaS (Int.toNat n2))))
 (obind (subS (ByteArray.mk #[100, 114, 115, 109, 107, 118]) (some 5) (some 6)) fun s12 =>
 when (decide (0 ≤ n1) && decide (n1 < 1000000000000000000))
 (when (fitsS (ByteArray.size s12 + ByteArray.size (itoaS (Int.toNat n1))))
 (when
 (fitsS
 (ByteArray.size
 (s0 ++ ByteArray.mk #[46] ++ (s7 ++ itoaS (Int.toNat n3)) ++ (s8 ++ itoaS (Int.toNat n4)) ++ (s9 ++ itoaS (Int.toNat n5)) ++
 (s10 ++ itoaS (Int.toNat n6)) ++
 (s11 ++ itoaS (Int.toNat n2))) +
 ByteArray.size (s12 ++ itoaS (Int.toNat n1))))
 (ok
 (Value.tuple
 #[Value.string
 (s0 ++ ByteArray.mk #[46] ++ (s7 ++ itoaS (Int.toNat n3)) ++ (s8 ++ itoaS (Int.toNat n4)) ++ (s9 ++ itoaS (Int.toNat n5)) ++
 (s10 ++ itoaS (Int.toNat n6)) ++
 (s11 ++ itoaS (Int.toNat n2)) ++
 (s12 ++ itoaS (Int.toNat n1))),
 Value.int IntKind.i64 0]))))))))))))))))))))) := by kernel_rfl
end Go.Proofs.YtffcfaabjodpcaaDoor.M
end

section
set_option maxRecDepth 100000
set_option linter.unusedVariables false
namespace Go.Proofs.YtffcfaabjodpcaaDoor.K
open Go Go.Rlm
/-- hamper/slice.Parse -/
noncomputable def f21 (k : Nat) (s0 : ByteArray) : R :=
  lpure Tryd.prog T k 21 [Value.string s0]
/-- slots 0, 2, 4, 5, 7, 21 -/
noncomputable def f21_l4 (k : Nat) (j4 : Nat) (s88 : ByteArray) (s89 : ByteArray) (s90 : ByteArray) (n91 : Int) (L : LHeap) : R :=
  loopAtD Tryd.prog T 21 k [1, 1, 1, 0, 1, 0] [] j4
  [(0, Value.string s88), (2, Value.pointer (some (Addr.mk 0 0 none))), (4, Value.string s89), (5, Value.string s90), (7, Value.pointer (some (Addr.mk 1 0 none))), (21, Value.int IntKind.i64 n91)] L
theorem f21_eq (k : Nat) (s0 : ByteArray) : f21 k s0 =
 when (Nat.ble (ByteArray.size s0) 1000000000000)
 (f21_l4 k k s0 (cutA s0 46) (cutB s0 46) 0
 [LBlk.cells [Value.string (ByteArray.mk #[]), Value.int IntKind.i64 0, Value.int IntKind.i64 0, Value.int IntKind.i64 0, Value.int IntKind.i64 0, Value.int IntKind.i64 0, Value.int IntKind.i64 0]
 41 false 0,
 LBlk.cells [Value.int IntKind.i64 0, Value.int IntKind.i64 0, Value.int IntKind.i64 0, Value.int IntKind.i64 0, Value.int IntKind.i64 0, Value.int IntKind.i64 0] 71 false 0]) := by kernel_rfl
theorem f21_l4_eq (k : Nat) (j4 : Nat) (s0 : ByteArray) (s1 : ByteArray) (s2 : ByteArray) (n3 : Int) (L : LHeap) : f21_l4 k (j4 + 1) s0 s1 s2 n3 L =
 lif (decide (n3 < 6))
 (lif (decide (IntKind.wrap IntKind.i64 (n3 + 1) < 6))
 (obind (byteAt (ByteArray.mk #[100, 114, 115, 109, 107, 118]) (IntKind.wrap IntKind.i64 (n3 + 1))) fun n4 =>
 lif (decide (firstIdx s2 (Nat.toUInt8 (Int.toNat n4)) < 1))
 (obind
 (stores L (Addr.mk 0 0 none)
 [Value.string (ByteArray.mk #[]), Value.int IntKind.i64 0, Value.int IntKind.i64 0, Value.int IntKind.i64 0, Value.int IntKind.i64 0, Value.int IntKind.i64 0, Value.int IntKind.i64 0])
 fun L5 =>
 obind (Option.bind (cell L5 (Addr.add (Addr.mk 0 0 none) 0)) asS) fun s6 =>
 obind (Option.bind (cell L5 (Addr.add (Addr.mk 0 0 none) 1)) (asI IntKind.i64)) fun n7 =>
 obind (Option.bind (cell L5 (Addr.add (Addr.mk 0 0 none) 2)) (asI IntKind.i64)) fun n8 =>
 obind (Option.bind (cell L5 (Addr.add (Addr.mk 0 0 none) 3)) (asI IntKind.i64)) fun n9 =>
 obind (Option.bind (cell L5 (Addr.add (Addr.mk 0 0 none) 4)) (asI IntKind.i64)) fun n10 =>
 obind (Option.bind (cell L5 (Addr.add (Addr.mk 0 0 none) 5)) (asI IntKind.i64)) fun n11 =>
 obind (Option.bind (cell L5 (Addr.add (Addr.mk 0 0 none) 6)) (asI IntKind.i64)) fun n12 =>
 ok
 (Value.tuple
 #[Value.agg
 #[Value.string s6, Value.int IntKind.i64 n7, Value.int IntKind.i64 n8, Value.int IntKind.i64 n9, Value.int IntKind.i64 n10, Value.int IntKind.i64 n11,
 Value.int IntKind.i64 n12],
 Value.int IntKind.i64 4]))
 (obind (subS s2 (some 1) (some (firstIdx s2 (Nat.toUInt8 (Int.toNat n4))))) fun s13 =>
 when (Nat.ble (ByteArray.size s13) 281474976710656)
 (lif (atoiOk s13)
 (obind (subS s2 (some (firstIdx s2 (Nat.toUInt8 (Int.toNat n4)))) none) fun s14 =>
 when (decide (0 ≤ n3))
 (when (decide (n3 < 6))
 (obind (stores L (Addr.add (Addr.mk 1 0 none) (Int.toNat n3 * 1)) [Value.int IntKind.i64 (atoiVal s13)]) fun L15 =>
 f21_l4 k j4 s0 s1 s14 (IntKind.wrap IntKind.i64 (n3 + 1)) L15)))
 (obind
 (stores (L ++ [LBlk.dead]) (Addr.mk 0 0 none)
 [Value.string (ByteArray.mk #[]), Value.int IntKind.i64 0, Value.int IntKind.i64 0, Value.int IntKind.i64 0, Value.int IntKind.i64 0, Value.int IntKind.i64 0,
 Value.int IntKind.i64 0])
 fun L16 =>
 obind (Option.bind (cell L16 (Addr.add (Addr.mk 0 0 none) 0)) asS) fun s17 =>
 obind (Option.bind (cell L16 (Addr.add (Addr.mk 0 0 none) 1)) (asI IntKind.i64)) fun n18 =>
 obind (Option.bind (cell L16 (Addr.add (Addr.mk 0 0 none) 2)) (asI IntKind.i64)) fun n19 =>
 obind (Option.bind (cell L16 (Addr.add (Addr.mk 0 0 none) 3)) (asI IntKind.i64)) fun n20 =>
 obind (Option.bind (cell L16 (Addr.add (Addr.mk 0 0 none) 4)) (asI IntKind.i64)) fun n21 =>
 obind (Option.bind (cell L16 (Addr.add (Addr.mk 0 0 none) 5)) (asI IntKind.i64)) fun n22 =>
 obind (Option.bind (cell L16 (Addr.add (Addr.mk 0 0 none) 6)) (asI IntKind.i64)) fun n23 =>
 ok
 (Value.tuple
 #[Value.agg
 #[Value.string s17, Value.int IntKind.i64 n18, Value.int IntKind.i64 n19, Value.int IntKind.i64 n20, Value.int IntKind.i64 n21, Value.int IntKind.i64 n22,
 Value.int IntKind.i64 n23],
 Value.int IntKind.i64 4])))))
 (lif (decide ((↑(ByteArray.size s2) : Int) < 1))
 (obind
 (stores L (Addr.mk 0 0 none)
 [Value.string (ByteArray.mk #[]), Value.int IntKind.i64 0, Value.int IntKind.i64 0, Value.int IntKind.i64 0, Value.int IntKind.i64 0, Value.int IntKind.i64 0, Value.int IntKind.i64 0])
 fun L24 =>
 obind (Option.bind (cell L24 (Addr.add (Addr.mk 0 0 none) 0)) asS) fun s25 =>
 obind (Option.bind (cell L24 (Addr.add (Addr.mk 0 0 none) 1)) (asI IntKind.i64)) fun n26 =>
 obind (Option.bind (cell L24 (Addr.add (Addr.mk 0 0 none) 2)) (asI IntKind.i64)) fun n27 =>
 obind (Option.bind (cell L24 (Addr.add (Addr.mk 0 0 none) 3)) (asI IntKind.i64)) fun n28 =>
 obind (Option.bind (cell L24 (Addr.add (Addr.mk 0 0 none) 4)) (asI IntKind.i64)) fun n29 =>
 obind (Option.bind (cell L24 (Addr.add (Addr.mk 0 0 none) 5)) (asI IntKind.i64)) fun n30 =>
 obind (Option.bind (cell L24 (Addr.add (Addr.mk 0 0 none) 6)) (asI IntKind.i64)) fun n31 =>
 ok
 (Value.tuple
 #[Value.agg
 #[Value.string s25, Value.int IntKind.i64 n26, Value.int IntKind.i64 n27, Value.int IntKind.i64 n28, Value.int IntKind.i64 n29, Value.int IntKind.i64 n30,
 Value.int IntKind.i64 n31],
 Value.int IntKind.i64 4]))
 (obind (subS s2 (some 1) (some (↑(ByteArray.size s2) : Int))) fun s32 =>
 when (Nat.ble (ByteArray.size s32) 281474976710656)
 (lif (atoiOk s32)
 (obind (subS s2 (some (↑(ByteArray.size s2) : Int)) none) fun s33 =>
 when (decide (0 ≤ n3))
 (when (decide (n3 < 6))
 (obind (stores L (Addr.add (Addr.mk 1 0 none) (Int.toNat n3 * 1)) [Value.int IntKind.i64 (atoiVal s32)]) fun L34 =>
 f21_l4 k j4 s0 s1 s33 (IntKind.wrap IntKind.i64 (n3 + 1)) L34)))
 (obind
 (stores (L ++ [LBlk.dead]) (Addr.mk 0 0 none)
 [Value.string (ByteArray.mk #[]), Value.int IntKind.i64 0, Value.int IntKind.i64 0, Value.int IntKind.i64 0, Value.int IntKind.i64 0, Value.int IntKind.i64 0, Value.int IntKind.i64 0])
 fun L35 =>
 obind (Option.bind (cell L35 (Addr.add (Addr.mk 0 0 none) 0)) asS) fun s36 =>
 obind (Option.bind (cell L35 (Addr.add (Addr.mk 0 0 none) 1)) (asI IntKind.i64)) fun n37 =>
 obind (Option.bind (cell L35 (Addr.add (Addr.mk 0 0 none) 2)) (asI IntKind.i64)) fun n38 =>
 obind (Option.bind (cell L35 (Addr.add (Addr.mk 0 0 none) 3)) (asI IntKind.i64)) fun n39 =>
 obind (Option.bind (cell L35 (Addr.add (Addr.mk 0 0 none) 4)) (asI IntKind.i64)) fun n40 =>
 obind (Option.bind (cell L35 (Addr.add (Addr.mk 0 0 none) 5)) (asI IntKind.i64)) fun n41 =>
 obind (Option.bind (cell L35 (Addr.add (Addr.mk 0 0 none) 6)) (asI IntKind.i64)) fun n42 =>
 ok
 (Value.tuple
 #[Value.agg
 #[Value.string s36, Value.int IntKind.i64 n37, Value.int IntKind.i64 n38, Value.int IntKind.i64 n39, Value.int IntKind.i64 n40, Value.int IntKind.i64 n41,
 Value.int IntKind.i64 n42],
 Value.int IntKind.i64 4]))))))
 (obind (Option.bind (cell L (Addr.add (Addr.mk 1 0 none) 5)) (asI IntKind.i64)) fun n43 =>
 obind (Option.bind (cell L (Addr.add (Addr.mk 1 0 none) 4)) (asI IntKind.i64)) fun n44 =>
 obind (Option.bind (cell L (Addr.add (Addr.mk 1 0 none) 0)) (asI IntKind.i64)) fun n45 =>
 obind (Option.bind (cell L (Addr.add (Addr.mk 1 0 none) 1)) (asI IntKind.i64)) fun n46 =>
 obind (Option.bind (cell L (Addr.add (Addr.mk 1 0 none) 2)) (asI IntKind.i64)) fun n47 =>
 obind (Option.bind (cell L (Addr.add (Addr.mk 1 0 none) 3)) (asI IntKind.i64)) fun n48 =>
 obind
 (stores
 (L ++
 [LBlk.cells
 [Value.string (ByteArray.mk #[]), Value.int IntKind.i64 0, Value.int IntKind.i64 0, Value.int IntKind.i64 0, Value.int IntKind.i64 0, Value.int IntKind.i64 0,
 Value.int IntKind.i64 0]
 41 false 0])
 (Addr.mk (List.length L) 0 none)
 [Value.string s1, Value.int IntKind.i64 n43, Value.int IntKind.i64 n44, Value.int IntKind.i64 n45, Value.int IntKind.i64 n46, Value.int IntKind.i64 n47, Value.int IntKind.i64 n48])
 fun L49 =>
 obind (Option.bind (cell L49 (Addr.add (Addr.mk (List.length L) 0 none) 0)) asS) fun s50 =>
 obind (Option.bind (cell L49 (Addr.add (Addr.mk (List.length L) 0 none) 1)) (asI IntKind.i64)) fun n51 =>
 obind (Option.bind (cell L49 (Addr.add (Addr.mk (List.length L) 0 none) 2)) (asI IntKind.i64)) fun n52 =>
 obind (Option.bind (cell L49 (Addr.add (Addr.mk (List.length L) 0 none) 3)) (asI IntKind.i64)) fun n53 =>
 obind (Option.bind (cell L49 (Addr.add (Addr.mk (List.length L) 0 none) 4)) (asI IntKind.i64)) fun n54 =>
 obind (Option.bind (cell L49 (Addr.add (Addr.mk (List.length L) 0 none) 5)) (asI IntKind.i64)) fun n55 =>
 obind (Option.bind (cell L49 (Addr.add (Addr.mk (List.length L) 0 none) 6)) (asI IntKind.i64)) fun n56 =>
 lif (nameE (Plc.mk s50 n51 n52 n53 n54 n55 n56) != 0)
 (obind
 (stores L49 (Addr.mk 0 0 none)
 [Value.string (ByteArray.mk #[]), Value.int IntKind.i64 0, Value.int IntKind.i64 0, Value.int IntKind.i64 0, Value.int IntKind.i64 0, Value.int IntKind.i64 0,
 Value.int IntKind.i64 0])
 fun L57 =>
 obind (Option.bind (cell L57 (Addr.add (Addr.mk 0 0 none) 0)) asS) fun s58 =>
 obind (Option.bind (cell L57 (Addr.add (Addr.mk 0 0 none) 1)) (asI IntKind.i64)) fun n59 =>
 obind (Option.bind (cell L57 (Addr.add (Addr.mk 0 0 none) 2)) (asI IntKind.i64)) fun n60 =>
 obind (Option.bind (cell L57 (Addr.add (Addr.mk 0 0 none) 3)) (asI IntKind.i64)) fun n61 =>
 obind (Option.bind (cell L57 (Addr.add (Addr.mk 0 0 none) 4)) (asI IntKind.i64)) fun n62 =>
 obind (Option.bind (cell L57 (Addr.add (Addr.mk 0 0 none) 5)) (asI IntKind.i64)) fun n63 =>
 obind (Option.bind (cell L57 (Addr.add (Addr.mk 0 0 none) 6)) (asI IntKind.i64)) fun n64 =>
 ok
 (Value.tuple
 #[Value.agg
 #[Value.string s58, Value.int IntKind.i64 n59, Value.int IntKind.i64 n60, Value.int IntKind.i64 n61, Value.int IntKind.i64 n62,
 Value.int IntKind.i64 n63, Value.int IntKind.i64 n64],
 Value.int IntKind.i64 4]))
 (lif (!ByteArray.toList (nameS (Plc.mk s50 n51 n52 n53 n54 n55 n56)) == ByteArray.toList s0)
 (obind
 (stores L49 (Addr.mk 0 0 none)
 [Value.string (ByteArray.mk #[]), Value.int IntKind.i64 0, Value.int IntKind.i64 0, Value.int IntKind.i64 0, Value.int IntKind.i64 0, Value.int IntKind.i64 0,
 Value.int IntKind.i64 0])
 fun L65 =>
 obind (Option.bind (cell L65 (Addr.add (Addr.mk 0 0 none) 0)) asS) fun s66 =>
 obind (Option.bind (cell L65 (Addr.add (Addr.mk 0 0 none) 1)) (asI IntKind.i64)) fun n67 =>
 obind (Option.bind (cell L65 (Addr.add (Addr.mk 0 0 none) 2)) (asI IntKind.i64)) fun n68 =>
 obind (Option.bind (cell L65 (Addr.add (Addr.mk 0 0 none) 3)) (asI IntKind.i64)) fun n69 =>
 obind (Option.bind (cell L65 (Addr.add (Addr.mk 0 0 none) 4)) (asI IntKind.i64)) fun n70 =>
 obind (Option.bind (cell L65 (Addr.add (Addr.mk 0 0 none) 5)) (asI IntKind.i64)) fun n71 =>
 obind (Option.bind (cell L65 (Addr.add (Addr.mk 0 0 none) 6)) (asI IntKind.i64)) fun n72 =>
 ok
 (Value.tuple
 #[Value.agg
 #[Value.string s66, Value.int IntKind.i64 n67, Value.int IntKind.i64 n68, Value.int IntKind.i64 n69, Value.int IntKind.i64 n70,
 Value.int IntKind.i64 n71, Value.int IntKind.i64 n72],
 Value.int IntKind.i64 4]))
 (obind (Option.bind (cell L49 (Addr.add (Addr.mk (List.length L) 0 none) 0)) asS) fun s73 =>
 obind (Option.bind (cell L49 (Addr.add (Addr.mk (List.length L) 0 none) 1)) (asI IntKind.i64)) fun n74 =>
 obind (Option.bind (cell L49 (Addr.add (Addr.mk (List.length L) 0 none) 2)) (asI IntKind.i64)) fun n75 =>
 obind (Option.bind (cell L49 (Addr.add (Addr.mk (List.length L) 0 none) 3)) (asI IntKind.i64)) fun n76 =>
 obind (Option.bind (cell L49 (Addr.add (Addr.mk (List.length L) 0 none) 4)) (asI IntKind.i64)) fun n77 =>
 obind (Option.bind (cell L49 (Addr.add (Addr.mk (List.length L) 0 none) 5)) (asI IntKind.i64)) fun n78 =>
 obind (Option.bind (cell L49 (Addr.add (Addr.mk (List.length L) 0 none) 6)) (asI IntKind.i64)) fun n79 =>
 obind
 (stores L49 (Addr.mk 0 0 none)
 [Value.string s73, Value.int IntKind.i64 n74, Value.int IntKind.i64 n75, Value.int IntKind.i64 n76, Value.int IntKind.i64 n77,
 Value.int IntKind.i64 n78, Value.int IntKind.i64 n79])
 fun L80 =>
 obind (Option.bind (cell L80 (Addr.add (Addr.mk 0 0 none) 0)) asS) fun s81 =>
 obind (Option.bind (cell L80 (Addr.add (Addr.mk 0 0 none) 1)) (asI IntKind.i64)) fun n82 =>
 obind (Option.bind (cell L80 (Addr.add (Addr.mk 0 0 none) 2)) (asI IntKind.i64)) fun n83 =>
 obind (Option.bind (cell L80 (Addr.add (Addr.mk 0 0 none) 3)) (asI IntKind.i64)) fun n84 =>
 obind (Option.bind (cell L80 (Addr.add (Addr.mk 0 0 none) 4)) (asI IntKind.i64)) fun n85 =>
 obind (Option.bind (cell L80 (Addr.add (Addr.mk 0 0 none) 5)) (asI IntKind.i64)) fun n86 =>
 obind (Option.bind (cell L80 (Addr.add (Addr.mk 0 0 none) 6)) (asI IntKind.i64)) fun n87 =>
 ok
 (Value.tuple
 #[Value.agg
 #[Value.string s81, Value.int IntKind.i64 n82, Value.int IntKind.i64 n83, Value.int IntKind.i64 n84, Value.int IntKind.i64 n85,
 Value.int IntKind.i64 n86, Value.int IntKind.i64 n87],
 Value.int IntKind.i64 0])))) := by kernel_rfl
end Go.Proofs.YtffcfaabjodpcaaDoor.K
end

section
set_option maxRecDepth 100000
namespace Go.Proofs.YtffcfaabjodpcaaDoor
open Go Go.Rlm
theorem decD_len : ∀ (d u : Nat), (decD d u).length ≤ d + 1
  | 0, u => by simp [decD]
  | d + 1, u => by
    unfold decD
    cases Nat.blt u 10 with
    | true => simp
    | false => simp only [cond_false, List.length_append, List.length_cons, List.length_nil]; have := decD_len d (u / 10); omega
theorem place_true {p : Plc} (h : placeB p = true) : (1 ≤ p.d ∧ p.d ≤ 64 ∧ 0 ≤ p.r ∧ p.r ≤ 32 ∧ 2 ≤ p.z ∧ p.z ≤ 512 ∧ p.z.tmod 2 = 0 ∧ 0 ≤ p.m ∧ p.m ≤ 32) ∧ p.base.size ≠ 0 ∧ p.base.size ≤ 60 ∧ 1 ≤ p.k ∧ p.k ≤ 96 - p.m ∧ 0 ≤ p.idx ∧ p.idx < p.k + p.m ∧
    (p.base.data.toList.any fun c => badC c.toNat) = false := by
  unfold placeB at h
  simp only [Bool.and_eq_true, Bool.not_eq_true', decide_eq_false_iff_not, beq_eq_false_iff_ne] at h
  obtain ⟨⟨⟨⟨⟨⟨⟨h1, h2⟩, h3⟩, h4⟩, h5⟩, h6⟩, h7⟩, h8⟩ := h
  exact ⟨shapeB_iff.1 h1, h2, by omega, by omega, by omega, by omega, by omega, h8⟩
theorem name_ok (k : Nat) (p : Plc) : M.f22 (k + 8) p.base p.idx p.k p.d p.r p.z p.m = ok (.tuple #[.string (nameS p), .int .i64 (nameE p)]) := by
  rw [M.f22_eq]
  unfold nameS nameE
  cases hp : placeB p with
  | false => rfl
  | true =>
    obtain ⟨⟨_, _, _, _, _, _, _, _, _⟩, _, hb, _, _, _, _, _⟩ := place_true hp
    have e : itoaS p.d.toNat = bs (decD 20 p.d.toNat) ∧ itoaS p.r.toNat = bs (decD 20 p.r.toNat) ∧ itoaS p.z.toNat = bs (decD 20 p.z.toNat) ∧ itoaS p.m.toNat = bs (decD 20 p.m.toNat) ∧ itoaS p.k.toNat = bs (decD 20 p.k.toNat) ∧
      itoaS p.idx.toNat = bs (decD 20 p.idx.toNat) := ⟨rfl, rfl, rfl, rfl, rfl, rfl⟩
    obtain ⟨e1, e2, e3, e4, e5, e6⟩ := e
    have l1 := decD_len 20 p.d.toNat
    have l2 := decD_len 20 p.r.toNat
    have l3 := decD_len 20 p.z.toNat
    have l4 := decD_len 20 p.m.toNat
    have l5 := decD_len 20 p.k.toNat
    have l6 := decD_len 20 p.idx.toNat
    have hbase : p.base = bs p.base.data.toList := (bs_data _).symm
    have hbl : p.base.data.toList.length ≤ 60 := by rw [← size_data]; exact hb
    unfold nameL
    rw [e1, e2, e3, e4, e5, e6]
    generalize hB : p.base.data.toList = B at hbase hbl ⊢
    rw [hbase, show ByteArray.mk #[46] = bs [46] from rfl]
    have c1 : subS (ByteArray.mk #[100, 114, 115, 109, 107, 118]) (some 0) (some 1) = some (bs [100]) := rfl
    have c2 : subS (ByteArray.mk #[100, 114, 115, 109, 107, 118]) (some 1) (some 2) = some (bs [114]) := rfl
    have c3 : subS (ByteArray.mk #[100, 114, 115, 109, 107, 118]) (some 2) (some 3) = some (bs [115]) := rfl
    have c4 : subS (ByteArray.mk #[100, 114, 115, 109, 107, 118]) (some 3) (some 4) = some (bs [109]) := rfl
    have c5 : subS (ByteArray.mk #[100, 114, 115, 109, 107, 118]) (some 4) (some 5) = some (bs [107]) := rfl
    have c6 : subS (ByteArray.mk #[100, 114, 115, 109, 107, 118]) (some 5) (some 6) = some (bs [118]) := rfl
    have g : ∀ n : Int, 0 ≤ n → n ≤ 1000 → (decide (0 ≤ n) && decide (n < 1000000000000000000)) = true := fun n h1 h2 => by rw [decide_eq_true h1, decide_eq_true (by omega)]; rfl
    rw [Bool.not_true, lif_false]
    generalize decD 20 p.d.toNat = D1 at *
    generalize decD 20 p.r.toNat = D2 at *
    generalize decD 20 p.z.toNat = D3 at *
    generalize decD 20 p.m.toNat = D4 at *
    generalize decD 20 p.k.toNat = D5 at *
    generalize decD 20 p.idx.toNat = D6 at *
    have f : ∀ n : Nat, n ≤ 1000 → fitsS n = true := fun n h => fitsS_ok (by omega)
    rw [bs_size, bs_size, f _ (by simp; omega), when_true, c1, obind_some, g _ (by omega) (by omega), when_true, bs_size, bs_size, f _ (by simp; omega), when_true, bs_app, bs_app, bs_size, bs_size, f _ (by simp; omega), when_true, bs_app]
    rw [c2, obind_some, g _ (by omega) (by omega), when_true, bs_size, bs_size, f _ (by simp; omega), when_true, bs_app, bs_size, bs_size, f _ (by simp; omega), when_true, bs_app]
    rw [c3, obind_some, g _ (by omega) (by omega), when_true, bs_size, bs_size, f _ (by simp; omega), when_true, bs_app, bs_size, bs_size, f _ (by simp; omega), when_true, bs_app]
    rw [c4, obind_some, g _ (by omega) (by omega), when_true, bs_size, bs_size, f _ (by simp; omega), when_true, bs_app, bs_size, bs_size, f _ (by simp; omega), when_true, bs_app]
    rw [c5, obind_some, g _ (by omega) (by omega), when_true, bs_size, bs_size, f _ (by simp; omega), when_true, bs_app, bs_size, bs_size, f _ (by simp; omega), when_true, bs_app]
    rw [c6, obind_some, g _ (by omega) (by omega), when_true, bs_size, bs_size, f _ (by simp; omega), when_true, bs_app, bs_size, bs_size, f _ (by simp; omega), when_true, bs_app]
    simp
theorem pureName : PureOk globs Tryd.prog 22 nameP :=
  .runs (T := M.T) (n := 208) specM X.mixed X.named (by decide) fun args L r0 r hr hreal => by
    unfold nameP at hr
    split at hr
    case h_2 => cases hr
    injection hr with hr
    subst hr
    injection hreal with hreal
    subst hreal
    rename_i b i k d r z m
    exact ⟨_, rfl, rfl, rfl, name_ok 200 ⟨b, i, k, d, r, z, m⟩⟩
theorem specK : SpecOk globs Tryd.prog K.T := .more pureName specM
def zeroC : LBlk := .cells [.string ⟨#[]⟩, .int .i64 0, .int .i64 0, .int .i64 0, .int .i64 0, .int .i64 0, .int .i64 0] 41 false 0
/-- The two variables of Parse. -/
def heapP (v : List Int) : LHeap := [zeroC, .cells (v.map fun x => .int .i64 x) 71 false 0]
def noneR : R := ok (.tuple #[.agg #[.string ⟨#[]⟩, .int .i64 0, .int .i64 0, .int .i64 0, .int .i64 0, .int .i64 0, .int .i64 0], .int .i64 4])
theorem firstIdx_cases (l : List UInt8) (c : UInt8) : (∃ a b, partC c l = some (a, b) ∧ firstIdx (bs l) c = a.length) ∨ (partC c l = none ∧ firstIdx (bs l) c = -1) := by
  rw [firstIdx_bs]
  cases h : partC c l with
  | none => exact .inr ⟨rfl, rfl⟩
  | some p => exact .inl ⟨p.1, p.2, rfl, rfl⟩
theorem step_next {k j : Nat} {s0 s1 : ByteArray} {l : List UInt8} {i : Nat} {c : UInt8} {v : List Int} {upd : Int → List Int} (hi : i < 5) (hl : l.length ≤ 1000000000000)
    (hc : byteAt (ByteArray.mk #[100, 114, 115, 109, 107, 118]) ((i + 1 : Nat) : Int) = some (c.toNat : Int))
    (hst : ∀ x, stores (heapP v) (Addr.add ⟨1, 0, none⟩ (i * 1)) [.int .i64 x] = some (heapP (upd x))) :
    K.f21_l4 k (j + 1) s0 s1 (bs l) (i : Int) (heapP v) = (match parse1 l (some c) with | some (x, l') => K.f21_l4 k j s0 s1 (bs l') ((i + 1 : Nat) : Int) (heapP (upd x)) | none => noneR) := by
  rw [K.f21_l4_eq, decide_eq_true (by omega), lif_true, wI64 (n := (i : Int) + 1) (by omega) (by omega), decide_eq_true (by omega), lif_true, show (i : Int) + 1 = ((i + 1 : Nat) : Int) by omega, hc, obind_some,
    show Nat.toUInt8 (Int.toNat (c.toNat : Int)) = c by simp]
  obtain ⟨a, b, hp, hf⟩ | ⟨hp, hf⟩ := firstIdx_cases l c
  · simp only [parse1, hp, hf]
    obtain ⟨rfl, _⟩ := partC_some hp
    simp only [List.length_append, List.length_cons] at hl
    cases a with
    | nil => rfl
    | cons x a =>
      rw [decide_eq_false (by simp only [List.length_cons]; omega), lif_false]
      have e1 : subS (bs (x :: a ++ c :: b)) (some 1) (some ((x :: a).length : Int)) = some (bs a) := by
        have : subS (bs (x :: a ++ c :: b)) (some ((1 : Nat) : Int)) (some ((x :: a).length : Int)) = some (bs a) := by
          simp only [subS, bound_at (bs (x :: a ++ c :: b)).size (show (x :: a).length ≤ (bs (x :: a ++ c :: b)).size by rw [bs_size]; simp), bound_at 0 (show 1 ≤ (x :: a).length by simp), Option.bind_eq_bind, Option.bind_some]
          rw [bs_extract, List.take_left' rfl]
          rfl
        exact this
      have e2 : subS (bs (x :: a ++ c :: b)) (some ((x :: a).length : Int)) none = some (bs (c :: b)) := by
        simp only [subS, bound_out (Nat.le_refl (bs (x :: a ++ c :: b)).size), bound_at 0 (show (x :: a).length ≤ (bs (x :: a ++ c :: b)).size by rw [bs_size]; simp), Option.bind_eq_bind, Option.bind_some]
        rw [bs_extract, bs_size, List.take_of_length_le (Nat.le_refl _), List.drop_left' rfl]
      rw [e1, obind_some, Nat.ble_eq_true_of_le (show (bs a).size ≤ 281474976710656 by rw [bs_size]; simp at hl; omega), when_true]
      simp only [List.isEmpty_cons, cond_false, List.drop_succ_cons, List.drop_zero]
      cases hok : atoiOk (bs a) with
      | false => rfl
      | true =>
        rw [lif_true, e2, obind_some, decide_eq_true (by omega), when_true, when_true, Int.toNat_natCast, hst, obind_some]
        rfl
  · simp only [parse1, hp, hf]
    rfl
theorem step_last {k j : Nat} {s0 s1 : ByteArray} {l : List UInt8} {v : List Int} {upd : Int → List Int} (hl : l.length ≤ 1000000000000)
    (hst : ∀ x, stores (heapP v) (Addr.add ⟨1, 0, none⟩ (5 * 1)) [.int .i64 x] = some (heapP (upd x))) :
    K.f21_l4 k (j + 1) s0 s1 (bs l) ((5 : Nat) : Int) (heapP v) = (match parse1 l none with | some (x, l') => K.f21_l4 k j s0 s1 (bs l') ((6 : Nat) : Int) (heapP (upd x)) | none => noneR) := by
  rw [K.f21_l4_eq, decide_eq_true (by omega), lif_true, wI64 (n := ((5 : Nat) : Int) + 1) (by omega) (by omega), decide_eq_false (by omega), lif_false, bs_size]
  cases l with
  | nil => rfl
  | cons x a =>
    simp only [parse1]
    rw [decide_eq_false (by simp only [List.length_cons]; omega), lif_false]
    have e1 : subS (bs (x :: a)) (some 1) (some ((x :: a).length : Int)) = some (bs a) := by
      have : subS (bs (x :: a)) (some ((1 : Nat) : Int)) (some ((x :: a).length : Int)) = some (bs a) := by
        simp only [subS, bound_at (bs (x :: a)).size (show (x :: a).length ≤ (bs (x :: a)).size by rw [bs_size]; simp), bound_at 0 (show 1 ≤ (x :: a).length by simp), Option.bind_eq_bind, Option.bind_some]
        rw [bs_extract, List.take_of_length_le (Nat.le_refl _)]
        rfl
      exact this
    have e2 : subS (bs (x :: a)) (some ((x :: a).length : Int)) none = some (bs []) := by
      simp only [subS, bound_out (Nat.le_refl (bs (x :: a)).size), bound_at 0 (show (x :: a).length ≤ (bs (x :: a)).size by rw [bs_size]; simp), Option.bind_eq_bind, Option.bind_some]
      rw [bs_extract, bs_size, List.take_of_length_le (Nat.le_refl _), List.drop_of_length_le (Nat.le_refl _)]
    rw [e1, obind_some, Nat.ble_eq_true_of_le (show (bs a).size ≤ 281474976710656 by rw [bs_size]; simp at hl; omega), when_true]
    simp only [List.isEmpty_cons, cond_false, List.drop_succ_cons, List.drop_zero]
    cases hok : atoiOk (bs a) with
    | false => rfl
    | true =>
      rw [lif_true, e2, obind_some, decide_eq_true (by omega), when_true, when_true, show Int.toNat ((5 : Nat) : Int) = 5 from rfl, hst, obind_some]
      rfl
theorem step_end {k j : Nat} {s s1 : ByteArray} {d r z m n i : Int} {q : ByteArray} :
    K.f21_l4 k (j + 1) s s1 q ((6 : Nat) : Int) (heapP [d, r, z, m, n, i]) =
      lif (nameE ⟨s1, i, n, d, r, z, m⟩ != 0 || (ByteArray.toList (nameS ⟨s1, i, n, d, r, z, m⟩) != s.toList)) noneR (ok (.tuple #[.agg #[.string s1, .int .i64 i, .int .i64 n, .int .i64 d, .int .i64 r, .int .i64 z, .int .i64 m], .int .i64 0])) := by
  rw [K.f21_l4_eq, decide_eq_false (by omega), lif_false]
  cases h1 : (nameE ⟨s1, i, n, d, r, z, m⟩ != 0) with
  | true =>
    show lif (nameE ⟨s1, i, n, d, r, z, m⟩ != 0) _ _ = _
    rw [h1]
    rfl
  | false =>
    show lif (nameE ⟨s1, i, n, d, r, z, m⟩ != 0) _ _ = _
    rw [h1, lif_false, Bool.false_or]
    rfl
theorem parse1_len {l l' : List UInt8} {n : Option UInt8} {x : Int} (h : parse1 l n = some (x, l')) : l'.length ≤ l.length := by
  unfold parse1 at h
  cases n with
  | none =>
    simp only at h
    cases hl : l.isEmpty with
    | true => rw [hl] at h; cases h
    | false =>
      rw [hl, cond_false] at h
      cases ha : atoiOk (bs (l.drop 1)) with
      | false => rw [ha] at h; cases h
      | true => rw [ha, cond_true] at h; injection h with h; injection h with _ h; subst h; simp
  | some c =>
    simp only at h
    cases hp : partC c l with
    | none => rw [hp] at h; cases h
    | some p =>
      obtain ⟨a, b⟩ := p
      rw [hp] at h
      simp only at h
      obtain ⟨rfl, _⟩ := partC_some hp
      cases hl : a.isEmpty with
      | true => rw [hl] at h; cases h
      | false =>
        rw [hl, cond_false] at h
        cases ha : atoiOk (bs (a.drop 1)) with
        | false => rw [ha] at h; cases h
        | true => rw [ha, cond_true] at h; injection h with h; injection h with _ h; subst h; simp
theorem parse_loop {k j : Nat} {s s1 : ByteArray} {l : List UInt8} (hl : l.length ≤ 1000000000000) :
    K.f21_l4 k (j + 7) s s1 (bs l) 0 (heapP [0, 0, 0, 0, 0, 0]) = (match parse6 l with
      | some (d, r, z, m, n, i) => lif (nameE ⟨s1, i, n, d, r, z, m⟩ != 0 || (ByteArray.toList (nameS ⟨s1, i, n, d, r, z, m⟩) != s.toList)) noneR (ok (.tuple #[.agg #[.string s1, .int .i64 i, .int .i64 n, .int .i64 d, .int .i64 r, .int .i64 z, .int .i64 m], .int .i64 0]))
      | none => noneR) := by
  have e1 := step_next (k := k) (j := j + 6) (s0 := s) (s1 := s1) (l := l) (i := 0) (c := 114) (v := [0, 0, 0, 0, 0, 0]) (upd := fun x => [x, 0, 0, 0, 0, 0]) (by omega) hl rfl (fun _ => rfl)
  rw [Int.natCast_zero] at e1
  rw [e1]
  unfold parse6
  cases h1 : parse1 l (some 114) with
  | none => rfl
  | some p =>
  obtain ⟨d, l1⟩ := p
  have n1 := parse1_len h1
  simp only [Option.bind_eq_bind, Option.bind_some]
  rw [step_next (k := k) (j := j + 5) (s0 := s) (s1 := s1) (l := l1) (i := 1) (c := 115) (v := [d, 0, 0, 0, 0, 0]) (upd := fun x => [d, x, 0, 0, 0, 0]) (by omega) (by omega) rfl (fun _ => rfl)]
  cases h2 : parse1 l1 (some 115) with
  | none => rfl
  | some p =>
  obtain ⟨r, l2⟩ := p
  have n2 := parse1_len h2
  simp only [Option.bind_some]
  rw [step_next (k := k) (j := j + 4) (s0 := s) (s1 := s1) (l := l2) (i := 2) (c := 109) (v := [d, r, 0, 0, 0, 0]) (upd := fun x => [d, r, x, 0, 0, 0]) (by omega) (by omega) rfl (fun _ => rfl)]
  cases h3 : parse1 l2 (some 109) with
  | none => rfl
  | some p =>
  obtain ⟨z, l3⟩ := p
  have n3 := parse1_len h3
  simp only [Option.bind_some]
  rw [step_next (k := k) (j := j + 3) (s0 := s) (s1 := s1) (l := l3) (i := 3) (c := 107) (v := [d, r, z, 0, 0, 0]) (upd := fun x => [d, r, z, x, 0, 0]) (by omega) (by omega) rfl (fun _ => rfl)]
  cases h4 : parse1 l3 (some 107) with
  | none => rfl
  | some p =>
  obtain ⟨m, l4⟩ := p
  have n4 := parse1_len h4
  simp only [Option.bind_some]
  rw [step_next (k := k) (j := j + 2) (s0 := s) (s1 := s1) (l := l4) (i := 4) (c := 118) (v := [d, r, z, m, 0, 0]) (upd := fun x => [d, r, z, m, x, 0]) (by omega) (by omega) rfl (fun _ => rfl)]
  cases h5 : parse1 l4 (some 118) with
  | none => rfl
  | some p =>
  obtain ⟨n, l5⟩ := p
  have n5 := parse1_len h5
  simp only [Option.bind_some]
  rw [step_last (k := k) (j := j + 1) (s0 := s) (s1 := s1) (l := l5) (v := [d, r, z, m, n, 0]) (upd := fun x => [d, r, z, m, n, x]) (by omega) (fun _ => rfl)]
  cases h6 : parse1 l5 none with
  | none => rfl
  | some p =>
  obtain ⟨i, l6⟩ := p
  simp only [Option.bind_some]
  exact step_end
theorem cutB_len (s : ByteArray) (c : UInt8) : (cutB s c).data.toList.length ≤ s.size := by
  unfold cutB
  cases h : partC c s.data.toList with
  | none => simp
  | some p =>
    obtain ⟨a, b⟩ := p
    rw [size_data]
    rw [(partC_some h).1]
    simp only [bs_toList, List.length_append, List.length_cons]
    omega
theorem parse_ok (k : Nat) (s : ByteArray) (h : s.size ≤ 1000000000000) : K.f21 (k + 7) s = ok (.tuple #[(parseF s).val, .int .i64 (parseE s)]) := by
  rw [K.f21_eq, Nat.ble_eq_true_of_le h, when_true]
  have := parse_loop (k := k + 7) (j := k) (s := s) (s1 := cutA s 46) (l := (cutB s 46).data.toList) (by have := cutB_len s 46; omega)
  rw [bs_data] at this
  rw [show [LBlk.cells [Value.string (ByteArray.mk #[]), Value.int IntKind.i64 0, Value.int IntKind.i64 0, Value.int IntKind.i64 0, Value.int IntKind.i64 0, Value.int IntKind.i64 0, Value.int IntKind.i64 0] 41 false 0,
      LBlk.cells [Value.int IntKind.i64 0, Value.int IntKind.i64 0, Value.int IntKind.i64 0, Value.int IntKind.i64 0, Value.int IntKind.i64 0, Value.int IntKind.i64 0] 71 false 0] = heapP [0, 0, 0, 0, 0, 0] from rfl, this]
  unfold parseE parseF parseO
  cases h6 : parse6 (cutB s 46).data.toList with
  | none => rfl
  | some p =>
    obtain ⟨d, r, z, m, n, i⟩ := p
    simp only
    rw [show ∀ a b : Int, (a != b) = !(a == b) from fun _ _ => rfl, show ∀ a b : List UInt8, (a != b) = !(a == b) from fun _ _ => rfl]
    cases (nameE ⟨cutA s 46, i, n, d, r, z, m⟩ == 0) with
    | false => rfl
    | true =>
      cases ((nameS ⟨cutA s 46, i, n, d, r, z, m⟩).toList == s.toList) with
      | false => rfl
      | true => rfl
theorem pureParse : PureOk globs Tryd.prog 21 parseP :=
  .runs (T := K.T) (n := 207) specK X.mixed X.named (by decide) fun args L r0 r hr hreal => by
    unfold parseP at hr
    split at hr
    case h_2 => cases hr
    rename_i s
    injection hr with hr
    subst hr
    obtain ⟨h1, rfl⟩ := gate_real hreal
    exact ⟨_, rfl, rfl, rfl, parse_ok 200 s (Nat.le_of_ble_eq_true h1)⟩
theorem specW : SpecOk globs Tryd.prog W.T := .more pureParse specK
end Go.Proofs.YtffcfaabjodpcaaDoor
end

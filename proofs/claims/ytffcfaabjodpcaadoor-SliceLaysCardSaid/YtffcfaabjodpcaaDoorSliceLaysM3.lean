/- The logical machine, its likeness to the model, and the contracts of the functions that the law calls. Printed by pack.py, a program of this work, out of its texts; what the law does not use is left out. -/
import Derived.Test.YtffcfaabjodpcaaDoorSliceLaysM2
import Derived.Test.YtffcfaabjodpcaaDoorProg
import Derived.KernelRfl
import Derived.Deep.SlicePairs
import Derived.ChangeArms
import Derived.ChangeSlices
import Derived.Lib.SmallJoins
section
set_option maxRecDepth 100000
set_option linter.unusedVariables false
namespace Go.Proofs.YtffcfaabjodpcaaDoor.V
open Go Go.Rlm
/-- hamper/slice.Place$1 -/
noncomputable def f41 (k : Nat) (n0 : Int) : R :=
  lpure Tryd.prog T k 41 [Value.int IntKind.u8 n0]
/-- hamper/slice.numbers -/
noncomputable def f38 (k : Nat) (s0 : ByteArray) (n1 : Int) (n2 : Int) (n3 : Int) (n4 : Int) (n5 : Int) (n6 : Int) : R :=
  lpure Tryd.prog T k 38
  [Value.agg #[Value.string s0, Value.int IntKind.i64 n1, Value.int IntKind.i64 n2, Value.int IntKind.i64 n3, Value.int IntKind.i64 n4, Value.int IntKind.i64 n5, Value.int IntKind.i64 n6]]
theorem f41_eq (k : Nat) (n0 : Int) : f41 k n0 =
 lif (decide (n0 < 97)) (lif (decide (n0 < 48)) (ok (Value.bool (n0 != 95))) (lif (decide (n0 > 57)) (ok (Value.bool (n0 != 95))) (ok (Value.bool false))))
 (lif (decide (n0 > 122)) (lif (decide (n0 < 48)) (ok (Value.bool (n0 != 95))) (lif (decide (n0 > 57)) (ok (Value.bool (n0 != 95))) (ok (Value.bool false)))) (ok (Value.bool false))) := by kernel_rfl
theorem f38_eq (k : Nat) (s0 : ByteArray) (n1 : Int) (n2 : Int) (n3 : Int) (n4 : Int) (n5 : Int) (n6 : Int) : f38 k s0 n1 n2 n3 n4 n5 n6 =
 ok (Value.agg #[Value.int IntKind.i64 n3, Value.int IntKind.i64 n4, Value.int IntKind.i64 n5, Value.int IntKind.i64 n6, Value.int IntKind.i64 n2, Value.int IntKind.i64 n1]) := by kernel_rfl
end Go.Proofs.YtffcfaabjodpcaaDoor.V
end

section
set_option maxRecDepth 100000
set_option linter.unusedVariables false
namespace Go.Proofs.YtffcfaabjodpcaaDoor.N
open Go Go.Rlm
/-- slices.ContainsFunc[[]byte,byte] -/
noncomputable def f40 (k : Nat) (l0 : Sl) (v1 : Value) (L : LHeap) : R :=
  lcall Tryd.prog T k 40 [Value.slice l0.a l0.n l0.c, v1] L
/-- slices.IndexFunc[[]byte,byte] -/
noncomputable def f59 (k : Nat) (l0 : Sl) (v1 : Value) (L : LHeap) : R :=
  lcall Tryd.prog T k 59 [Value.slice l0.a l0.n l0.c, v1] L
theorem f40_eq (k : Nat) (l0 : Sl) (v1 : Value) (L : LHeap) : f40 (k + 1) l0 v1 L =
 lbind (f59 k l0 v1 L) fun v2 L3 => obind (asI IntKind.i64 v2) fun n4 => some (LR.ret (Value.bool (decide (n4 ≥ 0))) L3) := by kernel_rfl
/-- slots 0, 1, 7, 8 -/
noncomputable def f59_l2 (k : Nat) (j2 : Nat) (l9 : Sl) (v10 : Value) (n11 : Int) (n12 : Int) (L : LHeap) : R :=
  loopAt Tryd.prog T 59 k [1, 0, 1, 0] [] j2 [(0, Value.slice l9.a l9.n l9.c), (1, v10), (7, Value.int IntKind.i64 n11), (8, Value.int IntKind.i64 n12)] L
theorem f59_eq (k : Nat) (l0 : Sl) (v1 : Value) (L : LHeap) : f59 (k + 1) l0 v1 L =
 f59_l2 k k l0 v1 (↑l0.n : Int) 0 L := by kernel_rfl
theorem f59_l2_eq (k : Nat) (j2 : Nat) (l0 : Sl) (v1 : Value) (n2 : Int) (n3 : Int) (L : LHeap) : f59_l2 k (j2 + 1) l0 v1 n2 n3 L =
 lif (decide (n3 < n2))
 (obind (idx l0 n3 1) fun a4 =>
 obind (Option.bind (cell L a4) (asI IntKind.u8)) fun n5 =>
 lbind (lapp (callee T (lcall Tryd.prog T k)) v1 [Value.int IntKind.u8 n5] L) fun v6 L7 =>
 obind (asB v6) fun b8 => lif b8 (some (LR.ret (Value.int IntKind.i64 n3) L7)) (f59_l2 k j2 l0 v1 n2 (IntKind.wrap IntKind.i64 (n3 + 1)) L7))
 (some (LR.ret (Value.int IntKind.i64 (-1)) L)) := by kernel_rfl
end Go.Proofs.YtffcfaabjodpcaaDoor.N
end

section
set_option maxRecDepth 100000
set_option linter.unusedVariables false
namespace Go.Proofs.YtffcfaabjodpcaaDoor.N
open Go Go.Rlm
/-- hamper/slice.Place -/
noncomputable def f23 (k : Nat) (s0 : ByteArray) (n1 : Int) (n2 : Int) (n3 : Int) (n4 : Int) (n5 : Int) (n6 : Int) : R :=
  lpure Tryd.prog T k 23
  [Value.agg #[Value.string s0, Value.int IntKind.i64 n1, Value.int IntKind.i64 n2, Value.int IntKind.i64 n3, Value.int IntKind.i64 n4, Value.int IntKind.i64 n5, Value.int IntKind.i64 n6]]
theorem f23_eq (k : Nat) (s0 : ByteArray) (n1 : Int) (n2 : Int) (n3 : Int) (n4 : Int) (n5 : Int) (n6 : Int) : f23 k s0 n1 n2 n3 n4 n5 n6 =
 lif (!shapeB n3 n4 n5 n6) (ok (Value.bool false))
 (lif (ByteArray.toList s0 == ByteArray.toList (ByteArray.mk #[])) (ok (Value.bool false))
 (lif (decide ((↑(ByteArray.size s0) : Int) > 60)) (ok (Value.bool false))
 (lif (decide (n2 < 1)) (ok (Value.bool false))
 (lif (decide (n2 > IntKind.wrap IntKind.i64 (96 - n6))) (ok (Value.bool false))
 (lif (decide (n1 < 0)) (ok (Value.bool false))
 (lif (decide (n1 ≥ IntKind.wrap IntKind.i64 (n2 + n6))) (ok (Value.bool false))
 (lbind
 (lcall Tryd.prog T k 40 [Value.slice (some (Addr.mk 1 0 none)) (ByteArray.size s0) OPEN, Value.func (Fn.func 41) #[] #[]]
 [LBlk.cells
 [Value.string s0, Value.int IntKind.i64 n1, Value.int IntKind.i64 n2, Value.int IntKind.i64 n3, Value.int IntKind.i64 n4, Value.int IntKind.i64 n5, Value.int IntKind.i64 n6] 41
 false 0,
 LBlk.cells (byteCells s0) 5 false 1])
 fun v7 L8 => obind (asB v7) fun b9 => ok (Value.bool !b9)))))))) := by kernel_rfl
end Go.Proofs.YtffcfaabjodpcaaDoor.N
end

section
namespace Go.Rlm
open Go.ChangeShapes Go.WideShapes
/-- At the machine: a slice that came in, of so many cells. -/
def Inp (L : LHeap) (l : Sl) (esz : Nat) (vs : List Value) (A : List Nat) : Prop :=
  l.n * esz = vs.length ∧ ((vs = [] ∧ A = []) ∨ ∃ c, l.a = some ⟨c, 0, none⟩ ∧ L[c]? = some (.cells vs 0 true 0) ∧ A = [c])
theorem Inp.mono {L L' : LHeap} {l : Sl} {esz : Nat} {vs : List Value} {A : List Nat} (h : Inp L l esz vs A) (hk : ∀ i ∈ A, L'[i]? = L[i]?) : Inp L' l esz vs A := by
  obtain ⟨h1, h | ⟨c, h2, h3, rfl⟩⟩ := h
  · exact ⟨h1, .inl h⟩
  · exact ⟨h1, .inr ⟨c, h2, by rw [hk c (by simp), h3], rfl⟩⟩
theorem Inp.within {L : LHeap} {l : Sl} {esz : Nat} {vs : List Value} {A : List Nat} (h : Inp L l esz vs A) : Within A L := by
  obtain ⟨h1, ⟨_, rfl⟩ | ⟨c, h2, h3, rfl⟩⟩ := h
  · intro i hi; simp at hi
  · intro i hi; simp at hi; subst hi; exact get_lt h3
theorem Inp.get {L : LHeap} {l : Sl} {esz : Nat} {vs : List Value} {A : List Nat} (h : Inp L l esz vs A) {i : Nat} (hi : i < l.n) (he : 0 < esz) :
    ∃ c, idx l (i : Int) esz = some ⟨c, i * esz, none⟩ ∧ ∀ L', (∀ x ∈ A, L'[x]? = L[x]?) → ∀ o, cell L' ⟨c, o, none⟩ = vs[o]? := by
  obtain ⟨h1, ⟨rfl, _⟩ | ⟨c, h2, h3, rfl⟩⟩ := h
  · have := Nat.mul_le_mul (show 1 ≤ l.n by omega) he; simp at h1 this; omega
  · refine ⟨c, ?_, fun L' hk o => cell_of (by rw [hk c (by simp), h3])⟩
    have := idx_of (b := c) (o := 0) (n := l.n) (c := l.c) (esz := esz) hi
    rw [← h2] at this
    simpa using this
/-- Pairs. -/
def pairCells : List (Nat × Int) → List Value
  | [] => []
  | p :: ps => .int .u32 (p.1 : Int) :: .int .i64 p.2 :: pairCells ps
@[simp] theorem pairCells_length (ps : List (Nat × Int)) : (pairCells ps).length = ps.length * 2 := by
  induction ps with
  | nil => rfl
  | cons p ps ih => simp [pairCells, ih]; omega
end Go.Rlm
end

section
namespace Go.Rlm
/-- These cells can be read by it; they stand in the block that A names. -/
def Rd (L : LHeap) (s : Sl) (vs : List Value) (A : List Nat) : Prop :=
  s.n = vs.length ∧ ((vs = [] ∧ A = []) ∨ ∃ (c o : Nat) (cs : List Value) (e : TypeId) (ro : Bool) (sp : Nat), s.a = some ⟨c, o, none⟩ ∧ L[c]? = some (.cells cs e ro sp) ∧ (∀ i, i < vs.length → cs[o + i]? = vs[i]?) ∧ A = [c])
theorem Rd.len {L : LHeap} {s : Sl} {vs : List Value} {A : List Nat} (h : Rd L s vs A) : s.n = vs.length := h.1
theorem Rd.mono {L L' : LHeap} {s : Sl} {vs : List Value} {A : List Nat} (h : Rd L s vs A) (hk : ∀ i ∈ A, L'[i]? = L[i]?) : Rd L' s vs A := by
  obtain ⟨h1, h | ⟨c, o, cs, e, ro, sp, h2, h3, h4, rfl⟩⟩ := h
  · exact ⟨h1, .inl h⟩
  · exact ⟨h1, .inr ⟨c, o, cs, e, ro, sp, h2, by rw [hk c (by simp), h3], h4, rfl⟩⟩
theorem Rd.within {L : LHeap} {s : Sl} {vs : List Value} {A : List Nat} (h : Rd L s vs A) : Within A L := by
  obtain ⟨h1, ⟨_, rfl⟩ | ⟨c, o, cs, e, ro, sp, h2, h3, h4, rfl⟩⟩ := h
  · intro i hi; simp at hi
  · intro i hi; simp at hi; subst hi; exact get_lt h3
theorem Rd.get {L : LHeap} {s : Sl} {vs : List Value} {A : List Nat} (h : Rd L s vs A) {i : Nat} (hi : i < vs.length) :
    ∃ a, idx s (i : Int) 1 = some a ∧ ∀ L', (∀ x ∈ A, L'[x]? = L[x]?) → cell L' a = vs[i]? := by
  obtain ⟨h1, ⟨rfl, _⟩ | ⟨c, o, cs, e, ro, sp, h2, h3, h4, rfl⟩⟩ := h
  · simp at hi
  · refine ⟨⟨c, o + i * 1, none⟩, ?_, fun L' hk => ?_⟩
    · have := idx_of (b := c) (o := o) (n := s.n) (c := s.c) (esz := 1) (i := i) (by omega)
      rw [← h2] at this
      exact this
    · rw [cell_of (by rw [hk c (by simp), h3]), Nat.mul_one, h4 i hi]
theorem Rd.here {L : LHeap} {s : Sl} {vs : List Value} {A : List Nat} (h : Rd L s vs A) {i : Nat} {v : Value} (hv : vs[i]? = some v) : ∃ a, idx s (i : Int) 1 = some a ∧ cell L a = some v := by
  obtain ⟨a, h1, h2⟩ := h.get (get_lt hv)
  exact ⟨a, h1, by rw [h2 L fun _ _ => rfl, hv]⟩
theorem Inp.rd {L : LHeap} {l : Sl} {vs : List Value} {A : List Nat} (h : Inp L l 1 vs A) : Rd L l vs A := by
  obtain ⟨h1, h | ⟨c, h2, h3, h4⟩⟩ := h
  · exact ⟨by omega, .inl h⟩
  · exact ⟨by omega, .inr ⟨c, 0, vs, 0, true, 0, h2, h3, fun i _ => by simp, h4⟩⟩
theorem Rd.src {L : LHeap} {s : Sl} {vs : List Value} {A : List Nat} (h : Rd L s vs A) : srcOf L 1 s.n (.slice s.a s.n s.c) = some vs := by
  obtain ⟨h1, ⟨rfl, _⟩ | ⟨c, o, cs, e, ro, sp, h2, h3, h4, rfl⟩⟩ := h
  · simp only [List.length_nil] at h1
    simp only [srcOf, srcCells, h1]
    rfl
  · simp only [srcOf, srcCells, h1, h2]
    cases hv : vs with
    | nil => rfl
    | cons v vs' =>
      rw [hv] at h4
      have hle : o + (v :: vs').length ≤ cs.length := by
        have := h4 vs'.length (by simp)
        rw [List.getElem?_eq_getElem (l := v :: vs') (by simp)] at this
        have := get_lt this
        simp; omega
      simp only [List.length_cons, show Nat.beq (vs'.length + 1) 0 = false from rfl, cond_false, cellsAt, h3, Nat.mul_one]
      simp only [List.length_cons] at hle
      rw [Nat.ble_eq_true_of_le hle, cond_true]
      congr 1
      apply List.ext_getElem?
      intro i
      rw [List.getElem?_take]
      split
      · rename_i hi
        rw [List.getElem?_drop]
        exact h4 i (by simpa using hi)
      · rw [List.getElem?_eq_none (by simp; omega)]
def WS (L : LHeap) (s : Sl) (vs : List Value) (e : TypeId) (F : List Nat) : Prop :=
  (s = ⟨none, 0, 0⟩ ∧ vs = [] ∧ F = []) ∨ ∃ c cap sp, s = ⟨some ⟨c, 0, none⟩, vs.length, cap⟩ ∧ L[c]? = some (.cells vs e false sp) ∧ (cap = vs.length ∨ (cap = OPEN ∧ sp = 1)) ∧ F = [c]
theorem WS.mono {L L' : LHeap} {s : Sl} {vs : List Value} {e : TypeId} {F : List Nat} (h : WS L s vs e F) (hk : ∀ i ∈ F, L'[i]? = L[i]?) : WS L' s vs e F := by
  rcases h with h | ⟨c, cap, sp, h1, h2, hc, rfl⟩
  · exact .inl h
  · exact .inr ⟨c, cap, sp, h1, by rw [hk c (by simp), h2], hc, rfl⟩
theorem WS.rd {L : LHeap} {s : Sl} {vs : List Value} {e : TypeId} {F : List Nat} (h : WS L s vs e F) : Rd L s vs F := by
  rcases h with ⟨rfl, rfl, rfl⟩ | ⟨c, cap, sp, rfl, h2, hc, rfl⟩
  · exact ⟨rfl, .inl ⟨rfl, rfl⟩⟩
  · exact ⟨rfl, .inr ⟨c, 0, vs, e, false, sp, rfl, h2, fun i _ => by simp, rfl⟩⟩
theorem WS.within {L : LHeap} {s : Sl} {vs : List Value} {e : TypeId} {F : List Nat} (h : WS L s vs e F) : Within F L := h.rd.within
theorem WS.len {L : LHeap} {s : Sl} {vs : List Value} {e : TypeId} {F : List Nat} (h : WS L s vs e F) : s.n = vs.length := h.rd.len
theorem WS.put {L : LHeap} {s : Sl} {vs : List Value} {e : TypeId} {F : List Nat} (h : WS L s vs e F) {i : Nat} (hi : i < vs.length) (v : Value) :
    ∃ a L', idx s (i : Int) 1 = some a ∧ stores L a [v] = some L' ∧ WS L' s (vs.set i v) e F ∧ Step F L F L' := by
  rcases h with ⟨rfl, rfl, rfl⟩ | ⟨c, cap, sp, rfl, h2, hc, rfl⟩
  · simp at hi
  · refine ⟨⟨c, 0 + i * 1, none⟩, _, idx_of hi, stores_of h2 (by simp; omega), .inr ⟨c, cap, sp, by simp, ?_, by simpa using hc, rfl⟩, .set _ (by simp)⟩
    rw [get_set_self h2]; simp [setAll]
theorem flat_rep (n : Nat) (v : Value) : List.flatten (List.replicate n [v]) = List.replicate n v := by
  induction n with
  | zero => rfl
  | succ n ih => simp [List.replicate_succ, ih]
theorem WS.made {L : LHeap} {n : Nat} {v : Value} {e : TypeId} : WS (L ++ [LBlk.cells (List.flatten (List.replicate n [v])) e false 0]) ⟨some ⟨L.length, 0, none⟩, n, n⟩ (List.replicate n v) e [L.length] :=
  .inr ⟨L.length, n, 0, by simp, by rw [get_new, flat_rep], .inl (by simp), rfl⟩
def OP (L : LHeap) (s : Sl) (vs : List Value) (e : TypeId) (F : List Nat) : Prop :=
  (s = ⟨none, 0, 0⟩ ∧ vs = [] ∧ F = []) ∨ ∃ c rest, s = ⟨some ⟨c, 0, none⟩, vs.length, OPEN⟩ ∧ L[c]? = some (.cells (vs ++ rest) e false 1) ∧ F = [c]
theorem OP.nil (L : LHeap) (e : TypeId) : OP L ⟨none, 0, 0⟩ [] e [] := .inl ⟨rfl, rfl, rfl⟩
theorem OP.mono {L L' : LHeap} {s : Sl} {vs : List Value} {e : TypeId} {F : List Nat} (h : OP L s vs e F) (hk : ∀ i ∈ F, L'[i]? = L[i]?) : OP L' s vs e F := by
  rcases h with h | ⟨c, rest, h1, h2, rfl⟩
  · exact .inl h
  · exact .inr ⟨c, rest, h1, by rw [hk c (by simp), h2], rfl⟩
theorem OP.rd {L : LHeap} {s : Sl} {vs : List Value} {e : TypeId} {F : List Nat} (h : OP L s vs e F) : Rd L s vs F := by
  rcases h with ⟨rfl, rfl, rfl⟩ | ⟨c, rest, rfl, h2, rfl⟩
  · exact ⟨rfl, .inl ⟨rfl, rfl⟩⟩
  · exact ⟨rfl, .inr ⟨c, 0, vs ++ rest, e, false, 1, rfl, h2, fun i hi => by rw [Nat.zero_add, List.getElem?_append_left hi], rfl⟩⟩
theorem OP.within {L : LHeap} {s : Sl} {vs : List Value} {e : TypeId} {F : List Nat} (h : OP L s vs e F) : Within F L := h.rd.within
theorem OP.len {L : LHeap} {s : Sl} {vs : List Value} {e : TypeId} {F : List Nat} (h : OP L s vs e F) : s.n = vs.length := h.rd.len
theorem setAll_append (a b news rest : List Value) (h : rest.length = news.length) : setAll (a ++ rest ++ b) a.length news = a ++ news ++ b := by
  induction news generalizing a rest with
  | nil => obtain rfl := List.eq_nil_of_length_eq_zero h; rfl
  | cons x xs ih =>
    cases rest with
    | nil => simp at h
    | cons r rest =>
      simp only [setAll]
      have e : (a ++ r :: rest ++ b).set a.length x = a ++ [x] ++ rest ++ b := by simp [List.set_append_right]
      have := ih (a ++ [x]) rest (by simpa using h)
      simp only [List.length_append, List.length_singleton] at this
      rw [e, this]
      simp
theorem OP.app {L : LHeap} {s : Sl} {vs : List Value} {e : TypeId} {F : List Nat} (h : OP L s vs e F) (news : List Value) (bytes : Nat) (hne : news ≠ [])
    (hb : (vs.length + news.length) * bytes ≤ 2 ^ 47) (hl : vs.length + news.length ≤ 2 ^ 62) :
    ∃ s' L' F', Rlm.app L e 1 bytes s news.length news = some (s', L') ∧ OP L' s' (vs ++ news) e F' ∧ Step F L F' L' := by
  rcases h with h | ⟨c, rest, rfl, h2, rfl⟩
  · have ho : OS L s vs e F := .inl h
    obtain ⟨s', L', F', h1, h2, h3⟩ := ho.app news bytes hb hl
    refine ⟨s', L', F', h1, ?_, h3⟩
    rcases h2 with h2 | ⟨c, g1, g2, g3⟩
    · exact .inl h2
    · exact .inr ⟨c, [], g1, by simpa using g2, g3⟩
  · have hbl := blen_of (o := 0) h2
    simp only [Rlm.app]
    rw [show Nat.blt OPEN OPEN = false by decide, show Nat.beq OPEN OPEN = true from Nat.beq_refl _]
    simp only [cond_true, cond_false, hbl, Nat.sub_zero, List.length_append]
    have hem : news.isEmpty = false := by cases news <;> simp_all
    by_cases hr : news.length ≤ rest.length
    · rw [Nat.ble_eq_true_of_le (by omega), cond_true, hem, cond_false]
      have hsp : rest = rest.take news.length ++ rest.drop news.length := (List.take_append_drop _ _).symm
      refine ⟨⟨some ⟨c, 0, none⟩, vs.length + news.length, OPEN⟩, L.set c (.cells (vs ++ news ++ rest.drop news.length) e false 1), [c], ?_, .inr ⟨c, rest.drop news.length, by simp, by rw [get_set_self h2], rfl⟩, .set _ (by simp)⟩
      rw [mk_add, stores_of h2 (by simp; omega)]
      simp only [Nat.zero_add, Nat.mul_one, Option.bind_eq_bind, Option.bind_some]
      congr 3
      have := setAll_append vs (rest.drop news.length) news (rest.take news.length) (by simp; omega)
      rw [List.append_assoc vs, List.take_append_drop] at this
      rw [this]
    · have hf : Nat.ble (vs.length + news.length) (vs.length + rest.length) = false := by
        cases hc : Nat.ble (vs.length + news.length) (vs.length + rest.length) with
        | false => rfl
        | true => have := Nat.le_of_ble_eq_true hc; omega
      rw [hf, Nat.ble_eq_true_of_le hb, Nat.ble_eq_true_of_le hl]
      refine ⟨⟨some ⟨L.length, 0, none⟩, vs.length + news.length, OPEN⟩, L.set c .dead ++ [.cells (vs ++ news) e false 1], [L.length], ?_, .inr ⟨L.length, [], by simp, by rw [← (List.length_set : (L.set c LBlk.dead).length = L.length), get_new]; simp, rfl⟩, ?_⟩
      · simp [h2, Nat.ble_eq_true_of_le]
      · refine ⟨by simp, fun i hi hn => ?_, fun i hi => by simp at hi; subst hi; exact .inr (Nat.le_refl _)⟩
        rw [get_push (by simpa using hi), get_set_ne (fun e => hn (by simp [e]))]
/-- A slice that is read, and of which it is known enough to cut it. -/
def CS (L : LHeap) (s : Sl) (vs : List Value) (A : List Nat) : Prop :=
  Rd L s vs A ∧ (vs = [] ∨ (s.c < OPEN ∧ s.n ≤ s.c) ∨ (s.c = OPEN ∧ ∃ (c o : Nat) (cs : List Value) (e : TypeId) (ro : Bool), s.a = some ⟨c, o, none⟩ ∧ L[c]? = some (.cells cs e ro 1) ∧ o + s.n ≤ cs.length ∧ A = [c]))
theorem CS.rd {L : LHeap} {s : Sl} {vs : List Value} {A : List Nat} (h : CS L s vs A) : Rd L s vs A := h.1
theorem CS.mono {L L' : LHeap} {s : Sl} {vs : List Value} {A : List Nat} (h : CS L s vs A) (hk : ∀ i ∈ A, L'[i]? = L[i]?) : CS L' s vs A := by
  refine ⟨h.1.mono hk, ?_⟩
  rcases h.2 with h | h | ⟨h1, c, o, cs, e, ro, h2, h3, h4, rfl⟩
  · exact .inl h
  · exact .inr (.inl h)
  · exact .inr (.inr ⟨h1, c, o, cs, e, ro, h2, by rw [hk c (by simp), h3], h4, rfl⟩)
theorem WS.cs {L : LHeap} {s : Sl} {vs : List Value} {e : TypeId} {F : List Nat} (h : WS L s vs e F) (hs : vs.length < OPEN) : CS L s vs F := by
  refine ⟨h.rd, ?_⟩
  rcases h with ⟨rfl, rfl, rfl⟩ | ⟨c, cap, sp, rfl, h2, hc, rfl⟩
  · exact .inl rfl
  · rcases hc with rfl | ⟨rfl, rfl⟩
    · exact .inr (.inl ⟨hs, Nat.le_refl _⟩)
    · exact .inr (.inr ⟨rfl, c, 0, vs, e, false, rfl, h2, by simp, rfl⟩)
theorem Rd.drop {L : LHeap} {c o n cap cap' : Nat} {vs : List Value} {A : List Nat} (h : Rd L ⟨some ⟨c, o, none⟩, vs.length, cap⟩ vs A) (hn : n ≤ vs.length) :
    ∃ A', Rd L ⟨some ⟨c, o + n, none⟩, vs.length - n, cap'⟩ (vs.drop n) A' ∧ (∀ i ∈ A', i ∈ A) ∧ (n < vs.length → A' = A) := by
  obtain ⟨h1, ⟨rfl, rfl⟩ | ⟨c', o', cs, e, ro, sp, h2, h3, h4, rfl⟩⟩ := h
  · exact ⟨[], ⟨by simp, .inl ⟨by simp, rfl⟩⟩, (fun i hi => by cases hi), (fun h => by simp at h)⟩
  · simp only [Option.some.injEq, Addr.mk.injEq, and_true] at h2
    obtain ⟨rfl, rfl⟩ := h2
    refine ⟨[c], ⟨by simp, .inr ⟨c, o + n, cs, e, ro, sp, rfl, h3, fun i hi => ?_, rfl⟩⟩, fun i hi => hi, fun _ => rfl⟩
    simp at hi
    rw [List.getElem?_drop, Nat.add_assoc]
    exact h4 (n + i) (by omega)
theorem bound_at {i y : Nat} (d : Nat) (h : i ≤ y) : bound (some (i : Int)) d y = some i := by
  simp only [bound]
  rw [decide_eq_true (by omega), decide_eq_true (by omega)]
  simp
theorem bound_out {d y : Nat} (h : d ≤ y) : bound none d y = some d := by
  simp only [bound, Nat.ble_eq_true_of_le h, cond_true]
theorem CS.cut {L : LHeap} {s : Sl} {vs : List Value} {A : List Nat} (h : CS L s vs A) {n : Nat} (h0 : 0 < n) (hn : n ≤ vs.length) :
    ∃ s' A', Rlm.cut L s (some (n : Int)) none none 1 = some s' ∧ CS L s' (vs.drop n) A' ∧ ∀ i ∈ A', i ∈ A := by
  obtain ⟨hr, hc⟩ := h
  have hlen := hr.len
  obtain ⟨sa, sn, sc⟩ := s
  simp only at hlen hc
  subst hlen
  obtain ⟨c, o, hsa⟩ : ∃ c o, sa = some ⟨c, o, none⟩ := by
    obtain ⟨_, ⟨rfl, _⟩ | ⟨c, o, cs, e, ro, sp, h2, _⟩⟩ := hr
    · simp at hn; omega
    · exact ⟨c, o, h2⟩
  subst hsa
  have hne : vs ≠ [] := fun e => by subst e; simp at hn; omega
  rcases hc with hc | ⟨hc1, hc2⟩ | ⟨hc1, c', o', cs, e, ro, h2, h3, h4, rfl⟩
  · exact absurd hc hne
  · have hb : Nat.blt sc OPEN = true := by simpa using hc1
    simp only [Rlm.cut, hb, cond_true, Option.isSome_none, cond_false, bound_out (Nat.le_refl sc), bound_out hc2, bound_at 0 hn, Option.bind_eq_bind, Option.bind_some]
    obtain ⟨A', g1, g2, g3⟩ := hr.drop (cap' := sc - n) hn
    by_cases he : sc = n
    · rw [if_pos he]
      have : vs.drop n = [] := List.drop_of_length_le (by omega)
      exact ⟨_, [], rfl, ⟨⟨by simp, .inl ⟨this, rfl⟩⟩, .inl this⟩, fun i hi => by cases hi⟩
    · rw [if_neg he]
      refine ⟨_, A', rfl, ⟨?_, .inr (.inl ⟨by simp only; omega, by simp only; omega⟩)⟩, g2⟩
      simpa [Option.map, mk_add] using g1
  · subst hc1
    simp only [Option.some.injEq, Addr.mk.injEq, and_true] at h2
    obtain ⟨rfl, rfl⟩ := h2
    have hb : Nat.blt OPEN OPEN = false := rfl
    have hbl : blen L ⟨c, o, none⟩ 1 = some (cs.length - o) := by simp [blen, h3, show Nat.blt 0 1 = true from rfl]
    simp only [Rlm.cut, hb, cond_false, Nat.beq_refl, cond_true, hbl, Option.bind_eq_bind, Option.bind_some, bound_out (show vs.length ≤ cs.length - o by omega), bound_at 0 hn]
    rw [if_neg (by omega)]
    obtain ⟨A', g1, g2, g3⟩ := hr.drop (cap' := OPEN) hn
    by_cases he : n < cs.length - o
    · rw [if_pos he]
      refine ⟨_, A', rfl, ⟨by simpa [mk_add] using g1, ?_⟩, g2⟩
      by_cases hx : n < vs.length
      · refine .inr (.inr ⟨rfl, c, o + n, cs, e, ro, by simp [mk_add], h3, by simp only; omega, g3 hx⟩)
      · exact .inl (List.drop_of_length_le (by omega))
    · rw [if_neg he]
      have : vs.drop n = [] := List.drop_of_length_le (by omega)
      exact ⟨_, [], rfl, ⟨⟨by rw [this]; rfl, .inl ⟨this, rfl⟩⟩, .inl this⟩, fun i hi => by cases hi⟩
end Go.Rlm
end

section
set_option maxRecDepth 100000
namespace Go.Proofs.YtffcfaabjodpcaaDoor
open Go Go.Rlm
theorem bad_ok (n : Int) : V.f41 0 n = ok (.bool (badC n)) := by
  rw [V.f41_eq]
  unfold badC
  generalize decide (n < 97) = b1
  generalize decide (n > 122) = b2
  generalize decide (n < 48) = b3
  generalize decide (n > 57) = b4
  generalize (n != 95) = b5
  cases b1 <;> cases b2 <;> cases b3 <;> cases b4 <;> rfl
theorem pureBad : PureOk globs Tryd.prog 41 badP :=
  .runs (T := V.T) (n := 0) specV X.mixed X.named (by decide) fun args L r0 r hr hreal => by
    unfold badP at hr
    split at hr
    case h_2 => cases hr
    injection hr with hr
    subst hr
    injection hreal with hreal
    subst hreal
    exact ⟨_, rfl, rfl, rfl, bad_ok _⟩
theorem pureNumbers : PureOk globs Tryd.prog 38 numbersP :=
  .runs (T := V.T) (n := 0) specV X.mixed X.named (by decide) fun args L r0 r hr hreal => by
    unfold numbersP at hr
    split at hr
    case h_2 => cases hr
    injection hr with hr
    subst hr
    injection hreal with hreal
    subst hreal
    exact ⟨_, rfl, rfl, rfl, V.f38_eq 0 _ _ _ _ _ _ _⟩
theorem pureIndex : PureOk globs Tryd.prog 36 indexP :=
  .steps (T := V.T) (n := 5) specV X.mixed X.named Tryd.func36 rfl (by decide) fun args L r0 r hr hreal => by
    unfold indexP at hr
    split at hr
    case h_2 => cases hr
    injection hr with hr
    subst hr
    injection hreal with hreal
    subst hreal
    rename_i s c
    refine ⟨?_, rfl⟩
    show V.f36 5 s c L = _
    rw [V.f36_eq, V.f55_eq, lbind_ret, asI_int, obind_some]
theorem cut_find (s : ByteArray) (c : UInt8) (L : LHeap) : V.f69 4 s ⟨#[c]⟩ L = some (.ret (.int .i64 (firstIdx s c)) L) := by
  rw [V.f69_eq, show ((ByteArray.mk #[c]).size : Int) = 1 from rfl, show ((1 : Int) == 0) = false from rfl, lif_false]
  cases h : (ByteArray.toList ⟨#[c]⟩ == s.toList) with
  | true =>
    have h := eq_of_beq h
    have e : s = bs [c] := by
      have h2 := congrArg List.length h
      rw [Go.ByteArray.toList_eq] at h h2
      rw [Go.ByteArray.toList_eq] at h
      rw [← bs_data s, ← h]
    rw [e, firstIdx_bs, lif_true]
    unfold partC
    simp
  | false =>
    rw [lif_false, show ((1 : Int) == 1) = true from rfl, lif_true, show byteAt (ByteArray.mk #[c]) 0 = some (c.toNat : Int) from rfl, obind_some, V.f55_eq, lbind_ret, asI_int, obind_some]
    simp
theorem pureCut : PureOk globs Tryd.prog 35 cutP :=
  .steps (T := V.T) (n := 6) specV X.mixed X.named Tryd.func35 rfl (by decide) fun args L r0 r hr hreal => by
    unfold cutP at hr
    split at hr
    case h_2 => cases hr
    rename_i s c
    injection hr with hr
    subst hr
    obtain ⟨h1, rfl⟩ := gate_real hreal
    have h1 := Nat.le_of_ble_eq_true h1
    refine ⟨?_, rfl⟩
    show V.f35 6 s ⟨#[c]⟩ L = _
    rw [V.f35_eq, V.f54_eq, cut_find, lbind_ret, asI_int, obind_some]
    obtain ⟨l, rfl⟩ : ∃ l, s = bs l := ⟨s.data.toList, (bs_data s).symm⟩
    rw [bs_size] at h1
    rw [firstIdx_bs]
    unfold cutA cutB
    rw [bs_toList]
    cases hp : partC c l with
    | none =>
      simp only [show decide ((-1 : Int) ≥ 0) = false from rfl, lif_false, lbind_ret, tupL_tuple, obind_some, uncons_cons, asS_string, asB_bool, nilL_nil]
      rfl
    | some p =>
      obtain ⟨a, b⟩ := p
      obtain ⟨rfl, _⟩ := partC_some hp
      simp only [List.length_append, List.length_cons] at h1
      have e1 : subS (bs (a ++ c :: b)) none (some (a.length : Int)) = some (bs a) := by
        simp only [subS, bound_at (bs (a ++ c :: b)).size (show a.length ≤ (bs (a ++ c :: b)).size by rw [bs_size]; simp), bound_out (Nat.zero_le _), Option.bind_eq_bind, Option.bind_some]
        rw [bs_extract]
        simp
      have e2 : subS (bs (a ++ c :: b)) (some (IntKind.wrap .i64 ((a.length : Int) + 1))) none = some (bs b) := by
        rw [wI64 (by omega) (by omega), show (a.length : Int) + 1 = ((a.length + 1 : Nat) : Int) by omega]
        simp only [subS, bound_out (Nat.le_refl (bs (a ++ c :: b)).size), bound_at 0 (show a.length + 1 ≤ (bs (a ++ c :: b)).size by rw [bs_size]; simp), Option.bind_eq_bind, Option.bind_some]
        rw [bs_extract, bs_size, List.take_of_length_le (Nat.le_refl _), show a ++ c :: b = (a ++ [c]) ++ b by simp, List.drop_left' (by simp)]
      simp only [decide_eq_true (show (a.length : Int) ≥ 0 by omega), lif_true]
      rw [e1, obind_some, show ((ByteArray.mk #[c]).size : Int) = 1 from rfl, e2, obind_some]
      simp only [lbind_ret, tupL_tuple, obind_some, uncons_cons, asS_string, asB_bool, nilL_nil]
      rfl
theorem specN : SpecOk globs Tryd.prog N.T :=
  .more pureBad <| .more pureNumbers <| .more pureIndex <| .more pureCut <| .more pureAtoi <| .more pureItoa specV
theorem any_bad {k b : Nat} {l : List UInt8} {L : LHeap} {e : TypeId} {ro : Bool} {sp : Nat} (hb : L[b]? = some (.cells (l.map fun x => .int .u8 x.toNat) e ro sp)) (hl : l.length < 1000000) :
    ∀ (q i j : Nat), i + q = l.length → q < j → ∃ r : Int, N.f59_l2 k j ⟨some ⟨b, 0, none⟩, l.length, OPEN⟩ (.func (.func 41) #[] #[]) (l.length : Int) (i : Int) L = some (.ret (.int .i64 r) L) ∧ decide (r ≥ 0) = (l.drop i).any fun c => badC c.toNat := by
  intro q
  induction q with
  | zero =>
    intro i j hi hj
    obtain ⟨j, rfl⟩ : ∃ j', j = j' + 1 := ⟨j - 1, by omega⟩
    refine ⟨-1, ?_, ?_⟩
    · rw [N.f59_l2_eq, decide_eq_false (by omega), lif_false]
    · rw [List.drop_of_length_le (by omega)]; rfl
  | succ q ih =>
    intro i j hi hj
    obtain ⟨j, rfl⟩ : ∃ j', j = j' + 1 := ⟨j - 1, by omega⟩
    have hlt : i < l.length := by omega
    have hc : cell L ⟨b, 0 + i * 1, none⟩ = some (.int .u8 (l[i].toNat : Int)) := by
      rw [cell_of hb]
      simp [hlt]
    have hcall : lapp (callee N.T (lcall Tryd.prog N.T k)) (.func (.func 41) #[] #[]) [.int .u8 (l[i].toNat : Int)] L = some (.ret (.bool (badC (l[i].toNat : Int))) L) := rfl
    rw [List.drop_eq_getElem_cons hlt, List.any_cons]
    cases hbad : badC (l[i].toNat : Int) with
    | true =>
      refine ⟨i, ?_, ?_⟩
      · rw [N.f59_l2_eq, decide_eq_true (by omega), lif_true, idx_of hlt, obind_some, hc, Option.bind_some, asI_int, obind_some, hcall, lbind_ret, asB_bool, obind_some, hbad, lif_true]
      · rw [Bool.true_or, decide_eq_true (by omega)]
    | false =>
      obtain ⟨r, h1, h2⟩ := ih (i + 1) j (by omega) (by omega)
      refine ⟨r, ?_, by rw [Bool.false_or]; exact h2⟩
      rw [N.f59_l2_eq, decide_eq_true (by omega), lif_true, idx_of hlt, obind_some, hc, Option.bind_some, asI_int, obind_some, hcall, lbind_ret, asB_bool, obind_some, hbad, lif_false, wI64 (by omega) (by omega)]
      exact h1
theorem place_ok (p : Plc) : N.f23 200 p.base p.idx p.k p.d p.r p.z p.m = ok (.bool (placeB p)) := by
  rw [N.f23_eq]
  unfold placeB
  cases hs : shapeB p.d p.r p.z p.m with
  | false => rfl
  | true =>
    have hs' := shapeB_iff.1 hs
    rw [Bool.not_true, lif_false, Bool.true_and]
    have h0 : (p.base.toList == ByteArray.toList ⟨#[]⟩) = (p.base.size == 0) := by
      rw [Go.ByteArray.toList_eq, Go.ByteArray.toList_eq, size_data]
      cases p.base.data.toList <;> rfl
    rw [h0]
    cases h1 : (p.base.size == 0) with
    | true => rfl
    | false =>
      rw [lif_false]
      by_cases h2 : p.base.size > 60
      · rw [decide_eq_true (by omega), decide_eq_true h2]; rfl
      rw [decide_eq_false (by omega), decide_eq_false h2, lif_false]
      by_cases h3 : p.k < 1
      · rw [decide_eq_true h3]; rfl
      rw [decide_eq_false h3, lif_false, wI64 (n := 96 - p.m) (by omega) (by omega)]
      by_cases h4 : p.k > 96 - p.m
      · rw [decide_eq_true h4]; rfl
      rw [decide_eq_false h4, lif_false]
      by_cases h5 : p.idx < 0
      · rw [decide_eq_true h5]; rfl
      rw [decide_eq_false h5, lif_false, wI64 (n := p.k + p.m) (by omega) (by omega)]
      by_cases h6 : p.idx ≥ p.k + p.m
      · rw [decide_eq_true h6]; rfl
      rw [decide_eq_false h6, lif_false]
      have hsz := size_data p.base
      obtain ⟨r, e1, e2⟩ := any_bad (k := 198) (b := 1) (l := p.base.data.toList) (e := 5) (ro := false) (sp := 1)
        (L := [LBlk.cells [.string p.base, .int .i64 p.idx, .int .i64 p.k, .int .i64 p.d, .int .i64 p.r, .int .i64 p.z, .int .i64 p.m] 41 false 0, .cells (byteCells p.base) 5 false 1]) rfl (by omega) p.base.data.toList.length 0 198 (by omega) (by omega)
      have hcall : lcall Tryd.prog N.T 200 40 [.slice (some ⟨1, 0, none⟩) p.base.size OPEN, .func (.func 41) #[] #[]] [LBlk.cells [.string p.base, .int .i64 p.idx, .int .i64 p.k, .int .i64 p.d, .int .i64 p.r, .int .i64 p.z, .int .i64 p.m] 41 false 0, .cells (byteCells p.base) 5 false 1] =
          some (.ret (.bool (p.base.data.toList.any fun c => badC c.toNat)) [LBlk.cells [.string p.base, .int .i64 p.idx, .int .i64 p.k, .int .i64 p.d, .int .i64 p.r, .int .i64 p.z, .int .i64 p.m] 41 false 0, .cells (byteCells p.base) 5 false 1]) := by
        show N.f40 200 ⟨some ⟨1, 0, none⟩, p.base.size, OPEN⟩ _ _ = _
        rw [N.f40_eq, N.f59_eq, hsz]
        have e1 := e1
        rw [Int.natCast_zero] at e1
        rw [e1, lbind_ret, asI_int, obind_some, e2, List.drop_zero]
      rw [hcall, lbind_ret, asB_bool, obind_some]
      rfl
theorem purePlace : PureOk globs Tryd.prog 23 placeP :=
  .runs (T := N.T) (n := 200) specN X.mixed X.named (by decide) fun args L r0 r hr hreal => by
    unfold placeP at hr
    split at hr
    case h_2 => cases hr
    injection hr with hr
    subst hr
    injection hreal with hreal
    subst hreal
    rename_i b i k d r z m
    exact ⟨_, rfl, rfl, rfl, place_ok ⟨b, i, k, d, r, z, m⟩⟩
theorem specM : SpecOk globs Tryd.prog M.T := .more purePlace specN
end Go.Proofs.YtffcfaabjodpcaaDoor
end

section
set_option maxRecDepth 100000
set_option linter.unusedVariables false
namespace Go.Proofs.YtffcfaabjodpcaaDoor.M
open Go Go.Rlm
/-- hamper/slice.Name -/
noncomputable def f22 (k : Nat) (s0 : ByteArray) (n1 : Int) (n2 : Int) (n3 : Int) (n4 : Int) (n5 : Int) (n6 : Int) : R :=
  lpure Tryd.prog T k 22
  [Value.agg #[Value.string s0, Value.int IntKind.i64 n1, Value.int IntKind.i64 n2, Value.int IntKind.i64 n3, Value.int IntKind.i64 n4, Value.int IntKind.i64 n5, Value.int IntKind.i64 n6]]
theorem f22_eq (k : Nat) (s0 : ByteArray) (n1 : Int) (n2 : Int) (n3 : Int) (n4 : Int) (n5 : Int) (n6 : Int) : f22 (k + 8) s0 n1 n2 n3 n4 n5 n6 =
 lif (!placeB (Plc.mk s0 n1 n2 n3 n4 n5 n6)) (ok (Value.tuple #[Value.string (ByteArray.mk #[]), Value.int IntKind.i64 1]))
 (when (fitsS (ByteArray.size s0 + ByteArray.size (ByteArray.mk #[46])))
 (obind (subS (ByteArray.mk #[100, 114, 115, 109, 107, 118]) (some 0) (some 1)) fun s7 =>
 when (decide (0 ≤ n3) && decide (n3 < 1000000000000000000))
 (when (fitsS (ByteArray.size s7 + ByteArray.size (itoaS (Int.toNat n3))))
 (when (fitsS (ByteArray.size (s0 ++ ByteArray.mk #[46]) + ByteArray.size (s7 ++ itoaS (Int.toNat n3))))
 (obind (subS (ByteArray.mk #[100, 114, 115, 109, 107, 118]) (some 1) (some 2)) fun s8 =>
 when (decide (0 ≤ n4) && decide (n4 < 1000000000000000000))
 (when (fitsS (ByteArray.size s8 + ByteArray.size (itoaS (Int.toNat n4))))
 (when (fitsS (ByteArray.size (s0 ++ ByteArray.mk #[46] ++ (s7 ++ itoaS (Int.toNat n3))) + ByteArray.size (s8 ++ itoaS (Int.toNat n4))))
 (obind (subS (ByteArray.mk #[100, 114, 115, 109, 107, 118]) (some 2) (some 3)) fun s9 =>
 when (decide (0 ≤ n5) && decide (n5 < 1000000000000000000))
 (when (fitsS (ByteArray.size s9 + ByteArray.size (itoaS (Int.toNat n5))))
 (when (fitsS (ByteArray.size (s0 ++ ByteArray.mk #[46] ++ (s7 ++ itoaS (Int.toNat n3)) ++ (s8 ++ itoaS (Int.toNat n4))) + ByteArray.size (s9 ++ itoaS (Int.toNat n5))))
 (obind (subS (ByteArray.mk #[100, 114, 115, 109, 107, 118]) (some 3) (some 4)) fun s10 =>
 when (decide (0 ≤ n6) && decide (n6 < 1000000000000000000))
 (when (fitsS (ByteArray.size s10 + ByteArray.size (itoaS (Int.toNat n6))))
 (when
 (fitsS
 (ByteArray.size (s0 ++ ByteArray.mk #[46] ++ (s7 ++ itoaS (Int.toNat n3)) ++ (s8 ++ itoaS (Int.toNat n4)) ++ (s9 ++ itoaS (Int.toNat n5))) +
 ByteArray.size (s10 ++ itoaS (Int.toNat n6))))
 (obind (subS (ByteArray.mk #[100, 114, 115, 109, 107, 118]) (some 4) (some 5)) fun s11 =>
 when (decide (0 ≤ n2) && decide (n2 < 1000000000000000000))
 (when (fitsS (ByteArray.size s11 + ByteArray.size (itoaS (Int.toNat n2))))
 (when
 (fitsS
 (ByteArray.size
 (s0 ++ ByteArray.mk #[46] ++ (s7 ++ itoaS (Int.toNat n3)) ++ (s8 ++ itoaS (Int.toNat n4)) ++ (s9 ++ itoaS (Int.toNat n5)) ++
 (s10 ++ itoaS (Int.toNat n6))) +
 ByteArray.size (s11 ++ itoaS (Int.toNat n2))))
 (obind (subS (ByteArray.mk #[100, 114, 115, 109, 107, 118]) (some 5) (some 6)) fun s12 =>
 when (decide (0 ≤ n1) && decide (n1 < 1000000000000000000))
 (when (fitsS (ByteArray.size s12 + ByteArray.size (itoaS (Int.toNat n1))))
 (when
 (fitsS
 (ByteArray.size
 (s0 ++ ByteArray.mk #[46] ++ (s7 ++ itoaS (Int.toNat n3)) ++ (s8 ++ itoaS (Int.toNat n4)) ++ (s9 ++ itoaS (Int.toNat n5)) ++
 (s10 ++ itoaS (Int.toNat n6)) ++
 (s11 ++ itoaS (Int.toNat n2))) +
 ByteArray.size (s12 ++ itoaS (Int.toNat n1))))
 (ok
 (Value.tuple
 #[Value.string
 (s0 ++ ByteArray.mk #[46] ++ (s7 ++ itoaS (Int.toNat n3)) ++ (s8 ++ itoaS (Int.toNat n4)) ++ (s9 ++ itoaS (Int.toNat n5)) ++
 (s10 ++ itoaS (Int.toNat n6)) ++
 (s11 ++ itoaS (Int.toNat n2)) ++
 (s12 ++ itoaS (Int.toNat n1))),
 Value.int IntKind.i64 0]))))))))))))))))))))) := by kernel_rfl
end Go.Proofs.YtffcfaabjodpcaaDoor.M
end

section
set_option maxRecDepth 100000
set_option linter.unusedVariables false
namespace Go.Proofs.YtffcfaabjodpcaaDoor.K
open Go Go.Rlm
/-- hamper/slice.Parse -/
noncomputable def f21 (k : Nat) (s0 : ByteArray) : R :=
  lpure Tryd.prog T k 21 [Value.string s0]
/-- slots 0, 2, 4, 5, 7, 21 -/
noncomputable def f21_l4 (k : Nat) (j4 : Nat) (s88 : ByteArray) (s89 : ByteArray) (s90 : ByteArray) (n91 : Int) (L : LHeap) : R :=
  loopAtD Tryd.prog T 21 k [1, 1, 1, 0, 1, 0] [] j4
  [(0, Value.string s88), (2, Value.pointer (some (Addr.mk 0 0 none))), (4, Value.string s89), (5, Value.string s90), (7, Value.pointer (some (Addr.mk 1 0 none))), (21, Value.int IntKind.i64 n91)] L
theorem f21_eq (k : Nat) (s0 : ByteArray) : f21 k s0 =
 when (Nat.ble (ByteArray.size s0) 1000000000000)
 (f21_l4 k k s0 (cutA s0 46) (cutB s0 46) 0
 [LBlk.cells [Value.string (ByteArray.mk #[]), Value.int IntKind.i64 0, Value.int IntKind.i64 0, Value.int IntKind.i64 0, Value.int IntKind.i64 0, Value.int IntKind.i64 0, Value.int IntKind.i64 0]
 41 false 0,
 LBlk.cells [Value.int IntKind.i64 0, Value.int IntKind.i64 0, Value.int IntKind.i64 0, Value.int IntKind.i64 0, Value.int IntKind.i64 0, Value.int IntKind.i64 0] 71 false 0]) := by kernel_rfl
theorem f21_l4_eq (k : Nat) (j4 : Nat) (s0 : ByteArray) (s1 : ByteArray) (s2 : ByteArray) (n3 : Int) (L : LHeap) : f21_l4 k (j4 + 1) s0 s1 s2 n3 L =
 lif (decide (n3 < 6))
 (lif (decide (IntKind.wrap IntKind.i64 (n3 + 1) < 6))
 (obind (byteAt (ByteArray.mk #[100, 114, 115, 109, 107, 118]) (IntKind.wrap IntKind.i64 (n3 + 1))) fun n4 =>
 lif (decide (firstIdx s2 (Nat.toUInt8 (Int.toNat n4)) < 1))
 (obind
 (stores L (Addr.mk 0 0 none)
 [Value.string (ByteArray.mk #[]), Value.int IntKind.i64 0, Value.int IntKind.i64 0, Value.int IntKind.i64 0, Value.int IntKind.i64 0, Value.int IntKind.i64 0, Value.int IntKind.i64 0])
 fun L5 =>
 obind (Option.bind (cell L5 (Addr.add (Addr.mk 0 0 none) 0)) asS) fun s6 =>
 obind (Option.bind (cell L5 (Addr.add (Addr.mk 0 0 none) 1)) (asI IntKind.i64)) fun n7 =>
 obind (Option.bind (cell L5 (Addr.add (Addr.mk 0 0 none) 2)) (asI IntKind.i64)) fun n8 =>
 obind (Option.bind (cell L5 (Addr.add (Addr.mk 0 0 none) 3)) (asI IntKind.i64)) fun n9 =>
 obind (Option.bind (cell L5 (Addr.add (Addr.mk 0 0 none) 4)) (asI IntKind.i64)) fun n10 =>
 obind (Option.bind (cell L5 (Addr.add (Addr.mk 0 0 none) 5)) (asI IntKind.i64)) fun n11 =>
 obind (Option.bind (cell L5 (Addr.add (Addr.mk 0 0 none) 6)) (asI IntKind.i64)) fun n12 =>
 ok
 (Value.tuple
 #[Value.agg
 #[Value.string s6, Value.int IntKind.i64 n7, Value.int IntKind.i64 n8, Value.int IntKind.i64 n9, Value.int IntKind.i64 n10, Value.int IntKind.i64 n11,
 Value.int IntKind.i64 n12],
 Value.int IntKind.i64 4]))
 (obind (subS s2 (some 1) (some (firstIdx s2 (Nat.toUInt8 (Int.toNat n4))))) fun s13 =>
 when (Nat.ble (ByteArray.size s13) 281474976710656)
 (lif (atoiOk s13)
 (obind (subS s2 (some (firstIdx s2 (Nat.toUInt8 (Int.toNat n4)))) none) fun s14 =>
 when (decide (0 ≤ n3))
 (when (decide (n3 < 6))
 (obind (stores L (Addr.add (Addr.mk 1 0 none) (Int.toNat n3 * 1)) [Value.int IntKind.i64 (atoiVal s13)]) fun L15 =>
 f21_l4 k j4 s0 s1 s14 (IntKind.wrap IntKind.i64 (n3 + 1)) L15)))
 (obind
 (stores (L ++ [LBlk.dead]) (Addr.mk 0 0 none)
 [Value.string (ByteArray.mk #[]), Value.int IntKind.i64 0, Value.int IntKind.i64 0, Value.int IntKind.i64 0, Value.int IntKind.i64 0, Value.int IntKind.i64 0,
 Value.int IntKind.i64 0])
 fun L16 =>
 obind (Option.bind (cell L16 (Addr.add (Addr.mk 0 0 none) 0)) asS) fun s17 =>
 obind (Option.bind (cell L16 (Addr.add (Addr.mk 0 0 none) 1)) (asI IntKind.i64)) fun n18 =>
 obind (Option.bind (cell L16 (Addr.add (Addr.mk 0 0 none) 2)) (asI IntKind.i64)) fun n19 =>
 obind (Option.bind (cell L16 (Addr.add (Addr.mk 0 0 none) 3)) (asI IntKind.i64)) fun n20 =>
 obind (Option.bind (cell L16 (Addr.add (Addr.mk 0 0 none) 4)) (asI IntKind.i64)) fun n21 =>
 obind (Option.bind (cell L16 (Addr.add (Addr.mk 0 0 none) 5)) (asI IntKind.i64)) fun n22 =>
 obind (Option.bind (cell L16 (Addr.add (Addr.mk 0 0 none) 6)) (asI IntKind.i64)) fun n23 =>
 ok
 (Value.tuple
 #[Value.agg
 #[Value.string s17, Value.int IntKind.i64 n18, Value.int IntKind.i64 n19, Value.int IntKind.i64 n20, Value.int IntKind.i64 n21, Value.int IntKind.i64 n22,
 Value.int IntKind.i64 n23],
 Value.int IntKind.i64 4])))))
 (lif (decide ((↑(ByteArray.size s2) : Int) < 1))
 (obind
 (stores L (Addr.mk 0 0 none)
 [Value.string (ByteArray.mk #[]), Value.int IntKind.i64 0, Value.int IntKind.i64 0, Value.int IntKind.i64 0, Value.int IntKind.i64 0, Value.int IntKind.i64 0, Value.int IntKind.i64 0])
 fun L24 =>
 obind (Option.bind (cell L24 (Addr.add (Addr.mk 0 0 none) 0)) asS) fun s25 =>
 obind (Option.bind (cell L24 (Addr.add (Addr.mk 0 0 none) 1)) (asI IntKind.i64)) fun n26 =>
 obind (Option.bind (cell L24 (Addr.add (Addr.mk 0 0 none) 2)) (asI IntKind.i64)) fun n27 =>
 obind (Option.bind (cell L24 (Addr.add (Addr.mk 0 0 none) 3)) (asI IntKind.i64)) fun n28 =>
 obind (Option.bind (cell L24 (Addr.add (Addr.mk 0 0 none) 4)) (asI IntKind.i64)) fun n29 =>
 obind (Option.bind (cell L24 (Addr.add (Addr.mk 0 0 none) 5)) (asI IntKind.i64)) fun n30 =>
 obind (Option.bind (cell L24 (Addr.add (Addr.mk 0 0 none) 6)) (asI IntKind.i64)) fun n31 =>
 ok
 (Value.tuple
 #[Value.agg
 #[Value.string s25, Value.int IntKind.i64 n26, Value.int IntKind.i64 n27, Value.int IntKind.i64 n28, Value.int IntKind.i64 n29, Value.int IntKind.i64 n30,
 Value.int IntKind.i64 n31],
 Value.int IntKind.i64 4]))
 (obind (subS s2 (some 1) (some (↑(ByteArray.size s2) : Int))) fun s32 =>
 when (Nat.ble (ByteArray.size s32) 281474976710656)
 (lif (atoiOk s32)
 (obind (subS s2 (some (↑(ByteArray.size s2) : Int)) none) fun s33 =>
 when (decide (0 ≤ n3))
 (when (decide (n3 < 6))
 (obind (stores L (Addr.add (Addr.mk 1 0 none) (Int.toNat n3 * 1)) [Value.int IntKind.i64 (atoiVal s32)]) fun L34 =>
 f21_l4 k j4 s0 s1 s33 (IntKind.wrap IntKind.i64 (n3 + 1)) L34)))
 (obind
 (stores (L ++ [LBlk.dead]) (Addr.mk 0 0 none)
 [Value.string (ByteArray.mk #[]), Value.int IntKind.i64 0, Value.int IntKind.i64 0, Value.int IntKind.i64 0, Value.int IntKind.i64 0, Value.int IntKind.i64 0, Value.int IntKind.i64 0])
 fun L35 =>
 obind (Option.bind (cell L35 (Addr.add (Addr.mk 0 0 none) 0)) asS) fun s36 =>
 obind (Option.bind (cell L35 (Addr.add (Addr.mk 0 0 none) 1)) (asI IntKind.i64)) fun n37 =>
 obind (Option.bind (cell L35 (Addr.add (Addr.mk 0 0 none) 2)) (asI IntKind.i64)) fun n38 =>
 obind (Option.bind (cell L35 (Addr.add (Addr.mk 0 0 none) 3)) (asI IntKind.i64)) fun n39 =>
 obind (Option.bind (cell L35 (Addr.add (Addr.mk 0 0 none) 4)) (asI IntKind.i64)) fun n40 =>
 obind (Option.bind (cell L35 (Addr.add (Addr.mk 0 0 none) 5)) (asI IntKind.i64)) fun n41 =>
 obind (Option.bind (cell L35 (Addr.add (Addr.mk 0 0 none) 6)) (asI IntKind.i64)) fun n42 =>
 ok
 (Value.tuple
 #[Value.agg
 #[Value.string s36, Value.int IntKind.i64 n37, Value.int IntKind.i64 n38, Value.int IntKind.i64 n39, Value.int IntKind.i64 n40, Value.int IntKind.i64 n41,
 Value.int IntKind.i64 n42],
 Value.int IntKind.i64 4]))))))
 (obind (Option.bind (cell L (Addr.add (Addr.mk 1 0 none) 5)) (asI IntKind.i64)) fun n43 =>
 obind (Option.bind (cell L (Addr.add (Addr.mk 1 0 none) 4)) (asI IntKind.i64)) fun n44 =>
 obind (Option.bind (cell L (Addr.add (Addr.mk 1 0 none) 0)) (asI IntKind.i64)) fun n45 =>
 obind (Option.bind (cell L (Addr.add (Addr.mk 1 0 none) 1)) (asI IntKind.i64)) fun n46 =>
 obind (Option.bind (cell L (Addr.add (Addr.mk 1 0 none) 2)) (asI IntKind.i64)) fun n47 =>
 obind (Option.bind (cell L (Addr.add (Addr.mk 1 0 none) 3)) (asI IntKind.i64)) fun n48 =>
 obind
 (stores
 (L ++
 [LBlk.cells
 [Value.string (ByteArray.mk #[]), Value.int IntKind.i64 0, Value.int IntKind.i64 0, Value.int IntKind.i64 0, Value.int IntKind.i64 0, Value.int IntKind.i64 0,
 Value.int IntKind.i64 0]
 41 false 0])
 (Addr.mk (List.length L) 0 none)
 [Value.string s1, Value.int IntKind.i64 n43, Value.int IntKind.i64 n44, Value.int IntKind.i64 n45, Value.int IntKind.i64 n46, Value.int IntKind.i64 n47, Value.int IntKind.i64 n48])
 fun L49 =>
 obind (Option.bind (cell L49 (Addr.add (Addr.mk (List.length L) 0 none) 0)) asS) fun s50 =>
 obind (Option.bind (cell L49 (Addr.add (Addr.mk (List.length L) 0 none) 1)) (asI IntKind.i64)) fun n51 =>
 obind (Option.bind (cell L49 (Addr.add (Addr.mk (List.length L) 0 none) 2)) (asI IntKind.i64)) fun n52 =>
 obind (Option.bind (cell L49 (Addr.add (Addr.mk (List.length L) 0 none) 3)) (asI IntKind.i64)) fun n53 =>
 obind (Option.bind (cell L49 (Addr.add (Addr.mk (List.length L) 0 none) 4)) (asI IntKind.i64)) fun n54 =>
 obind (Option.bind (cell L49 (Addr.add (Addr.mk (List.length L) 0 none) 5)) (asI IntKind.i64)) fun n55 =>
 obind (Option.bind (cell L49 (Addr.add (Addr.mk (List.length L) 0 none) 6)) (asI IntKind.i64)) fun n56 =>
 lif (nameE (Plc.mk s50 n51 n52 n53 n54 n55 n56) != 0)
 (obind
 (stores L49 (Addr.mk 0 0 none)
 [Value.string (ByteArray.mk #[]), Value.int IntKind.i64 0, Value.int IntKind.i64 0, Value.int IntKind.i64 0, Value.int IntKind.i64 0, Value.int IntKind.i64 0,
 Value.int IntKind.i64 0])
 fun L57 =>
 obind (Option.bind (cell L57 (Addr.add (Addr.mk 0 0 none) 0)) asS) fun s58 =>
 obind (Option.bind (cell L57 (Addr.add (Addr.mk 0 0 none) 1)) (asI IntKind.i64)) fun n59 =>
 obind (Option.bind (cell L57 (Addr.add (Addr.mk 0 0 none) 2)) (asI IntKind.i64)) fun n60 =>
 obind (Option.bind (cell L57 (Addr.add (Addr.mk 0 0 none) 3)) (asI IntKind.i64)) fun n61 =>
 obind (Option.bind (cell L57 (Addr.add (Addr.mk 0 0 none) 4)) (asI IntKind.i64)) fun n62 =>
 obind (Option.bind (cell L57 (Addr.add (Addr.mk 0 0 none) 5)) (asI IntKind.i64)) fun n63 =>
 obind (Option.bind (cell L57 (Addr.add (Addr.mk 0 0 none) 6)) (asI IntKind.i64)) fun n64 =>
 ok
 (Value.tuple
 #[Value.agg
 #[Value.string s58, Value.int IntKind.i64 n59, Value.int IntKind.i64 n60, Value.int IntKind.i64 n61, Value.int IntKind.i64 n62,
 Value.int IntKind.i64 n63, Value.int IntKind.i64 n64],
 Value.int IntKind.i64 4]))
 (lif (!ByteArray.toList (nameS (Plc.mk s50 n51 n52 n53 n54 n55 n56)) == ByteArray.toList s0)
 (obind
 (stores L49 (Addr.mk 0 0 none)
 [Value.string (ByteArray.mk #[]), Value.int IntKind.i64 0, Value.int IntKind.i64 0, Value.int IntKind.i64 0, Value.int IntKind.i64 0, Value.int IntKind.i64 0,
 Value.int IntKind.i64 0])
 fun L65 =>
 obind (Option.bind (cell L65 (Addr.add (Addr.mk 0 0 none) 0)) asS) fun s66 =>
 obind (Option.bind (cell L65 (Addr.add (Addr.mk 0 0 none) 1)) (asI IntKind.i64)) fun n67 =>
 obind (Option.bind (cell L65 (Addr.add (Addr.mk 0 0 none) 2)) (asI IntKind.i64)) fun n68 =>
 obind (Option.bind (cell L65 (Addr.add (Addr.mk 0 0 none) 3)) (asI IntKind.i64)) fun n69 =>
 obind (Option.bind (cell L65 (Addr.add (Addr.mk 0 0 none) 4)) (asI IntKind.i64)) fun n70 =>
 obind (Option.bind (cell L65 (Addr.add (Addr.mk 0 0 none) 5)) (asI IntKind.i64)) fun n71 =>
 obind (Option.bind (cell L65 (Addr.add (Addr.mk 0 0 none) 6)) (asI IntKind.i64)) fun n72 =>
 ok
 (Value.tuple
 #[Value.agg
 #[Value.string s66, Value.int IntKind.i64 n67, Value.int IntKind.i64 n68, Value.int IntKind.i64 n69, Value.int IntKind.i64 n70,
 Value.int IntKind.i64 n71, Value.int IntKind.i64 n72],
 Value.int IntKind.i64 4]))
 (obind (Option.bind (cell L49 (Addr.add (Addr.mk (List.length L) 0 none) 0)) asS) fun s73 =>
 obind (Option.bind (cell L49 (Addr.add (Addr.mk (List.length L) 0 none) 1)) (asI IntKind.i64)) fun n74 =>
 obind (Option.bind (cell L49 (Addr.add (Addr.mk (List.length L) 0 none) 2)) (asI IntKind.i64)) fun n75 =>
 obind (Option.bind (cell L49 (Addr.add (Addr.mk (List.length L) 0 none) 3)) (asI IntKind.i64)) fun n76 =>
 obind (Option.bind (cell L49 (Addr.add (Addr.mk (List.length L) 0 none) 4)) (asI IntKind.i64)) fun n77 =>
 obind (Option.bind (cell L49 (Addr.add (Addr.mk (List.length L) 0 none) 5)) (asI IntKind.i64)) fun n78 =>
 obind (Option.bind (cell L49 (Addr.add (Addr.mk (List.length L) 0 none) 6)) (asI IntKind.i64)) fun n79 =>
 obind
 (stores L49 (Addr.mk 0 0 none)
 [Value.string s73, Value.int IntKind.i64 n74, Value.int IntKind.i64 n75, Value.int IntKind.i64 n76, Value.int IntKind.i64 n77,
 Value.int IntKind.i64 n78, Value.int IntKind.i64 n79])
 fun L80 =>
 obind (Option.bind (cell L80 (Addr.add (Addr.mk 0 0 none) 0)) asS) fun s81 =>
 obind (Option.bind (cell L80 (Addr.add (Addr.mk 0 0 none) 1)) (asI IntKind.i64)) fun n82 =>
 obind (Option.bind (cell L80 (Addr.add (Addr.mk 0 0 none) 2)) (asI IntKind.i64)) fun n83 =>
 obind (Option.bind (cell L80 (Addr.add (Addr.mk 0 0 none) 3)) (asI IntKind.i64)) fun n84 =>
 obind (Option.bind (cell L80 (Addr.add (Addr.mk 0 0 none) 4)) (asI IntKind.i64)) fun n85 =>
 obind (Option.bind (cell L80 (Addr.add (Addr.mk 0 0 none) 5)) (asI IntKind.i64)) fun n86 =>
 obind (Option.bind (cell L80 (Addr.add (Addr.mk 0 0 none) 6)) (asI IntKind.i64)) fun n87 =>
 ok
 (Value.tuple
 #[Value.agg
 #[Value.string s81, Value.int IntKind.i64 n82, Value.int IntKind.i64 n83, Value.int IntKind.i64 n84, Value.int IntKind.i64 n85,
 Value.int IntKind.i64 n86, Value.int IntKind.i64 n87],
 Value.int IntKind.i64 0])))) := by kernel_rfl
end Go.Proofs.YtffcfaabjodpcaaDoor.K
end

section
set_option maxRecDepth 100000
namespace Go.Proofs.YtffcfaabjodpcaaDoor
open Go Go.Rlm
theorem decD_len : ∀ (d u : Nat), (decD d u).length ≤ d + 1
  | 0, u => by simp [decD]
  | d + 1, u => by
    unfold decD
    cases Nat.blt u 10 with
    | true => simp
    | false => simp only [cond_false, List.length_append, List.length_cons, List.length_nil]; have := decD_len d (u / 10); omega
theorem place_true {p : Plc} (h : placeB p = true) : (1 ≤ p.d ∧ p.d ≤ 64 ∧ 0 ≤ p.r ∧ p.r ≤ 32 ∧ 2 ≤ p.z ∧ p.z ≤ 512 ∧ p.z.tmod 2 = 0 ∧ 0 ≤ p.m ∧ p.m ≤ 32) ∧ p.base.size ≠ 0 ∧ p.base.size ≤ 60 ∧ 1 ≤ p.k ∧ p.k ≤ 96 - p.m ∧ 0 ≤ p.idx ∧ p.idx < p.k + p.m ∧
    (p.base.data.toList.any fun c => badC c.toNat) = false := by
  unfold placeB at h
  simp only [Bool.and_eq_true, Bool.not_eq_true', decide_eq_false_iff_not, beq_eq_false_iff_ne] at h
  obtain ⟨⟨⟨⟨⟨⟨⟨h1, h2⟩, h3⟩, h4⟩, h5⟩, h6⟩, h7⟩, h8⟩ := h
  exact ⟨shapeB_iff.1 h1, h2, by omega, by omega, by omega, by omega, by omega, h8⟩
theorem name_ok (k : Nat) (p : Plc) : M.f22 (k + 8) p.base p.idx p.k p.d p.r p.z p.m = ok (.tuple #[.string (nameS p), .int .i64 (nameE p)]) := by
  rw [M.f22_eq]
  unfold nameS nameE
  cases hp : placeB p with
  | false => rfl
  | true =>
    obtain ⟨⟨_, _, _, _, _, _, _, _, _⟩, _, hb, _, _, _, _, _⟩ := place_true hp
    have e : itoaS p.d.toNat = bs (decD 20 p.d.toNat) ∧ itoaS p.r.toNat = bs (decD 20 p.r.toNat) ∧ itoaS p.z.toNat = bs (decD 20 p.z.toNat) ∧ itoaS p.m.toNat = bs (decD 20 p.m.toNat) ∧ itoaS p.k.toNat = bs (decD 20 p.k.toNat) ∧
      itoaS p.idx.toNat = bs (decD 20 p.idx.toNat) := ⟨rfl, rfl, rfl, rfl, rfl, rfl⟩
    obtain ⟨e1, e2, e3, e4, e5, e6⟩ := e
    have l1 := decD_len 20 p.d.toNat
    have l2 := decD_len 20 p.r.toNat
    have l3 := decD_len 20 p.z.toNat
    have l4 := decD_len 20 p.m.toNat
    have l5 := decD_len 20 p.k.toNat
    have l6 := decD_len 20 p.idx.toNat
    have hbase : p.base = bs p.base.data.toList := (bs_data _).symm
    have hbl : p.base.data.toList.length ≤ 60 := by rw [← size_data]; exact hb
    unfold nameL
    rw [e1, e2, e3, e4, e5, e6]
    generalize hB : p.base.data.toList = B at hbase hbl ⊢
    rw [hbase, show ByteArray.mk #[46] = bs [46] from rfl]
    have c1 : subS (ByteArray.mk #[100, 114, 115, 109, 107, 118]) (some 0) (some 1) = some (bs [100]) := rfl
    have c2 : subS (ByteArray.mk #[100, 114, 115, 109, 107, 118]) (some 1) (some 2) = some (bs [114]) := rfl
    have c3 : subS (ByteArray.mk #[100, 114, 115, 109, 107, 118]) (some 2) (some 3) = some (bs [115]) := rfl
    have c4 : subS (ByteArray.mk #[100, 114, 115, 109, 107, 118]) (some 3) (some 4) = some (bs [109]) := rfl
    have c5 : subS (ByteArray.mk #[100, 114, 115, 109, 107, 118]) (some 4) (some 5) = some (bs [107]) := rfl
    have c6 : subS (ByteArray.mk #[100, 114, 115, 109, 107, 118]) (some 5) (some 6) = some (bs [118]) := rfl
    have g : ∀ n : Int, 0 ≤ n → n ≤ 1000 → (decide (0 ≤ n) && decide (n < 1000000000000000000)) = true := fun n h1 h2 => by rw [decide_eq_true h1, decide_eq_true (by omega)]; rfl
    rw [Bool.not_true, lif_false]
    generalize decD 20 p.d.toNat = D1 at *
    generalize decD 20 p.r.toNat = D2 at *
    generalize decD 20 p.z.toNat = D3 at *
    generalize decD 20 p.m.toNat = D4 at *
    generalize decD 20 p.k.toNat = D5 at *
    generalize decD 20 p.idx.toNat = D6 at *
    have f : ∀ n : Nat, n ≤ 1000 → fitsS n = true := fun n h => fitsS_ok (by omega)
    rw [bs_size, bs_size, f _ (by simp; omega), when_true, c1, obind_some, g _ (by omega) (by omega), when_true, bs_size, bs_size, f _ (by simp; omega), when_true, bs_app, bs_app, bs_size, bs_size, f _ (by simp; omega), when_true, bs_app]
    rw [c2, obind_some, g _ (by omega) (by omega), when_true, bs_size, bs_size, f _ (by simp; omega), when_true, bs_app, bs_size, bs_size, f _ (by simp; omega), when_true, bs_app]
    rw [c3, obind_some, g _ (by omega) (by omega), when_true, bs_size, bs_size, f _ (by simp; omega), when_true, bs_app, bs_size, bs_size, f _ (by simp; omega), when_true, bs_app]
    rw [c4, obind_some, g _ (by omega) (by omega), when_true, bs_size, bs_size, f _ (by simp; omega), when_true, bs_app, bs_size, bs_size, f _ (by simp; omega), when_true, bs_app]
    rw [c5, obind_some, g _ (by omega) (by omega), when_true, bs_size, bs_size, f _ (by simp; omega), when_true, bs_app, bs_size, bs_size, f _ (by simp; omega), when_true, bs_app]
    rw [c6, obind_some, g _ (by omega) (by omega), when_true, bs_size, bs_size, f _ (by simp; omega), when_true, bs_app, bs_size, bs_size, f _ (by simp; omega), when_true, bs_app]
    simp
theorem pureName : PureOk globs Tryd.prog 22 nameP :=
  .runs (T := M.T) (n := 208) specM X.mixed X.named (by decide) fun args L r0 r hr hreal => by
    unfold nameP at hr
    split at hr
    case h_2 => cases hr
    injection hr with hr
    subst hr
    injection hreal with hreal
    subst hreal
    rename_i b i k d r z m
    exact ⟨_, rfl, rfl, rfl, name_ok 200 ⟨b, i, k, d, r, z, m⟩⟩
theorem specK : SpecOk globs Tryd.prog K.T := .more pureName specM
def zeroC : LBlk := .cells [.string ⟨#[]⟩, .int .i64 0, .int .i64 0, .int .i64 0, .int .i64 0, .int .i64 0, .int .i64 0] 41 false 0
/-- The two variables of Parse. -/
def heapP (v : List Int) : LHeap := [zeroC, .cells (v.map fun x => .int .i64 x) 71 false 0]
def noneR : R := ok (.tuple #[.agg #[.string ⟨#[]⟩, .int .i64 0, .int .i64 0, .int .i64 0, .int .i64 0, .int .i64 0, .int .i64 0], .int .i64 4])
theorem firstIdx_cases (l : List UInt8) (c : UInt8) : (∃ a b, partC c l = some (a, b) ∧ firstIdx (bs l) c = a.length) ∨ (partC c l = none ∧ firstIdx (bs l) c = -1) := by
  rw [firstIdx_bs]
  cases h : partC c l with
  | none => exact .inr ⟨rfl, rfl⟩
  | some p => exact .inl ⟨p.1, p.2, rfl, rfl⟩
theorem step_next {k j : Nat} {s0 s1 : ByteArray} {l : List UInt8} {i : Nat} {c : UInt8} {v : List Int} {upd : Int → List Int} (hi : i < 5) (hl : l.length ≤ 1000000000000)
    (hc : byteAt (ByteArray.mk #[100, 114, 115, 109, 107, 118]) ((i + 1 : Nat) : Int) = some (c.toNat : Int))
    (hst : ∀ x, stores (heapP v) (Addr.add ⟨1, 0, none⟩ (i * 1)) [.int .i64 x] = some (heapP (upd x))) :
    K.f21_l4 k (j + 1) s0 s1 (bs l) (i : Int) (heapP v) = (match parse1 l (some c) with | some (x, l') => K.f21_l4 k j s0 s1 (bs l') ((i + 1 : Nat) : Int) (heapP (upd x)) | none => noneR) := by
  rw [K.f21_l4_eq, decide_eq_true (by omega), lif_true, wI64 (n := (i : Int) + 1) (by omega) (by omega), decide_eq_true (by omega), lif_true, show (i : Int) + 1 = ((i + 1 : Nat) : Int) by omega, hc, obind_some,
    show Nat.toUInt8 (Int.toNat (c.toNat : Int)) = c by simp]
  obtain ⟨a, b, hp, hf⟩ | ⟨hp, hf⟩ := firstIdx_cases l c
  · simp only [parse1, hp, hf]
    obtain ⟨rfl, _⟩ := partC_some hp
    simp only [List.length_append, List.length_cons] at hl
    cases a with
    | nil => rfl
    | cons x a =>
      rw [decide_eq_false (by simp only [List.length_cons]; omega), lif_false]
      have e1 : subS (bs (x :: a ++ c :: b)) (some 1) (some ((x :: a).length : Int)) = some (bs a) := by
        have : subS (bs (x :: a ++ c :: b)) (some ((1 : Nat) : Int)) (some ((x :: a).length : Int)) = some (bs a) := by
          simp only [subS, bound_at (bs (x :: a ++ c :: b)).size (show (x :: a).length ≤ (bs (x :: a ++ c :: b)).size by rw [bs_size]; simp), bound_at 0 (show 1 ≤ (x :: a).length by simp), Option.bind_eq_bind, Option.bind_some]
          rw [bs_extract, List.take_left' rfl]
          rfl
        exact this
      have e2 : subS (bs (x :: a ++ c :: b)) (some ((x :: a).length : Int)) none = some (bs (c :: b)) := by
        simp only [subS, bound_out (Nat.le_refl (bs (x :: a ++ c :: b)).size), bound_at 0 (show (x :: a).length ≤ (bs (x :: a ++ c :: b)).size by rw [bs_size]; simp), Option.bind_eq_bind, Option.bind_some]
        rw [bs_extract, bs_size, List.take_of_length_le (Nat.le_refl _), List.drop_left' rfl]
      rw [e1, obind_some, Nat.ble_eq_true_of_le (show (bs a).size ≤ 281474976710656 by rw [bs_size]; simp at hl; omega), when_true]
      simp only [List.isEmpty_cons, cond_false, List.drop_succ_cons, List.drop_zero]
      cases hok : atoiOk (bs a) with
      | false => rfl
      | true =>
        rw [lif_true, e2, obind_some, decide_eq_true (by omega), when_true, when_true, Int.toNat_natCast, hst, obind_some]
        rfl
  · simp only [parse1, hp, hf]
    rfl
theorem step_last {k j : Nat} {s0 s1 : ByteArray} {l : List UInt8} {v : List Int} {upd : Int → List Int} (hl : l.length ≤ 1000000000000)
    (hst : ∀ x, stores (heapP v) (Addr.add ⟨1, 0, none⟩ (5 * 1)) [.int .i64 x] = some (heapP (upd x))) :
    K.f21_l4 k (j + 1) s0 s1 (bs l) ((5 : Nat) : Int) (heapP v) = (match parse1 l none with | some (x, l') => K.f21_l4 k j s0 s1 (bs l') ((6 : Nat) : Int) (heapP (upd x)) | none => noneR) := by
  rw [K.f21_l4_eq, decide_eq_true (by omega), lif_true, wI64 (n := ((5 : Nat) : Int) + 1) (by omega) (by omega), decide_eq_false (by omega), lif_false, bs_size]
  cases l with
  | nil => rfl
  | cons x a =>
    simp only [parse1]
    rw [decide_eq_false (by simp only [List.length_cons]; omega), lif_false]
    have e1 : subS (bs (x :: a)) (some 1) (some ((x :: a).length : Int)) = some (bs a) := by
      have : subS (bs (x :: a)) (some ((1 : Nat) : Int)) (some ((x :: a).length : Int)) = some (bs a) := by
        simp only [subS, bound_at (bs (x :: a)).size (show (x :: a).length ≤ (bs (x :: a)).size by rw [bs_size]; simp), bound_at 0 (show 1 ≤ (x :: a).length by simp), Option.bind_eq_bind, Option.bind_some]
        rw [bs_extract, List.take_of_length_le (Nat.le_refl _)]
        rfl
      exact this
    have e2 : subS (bs (x :: a)) (some ((x :: a).length : Int)) none = some (bs []) := by
      simp only [subS, bound_out (Nat.le_refl (bs (x :: a)).size), bound_at 0 (show (x :: a).length ≤ (bs (x :: a)).size by rw [bs_size]; simp), Option.bind_eq_bind, Option.bind_some]
      rw [bs_extract, bs_size, List.take_of_length_le (Nat.le_refl _), List.drop_of_length_le (Nat.le_refl _)]
    rw [e1, obind_some, Nat.ble_eq_true_of_le (show (bs a).size ≤ 281474976710656 by rw [bs_size]; simp at hl; omega), when_true]
    simp only [List.isEmpty_cons, cond_false, List.drop_succ_cons, List.drop_zero]
    cases hok : atoiOk (bs a) with
    | false => rfl
    | true =>
      rw [lif_true, e2, obind_some, decide_eq_true (by omega), when_true, when_true, show Int.toNat ((5 : Nat) : Int) = 5 from rfl, hst, obind_some]
      rfl
theorem step_end {k j : Nat} {s s1 : ByteArray} {d r z m n i : Int} {q : ByteArray} :
    K.f21_l4 k (j + 1) s s1 q ((6 : Nat) : Int) (heapP [d, r, z, m, n, i]) =
      lif (nameE ⟨s1, i, n, d, r, z, m⟩ != 0 || (ByteArray.toList (nameS ⟨s1, i, n, d, r, z, m⟩) != s.toList)) noneR (ok (.tuple #[.agg #[.string s1, .int .i64 i, .int .i64 n, .int .i64 d, .int .i64 r, .int .i64 z, .int .i64 m], .int .i64 0])) := by
  rw [K.f21_l4_eq, decide_eq_false (by omega), lif_false]
  cases h1 : (nameE ⟨s1, i, n, d, r, z, m⟩ != 0) with
  | true =>
    show lif (nameE ⟨s1, i, n, d, r, z, m⟩ != 0) _ _ = _
    rw [h1]
    rfl
  | false =>
    show lif (nameE ⟨s1, i, n, d, r, z, m⟩ != 0) _ _ = _
    rw [h1, lif_false, Bool.false_or]
    rfl
theorem parse1_len {l l' : List UInt8} {n : Option UInt8} {x : Int} (h : parse1 l n = some (x, l')) : l'.length ≤ l.length := by
  unfold parse1 at h
  cases n with
  | none =>
    simp only at h
    cases hl : l.isEmpty with
    | true => rw [hl] at h; cases h
    | false =>
      rw [hl, cond_false] at h
      cases ha : atoiOk (bs (l.drop 1)) with
      | false => rw [ha] at h; cases h
      | true => rw [ha, cond_true] at h; injection h with h; injection h with _ h; subst h; simp
  | some c =>
    simp only at h
    cases hp : partC c l with
    | none => rw [hp] at h; cases h
    | some p =>
      obtain ⟨a, b⟩ := p
      rw [hp] at h
      simp only at h
      obtain ⟨rfl, _⟩ := partC_some hp
      cases hl : a.isEmpty with
      | true => rw [hl] at h; cases h
      | false =>
        rw [hl, cond_false] at h
        cases ha : atoiOk (bs (a.drop 1)) with
        | false => rw [ha] at h; cases h
        | true => rw [ha, cond_true] at h; injection h with h; injection h with _ h; subst h; simp
theorem parse_loop {k j : Nat} {s s1 : ByteArray} {l : List UInt8} (hl : l.length ≤ 1000000000000) :
    K.f21_l4 k (j + 7) s s1 (bs l) 0 (heapP [0, 0, 0, 0, 0, 0]) = (match parse6 l with
      | some (d, r, z, m, n, i) => lif (nameE ⟨s1, i, n, d, r, z, m⟩ != 0 || (ByteArray.toList (nameS ⟨s1, i, n, d, r, z, m⟩) != s.toList)) noneR (ok (.tuple #[.agg #[.string s1, .int .i64 i, .int .i64 n, .int .i64 d, .int .i64 r, .int .i64 z, .int .i64 m], .int .i64 0]))
      | none => noneR) := by
  have e1 := step_next (k := k) (j := j + 6) (s0 := s) (s1 := s1) (l := l) (i := 0) (c := 114) (v := [0, 0, 0, 0, 0, 0]) (upd := fun x => [x, 0, 0, 0, 0, 0]) (by omega) hl rfl (fun _ => rfl)
  rw [Int.natCast_zero] at e1
  rw [e1]
  unfold parse6
  cases h1 : parse1 l (some 114) with
  | none => rfl
  | some p =>
  obtain ⟨d, l1⟩ := p
  have n1 := parse1_len h1
  simp only [Option.bind_eq_bind, Option.bind_some]
  rw [step_next (k := k) (j := j + 5) (s0 := s) (s1 := s1) (l := l1) (i := 1) (c := 115) (v := [d, 0, 0, 0, 0, 0]) (upd := fun x => [d, x, 0, 0, 0, 0]) (by omega) (by omega) rfl (fun _ => rfl)]
  cases h2 : parse1 l1 (some 115) with
  | none => rfl
  | some p =>
  obtain ⟨r, l2⟩ := p
  have n2 := parse1_len h2
  simp only [Option.bind_some]
  rw [step_next (k := k) (j := j + 4) (s0 := s) (s1 := s1) (l := l2) (i := 2) (c := 109) (v := [d, r, 0, 0, 0, 0]) (upd := fun x => [d, r, x, 0, 0, 0]) (by omega) (by omega) rfl (fun _ => rfl)]
  cases h3 : parse1 l2 (some 109) with
  | none => rfl
  | some p =>
  obtain ⟨z, l3⟩ := p
  have n3 := parse1_len h3
  simp only [Option.bind_some]
  rw [step_next (k := k) (j := j + 3) (s0 := s) (s1 := s1) (l := l3) (i := 3) (c := 107) (v := [d, r, z, 0, 0, 0]) (upd := fun x => [d, r, z, x, 0, 0]) (by omega) (by omega) rfl (fun _ => rfl)]
  cases h4 : parse1 l3 (some 107) with
  | none => rfl
  | some p =>
  obtain ⟨m, l4⟩ := p
  have n4 := parse1_len h4
  simp only [Option.bind_some]
  rw [step_next (k := k) (j := j + 2) (s0 := s) (s1 := s1) (l := l4) (i := 4) (c := 118) (v := [d, r, z, m, 0, 0]) (upd := fun x => [d, r, z, m, x, 0]) (by omega) (by omega) rfl (fun _ => rfl)]
  cases h5 : parse1 l4 (some 118) with
  | none => rfl
  | some p =>
  obtain ⟨n, l5⟩ := p
  have n5 := parse1_len h5
  simp only [Option.bind_some]
  rw [step_last (k := k) (j := j + 1) (s0 := s) (s1 := s1) (l := l5) (v := [d, r, z, m, n, 0]) (upd := fun x => [d, r, z, m, n, x]) (by omega) (fun _ => rfl)]
  cases h6 : parse1 l5 none with
  | none => rfl
  | some p =>
  obtain ⟨i, l6⟩ := p
  simp only [Option.bind_some]
  exact step_end
theorem cutB_len (s : ByteArray) (c : UInt8) : (cutB s c).data.toList.length ≤ s.size := by
  unfold cutB
  cases h : partC c s.data.toList with
  | none => simp
  | some p =>
    obtain ⟨a, b⟩ := p
    rw [size_data]
    rw [(partC_some h).1]
    simp only [bs_toList, List.length_append, List.length_cons]
    omega
theorem parse_ok (k : Nat) (s : ByteArray) (h : s.size ≤ 1000000000000) : K.f21 (k + 7) s = ok (.tuple #[(parseF s).val, .int .i64 (parseE s)]) := by
  rw [K.f21_eq, Nat.ble_eq_true_of_le h, when_true]
  have := parse_loop (k := k + 7) (j := k) (s := s) (s1 := cutA s 46) (l := (cutB s 46).data.toList) (by have := cutB_len s 46; omega)
  rw [bs_data] at this
  rw [show [LBlk.cells [Value.string (ByteArray.mk #[]), Value.int IntKind.i64 0, Value.int IntKind.i64 0, Value.int IntKind.i64 0, Value.int IntKind.i64 0, Value.int IntKind.i64 0, Value.int IntKind.i64 0] 41 false 0,
      LBlk.cells [Value.int IntKind.i64 0, Value.int IntKind.i64 0, Value.int IntKind.i64 0, Value.int IntKind.i64 0, Value.int IntKind.i64 0, Value.int IntKind.i64 0] 71 false 0] = heapP [0, 0, 0, 0, 0, 0] from rfl, this]
  unfold parseE parseF parseO
  cases h6 : parse6 (cutB s 46).data.toList with
  | none => rfl
  | some p =>
    obtain ⟨d, r, z, m, n, i⟩ := p
    simp only
    rw [show ∀ a b : Int, (a != b) = !(a == b) from fun _ _ => rfl, show ∀ a b : List UInt8, (a != b) = !(a == b) from fun _ _ => rfl]
    cases (nameE ⟨cutA s 46, i, n, d, r, z, m⟩ == 0) with
    | false => rfl
    | true =>
      cases ((nameS ⟨cutA s 46, i, n, d, r, z, m⟩).toList == s.toList) with
      | false => rfl
      | true => rfl
theorem pureParse : PureOk globs Tryd.prog 21 parseP :=
  .runs (T := K.T) (n := 207) specK X.mixed X.named (by decide) fun args L r0 r hr hreal => by
    unfold parseP at hr
    split at hr
    case h_2 => cases hr
    rename_i s
    injection hr with hr
    subst hr
    obtain ⟨h1, rfl⟩ := gate_real hreal
    exact ⟨_, rfl, rfl, rfl, parse_ok 200 s (Nat.le_of_ble_eq_true h1)⟩
theorem specW : SpecOk globs Tryd.prog W.T := .more pureParse specK
end Go.Proofs.YtffcfaabjodpcaaDoor
end

section
set_option maxRecDepth 100000
set_option linter.unusedVariables false
namespace Go.Proofs.YtffcfaabjodpcaaDoor.W
open Go Go.Rlm
/-- (*strings.Builder).WriteByte -/
noncomputable def f24 (k : Nat) (p0 : Option Addr) (n1 : Int) (L : LHeap) : R :=
  lcall Tryd.prog T k 24 [Value.pointer p0, Value.int IntKind.u8 n1] L
/-- (*strings.Builder).WriteString -/
noncomputable def f25 (k : Nat) (p0 : Option Addr) (s1 : ByteArray) (L : LHeap) : R :=
  lcall Tryd.prog T k 25 [Value.pointer p0, Value.string s1] L
/-- (*strings.Builder).Len -/
noncomputable def f27 (k : Nat) (p0 : Option Addr) (L : LHeap) : R :=
  lcall Tryd.prog T k 27 [Value.pointer p0] L
/-- (*strings.Builder).String -/
noncomputable def f28 (k : Nat) (p0 : Option Addr) (L : LHeap) : R :=
  lcall Tryd.prog T k 28 [Value.pointer p0] L
/-- (*strings.Builder).copyCheck -/
noncomputable def f42 (k : Nat) (p0 : Option Addr) (L : LHeap) : R :=
  lcall Tryd.prog T k 42 [Value.pointer p0] L
theorem f24_eq (k : Nat) (p0 : Option Addr) (n1 : Int) (L : LHeap) : f24 (k + 1) p0 n1 L =
 lbind (f42 k p0 L) fun v2 L3 =>
 obind p0 fun a4 =>
 obind (Option.bind (cell L3 (Addr.add a4 1)) asSl) fun l5 =>
 obind (srcOf (L3 ++ [LBlk.cells [Value.int IntKind.u8 n1] 5 false 0]) Tryd.prog.types[5].size 1 (Value.slice (some (Addr.mk (List.length L3) 0 none)) 1 1)) fun x6 =>
 obind (app (L3 ++ [LBlk.cells [Value.int IntKind.u8 n1] 5 false 0]) 5 Tryd.prog.types[5].size Tryd.prog.types[5].bytes l5 1 x6) fun x7 =>
 obind p0 fun a8 => obind (stores x7.snd (Addr.add a8 1) [Value.slice x7.fst.a x7.fst.n x7.fst.c]) fun L9 => some (LR.ret Value.nilIface L9) := by kernel_rfl
theorem f25_eq (k : Nat) (p0 : Option Addr) (s1 : ByteArray) (L : LHeap) : f25 (k + 1) p0 s1 L =
 lbind (f42 k p0 L) fun v2 L3 =>
 obind p0 fun a4 =>
 obind (Option.bind (cell L3 (Addr.add a4 1)) asSl) fun l5 =>
 obind (app L3 5 Tryd.prog.types[5].size Tryd.prog.types[5].bytes l5 (ByteArray.size s1) (byteCells (ByteArray.extract s1 0 (ByteArray.size s1)))) fun x6 =>
 obind p0 fun a7 =>
 obind (stores x6.snd (Addr.add a7 1) [Value.slice x6.fst.a x6.fst.n x6.fst.c]) fun L8 => some (LR.ret (Value.tuple #[Value.int IntKind.i64 (↑(ByteArray.size s1) : Int), Value.nilIface]) L8) := by kernel_rfl
theorem f27_eq (k : Nat) (p0 : Option Addr) (L : LHeap) : f27 (k + 1) p0 L =
 obind p0 fun a1 => obind (Option.bind (cell L (Addr.add a1 1)) asSl) fun l2 => some (LR.ret (Value.int IntKind.i64 (↑l2.n : Int)) L) := by kernel_rfl
theorem f28_eq (k : Nat) (p0 : Option Addr) (L : LHeap) : f28 (k + 1) p0 L =
 obind p0 fun a1 =>
 obind (Option.bind (cell L (Addr.add a1 1)) asSl) fun l2 =>
 obind (dataL L 1 l2) fun x3 =>
 obind p0 fun a4 =>
 obind (Option.bind (cell L (Addr.add a4 1)) asSl) fun l5 =>
 obind (Option.bind (cell L (Addr.add a4 1)) asSl) fun l6 =>
 when (same (Value.slice l5.a l5.n l5.c) (Value.slice l6.a l6.n l6.c)) (obind (ustr L 5 x3 (↑l5.n : Int)) fun x7 => some (LR.ret (Value.string x7.fst) x7.snd)) := by kernel_rfl
theorem f42_eq (k : Nat) (p0 : Option Addr) (L : LHeap) : f42 (k + 1) p0 L =
 obind p0 fun a1 =>
 obind (Option.bind (cell L (Addr.add a1 0)) asP) fun x2 =>
 lif (Option.isNone x2)
 (obind (toU L p0) fun x3 => obind (ofU L 54 2 x3) fun x4 => obind p0 fun a5 => obind (stores L (Addr.add a5 0) [Value.pointer x4]) fun L6 => some (LR.ret (Value.tuple #[]) L6))
 (obind p0 fun a7 => obind (Option.bind (cell L (Addr.add a7 0)) asP) fun x8 => obind (peq x8 p0) fun b9 => lif (!b9) none (some (LR.ret (Value.tuple #[]) L))) := by kernel_rfl
end Go.Proofs.YtffcfaabjodpcaaDoor.W
end

section
set_option maxRecDepth 100000
namespace Go.Proofs.YtffcfaabjodpcaaDoor
open Go Go.Rlm
theorem size5 : Tryd.prog.types[5].size = 1 := by kernel_rfl
theorem bytes5 : Tryd.prog.types[5].bytes = 1 := by kernel_rfl
theorem size9 : Tryd.prog.types[9].size = 1 := by kernel_rfl
theorem bytes9 : Tryd.prog.types[9].bytes = 16 := by kernel_rfl
theorem size39 : Tryd.prog.types[39].size = 1 := by kernel_rfl
theorem bytes39 : Tryd.prog.types[39].bytes = 24 := by kernel_rfl
def slV (s : Sl) : Value := .slice s.a s.n s.c
def strV (l : List Nat) : Value := .string (strOf l)
/-- A text's bytes. -/
def nb (s : ByteArray) : List Nat := s.data.toList.map UInt8.toNat
theorem nb_small (s : ByteArray) : ∀ n ∈ nb s, n < 256 := by
  intro n hn
  obtain ⟨c, _, rfl⟩ := List.mem_map.1 hn
  exact c.toNat_lt
theorem nb_str (s : ByteArray) : strOf (nb s) = s := by
  unfold strOf nb
  rw [List.map_map, show (UInt8.ofNat ∘ UInt8.toNat) = id from funext fun c => UInt8.ofNat_toNat, List.map_id]
theorem str_cells {l : List Nat} (h : ∀ n ∈ l, n < 256) : byteCells (strOf l) = l.map bV := by
  unfold byteCells strOf
  simp only [List.map_map]
  apply List.map_congr_left
  intro n hn
  have := h n hn
  simp only [Function.comp, bV]
  rw [UInt8.toNat_ofNat']
  rw [Nat.mod_eq_of_lt (by omega)]
theorem str_all (s : ByteArray) : s.extract 0 s.size = s := by
  apply ByteArray.ext
  rw [ByteArray.data_extract]
  show s.data.extract 0 s.data.size = s.data
  exact Array.extract_size
/-- A builder at a block: what is in it. -/
def Bld (L : LHeap) (r : Nat) (l : List Nat) (F : List Nat) : Prop :=
  ∃ (s : Sl) (G : List Nat) (p : Option Addr), L[r]? = some (.cells [.pointer p, slV s] 54 false 0) ∧ (p = none ∨ p = some ⟨r, 0, none⟩) ∧ OS L s (l.map bV) 5 G ∧ r ∉ G ∧ (l = [] → s = ⟨none, 0, 0⟩) ∧ F = r :: G
theorem Bld.within {L : LHeap} {r : Nat} {l : List Nat} {F : List Nat} (h : Bld L r l F) : Within F L := by
  obtain ⟨s, G, p, h1, h2, h3, h4, h5, rfl⟩ := h
  intro i hi
  rcases List.mem_cons.1 hi with rfl | hi
  · exact get_lt h1
  · exact h3.within i hi
theorem check_ok {k : Nat} {L : LHeap} {r : Nat} {l : List Nat} {F : List Nat} (h : Bld L r l F) : ∃ L', W.f42 (k + 1) (some ⟨r, 0, none⟩) L = some (.ret (.tuple #[]) L') ∧ Bld L' r l F ∧ Step F L F L' := by
  obtain ⟨s, G, p, h1, h2, h3, h4, h5, rfl⟩ := h
  have c0 : cell L (Addr.add ⟨r, 0, none⟩ 0) = some (.pointer p) := cell_of h1
  have c0' : cell L ⟨r, 0, none⟩ = some (.pointer p) := cell_of h1
  rw [W.f42_eq, obind_some, c0, Option.bind_some, show asP (.pointer p) = some p from rfl, obind_some]
  rcases h2 with rfl | rfl
  · refine ⟨L.set r (.cells [.pointer (some ⟨r, 0, none⟩), slV s] 54 false 0), ?_, ⟨s, G, _, get_set_self h1, .inr rfl, h3.mono fun i hi => get_set_ne (fun e => h4 (e ▸ hi)), h4, h5, rfl⟩, .set _ (by simp)⟩
    have e1 : toU L (some ⟨r, 0, none⟩) = some (some ⟨r, 0, none⟩) := by unfold toU; simp only [c0']
    have e2 : ofU L 54 2 (some ⟨r, 0, none⟩) = some (some ⟨r, 0, none⟩) := by unfold ofU; simp only [h1]; rfl
    have e3 : stores L (Addr.add ⟨r, 0, none⟩ 0) [.pointer (some ⟨r, 0, none⟩)] = some (L.set r (.cells [.pointer (some ⟨r, 0, none⟩), slV s] 54 false 0)) := by
      rw [show Addr.add ⟨r, 0, none⟩ 0 = (⟨r, 0, none⟩ : Addr) from rfl, stores_of h1 (by simp)]; rfl
    rw [show Option.isNone (none : Option Addr) = true from rfl, lif_true, e1, obind_some, e2, obind_some, obind_some, e3, obind_some]
  · refine ⟨L, ?_, ⟨s, G, _, h1, .inr rfl, h3, h4, h5, rfl⟩, .refl _ _⟩
    have e1 : peq (some ⟨r, 0, none⟩) (some ⟨r, 0, none⟩) = some true := by unfold peq; simp
    rw [show Option.isNone (some (⟨r, 0, none⟩ : Addr)) = false from rfl, lif_false, obind_some, c0, Option.bind_some, show asP (.pointer (some ⟨r, 0, none⟩)) = some (some ⟨r, 0, none⟩) from rfl, obind_some, e1, obind_some]
    rfl
theorem Bld.cell {L : LHeap} {r : Nat} {s : Sl} {p : Option Addr} (h : L[r]? = some (.cells [.pointer p, slV s] 54 false 0)) : (Rlm.cell L (Addr.add ⟨r, 0, none⟩ 1)).bind asSl = some s := by
  rw [show Addr.add ⟨r, 0, none⟩ 1 = (⟨r, 1, none⟩ : Addr) from rfl, cell_of h]
  rfl
/-- Bytes behind what is there. -/
theorem bld_app {L : LHeap} {r : Nat} {l : List Nat} {F : List Nat} (h : Bld L r l F) (m : List Nat) (hl : l.length + m.length ≤ 1000000000) :
    ∃ s s' L1 L', (Rlm.cell L (Addr.add ⟨r, 0, none⟩ 1)).bind asSl = some s ∧ Rlm.app L 5 1 1 s m.length (m.map bV) = some (s', L1) ∧ stores L1 (Addr.add ⟨r, 0, none⟩ 1) [slV s'] = some L' ∧ ∃ F', Bld L' r (l ++ m) F' ∧ Step F L F' L' := by
  obtain ⟨s, G, p, h1, h2, h3, h4, h5, rfl⟩ := h
  obtain ⟨s', L1, G', a1, a2, a3⟩ := h3.app (m.map bV) 1 (by simp; omega) (by simp; omega)
  rw [List.length_map] at a1
  have hr : L1[r]? = some (.cells [.pointer p, slV s] 54 false 0) := by rw [a3.keep r (get_lt h1) h4, h1]
  have hr' : r ∉ G' := fun hc => by
    rcases a3.foot r hc with h | h
    · exact h4 h
    · have := get_lt h1; omega
  refine ⟨s, s', L1, _, Bld.cell h1, a1, ?_, r :: G', ⟨s', G', p, get_set_self hr, h2, ?_, hr', fun he => ?_, rfl⟩, ?_⟩
  · rw [show Addr.add ⟨r, 0, none⟩ 1 = (⟨r, 1, none⟩ : Addr) from rfl, stores_of hr (by simp)]; rfl
  · rw [List.map_append]; exact a2.mono fun i hi => get_set_ne (fun e => hr' (e ▸ hi))
  · obtain ⟨rfl, rfl⟩ := List.append_eq_nil_iff.1 he
    have := h5 rfl
    subst this
    have e : Rlm.app L 5 1 1 ⟨none, 0, 0⟩ 0 [] = some (⟨none, 0, 0⟩, L) := rfl
    rw [List.map_nil, List.length_nil, e] at a1
    injection a1 with a1
    injection a1 with a1 _
    exact a1.symm
  · have s1 : Step (r :: G) L (r :: G') L1 := ⟨a3.len, fun i hi hn => a3.keep i hi fun hc => hn (by simp [hc]), fun i hi => by
      rcases List.mem_cons.1 hi with rfl | hi
      · exact .inl (by simp)
      · exact (a3.foot i hi).imp (by simp [·]) id⟩
    exact s1.trans (.set _ (by simp))
theorem byte_ok {k : Nat} {L : LHeap} {r : Nat} {l : List Nat} {F : List Nat} {n : Nat} (h : Bld L r l F) (hl : l.length < 1000000000) :
    ∃ L' F', W.f24 (k + 2) (some ⟨r, 0, none⟩) (n : Int) L = some (.ret .nilIface L') ∧ Bld L' r (l ++ [n]) F' ∧ Step F L F' L' := by
  obtain ⟨L0, e0, b0, s0⟩ := check_ok (k := k) h
  have hp : Bld (L0 ++ [.cells [.int .u8 n] 5 false 0]) r l F := by
    obtain ⟨s, G, p, h1, h2, h3, h4, h5, rfl⟩ := b0
    exact ⟨s, G, p, by rw [get_push (get_lt h1)]; exact h1, h2, h3.mono fun i hi => get_push (h3.within i hi), h4, h5, rfl⟩
  obtain ⟨s, s', L1, L', c1, c2, c3, F', c4, c5⟩ := bld_app hp [n] (by simp; omega)
  refine ⟨L', F', ?_, c4, s0.trans ((Step.push F L0 _).trans c5)⟩
  have c1' : (Rlm.cell L0 (Addr.add ⟨r, 0, none⟩ 1)).bind asSl = some s := by
    obtain ⟨t0, G, p, h1, h2, h3, h4, h5, rfl⟩ := b0
    have := Bld.cell (show (L0 ++ [LBlk.cells [.int .u8 n] 5 false 0])[r]? = some (.cells [.pointer p, slV t0] 54 false 0) by rw [get_push (get_lt h1)]; exact h1)
    rw [c1] at this
    rw [Bld.cell h1]; exact this.symm
  have hs : srcOf (L0 ++ [LBlk.cells [.int .u8 (n : Int)] 5 false 0]) 1 1 (.slice (some ⟨L0.length, 0, none⟩) 1 1) = some [.int .u8 (n : Int)] := by
    simp [srcOf, srcCells, cellsAt]; rfl
  rw [W.f24_eq, e0, lbind_ret, obind_some, c1', obind_some, size5, bytes5, hs, obind_some]
  rw [show [Value.int .u8 (n : Int)] = [n].map bV from rfl] at *
  rw [show Rlm.app _ 5 1 1 s 1 _ = _ from c2, obind_some, obind_some]
  rw [show [Value.slice s'.a s'.n s'.c] = [slV s'] from rfl, c3, obind_some]
theorem text_ok {k : Nat} {L : LHeap} {r : Nat} {l m : List Nat} {F : List Nat} (h : Bld L r l F) (hm : ∀ n ∈ m, n < 256) (hl : l.length + m.length ≤ 1000000000) :
    ∃ L' F', W.f25 (k + 2) (some ⟨r, 0, none⟩) (strOf m) L = some (.ret (.tuple #[.int .i64 (m.length : Int), .nilIface]) L') ∧ Bld L' r (l ++ m) F' ∧ Step F L F' L' := by
  obtain ⟨L0, e0, b0, s0⟩ := check_ok (k := k) h
  obtain ⟨s, s', L1, L', c1, c2, c3, F', c4, c5⟩ := bld_app b0 m hl
  refine ⟨L', F', ?_, c4, s0.trans c5⟩
  rw [W.f25_eq, e0, lbind_ret, obind_some, c1, obind_some, size5, bytes5, str_all, str_cells hm, strOf_size, c2, obind_some, obind_some]
  rw [show [Value.slice s'.a s'.n s'.c] = [slV s'] from rfl, c3, obind_some]
theorem len_ok {k : Nat} {L : LHeap} {r : Nat} {l : List Nat} {F : List Nat} (h : Bld L r l F) : W.f27 (k + 1) (some ⟨r, 0, none⟩) L = some (.ret (.int .i64 (l.length : Int)) L) := by
  obtain ⟨s, G, p, h1, h2, h3, h4, h5, rfl⟩ := h
  rw [W.f27_eq, obind_some, Bld.cell h1, obind_some, h3.len, List.length_map]
theorem string_ok {k : Nat} {L : LHeap} {r : Nat} {l : List Nat} {F : List Nat} (h : Bld L r l F) (hb : ∀ n ∈ l, n < 256) (hl : l.length ≤ 1000000000) :
    ∃ L', W.f28 (k + 1) (some ⟨r, 0, none⟩) L = some (.ret (.string (strOf l)) L') ∧ Step F L F L' := by
  obtain ⟨s, G, p, h1, h2, h3, h4, h5, rfl⟩ := h
  rw [W.f28_eq, obind_some, Bld.cell h1, obind_some]
  rcases h3 with ⟨rfl, hn, rfl⟩ | ⟨c, rfl, hc, rfl⟩
  · have : l = [] := by simpa using hn
    subst this
    refine ⟨L, ?_, .refl _ _⟩
    rw [show dataL L 1 ⟨none, 0, 0⟩ = some none from rfl, obind_some, obind_some, Bld.cell h1, obind_some, obind_some, same_self, when_true]
    rfl
  · cases l with
    | nil => cases h5 rfl
    | cons x xs =>
    have hd : dataL L 1 ⟨some ⟨c, 0, none⟩, ((x :: xs).map bV).length, OPEN⟩ = some (some ⟨c, 0, none⟩) := by
      unfold dataL
      simp only [blen_of hc]
      rw [show Nat.blt OPEN OPEN = false by decide, show Nat.beq OPEN OPEN = true from Nat.beq_refl _]
      rfl
    refine ⟨L.set c (.cells ((x :: xs).map bV) 5 true 0), ?_, .set _ (by simp)⟩
    have hu : ustr L 5 (some ⟨c, 0, none⟩) (((x :: xs).map bV).length : Int) = some (strOf (x :: xs), L.set c (.cells ((x :: xs).map bV) 5 true 0)) := by
      unfold ustr
      rw [decide_eq_false (by simp only [List.length_map, List.length_cons]; omega), cond_false]
      simp only [hc]
      rw [show Nat.beq 0 0 = true from rfl, show Nat.beq 5 5 = true from rfl, decide_eq_true (by simp only [List.length_map, List.length_cons]; omega), decide_eq_true (by unfold maxI; rw [List.length_map]; omega), Int.toNat_natCast, Nat.ble_eq_true_of_le (Nat.le_refl _)]
      simp only [Bool.and_self, cond_true]
      rw [List.take_of_length_le (Nat.le_refl _), toBytes_of _ hb]
      show some ((⟨#[] ++ ((x :: xs).map UInt8.ofNat).toArray⟩ : ByteArray), _) = _
      rw [Array.empty_append]
      rfl
    rw [hd, obind_some, obind_some, Bld.cell h1, obind_some, obind_some, same_self, when_true, hu, obind_some]
end Go.Proofs.YtffcfaabjodpcaaDoor
end

section
set_option maxRecDepth 100000
set_option linter.unusedVariables false
namespace Go.Proofs.YtffcfaabjodpcaaDoor.W
open Go Go.Rlm
/-- hamper/slice.Cut -/
noncomputable def f11 (k : Nat) (s0 : ByteArray) (n1 : Int) (n2 : Int) (n3 : Int) (n4 : Int) (L : LHeap) : R :=
  lcall Tryd.prog T k 11 [Value.string s0, Value.agg #[Value.int IntKind.i64 n1, Value.int IntKind.i64 n2, Value.int IntKind.i64 n3, Value.int IntKind.i64 n4]] L
/-- slots 0, 3, 6, 8, 23 -/
noncomputable def f11_l6 (k : Nat) (j6 : Nat) (s17 : ByteArray) (r18 : Nat) (n19 : Int) (r20 : Nat) (n21 : Int) (L : LHeap) : R :=
  loopAt Tryd.prog T 11 k [1, 1, 1, 1, 0, 1, 0] [] j6
  [(0, Value.string s17), (3, Value.pointer (some (Addr.mk r18 0 none))), (6, Value.int IntKind.i64 n19), (8, Value.pointer (some (Addr.mk r20 0 none))), (23, Value.int IntKind.i64 n21)] L
/-- slots 3, 10, 11, 49, 50 -/
noncomputable def f11_l15 (k : Nat) (j15 : Nat) (r22 : Nat) (s23 : ByteArray) (l24 : Sl) (n25 : Int) (n26 : Int) (L : LHeap) : R :=
  loopAt Tryd.prog T 11 k [1, 1, 1, 1, 1, 1, 1, 1, 1, 0, 1, 0] [] j15
  [(3, Value.pointer (some (Addr.mk r22 0 none))), (10, Value.string s23), (11, Value.slice l24.a l24.n l24.c), (49, Value.int IntKind.i64 n25), (50, Value.int IntKind.i64 n26)] L
/-- slots 3, 10, 11, 12, 49, 50, 53, 54 -/
noncomputable def f11_l18 (k : Nat) (j15_27 : Nat) (j18 : Nat) (r28 : Nat) (s29 : ByteArray) (l30 : Sl) (l31 : Sl) (n32 : Int) (n33 : Int) (n34 : Int) (n35 : Int) (L : LHeap) : R :=
  loopAt Tryd.prog T 11 k [1, 1, 1, 1, 1, 1, 1, 1, 1, 0, 1, 0, 0, 1, 1, 0, 0, 1, 0, 1, 0] [j15_27] j18
  [(3, Value.pointer (some (Addr.mk r28 0 none))), (10, Value.string s29), (11, Value.slice l30.a l30.n l30.c), (12, Value.slice l31.a l31.n l31.c), (49, Value.int IntKind.i64 n32),
    (50, Value.int IntKind.i64 n33), (53, Value.int IntKind.i64 n34), (54, Value.int IntKind.i64 n35)]
  L
theorem f11_eq (k : Nat) (s0 : ByteArray) (n1 : Int) (n2 : Int) (n3 : Int) (n4 : Int) (L : LHeap) : f11 (k + 1) s0 n1 n2 n3 n4 L =
 obind
 (Option.bind
 (cell (L ++ [LBlk.cells [Value.int IntKind.i64 n1, Value.int IntKind.i64 n2, Value.int IntKind.i64 n3, Value.int IntKind.i64 n4] 23 false 0]) (Addr.add (Addr.mk (List.length L) 0 none) 0))
 (asI IntKind.i64))
 fun n5 =>
 obind
 (Option.bind
 (cell (L ++ [LBlk.cells [Value.int IntKind.i64 n1, Value.int IntKind.i64 n2, Value.int IntKind.i64 n3, Value.int IntKind.i64 n4] 23 false 0]) (Addr.add (Addr.mk (List.length L) 0 none) 1))
 (asI IntKind.i64))
 fun n6 =>
 obind
 (Option.bind
 (cell (L ++ [LBlk.cells [Value.int IntKind.i64 n1, Value.int IntKind.i64 n2, Value.int IntKind.i64 n3, Value.int IntKind.i64 n4] 23 false 0]) (Addr.add (Addr.mk (List.length L) 0 none) 2))
 (asI IntKind.i64))
 fun n7 =>
 obind
 (Option.bind
 (cell (L ++ [LBlk.cells [Value.int IntKind.i64 n1, Value.int IntKind.i64 n2, Value.int IntKind.i64 n3, Value.int IntKind.i64 n4] 23 false 0]) (Addr.add (Addr.mk (List.length L) 0 none) 3))
 (asI IntKind.i64))
 fun n8 =>
 when (decide ((↑(ByteArray.size s0) : Int) < 9223372036854775808))
 (lif (countE (↑(ByteArray.size s0) : Int) n5 n6 n7 n8 != 0)
 (some
 (LR.ret (Value.tuple #[Value.slice none 0 0, Value.int IntKind.i64 (countE (↑(ByteArray.size s0) : Int) n5 n6 n7 n8)])
 (L ++ [LBlk.cells [Value.int IntKind.i64 n1, Value.int IntKind.i64 n2, Value.int IntKind.i64 n3, Value.int IntKind.i64 n4] 23 false 0])))
 (f11_l6 k k s0 (List.length L) (countK (↑(ByteArray.size s0) : Int) n5 n6 n7 n8)
 (List.length (L ++ [LBlk.cells [Value.int IntKind.i64 n1, Value.int IntKind.i64 n2, Value.int IntKind.i64 n3, Value.int IntKind.i64 n4] 23 false 0])) 0
 (L ++ [LBlk.cells [Value.int IntKind.i64 n1, Value.int IntKind.i64 n2, Value.int IntKind.i64 n3, Value.int IntKind.i64 n4] 23 false 0] ++
 [LBlk.cells [Value.pointer none, Value.slice none 0 0] 54 false 0]))) := by kernel_rfl
theorem f11_l6_eq (k : Nat) (j6 : Nat) (s0 : ByteArray) (r1 : Nat) (n2 : Int) (r3 : Nat) (n4 : Int) (L : LHeap) : f11_l6 k (j6 + 1) s0 r1 n2 r3 n4 L =
 lif (decide (n4 < 8))
 (when (!decide (IntKind.wrap IntKind.i64 (8 * IntKind.wrap IntKind.i64 (7 - n4)) < 0))
 (lbind
 (lcall Tryd.prog T k 24
 [Value.pointer (some (Addr.mk r3 0 none)),
 Value.int IntKind.u8 (IntKind.wrap IntKind.u8 (Int.fdiv (↑(ByteArray.size s0) : Int) (2 ^ min (Int.toNat (IntKind.wrap IntKind.i64 (8 * IntKind.wrap IntKind.i64 (7 - n4)))) 64)))]
 L)
 fun v5 L6 => f11_l6 k j6 s0 r1 n2 r3 (IntKind.wrap IntKind.i64 (n4 + 1)) L6))
 (lbind (lcall Tryd.prog T k 25 [Value.pointer (some (Addr.mk r3 0 none)), Value.string s0] L) fun v7 L8 =>
 obind (tupL v7) fun x9 =>
 uncons x9 fun v10 vs11 =>
 obind (asI IntKind.i64 v10) fun n12 =>
 uncons vs11 fun v13 vs14 =>
 nilL vs14
 (obind (Option.bind (cell L8 (Addr.add (Addr.mk r1 0 none) 0)) (asI IntKind.i64)) fun n15 =>
 obind (Option.bind (cell L8 (Addr.add (Addr.mk r1 0 none) 2)) (asI IntKind.i64)) fun n16 =>
 lbindR (lcall Tryd.prog T k 27 [Value.pointer (some (Addr.mk r3 0 none))] L8) fun v17 L18 =>
 obind (asI IntKind.i64 v17) fun n19 =>
 obind (Option.bind (cell L18 (Addr.add (Addr.mk r1 0 none) 2)) (asI IntKind.i64)) fun n20 =>
 when (same (Value.int IntKind.i64 n16) (Value.int IntKind.i64 n20))
 (obind (Option.bind (cell L18 (Addr.add (Addr.mk r1 0 none) 0)) (asI IntKind.i64)) fun n21 =>
 when (same (Value.int IntKind.i64 n15) (Value.int IntKind.i64 n21))
 (when
 (decide (0 ≤ IntKind.wrap IntKind.i64 (IntKind.wrap IntKind.i64 (IntKind.wrap IntKind.i64 (n2 * n15) * n16) - n19)) &&
 Nat.ble (ByteArray.size (ByteArray.mk #[0]) * Int.toNat (IntKind.wrap IntKind.i64 (IntKind.wrap IntKind.i64 (IntKind.wrap IntKind.i64 (n2 * n15) * n16) - n19)))
 140737488355328 &&
 Nat.ble (Int.toNat (IntKind.wrap IntKind.i64 (IntKind.wrap IntKind.i64 (IntKind.wrap IntKind.i64 (n2 * n15) * n16) - n19))) 9223372036854775807)
 (lbindR
 (lcall Tryd.prog T k 25
 [Value.pointer (some (Addr.mk r3 0 none)),
 Value.string (repS (ByteArray.mk #[0]) (Int.toNat (IntKind.wrap IntKind.i64 (IntKind.wrap IntKind.i64 (IntKind.wrap IntKind.i64 (n2 * n15) * n16) - n19))))]
 L18)
 fun v22 L23 =>
 obind (tupL v22) fun x24 =>
 uncons x24 fun v25 vs26 =>
 obind (asI IntKind.i64 v25) fun n27 =>
 uncons vs26 fun v28 vs29 =>
 nilL vs29
 (lbind (lcall Tryd.prog T k 28 [Value.pointer (some (Addr.mk r3 0 none))] L23) fun v30 L31 =>
 obind (asS v30) fun s32 => f11_l15 k k r1 s32 (Sl.mk none 0 0) n2 0 L31)))))) := by kernel_rfl
theorem f11_l15_eq (k : Nat) (j15 : Nat) (r0 : Nat) (s1 : ByteArray) (l2 : Sl) (n3 : Int) (n4 : Int) (L : LHeap) : f11_l15 k (j15 + 1) r0 s1 l2 n3 n4 L =
 lif (decide (n4 < n3)) (obind (Option.bind (cell L (Addr.add (Addr.mk r0 0 none) 0)) (asI IntKind.i64)) fun n5 => f11_l18 k j15 k r0 s1 l2 (Sl.mk none 0 0) n3 n4 n5 0 L)
 (some (LR.ret (Value.tuple #[Value.slice l2.a l2.n l2.c, Value.int IntKind.i64 0]) L)) := by kernel_rfl
theorem f11_l18_eq (k : Nat) (j15_0 : Nat) (j18 : Nat) (r1 : Nat) (s2 : ByteArray) (l3 : Sl) (l4 : Sl) (n5 : Int) (n6 : Int) (n7 : Int) (n8 : Int) (L : LHeap) : f11_l18 k j15_0 (j18 + 1) r1 s2 l3 l4 n5 n6 n7 n8 L =
 lif (decide (n8 < n7))
 (obind (Option.bind (cell L (Addr.add (Addr.mk r1 0 none) 2)) (asI IntKind.i64)) fun n9 =>
 obind (subS s2 none (some n9)) fun s10 =>
 obind (srcOf (L ++ [LBlk.cells [Value.string s10] 9 false 0]) Tryd.prog.types[9].size 1 (Value.slice (some (Addr.mk (List.length L) 0 none)) 1 1)) fun x11 =>
 obind (app (L ++ [LBlk.cells [Value.string s10] 9 false 0]) 9 Tryd.prog.types[9].size Tryd.prog.types[9].bytes l4 1 x11) fun x12 =>
 obind (Option.bind (cell x12.snd (Addr.add (Addr.mk r1 0 none) 2)) (asI IntKind.i64)) fun n13 =>
 obind (subS s2 (some n13) none) fun s14 => f11_l18 k j15_0 j18 r1 s14 l3 x12.fst n5 n6 n7 (IntKind.wrap IntKind.i64 (n8 + 1)) x12.snd)
 (obind (srcOf (L ++ [LBlk.cells [Value.slice l4.a l4.n l4.c] 39 false 0]) Tryd.prog.types[39].size 1 (Value.slice (some (Addr.mk (List.length L) 0 none)) 1 1)) fun x15 =>
 obind (app (L ++ [LBlk.cells [Value.slice l4.a l4.n l4.c] 39 false 0]) 39 Tryd.prog.types[39].size Tryd.prog.types[39].bytes l3 1 x15) fun x16 =>
 f11_l15 k j15_0 r1 s2 x16.fst n5 (IntKind.wrap IntKind.i64 (n6 + 1)) x16.snd) := by kernel_rfl
end Go.Proofs.YtffcfaabjodpcaaDoor.W
end

section
namespace Go.Rlm
/-- A shape: data rows, parity rows, bytes a row, recovery volumes. -/
structure Shp where
  D : Int
  R : Int
  S : Int
  M : Int
def Shp.ok (s : Shp) : Bool := decide (s.D ≥ 1) && (decide (s.D ≤ 64) && (decide (s.R ≥ 0) && (decide (s.R ≤ 32) && (decide (s.S ≥ 2) && (decide (s.S ≤ 512) && (decide (s.S.tmod 2 = 0) && (decide (s.M ≥ 0) && decide (s.M ≤ 32))))))))
def Shp.one (s : Shp) : Nat := s.D.toNat * s.S.toNat
def eightB (n : Nat) : List Nat := (List.range 8).map fun i => n / 256 ^ (7 - i) % 256
theorem eightB_length (n : Nat) : (eightB n).length = 8 := by simp [eightB]
theorem eightB_small (n : Nat) : ∀ x ∈ eightB n, x < 256 := by
  intro x hx
  obtain ⟨i, _, rfl⟩ := List.mem_map.1 hx
  exact Nat.mod_lt _ (by omega)
/-- All bytes: how many, the stream, noughts. -/
def layS (b : List Nat) (k one : Nat) : List Nat := eightB b.length ++ (b ++ List.replicate (k * one - (8 + b.length)) 0)
theorem layS_length {b : List Nat} {k one : Nat} (h : b.length + 8 ≤ k * one) : (layS b k one).length = k * one := by
  simp [layS, eightB_length]; omega
def rowsOf (S : Nat) : Nat → List Nat → List (List Nat)
  | 0, _ => []
  | d + 1, l => l.take S :: rowsOf S d (l.drop S)
def volsOf (D S : Nat) : Nat → List Nat → List (List (List Nat))
  | 0, _ => []
  | k + 1, l => rowsOf S D l :: volsOf D S k (l.drop (D * S))
theorem rowsOf_length (S : Nat) : ∀ d l, (rowsOf S d l).length = d
  | 0, _ => rfl
  | d + 1, l => by simp [rowsOf, rowsOf_length S d]
theorem volsOf_length (D S : Nat) : ∀ k l, (volsOf D S k l).length = k
  | 0, _ => rfl
  | k + 1, l => by simp [volsOf, volsOf_length D S k]
theorem rowsOf_flatten (S : Nat) : ∀ (d : Nat) (l : List Nat), (rowsOf S d l).flatten = l.take (d * S)
  | 0, l => by simp [rowsOf]
  | d + 1, l => by
    rw [rowsOf, List.flatten_cons, rowsOf_flatten S d, Nat.add_mul, Nat.one_mul, Nat.add_comm (d * S) S, List.take_add]
theorem volsOf_flatten (D S : Nat) : ∀ (k : Nat) (l : List Nat), ((volsOf D S k l).map List.flatten).flatten = l.take (k * (D * S))
  | 0, l => by simp [volsOf]
  | k + 1, l => by
    rw [volsOf, List.map_cons, List.flatten_cons, volsOf_flatten D S k, rowsOf_flatten, Nat.add_mul, Nat.one_mul, Nat.add_comm (k * (D * S)) (D * S), List.take_add]
end Go.Rlm
end

section
set_option maxRecDepth 100000
namespace Go.Proofs.YtffcfaabjodpcaaDoor
open Go Go.Rlm
theorem str_extract (l : List Nat) (i j : Nat) : (strOf l).extract i j = strOf ((l.take j).drop i) := by
  apply ByteArray.ext
  rw [ByteArray.data_extract]
  unfold strOf
  simp only [List.extract_toArray, List.extract_eq_take_drop, ← List.map_take, ← List.map_drop, List.drop_take]
theorem sub_take {l : List Nat} {n : Nat} (h : n ≤ l.length) : subS (strOf l) none (some (n : Int)) = some (strOf (l.take n)) := by
  simp only [subS, bound_at (strOf l).size (show n ≤ (strOf l).size by rw [strOf_size]; exact h), bound_out (Nat.zero_le _), Option.bind_eq_bind, Option.bind_some, str_extract, List.drop_zero]
theorem sub_drop {l : List Nat} {n : Nat} (h : n ≤ l.length) : subS (strOf l) (some (n : Int)) none = some (strOf (l.drop n)) := by
  simp only [subS, bound_out (Nat.le_refl (strOf l).size), bound_at 0 (show n ≤ (strOf l).size by rw [strOf_size]; exact h), Option.bind_eq_bind, Option.bind_some, str_extract]
  rw [strOf_size, List.take_length]
theorem str_app (a b : List Nat) : strOf a ++ strOf b = strOf (a ++ b) := by
  apply ByteArray.ext
  rw [ByteArray.data_append]
  simp [strOf]
theorem repeatL_eq (l : List UInt8) : ∀ c, Lib.repeatL l c = (List.replicate c l).flatten
  | 0 => rfl
  | c + 1 => by rw [Lib.repeatL, repeatL_eq l c]; rfl
theorem rep_zero (c : Nat) : repS ⟨#[0]⟩ c = strOf (List.replicate c 0) := by
  unfold repS strOf
  rw [repeatL_eq, List.map_replicate]
  congr 2
  induction c with
  | zero => rfl
  | succ c ih => rw [List.replicate_succ, List.flatten_cons, ih]; rfl
/-- Volumes: a slice of slices of texts; F: the blocks that they stand in. -/
def Vols (L : LHeap) (s : Sl) (vs : List (List (List Nat))) (F : List Nat) : Prop :=
  ∃ (xs : List Sl) (A : List Nat), OS L s (xs.map slV) 39 A ∧ xs.length = vs.length ∧ (∀ (i : Nat) (x : Sl) (v : List (List Nat)), xs[i]? = some x → vs[i]? = some v → ∃ B, OS L x (v.map strV) 9 B ∧ ∀ b ∈ B, b ∈ F ∧ b ∉ A) ∧ ∀ a ∈ A, a ∈ F
theorem Vols.nil (L : LHeap) (F : List Nat) : Vols L ⟨none, 0, 0⟩ [] F := ⟨[], [], OS.nil _ _, rfl, fun i x v h => by simp at h, fun a h => by simp at h⟩
theorem Vols.mono {L L' : LHeap} {s : Sl} {vs : List (List (List Nat))} {F : List Nat} (h : Vols L s vs F) (hk : ∀ i ∈ F, L'[i]? = L[i]?) : Vols L' s vs F := by
  obtain ⟨xs, A, h1, h2, h3, h4⟩ := h
  refine ⟨xs, A, h1.mono fun i hi => hk i (h4 i hi), h2, fun i x v hx hv => ?_, h4⟩
  obtain ⟨B, b1, b2⟩ := h3 i x v hx hv
  exact ⟨B, b1.mono fun i hi => hk i (b2 i hi).1, b2⟩
theorem rows_loop {k j15 r S D : Nat} {l3 : Sl} {n5 n6 d1 d2 d3 : Int} (hS : S ≤ 512) (hD : D ≤ 64) : ∀ (q i j : Nat) (l : List Nat) (L : LHeap) (l4 : Sl) (done : List (List Nat)) (F4 : List Nat), i + q = D → q < j → q * S ≤ l.length → done.length = i →
    L[r]? = some (.cells [.int .i64 d1, .int .i64 d2, .int .i64 (S : Int), .int .i64 d3] 23 false 0) → OS L l4 (done.map strV) 9 F4 → r ∉ F4 →
    ∃ j' l4' L' F4', W.f11_l18 k j15 j r (strOf l) l3 l4 n5 n6 (D : Int) (i : Int) L = W.f11_l18 k j15 (j' + 1) r (strOf (l.drop (q * S))) l3 l4' n5 n6 (D : Int) (D : Int) L' ∧ OS L' l4' ((done ++ rowsOf S q l).map strV) 9 F4' ∧ Step F4 L F4' L' := by
  intro q
  induction q with
  | zero =>
    intro i j l L l4 done F4 hi hj _ _ _ ho _
    obtain ⟨j, rfl⟩ : ∃ j', j = j' + 1 := ⟨j - 1, by omega⟩
    refine ⟨j, l4, L, F4, ?_, by rw [rowsOf, List.append_nil]; exact ho, .refl _ _⟩
    rw [Nat.zero_mul, List.drop_zero, show i = D by omega]
  | succ q ih =>
    intro i j l L l4 done F4 hi hj hl hdone hr ho hrF
    obtain ⟨j, rfl⟩ : ∃ j', j = j' + 1 := ⟨j - 1, by omega⟩
    rw [Nat.add_mul, Nat.one_mul] at hl
    have hlr := get_lt hr
    have hc : ∀ L', L'[r]? = L[r]? → (Rlm.cell L' (Addr.add ⟨r, 0, none⟩ 2)).bind (asI .i64) = some (S : Int) := fun L' e => by
      rw [show Addr.add ⟨r, 0, none⟩ 2 = (⟨r, 2, none⟩ : Addr) from rfl, cell_of (e.trans hr)]; rfl
    obtain ⟨l4', L1, F1, a1, a2, a3⟩ := (ho.mono (L' := L ++ [.cells [.string (strOf (l.take S))] 9 false 0]) fun b hb => get_push (ho.within b hb)).app [strV (l.take S)] 16 (by simp; omega) (by simp; omega)
    have hs : srcOf (L ++ [LBlk.cells [.string (strOf (l.take S))] 9 false 0]) 1 1 (.slice (some ⟨L.length, 0, none⟩) 1 1) = some [strV (l.take S)] := by
      simp [srcOf, srcCells, cellsAt]; rfl
    have st : Step F4 L F1 L1 := (Step.push F4 L _).trans a3
    have hr1 : L1[r]? = L[r]? := st.keep r hlr hrF
    obtain ⟨j', l5, L2, F2, b1, b2, b3⟩ := ih (i + 1) j (l.drop S) L1 l4' (done ++ [l.take S]) F1 (by omega) (by omega) (by rw [List.length_drop]; omega) (by simp [hdone]) (hr1.trans hr) (by rw [List.map_append]; exact a2)
      (fun hc => by rcases st.foot r hc with h | h; exact hrF h; omega)
    refine ⟨j', l5, L2, F2, ?_, ?_, st.trans b3⟩
    · rw [W.f11_l18_eq, decide_eq_true (by omega), lif_true, hc L rfl, obind_some, sub_take (by omega), obind_some, size9, bytes9, hs, obind_some]
      rw [show app _ 9 1 16 l4 1 _ = _ from a1, obind_some, hc L1 hr1, obind_some, sub_drop (by omega), obind_some, wI64 (by omega) (by omega)]
      rw [show (i : Int) + 1 = ((i + 1 : Nat) : Int) by omega, b1, List.drop_drop, Nat.add_mul, Nat.one_mul, Nat.add_comm S]
    · rw [rowsOf, show done ++ List.take S l :: rowsOf S q (List.drop S l) = done ++ [l.take S] ++ rowsOf S q (l.drop S) by simp]
      exact b2
theorem vols_loop {k r S D : Nat} {K d2 d3 : Int} (hS : S ≤ 512) (hD : D ≤ 64) (hk : 100 ≤ k) : ∀ (q i j : Nat) (l : List Nat) (L : LHeap) (l2 : Sl) (done : List (List (List Nat))) (F : List Nat), (i : Int) + q = K → K ≤ 96 → q < j → q * (D * S) ≤ l.length → done.length = i →
    L[r]? = some (.cells [.int .i64 (D : Int), .int .i64 d2, .int .i64 (S : Int), .int .i64 d3] 23 false 0) → Vols L l2 done F → r ∉ F → Within F L →
    ∃ s L' F', W.f11_l15 k j r (strOf l) l2 K (i : Int) L = some (.ret (.tuple #[slV s, .int .i64 0]) L') ∧ Vols L' s (done ++ volsOf D S q l) F' ∧ Step F L F' L' ∧ Within F' L' := by
  intro q
  induction q with
  | zero =>
    intro i j l L l2 done F hi hK hj _ _ _ ho _ hw
    obtain ⟨j, rfl⟩ : ∃ j', j = j' + 1 := ⟨j - 1, by omega⟩
    refine ⟨l2, L, F, ?_, by rw [volsOf, List.append_nil]; exact ho, .refl _ _, hw⟩
    rw [W.f11_l15_eq, decide_eq_false (by omega), lif_false]
    rfl
  | succ q ih =>
    intro i j l L l2 done F hi hK hj hl hdone hr ho hrF hw
    obtain ⟨j, rfl⟩ : ∃ j', j = j' + 1 := ⟨j - 1, by omega⟩
    rw [Nat.add_mul, Nat.one_mul] at hl
    have hlr := get_lt hr
    have hc : (Rlm.cell L (Addr.add ⟨r, 0, none⟩ 0)).bind (asI .i64) = some (D : Int) := by
      rw [show Addr.add ⟨r, 0, none⟩ 0 = (⟨r, 0, none⟩ : Addr) from rfl, cell_of hr]; rfl
    obtain ⟨j', l4, L1, F1, a1, a2, a3⟩ := rows_loop (k := k) (j15 := j) (r := r) (l3 := l2) (n5 := K) (n6 := i) hS hD D 0 k l L ⟨none, 0, 0⟩ [] [] (by omega) (by omega) (by omega) rfl hr (OS.nil _ _) (by simp)
    rw [List.nil_append] at a2
    -- everything that was there is there
    have k1 : ∀ b, b < L.length → L1[b]? = L[b]? := fun b hb => a3.keep b hb (by simp)
    have f1 : ∀ b ∈ F1, L.length ≤ b := fun b hb => by rcases a3.foot b hb with h | h; simp at h; exact h
    obtain ⟨xs, A, o1, o2, o3, o4⟩ := ho
    have k2 : ∀ b, b < L1.length → (L1 ++ [LBlk.cells [slV l4] 39 false 0])[b]? = L1[b]? := fun b hb => get_push hb
    have o1' : OS (L1 ++ [LBlk.cells [slV l4] 39 false 0]) l2 (xs.map slV) 39 A := o1.mono fun b hb => by
      have := hw b (o4 b hb)
      rw [k2 b (by have := a3.len; omega), k1 b this]
    obtain ⟨s', L2, A2, c1, c2, c3⟩ := o1'.app [slV l4] 24 (by simp; omega) (by simp; omega)
    have hs : srcOf (L1 ++ [LBlk.cells [slV l4] 39 false 0]) 1 1 (.slice (some ⟨L1.length, 0, none⟩) 1 1) = some [slV l4] := by
      simp [srcOf, srcCells, cellsAt]; rfl
    have hA : ∀ b, b ∉ A → b < L1.length → L2[b]? = L1[b]? := fun b hb hl => by rw [c3.keep b (by simp; omega) hb, k2 b hl]
    have fA2 : ∀ b ∈ A2, b ∈ A ∨ L1.length + 1 ≤ b := fun b hb => by
      rcases c3.foot b hb with h | h
      · exact .inl h
      · exact .inr (by simpa using h)
    have w1 := a2.within
    have nA : ∀ b ∈ F1, b ∉ A := fun b hb hc => by have := f1 b hb; have := hw b (o4 b hc); omega
    have hv : Vols L2 s' (done ++ [rowsOf S D l]) (A2 ++ F1 ++ F) := by
      refine ⟨xs ++ [l4], A2, by rw [List.map_append]; exact c2, by simp [o2], fun t x v hx hvv => ?_, fun a ha => by simp [ha]⟩
      rcases Nat.lt_or_ge t xs.length with ht | ht
      · rw [List.getElem?_append_left ht] at hx
        rw [List.getElem?_append_left (by omega)] at hvv
        obtain ⟨B, b1, b2⟩ := o3 t x v hx hvv
        refine ⟨B, b1.mono fun b hb => ?_, fun b hb => ⟨by simp [(b2 b hb).1], fun hc => ?_⟩⟩
        · have := hw b (b2 b hb).1
          rw [hA b (b2 b hb).2 (by have := a3.len; omega), k1 b this]
        · rcases fA2 b hc with h | h
          · exact (b2 b hb).2 h
          · have := hw b (b2 b hb).1; have := a3.len; omega
      · rw [List.getElem?_append_right ht] at hx
        rw [List.getElem?_append_right (by omega)] at hvv
        have hlt := get_lt hx
        simp only [List.length_cons, List.length_nil] at hlt
        rw [show t - xs.length = 0 by omega] at hx
        rw [show t - done.length = 0 by omega] at hvv
        injection hx with hx; injection hvv with hvv
        subst hx; subst hvv
        refine ⟨F1, a2.mono fun b hb => hA b (nA b hb) (w1 b hb), fun b hb => ⟨by simp [hb], fun hc => ?_⟩⟩
        rcases fA2 b hc with h | h
        · exact nA b hb h
        · have := w1 b hb; omega
    have st : Step F L (A2 ++ F1 ++ F) L2 := by
      refine ⟨by have := a3.len; have := c3.len; simp at this; omega, fun b hb hn => ?_, fun b hb => ?_⟩
      · rw [hA b (fun hc => hn (o4 b hc)) (by have := a3.len; omega), k1 b hb]
      · rcases List.mem_append.1 hb with hb | hb
        · rcases List.mem_append.1 hb with hb | hb
          · rcases fA2 b hb with h | h
            · exact .inl (o4 b h)
            · exact .inr (by have := a3.len; omega)
          · exact .inr (f1 b hb)
        · exact .inl hb
    have w2 : Within (A2 ++ F1 ++ F) L2 := fun b hb => by
      have e1 := a3.len
      have e2 := c3.len
      simp only [List.length_append, List.length_cons, List.length_nil] at e2
      rcases List.mem_append.1 hb with hb | hb
      · rcases List.mem_append.1 hb with hb | hb
        · exact c2.within b hb
        · have := w1 b hb; omega
      · have := hw b hb; omega
    have hr2 : r ∉ A2 ++ F1 ++ F := fun hc => by rcases st.foot r hc with h | h; exact hrF h; omega
    obtain ⟨s, L', F', d1, d2', d3', d4⟩ := ih (i + 1) j (l.drop (D * S)) L2 s' (done ++ [rowsOf S D l]) _ (by omega) hK (by omega) (by rw [List.length_drop]; omega) (by simp [hdone]) (by rw [st.keep r hlr hrF]; exact hr) hv hr2 w2
    refine ⟨s, L', F', ?_, ?_, st.trans d3', d4⟩
    · rw [W.f11_l15_eq, decide_eq_true (by omega), lif_true, hc, obind_some]
      rw [Int.natCast_zero] at a1
      rw [a1, W.f11_l18_eq, decide_eq_false (by omega), lif_false, size39, bytes39]
      rw [show [LBlk.cells [Value.slice l4.a l4.n l4.c] 39 false 0] = [LBlk.cells [slV l4] 39 false 0] from rfl, hs, obind_some]
      rw [show app _ 39 1 24 l2 1 _ = _ from c1, obind_some, wI64 (by omega) (by omega), show (i : Int) + 1 = ((i + 1 : Nat) : Int) by omega]
      exact d1
    · rw [volsOf, show done ++ rowsOf S D l :: volsOf D S q (List.drop (D * S) l) = done ++ [rowsOf S D l] ++ volsOf D S q (l.drop (D * S)) by simp]
      exact d2'
theorem eight_get {n i : Nat} (h : i < 8) : (eightB n)[i]? = some (n / 256 ^ (7 - i) % 256) := by
  unfold eightB
  rw [List.getElem?_map, List.getElem?_range h]
  rfl
theorem bytes_loop {k r1 r3 : Nat} {s : ByteArray} {n2 : Int} (hs : s.size ≤ 1000000000) : ∀ (q i j : Nat) (L : LHeap) (F : List Nat), i + q = 8 → q < j → Bld L r3 ((eightB s.size).take i) F →
    ∃ j' L' F', W.f11_l6 (k + 2) j s r1 n2 r3 (i : Int) L = W.f11_l6 (k + 2) (j' + 1) s r1 n2 r3 ((8 : Nat) : Int) L' ∧ Bld L' r3 (eightB s.size) F' ∧ Step F L F' L' := by
  intro q
  induction q with
  | zero =>
    intro i j L F hi hj hb
    obtain ⟨j, rfl⟩ : ∃ j', j = j' + 1 := ⟨j - 1, by omega⟩
    refine ⟨j, L, F, by rw [show i = 8 by omega], ?_, .refl _ _⟩
    rw [List.take_of_length_le (by rw [eightB_length]; omega)] at hb
    exact hb
  | succ q ih =>
    intro i j L F hi hj hb
    obtain ⟨j, rfl⟩ : ∃ j', j = j' + 1 := ⟨j - 1, by omega⟩
    obtain ⟨L1, F1, a1, a2, a3⟩ := byte_ok (k := k) (n := s.size / 256 ^ (7 - i) % 256) hb (by rw [List.length_take, eightB_length]; omega)
    obtain ⟨j', L', F', b1, b2, b3⟩ := ih (i + 1) j L1 F1 (by omega) (by omega) (by
      rw [List.take_add_one, eight_get (by omega)]; exact a2)
    refine ⟨j', L', F', ?_, b2, a3.trans b3⟩
    have e : IntKind.wrap .u8 (Int.fdiv (s.size : Int) (2 ^ min (Int.toNat (IntKind.wrap .i64 (8 * IntKind.wrap .i64 (7 - (i : Int))))) 64)) = ((s.size / 256 ^ (7 - i) % 256 : Nat) : Int) := by
      rw [wI64 (n := 7 - (i : Int)) (by omega) (by omega), wI64 (by omega) (by omega), show Int.toNat (8 * (7 - (i : Int))) = 8 * (7 - i) by omega, Nat.min_eq_left (by omega), fdiv_pow, Nat.pow_mul]
      show ((s.size / 256 ^ (7 - i) : Nat) : Int) % 256 = _
      omega
    rw [W.f11_l6_eq, decide_eq_true (by omega), lif_true, e, wI64 (n := 7 - (i : Int)) (by omega) (by omega), wI64 (n := 8 * (7 - (i : Int))) (by omega) (by omega), decide_eq_false (by omega), Bool.not_false, when_true]
    rw [show lcall Tryd.prog W.T (k + 2) 24 [.pointer (some (Addr.mk r3 0 none)), .int .u8 ((s.size / 256 ^ (7 - i) % 256 : Nat) : Int)] L = W.f24 (k + 2) (some ⟨r3, 0, none⟩) ((s.size / 256 ^ (7 - i) % 256 : Nat) : Int) L from rfl, a1, lbind_ret,
      wI64 (by omega) (by omega), show (i : Int) + 1 = ((i + 1 : Nat) : Int) by omega]
    exact b1
/-- What a stream is cut into. -/
def cutV (b : List Nat) (d r z m : Int) : List (List (List Nat)) :=
  if countE b.length d r z m = 0 then volsOf d.toNat z.toNat (countK b.length d r z m).toNat (layS b (countK b.length d r z m).toNat (d.toNat * z.toNat)) else []
theorem fit_ok {n d r z m : Int} (hn : 0 ≤ n) (h : countE n d r z m = 0) : shapeB d r z m = true ∧ countK n d r z m = volK n (d * z) ∧ 1 ≤ volK n (d * z) ∧ volK n (d * z) ≤ 96 ∧ n + 8 ≤ volK n (d * z) * (d * z) := by
  cases hs : shapeB d r z m with
  | false => rw [(count_bad (.inl hs)).1] at h; omega
  | true =>
    have ho := one_le hs
    have hs' := shapeB_iff.1 hs
    by_cases hv : volK n (d * z) ≤ 96 - m
    · exact ⟨rfl, (count_fits hs hn hv).2, volK_pos hn (by omega), by omega, (volK_spec hn (by omega)).1⟩
    · rw [(count_big hs hn (by omega)).1] at h; omega
theorem lay_eq (b : List Nat) (k one : Nat) : layS b k one = eightB b.length ++ b ++ List.replicate (k * one - (8 + b.length)) 0 := by unfold layS; rw [List.append_assoc]
theorem cut_ok {k : Nat} {b : List Nat} (hb : ∀ x ∈ b, x < 256) (hl : b.length ≤ 1000000) (d r z m : Int) (L : LHeap) :
    ∃ s L' F, W.f11 (k + 101) (strOf b) d r z m L = some (.ret (.tuple #[slV s, .int .i64 (countE b.length d r z m)]) L') ∧ Vols L' s (cutV b d r z m) F ∧ Step [] L F L' ∧ Within F L' := by
  rw [W.f11_eq]
  have hr : ∀ X : LHeap, (L ++ LBlk.cells [.int .i64 d, .int .i64 r, .int .i64 z, .int .i64 m] 23 false 0 :: X)[L.length]? = some (.cells [.int .i64 d, .int .i64 r, .int .i64 z, .int .i64 m] 23 false 0) := fun X => by simp
  have q0 : (cell (L ++ [LBlk.cells [.int .i64 d, .int .i64 r, .int .i64 z, .int .i64 m] 23 false 0]) (Addr.add ⟨L.length, 0, none⟩ 0)).bind (asI .i64) = some d := by
    rw [show Addr.add ⟨L.length, 0, none⟩ 0 = (⟨L.length, 0, none⟩ : Addr) from rfl, cell_of (hr [])]; rfl
  have q1 : (cell (L ++ [LBlk.cells [.int .i64 d, .int .i64 r, .int .i64 z, .int .i64 m] 23 false 0]) (Addr.add ⟨L.length, 0, none⟩ 1)).bind (asI .i64) = some r := by
    rw [show Addr.add ⟨L.length, 0, none⟩ 1 = (⟨L.length, 1, none⟩ : Addr) from rfl, cell_of (hr [])]; rfl
  have q2 : (cell (L ++ [LBlk.cells [.int .i64 d, .int .i64 r, .int .i64 z, .int .i64 m] 23 false 0]) (Addr.add ⟨L.length, 0, none⟩ 2)).bind (asI .i64) = some z := by
    rw [show Addr.add ⟨L.length, 0, none⟩ 2 = (⟨L.length, 2, none⟩ : Addr) from rfl, cell_of (hr [])]; rfl
  have q3 : (cell (L ++ [LBlk.cells [.int .i64 d, .int .i64 r, .int .i64 z, .int .i64 m] 23 false 0]) (Addr.add ⟨L.length, 0, none⟩ 3)).bind (asI .i64) = some m := by
    rw [show Addr.add ⟨L.length, 0, none⟩ 3 = (⟨L.length, 3, none⟩ : Addr) from rfl, cell_of (hr [])]; rfl
  rw [q0, obind_some, q1, obind_some, q2, obind_some, q3, obind_some, strOf_size, decide_eq_true (by omega), when_true]
  have st0 : Step [] L [] (L ++ [LBlk.cells [.int .i64 d, .int .i64 r, .int .i64 z, .int .i64 m] 23 false 0]) := .push _ _ _
  by_cases he : countE b.length d r z m = 0
  case neg =>
    refine ⟨⟨none, 0, 0⟩, _, [], ?_, by unfold cutV; rw [if_neg he]; exact Vols.nil _ _, st0, fun i hi => by simp at hi⟩
    rw [show (countE b.length d r z m != 0) = true by simpa using he, lif_true]
    rfl
  rw [he, show ((0 : Int) != 0) = false from rfl, lif_false]
  obtain ⟨hs, e2, e3, e4, e5⟩ := fit_ok (by omega) he
  have hs' := shapeB_iff.1 hs
  obtain ⟨D, hD⟩ : ∃ D : Nat, d = D := ⟨d.toNat, by omega⟩
  obtain ⟨S, hS⟩ : ∃ S : Nat, z = S := ⟨z.toNat, by omega⟩
  subst hD; subst hS
  obtain ⟨K, hK⟩ : ∃ K : Nat, volK b.length ((D : Int) * S) = K := ⟨(volK b.length ((D : Int) * S)).toNat, by omega⟩
  rw [hK] at e2 e3 e4 e5
  have e5' : b.length + 8 ≤ K * (D * S) := by
    have : ((b.length + 8 : Nat) : Int) ≤ ((K * (D * S) : Nat) : Int) := by push_cast; exact e5
    omega
  have hcut : cutV b D r S m = volsOf D S K (layS b K (D * S)) := by
    unfold cutV; rw [if_pos he, e2]; rfl
  rw [hcut, e2]
  have hDS : D * S ≤ 64 * 512 := Nat.mul_le_mul (by omega) (by omega)
  have hKD : K * D ≤ 96 * 64 := Nat.mul_le_mul (by omega) (by omega)
  have hall : K * (D * S) ≤ 96 * (64 * 512) := Nat.mul_le_mul (by omega) hDS
  -- the builder
  generalize hL0 : L ++ [LBlk.cells [.int .i64 (D : Int), .int .i64 r, .int .i64 (S : Int), .int .i64 m] 23 false 0] = L0 at *
  have l0 : L0.length = L.length + 1 := by rw [← hL0]; simp
  have b0 : Bld (L0 ++ [LBlk.cells [.pointer none, .slice none 0 0] 54 false 0]) L0.length ((eightB (strOf b).size).take 0) [L0.length] :=
    ⟨⟨none, 0, 0⟩, [], none, get_new, .inl rfl, OS.nil _ _, by simp, fun _ => rfl, rfl⟩
  obtain ⟨j', L1, F1, a1, a2, a3⟩ := bytes_loop (k := k + 98) (r1 := L.length) (r3 := L0.length) (s := strOf b) (n2 := (K : Int)) (by rw [strOf_size]; omega) 8 0 (k + 100) _ _ (by omega) (by omega) b0
  rw [strOf_size] at a2
  obtain ⟨L2, F2, c1, c2, c3⟩ := text_ok (k := k + 98) a2 hb (by rw [eightB_length]; omega)
  obtain ⟨L3, F3, d1, d2, d3⟩ := text_ok (k := k + 98) (m := List.replicate (K * (D * S) - (8 + b.length)) 0) c2 (fun n hn => by rw [(List.mem_replicate.1 hn).2]; omega) (by simp [eightB_length]; omega)
  have hsm : ∀ n ∈ layS b K (D * S), n < 256 := by
    intro n hn
    rw [lay_eq] at hn
    rcases List.mem_append.1 hn with hn | hn
    · rcases List.mem_append.1 hn with hn | hn
      · exact eightB_small _ n hn
      · exact hb n hn
    · rw [(List.mem_replicate.1 hn).2]; omega
  have hll := layS_length e5'
  rw [← lay_eq] at d2
  obtain ⟨L4, f1, f2⟩ := string_ok (k := k + 99) d2 hsm (by omega)
  have st1 : Step [L0.length] (L0 ++ [LBlk.cells [.pointer none, .slice none 0 0] 54 false 0]) F3 L4 := ((a3.trans c3).trans d3).trans f2
  have len1 := a3.len
  have sh : ∀ {X : LHeap} {F : List Nat}, Step [L0.length] (L0 ++ [LBlk.cells [.pointer none, .slice none 0 0] 54 false 0]) F X → X[L.length]? = some (.cells [.int .i64 (D : Int), .int .i64 r, .int .i64 (S : Int), .int .i64 m] 23 false 0) := fun st => by
    rw [st.keep L.length (by simp; omega) (by simp; omega), get_push (by omega), ← hL0]
    exact hr []
  obtain ⟨sl, L5, F5, g1, g2, g3, g4⟩ := vols_loop (k := k + 100) (r := L.length) (S := S) (D := D) (K := (K : Int)) (d2 := r) (d3 := m) (by omega) (by omega) (by omega) K 0 (k + 100) (layS b K (D * S)) L4 ⟨none, 0, 0⟩ [] []
    (by omega) (by omega) (by omega) (by omega) rfl (sh st1) (Vols.nil _ _) (by simp) (fun i hi => by simp at hi)
  rw [List.nil_append] at g2
  refine ⟨sl, L5, F5, ?_, g2, ?_, g4⟩
  · rw [Int.natCast_zero] at a1 g1
    rw [a1, W.f11_l6_eq, decide_eq_false (by omega), lif_false]
    rw [show lcall Tryd.prog W.T (k + 100) 25 [.pointer (some (Addr.mk L0.length 0 none)), .string (strOf b)] L1 = W.f25 (k + 98 + 2) (some ⟨L0.length, 0, none⟩) (strOf b) L1 from rfl, c1, lbind_ret]
    simp only [tupL_tuple, obind_some, uncons_cons, nilL_nil, asI_int]
    have y0 : ∀ {X : LHeap} {F : List Nat}, Step [L0.length] (L0 ++ [LBlk.cells [.pointer none, .slice none 0 0] 54 false 0]) F X → (cell X (Addr.add ⟨L.length, 0, none⟩ 0)).bind (asI .i64) = some (D : Int) := fun st => by
      rw [show Addr.add ⟨L.length, 0, none⟩ 0 = (⟨L.length, 0, none⟩ : Addr) from rfl, cell_of (sh st)]; rfl
    have y2 : ∀ {X : LHeap} {F : List Nat}, Step [L0.length] (L0 ++ [LBlk.cells [.pointer none, .slice none 0 0] 54 false 0]) F X → (cell X (Addr.add ⟨L.length, 0, none⟩ 2)).bind (asI .i64) = some (S : Int) := fun st => by
      rw [show Addr.add ⟨L.length, 0, none⟩ 2 = (⟨L.length, 2, none⟩ : Addr) from rfl, cell_of (sh st)]; rfl
    have st2 := a3.trans c3
    have hx : IntKind.wrap .i64 (IntKind.wrap .i64 (IntKind.wrap .i64 ((K : Int) * D) * S) - ((eightB b.length ++ b).length : Int)) = ((K * (D * S) - (8 + b.length) : Nat) : Int) := by
      rw [List.length_append, eightB_length]
      have h1 : ((K : Int) * D) = ((K * D : Nat) : Int) := by push_cast; rfl
      have h2 : (((K * D : Nat) : Int) * S) = ((K * (D * S) : Nat) : Int) := by rw [← Nat.mul_assoc]; push_cast; rfl
      rw [h1, wI64 (n := ((K * D : Nat) : Int)) (by omega) (by omega), h2, wI64 (n := ((K * (D * S) : Nat) : Int)) (by omega) (by omega), wI64 (by omega) (by omega)]
      omega
    rw [y0 st2, obind_some, y2 st2, obind_some, show lcall Tryd.prog W.T (k + 100) 27 [.pointer (some (Addr.mk L0.length 0 none))] L2 = W.f27 (k + 99 + 1) (some ⟨L0.length, 0, none⟩) L2 from rfl, len_ok c2, lbindR_ret, asI_int, obind_some,
      y2 st2, obind_some, same_self, when_true, y0 st2, obind_some, same_self, when_true, hx]
    rw [decide_eq_true (by omega), Int.toNat_natCast, Nat.ble_eq_true_of_le (show (ByteArray.mk #[0]).size * (K * (D * S) - (8 + b.length)) ≤ 140737488355328 by rw [show (ByteArray.mk #[0]).size = 1 from rfl]; omega), Nat.ble_eq_true_of_le (by omega)]
    rw [Bool.and_self, Bool.and_self, when_true, rep_zero]
    rw [show lcall Tryd.prog W.T (k + 100) 25 [.pointer (some (Addr.mk L0.length 0 none)), .string (strOf (List.replicate (K * (D * S) - (8 + b.length)) 0))] L2 = W.f25 (k + 98 + 2) (some ⟨L0.length, 0, none⟩) (strOf (List.replicate (K * (D * S) - (8 + b.length)) 0)) L2 from rfl, d1, lbindR_ret]
    simp only [tupL_tuple, obind_some, uncons_cons, nilL_nil, asI_int]
    rw [show lcall Tryd.prog W.T (k + 100) 28 [.pointer (some (Addr.mk L0.length 0 none))] L3 = W.f28 (k + 99 + 1) (some ⟨L0.length, 0, none⟩) L3 from rfl, f1, lbind_ret, asS_string, obind_some]
    exact g1
  · have st3 : Step [] L (L0.length :: []) (L0 ++ [LBlk.cells [.pointer none, .slice none 0 0] 54 false 0]) := st0.trans (.new _ _ _)
    exact ((st3.trans st1).less (G := []) fun i hi => by simp at hi).trans g3
end Go.Proofs.YtffcfaabjodpcaaDoor
end

section
set_option maxRecDepth 100000
set_option linter.unusedVariables false
namespace Go.Proofs.YtffcfaabjodpcaaDoor.W
open Go Go.Rlm
/-- hamper/hamperlaw26.SliceLays -/
noncomputable def f7 (k : Nat) (s0 : ByteArray) (n1 : Int) (n2 : Int) (n3 : Int) (n4 : Int) : R :=
  lpure Tryd.prog T k 7 [Value.string s0, Value.agg #[Value.int IntKind.i64 n1, Value.int IntKind.i64 n2, Value.int IntKind.i64 n3, Value.int IntKind.i64 n4]]
/-- slots 0, 5, 7, 8 -/
noncomputable def f7_l8 (k : Nat) (j8 : Nat) (s5 : ByteArray) (l6 : Sl) (s7 : ByteArray) (n8 : Int) (L : LHeap) : R :=
  loopAtD Tryd.prog T 7 k [1, 1, 1, 1, 1, 0, 1, 0] [] j8 [(0, Value.string s5), (5, Value.slice l6.a l6.n l6.c), (7, Value.string s7), (8, Value.int IntKind.i64 n8)]
  L
/-- slots 0, 5, 7, 8, 9 -/
noncomputable def f7_l11 (k : Nat) (j8_9 : Nat) (j11 : Nat) (s10 : ByteArray) (l11 : Sl) (s12 : ByteArray) (n13 : Int) (n14 : Int) (L : LHeap) : R :=
  loopAtD Tryd.prog T 7 k [1, 1, 1, 1, 1, 0, 1, 0, 0, 1, 0, 0, 1, 0] [j8_9] j11
  [(0, Value.string s10), (5, Value.slice l11.a l11.n l11.c), (7, Value.string s12), (8, Value.int IntKind.i64 n13), (9, Value.int IntKind.i64 n14)] L
/-- slots 0, 7, 10, 11 -/
noncomputable def f7_l18 (k : Nat) (j18 : Nat) (s15 : ByteArray) (s16 : ByteArray) (n17 : Int) (n18 : Int) (L : LHeap) : R :=
  loopAtD Tryd.prog T 7 k [1, 1, 1, 1, 1, 1, 1, 1, 0, 1, 0] [] j18
  [(0, Value.string s15), (7, Value.string s16), (10, Value.int IntKind.i64 n17), (11, Value.int IntKind.i64 n18)] L
/-- slots 0, 7, 10, 12 -/
noncomputable def f7_l22 (k : Nat) (j22 : Nat) (s19 : ByteArray) (s20 : ByteArray) (n21 : Int) (n22 : Int) (L : LHeap) : R :=
  loopAtD Tryd.prog T 7 k [1, 1, 1, 1, 1, 1, 1, 1, 1, 0, 1, 0] [] j22
  [(0, Value.string s19), (7, Value.string s20), (10, Value.int IntKind.i64 n21), (12, Value.int IntKind.i64 n22)] L
theorem f7_eq (k : Nat) (s0 : ByteArray) (n1 : Int) (n2 : Int) (n3 : Int) (n4 : Int) : f7 k s0 n1 n2 n3 n4 =
 lif (decide ((↑(ByteArray.size s0) : Int) > 3000)) (ok (Value.bool true))
 (lbind
 (lcall Tryd.prog T k 11 [Value.string s0, Value.agg #[Value.int IntKind.i64 n1, Value.int IntKind.i64 n2, Value.int IntKind.i64 n3, Value.int IntKind.i64 n4]]
 [LBlk.cells [Value.int IntKind.i64 n1, Value.int IntKind.i64 n2, Value.int IntKind.i64 n3, Value.int IntKind.i64 n4] 23 false 0])
 fun v5 L6 =>
 obind (tupL v5) fun x7 =>
 uncons x7 fun v8 vs9 =>
 obind (asSl v8) fun l10 =>
 uncons vs9 fun v11 vs12 =>
 obind (asI IntKind.i64 v11) fun n13 => nilL vs12 (lif (n13 != 0) (ok (Value.bool ((↑l10.n : Int) == 0))) (f7_l8 k k s0 l10 (ByteArray.mk #[]) 0 L6))) := by kernel_rfl
theorem f7_l8_eq (k : Nat) (j8 : Nat) (s0 : ByteArray) (l1 : Sl) (s2 : ByteArray) (n3 : Int) (L : LHeap) : f7_l8 k (j8 + 1) s0 l1 s2 n3 L =
 lif (decide (n3 < (↑l1.n : Int))) (f7_l11 k j8 k s0 l1 s2 n3 0 L)
 (lif (decide ((↑(ByteArray.size s2) : Int) < IntKind.wrap IntKind.i64 (8 + (↑(ByteArray.size s0) : Int)))) (ok (Value.bool false))
 (obind (subS s2 (some 8) (some (IntKind.wrap IntKind.i64 (8 + (↑(ByteArray.size s0) : Int))))) fun s4 =>
 lif (!ByteArray.toList s4 == ByteArray.toList s0) (ok (Value.bool false)) (f7_l18 k k s0 s2 0 0 L))) := by kernel_rfl
theorem f7_l11_eq (k : Nat) (j8_0 : Nat) (j11 : Nat) (s1 : ByteArray) (l2 : Sl) (s3 : ByteArray) (n4 : Int) (n5 : Int) (L : LHeap) : f7_l11 k j8_0 (j11 + 1) s1 l2 s3 n4 n5 L =
 obind (idx l2 n4 1) fun a6 =>
 obind (Option.bind (cell L a6) asSl) fun l7 =>
 lif (decide (n5 < (↑l7.n : Int)))
 (obind (idx l2 n4 1) fun a8 =>
 obind (Option.bind (cell L a8) asSl) fun l9 =>
 obind (idx l9 n5 1) fun a10 =>
 obind (Option.bind (cell L a10) asS) fun s11 =>
 when (fitsS (ByteArray.size s3 + ByteArray.size s11)) (f7_l11 k j8_0 j11 s1 l2 (s3 ++ s11) n4 (IntKind.wrap IntKind.i64 (n5 + 1)) L))
 (f7_l8 k j8_0 s1 l2 s3 (IntKind.wrap IntKind.i64 (n4 + 1)) L) := by kernel_rfl
theorem f7_l18_eq (k : Nat) (j18 : Nat) (s0 : ByteArray) (s1 : ByteArray) (n2 : Int) (n3 : Int) (L : LHeap) : f7_l18 k (j18 + 1) s0 s1 n2 n3 L =
 lif (decide (n3 < 8))
 (obind (byteAt s1 n3) fun n4 =>
 f7_l18 k j18 s0 s1 (IntKind.wrap IntKind.i64 (IntKind.wrap IntKind.i64 (n2 * 256) + IntKind.wrap IntKind.i64 n4)) (IntKind.wrap IntKind.i64 (n3 + 1)) L)
 (f7_l22 k k s0 s1 n2 (IntKind.wrap IntKind.i64 (8 + (↑(ByteArray.size s0) : Int))) L) := by kernel_rfl
theorem f7_l22_eq (k : Nat) (j22 : Nat) (s0 : ByteArray) (s1 : ByteArray) (n2 : Int) (n3 : Int) (L : LHeap) : f7_l22 k (j22 + 1) s0 s1 n2 n3 L =
 lif (decide (n3 < (↑(ByteArray.size s1) : Int)))
 (obind (byteAt s1 n3) fun n4 => lif (n4 != 0) (ok (Value.bool false)) (f7_l22 k j22 s0 s1 n2 (IntKind.wrap IntKind.i64 (n3 + 1)) L))
 (ok (Value.bool (n2 == (↑(ByteArray.size s0) : Int)))) := by kernel_rfl
end Go.Proofs.YtffcfaabjodpcaaDoor.W
end

section
set_option maxRecDepth 100000
namespace Go.Proofs.YtffcfaabjodpcaaDoor
open Go Go.Rlm
theorem Vols.len {L : LHeap} {s : Sl} {vs : List (List (List Nat))} {F : List Nat} (h : Vols L s vs F) : s.n = vs.length := by
  obtain ⟨xs, A, h1, h2, _⟩ := h
  rw [h1.len, List.length_map, h2]
theorem Vols.row {L : LHeap} {s : Sl} {vs : List (List (List Nat))} {F : List Nat} (h : Vols L s vs F) {i : Nat} {v : List (List Nat)} (hv : vs[i]? = some v) :
    ∃ a x B, idx s (i : Int) 1 = some a ∧ (cell L a).bind asSl = some x ∧ OS L x (v.map strV) 9 B ∧ ∀ b ∈ B, b ∈ F := by
  obtain ⟨xs, A, h1, h2, h3, _⟩ := h
  have hi := get_lt hv
  have hx : xs[i]? = some (xs[i]'(by omega)) := List.getElem?_eq_getElem (by omega)
  obtain ⟨B, b1, b2⟩ := h3 i _ v hx hv
  obtain ⟨a, a1, a2⟩ := h1.get (i := i) (v := slV (xs[i]'(by omega))) (by rw [List.getElem?_map, hx]; rfl)
  exact ⟨a, _, B, a1, by rw [a2]; rfl, b1, fun b hb => (b2 b hb).1⟩
theorem sub_mid {l : List Nat} {i j : Nat} (hi : i ≤ j) (hj : j ≤ l.length) : subS (strOf l) (some (i : Int)) (some (j : Int)) = some (strOf ((l.take j).drop i)) := by
  simp only [subS, bound_at (strOf l).size (show j ≤ (strOf l).size by rw [strOf_size]; exact hj), bound_at 0 hi, Option.bind_eq_bind, Option.bind_some, str_extract]
theorem byte_str {l : List Nat} (hl : ∀ n ∈ l, n < 256) {i n : Nat} (h : l[i]? = some n) : byteAt (strOf l) (i : Int) = some (n : Int) := by
  have hi := get_lt h
  have hn := hl n (List.mem_of_getElem? h)
  unfold byteAt
  rw [decide_eq_true (by omega), cond_true, Int.toNat_natCast, getElem?_pos (strOf l) i (by rw [strOf_size]; exact hi)]
  rw [List.getElem?_eq_getElem hi] at h
  injection h with h
  simp only [strOf, ByteArray.getElem_eq_getElem_data, List.getElem_toArray, List.getElem_map, h]
  rw [Option.map_some, UInt8.toNat_ofNat', Nat.mod_eq_of_lt (by omega)]
theorem all_row {L : LHeap} {s : Sl} {vs : List (List (List Nat))} {F : List Nat} (h : Vols L s vs F) {i : Nat} {v : List (List Nat)} (hv : vs[i]? = some v) {k j8 : Nat} {s1 : ByteArray} (hi : i < 1000000000) (hvl : v.length < 1000000000) :
    ∀ (q t j : Nat) (acc : List Nat), t + q = v.length → q < j → acc.length + (v.drop t).flatten.length ≤ 1000000000 →
      W.f7_l11 k j8 j s1 s (strOf acc) (i : Int) (t : Int) L = W.f7_l8 k j8 s1 s (strOf (acc ++ (v.drop t).flatten)) ((i + 1 : Nat) : Int) L := by
  obtain ⟨a, x, B, e1, e2, e3, _⟩ := h.row hv
  intro q
  induction q with
  | zero =>
    intro t j acc ht hj _
    obtain ⟨j, rfl⟩ : ∃ j', j = j' + 1 := ⟨j - 1, by omega⟩
    rw [W.f7_l11_eq, e1, obind_some, e2, obind_some, e3.len, List.length_map, decide_eq_false (by omega), lif_false, wI64 (by omega) (by omega), List.drop_of_length_le (by omega), List.flatten_nil, List.append_nil]
    rfl
  | succ q ih =>
    intro t j acc ht hj hl
    obtain ⟨j, rfl⟩ : ∃ j', j = j' + 1 := ⟨j - 1, by omega⟩
    have hlt : t < v.length := by omega
    obtain ⟨a2, g1, g2⟩ := e3.get (i := t) (v := strV v[t]) (by rw [List.getElem?_map, List.getElem?_eq_getElem hlt]; rfl)
    rw [List.drop_eq_getElem_cons hlt, List.flatten_cons, List.length_append] at hl
    rw [W.f7_l11_eq, e1, obind_some, e2, obind_some, e3.len, List.length_map, decide_eq_true (by omega), lif_true, obind_some, e2, obind_some, g1, obind_some, g2, Option.bind_some, strV, asS_string, obind_some, strOf_size, strOf_size,
      fitsS_ok (by omega), when_true, wI64 (by omega) (by omega), show (t : Int) + 1 = ((t + 1 : Nat) : Int) by omega, str_app, ih (t + 1) j _ (by omega) (by omega) (by rw [List.length_append]; omega)]
    rw [List.drop_eq_getElem_cons hlt, List.flatten_cons, List.append_assoc]
theorem all_rows {L : LHeap} {s : Sl} {vs : List (List (List Nat))} {F : List Nat} (h : Vols L s vs F) {k : Nat} {s1 : ByteArray} (hk : ∀ v ∈ vs, v.length < k) (hk2 : k ≤ 1000000000) (hn : vs.length < 1000000000) :
    ∀ (q i j : Nat) (acc : List Nat), i + q = vs.length → q < j → acc.length + ((vs.drop i).map List.flatten).flatten.length ≤ 1000000000 →
      ∃ j', W.f7_l8 k j s1 s (strOf acc) (i : Int) L = W.f7_l8 k (j' + 1) s1 s (strOf (acc ++ ((vs.drop i).map List.flatten).flatten)) (vs.length : Int) L := by
  intro q
  induction q with
  | zero =>
    intro i j acc hi hj _
    obtain ⟨j, rfl⟩ : ∃ j', j = j' + 1 := ⟨j - 1, by omega⟩
    exact ⟨j, by rw [List.drop_of_length_le (by omega), List.map_nil, List.flatten_nil, List.append_nil, show i = vs.length by omega]⟩
  | succ q ih =>
    intro i j acc hi hj hl
    obtain ⟨j, rfl⟩ : ∃ j', j = j' + 1 := ⟨j - 1, by omega⟩
    have hlt : i < vs.length := by omega
    rw [List.drop_eq_getElem_cons hlt, List.map_cons, List.flatten_cons, List.length_append] at hl
    have hvl := hk vs[i] (List.getElem_mem hlt)
    obtain ⟨j', e⟩ := ih (i + 1) j (acc ++ vs[i].flatten) (by omega) (by omega) (by rw [List.length_append]; omega)
    refine ⟨j', ?_⟩
    have e1 := all_row h (List.getElem?_eq_getElem hlt) (k := k) (j8 := j) (s1 := s1) (by omega) (by omega) vs[i].length 0 k acc (by omega) (by omega) (by rw [List.drop_zero]; omega)
    rw [Int.natCast_zero, List.drop_zero] at e1
    rw [W.f7_l8_eq, h.len, decide_eq_true (by omega), lif_true, e1, e, List.drop_eq_getElem_cons hlt, List.map_cons, List.flatten_cons, List.append_assoc]
theorem head_loop {k : Nat} {s0 : ByteArray} {n : Nat} {r : List Nat} {L : LHeap} (hn : n < 1000000000) (hr : ∀ x ∈ r, x < 256) : ∀ (q i j : Nat), i + q = 8 → q < j →
    ∃ j', W.f7_l18 k j s0 (strOf (eightB n ++ r)) ((n / 256 ^ (8 - i) : Nat) : Int) (i : Int) L = W.f7_l18 k (j' + 1) s0 (strOf (eightB n ++ r)) (n : Int) ((8 : Nat) : Int) L := by
  intro q
  induction q with
  | zero =>
    intro i j hi hj
    obtain ⟨j, rfl⟩ : ∃ j', j = j' + 1 := ⟨j - 1, by omega⟩
    exact ⟨j, by rw [show i = 8 by omega]; simp⟩
  | succ q ih =>
    intro i j hi hj
    obtain ⟨j, rfl⟩ : ∃ j', j = j' + 1 := ⟨j - 1, by omega⟩
    obtain ⟨j', e⟩ := ih (i + 1) j (by omega) (by omega)
    refine ⟨j', ?_⟩
    have hb : byteAt (strOf (eightB n ++ r)) (i : Int) = some ((n / 256 ^ (7 - i) % 256 : Nat) : Int) := byte_str (fun x hx => by
      rcases List.mem_append.1 hx with h | h
      · exact eightB_small n x h
      · exact hr x h) (by rw [List.getElem?_append_left (by rw [eightB_length]; omega), eight_get (by omega)])
    have h1 : n / 256 ^ (8 - i) = n / 256 ^ (7 - i) / 256 := by
      rw [Nat.div_div_eq_div_mul, ← Nat.pow_succ, show 8 - i = (7 - i).succ by omega]
    have h2 := Nat.div_le_self n (256 ^ (7 - i))
    have h3 : n / 256 ^ (8 - (i + 1)) = n / 256 ^ (7 - i) := by rw [show 8 - (i + 1) = 7 - i by omega]
    rw [h3] at e
    rw [W.f7_l18_eq, decide_eq_true (by omega), lif_true, hb, obind_some, h1]
    generalize n / 256 ^ (7 - i) = x at *
    rw [wI64 (n := ((x / 256 : Nat) : Int) * 256) (by omega) (by omega), wI64 (n := ((x % 256 : Nat) : Int)) (by omega) (by omega), wI64 (n := ((x / 256 : Nat) : Int) * 256 + ((x % 256 : Nat) : Int)) (by omega) (by omega), wI64 (n := (i : Int) + 1) (by omega) (by omega),
      show ((x / 256 : Nat) : Int) * 256 + ((x % 256 : Nat) : Int) = (x : Int) by omega, show (i : Int) + 1 = ((i + 1 : Nat) : Int) by omega]
    exact e
theorem zero_loop {k : Nat} {s0 : ByteArray} {l : List Nat} {n2 : Int} {L : LHeap} (hl : ∀ x ∈ l, x < 256) (hn : l.length < 1000000000) : ∀ (q i j : Nat), i + q = l.length → q < j → (∀ t, i ≤ t → t < l.length → l[t]? = some 0) →
    W.f7_l22 k j s0 (strOf l) n2 (i : Int) L = ok (.bool (n2 == (s0.size : Int))) := by
  intro q
  induction q with
  | zero =>
    intro i j hi hj _
    obtain ⟨j, rfl⟩ : ∃ j', j = j' + 1 := ⟨j - 1, by omega⟩
    rw [W.f7_l22_eq, strOf_size, decide_eq_false (by omega), lif_false]
  | succ q ih =>
    intro i j hi hj hz
    obtain ⟨j, rfl⟩ : ∃ j', j = j' + 1 := ⟨j - 1, by omega⟩
    rw [W.f7_l22_eq, strOf_size, decide_eq_true (by omega), lif_true, byte_str hl (hz i (Nat.le_refl _) (by omega)), obind_some, show (((0 : Nat) : Int) != 0) = false from rfl, lif_false, wI64 (by omega) (by omega), show (i : Int) + 1 = ((i + 1 : Nat) : Int) by omega]
    exact ih (i + 1) j (by omega) (by omega) fun t h1 h2 => hz t (by omega) h2
theorem lays_ok {k : Nat} (hk : 4000000 ≤ k) (hk2 : k ≤ 900000000) (b : List Nat) (hb : ∀ x ∈ b, x < 256) (d r z m : Int) : W.f7 (k + 101) (strOf b) d r z m = ok (.bool true) := by
  rw [W.f7_eq, strOf_size]
  by_cases h1 : (b.length : Int) > 3000
  · rw [decide_eq_true h1, lif_true]
  rw [decide_eq_false h1, lif_false]
  obtain ⟨s, L, F, e1, e2, _, _⟩ := cut_ok (k := k) hb (by omega) d r z m [LBlk.cells [.int .i64 d, .int .i64 r, .int .i64 z, .int .i64 m] 23 false 0]
  rw [show lcall Tryd.prog W.T (k + 101) 11 [.string (strOf b), .agg #[.int .i64 d, .int .i64 r, .int .i64 z, .int .i64 m]] [LBlk.cells [.int .i64 d, .int .i64 r, .int .i64 z, .int .i64 m] 23 false 0] =
    W.f11 (k + 101) (strOf b) d r z m [LBlk.cells [.int .i64 d, .int .i64 r, .int .i64 z, .int .i64 m] 23 false 0] from rfl, e1, lbind_ret]
  simp only [tupL_tuple, obind_some, uncons_cons, nilL_nil, asI_int]
  rw [show asSl (slV s) = some s from rfl, obind_some]
  by_cases he : countE b.length d r z m = 0
  case neg =>
    rw [show (countE b.length d r z m != 0) = true by simpa using he, lif_true, e2.len]
    unfold cutV
    rw [if_neg he]
    rfl
  rw [he, show ((0 : Int) != 0) = false from rfl, lif_false]
  obtain ⟨hs, c2, c3, c4, c5⟩ := fit_ok (by omega) he
  have hs' := shapeB_iff.1 hs
  obtain ⟨D, hD⟩ : ∃ D : Nat, d = D := ⟨d.toNat, by omega⟩
  obtain ⟨S, hS⟩ : ∃ S : Nat, z = S := ⟨z.toNat, by omega⟩
  subst hD; subst hS
  obtain ⟨K, hK⟩ : ∃ K : Nat, volK b.length ((D : Int) * S) = K := ⟨(volK b.length ((D : Int) * S)).toNat, by omega⟩
  rw [hK] at c2 c3 c4 c5
  have c5' : b.length + 8 ≤ K * (D * S) := by
    have : ((b.length + 8 : Nat) : Int) ≤ ((K * (D * S) : Nat) : Int) := by push_cast; exact c5
    omega
  have hcut : cutV b D r S m = volsOf D S K (layS b K (D * S)) := by
    unfold cutV; rw [if_pos he, c2]; rfl
  rw [hcut] at e2
  have hDS : D * S ≤ 64 * 512 := Nat.mul_le_mul (by omega) (by omega)
  have hall : K * (D * S) ≤ 96 * (64 * 512) := Nat.mul_le_mul (by omega) hDS
  have hll := layS_length c5'
  have hfl : ((volsOf D S K (layS b K (D * S))).map List.flatten).flatten = layS b K (D * S) := by rw [volsOf_flatten, List.take_of_length_le (by omega)]
  have hsm : ∀ n ∈ b ++ List.replicate (K * (D * S) - (8 + b.length)) 0, n < 256 := by
    intro n hn
    rcases List.mem_append.1 hn with hn | hn
    · exact hb n hn
    · rw [(List.mem_replicate.1 hn).2]; omega
  have hsm2 : ∀ n ∈ layS b K (D * S), n < 256 := by
    intro n hn
    unfold layS at hn
    rcases List.mem_append.1 hn with hn | hn
    · exact eightB_small _ n hn
    · exact hsm n hn
  have hvl : ∀ v ∈ volsOf D S K (layS b K (D * S)), v.length < k + 101 := by
    have : ∀ (K : Nat) (l : List Nat), ∀ v ∈ volsOf D S K l, v.length = D := by
      intro K
      induction K with
      | zero => intro l v hv; simp [volsOf] at hv
      | succ K ih =>
        intro l v hv
        rw [volsOf] at hv
        rcases List.mem_cons.1 hv with rfl | hv
        · exact rowsOf_length S D l
        · exact ih _ v hv
    intro v hv
    rw [this _ _ v hv]; omega
  obtain ⟨j', g⟩ := all_rows e2 (k := k + 101) (s1 := strOf b) hvl (by omega) (by rw [volsOf_length]; omega) K 0 (k + 101) [] (by rw [volsOf_length]; omega) (by omega) (by rw [List.drop_zero, hfl]; simp; omega)
  rw [Int.natCast_zero, List.drop_zero, hfl, List.nil_append] at g
  rw [show (ByteArray.mk #[]) = strOf [] from rfl, g, W.f7_l8_eq, e2.len, decide_eq_false (by omega), lif_false, strOf_size, strOf_size, wI64 (by omega) (by omega), decide_eq_false (by omega), lif_false]
  have hmid : subS (strOf (layS b K (D * S))) (some 8) (some (8 + (b.length : Int))) = some (strOf b) := by
    have := sub_mid (l := layS b K (D * S)) (i := 8) (j := 8 + b.length) (by omega) (by omega)
    rw [show ((8 + b.length : Nat) : Int) = 8 + (b.length : Int) by omega] at this
    rw [show ((8 : Nat) : Int) = 8 from rfl] at this
    have e : ((layS b K (D * S)).take (8 + b.length)).drop 8 = b := by
      unfold layS
      rw [← List.append_assoc, List.take_left' (by rw [List.length_append, eightB_length]), List.drop_left' (eightB_length _)]
    rw [this, e]
  rw [hmid, obind_some, show (!ByteArray.toList (strOf b) == ByteArray.toList (strOf b)) = false by simp, lif_false]
  obtain ⟨j2, g2⟩ := head_loop (k := k + 101) (s0 := strOf b) (n := b.length) (r := b ++ List.replicate (K * (D * S) - (8 + b.length)) 0) (L := L) (by omega) hsm 8 0 (k + 101) (by omega) (by omega)
  have hz : b.length / 256 ^ (8 - 0) = 0 := Nat.div_eq_of_lt (by omega)
  rw [hz, Int.natCast_zero] at g2
  rw [show layS b K (D * S) = eightB b.length ++ (b ++ List.replicate (K * (D * S) - (8 + b.length)) 0) from rfl] at *
  rw [g2, W.f7_l18_eq, decide_eq_false (by omega), lif_false, strOf_size, wI64 (by omega) (by omega), show 8 + (b.length : Int) = ((8 + b.length : Nat) : Int) by omega]
  rw [zero_loop hsm2 (by omega) (K * (D * S) - (8 + b.length)) (8 + b.length) (k + 101) (by omega) (by omega) fun t h1 h2 => by
    rw [← List.append_assoc, List.getElem?_append_right (by simp [eightB_length]; omega), List.getElem?_replicate, if_pos (by simp [eightB_length]; omega)]]
  rw [strOf_size]
  simp
end Go.Proofs.YtffcfaabjodpcaaDoor
end

section
namespace Go.Rlm
open Go.Joins Go.ChangeShapes Go.WideShapes Go.RowKit Go.Deep
theorem open_four {H : Type} {enc : TypeId × Value → H} {P : Program} {w : World} {base : Nat} {spare : Nat → Bool} {held : Bool} {r : Reach} {b0 : Nat} {t ti : TypeId} {f0 f1 f2 f3 : Field} {v : Value} {d : DataW H} {p : List MemPlace}
    (hs : P.underlying t = some (.struct #[f0, f1, f2, f3])) (hone : oneCellFields P #[f0, f1, f2, f3] = true) (hC : P.cellsOf t = 4) (hi : P.underlying ti = some (.int .i64)) (e0 : f0.type = ti) (e1 : f1.type = ti) (e2 : f2.type = ti) (e3 : f3.type = ti)
    (hv : Value.okWide P w r b0 t v) (h : DataW.Trod enc P w base spare held t v d p) :
    ∃ a b c e : Int, v = .agg #[.int .i64 a, .int .i64 b, .int .i64 c, .int .i64 e] ∧ p = [] ∧ (Lit.int .i64 a).wf = true ∧ (Lit.int .i64 b).wf = true ∧ (Lit.int .i64 c).wf = true ∧ (Lit.int .i64 e).wf = true := by
  obtain ⟨v0, v1, v2, v3, y0, y1, y2, y3, n, rfl, rfl, rfl, h0, h1, h2, h3⟩ := open_agg4 hs hone hC hv h
  rw [e0] at h0; rw [e1] at h1; rw [e2] at h2; rw [e3] at h3
  obtain ⟨a, ea, rfl, wa⟩ := DataW.trod_int hi h0
  obtain ⟨b, eb, rfl, wb⟩ := DataW.trod_int hi h1
  obtain ⟨c, ec, rfl, wc⟩ := DataW.trod_int hi h2
  obtain ⟨e, ee, rfl, we⟩ := DataW.trod_int hi h3
  injection ea with ea; injection eb with eb; injection ec with ec; injection ee with ee
  subst ea; subst eb; subst ec; subst ee
  exact ⟨a, b, c, e, rfl, rfl, wa, wb, wc, we⟩
end Go.Rlm
end

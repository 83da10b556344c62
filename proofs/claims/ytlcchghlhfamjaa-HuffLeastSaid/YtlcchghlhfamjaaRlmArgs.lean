/- What comes into a law: slices of numbers, and of pairs of them, as the machine has them. -/
import Derived.Test.YtlcchghlhfamjaaRlmS20
import Derived.Test.YtlcchghlhfamjaaRlmHeap
import Derived.Deep.SlicePairs
import Derived.ChangeArms
import Derived.ChangeSlices
namespace Go.Rlm
open Go.ChangeShapes Go.WideShapes

/-- At the machine: a slice that came in, of so many cells. -/
def Inp (L : LHeap) (l : Sl) (esz : Nat) (vs : List Value) (A : List Nat) : Prop :=
  l.n * esz = vs.length ∧ ((vs = [] ∧ A = []) ∨ ∃ c, l.a = some ⟨c, 0, none⟩ ∧ L[c]? = some (.cells vs 0 true 0) ∧ A = [c])

theorem Inp.mono {L L' : LHeap} {l : Sl} {esz : Nat} {vs : List Value} {A : List Nat} (h : Inp L l esz vs A) (hk : ∀ i ∈ A, L'[i]? = L[i]?) : Inp L' l esz vs A := by
  obtain ⟨h1, h | ⟨c, h2, h3, rfl⟩⟩ := h
  · exact ⟨h1, .inl h⟩
  · exact ⟨h1, .inr ⟨c, h2, by rw [hk c (by simp), h3], rfl⟩⟩
theorem Inp.within {L : LHeap} {l : Sl} {esz : Nat} {vs : List Value} {A : List Nat} (h : Inp L l esz vs A) : Within A L := by
  obtain ⟨h1, ⟨_, rfl⟩ | ⟨c, h2, h3, rfl⟩⟩ := h
  · intro i hi; simp at hi
  · intro i hi; simp at hi; subst hi; exact get_lt h3
theorem Inp.get {L : LHeap} {l : Sl} {esz : Nat} {vs : List Value} {A : List Nat} (h : Inp L l esz vs A) {i : Nat} (hi : i < l.n) (he : 0 < esz) :
    ∃ c, idx l (i : Int) esz = some ⟨c, i * esz, none⟩ ∧ ∀ L', (∀ x ∈ A, L'[x]? = L[x]?) → ∀ o, cell L' ⟨c, o, none⟩ = vs[o]? := by
  obtain ⟨h1, ⟨rfl, _⟩ | ⟨c, h2, h3, rfl⟩⟩ := h
  · have := Nat.mul_le_mul (show 1 ≤ l.n by omega) he; simp at h1 this; omega
  · refine ⟨c, ?_, fun L' hk o => cell_of (by rw [hk c (by simp), h3])⟩
    have := idx_of (b := c) (o := 0) (n := l.n) (c := l.c) (esz := esz) hi
    rw [← h2] at this
    simpa using this

/-- In the world: the same. -/
def IsCells (w : World) (a : Option Addr) (len cap esz : Nat) (vs : List Value) : Prop :=
  (a = none ∧ len = 0 ∧ cap = 0 ∧ vs = []) ∨
    ∃ x, a = some x ∧ cap ≤ maxLen ∧ len * esz = vs.length ∧ ∀ (i : Nat) (v : Value), vs[i]? = some v → w.cell? (x.add i) = some v

theorem Rep.arg {P : Program} {m : RMap} {L : LHeap} {w : World} (h : Rep P m L w) (hno : ∀ r, ¬ own L r) {a : Option Addr} {len cap esz : Nat} {vs : List Value}
    (hc : IsCells w a len cap esz vs) (hf : ∀ v ∈ vs, Rlm.flat1 v = true) :
    ∃ m' L' l A, MExt m m' ∧ Rep P m' L' w ∧ (∀ r, ¬ own L' r) ∧ VR m' (.slice l.a l.n l.c) (.slice a len cap) ∧ Inp L' l esz vs A ∧ l.n = len ∧ (∀ i, i < L.length → L'[i]? = L[i]?) ∧ L.length ≤ L'.length := by
  rcases hc with ⟨rfl, rfl, rfl, rfl⟩ | ⟨x, rfl, h1, h2, h3⟩
  · exact ⟨m, L, ⟨none, 0, 0⟩, [], .refl m, h, hno, .flat1 rfl, ⟨by simp, .inl ⟨rfl, rfl⟩⟩, rfl, fun _ _ => rfl, Nat.le_refl _⟩
  · have hcap : cap < OPEN := Nat.lt_of_le_of_lt h1 (by decide)
    obtain ⟨m', g1, g2, g3, g4, g5⟩ := h.input hno h3 hf len cap hcap
    refine ⟨m', L ++ [inp vs], ⟨some ⟨L.length, 0, x.spot⟩, len, cap⟩, if vs = [] then [] else [L.length], g1, g2, g3, g4, ⟨h2, ?_⟩, rfl, fun i hi => get_push hi, by simp⟩
    cases vs with
    | nil => exact .inl ⟨rfl, by simp⟩
    | cons v vs => exact .inr ⟨L.length, by rw [g5 (by simp)], by rw [get_new]; rfl, by simp⟩

/-- Numbers. -/
theorem open_cells {H : Type} {enc : TypeId × Value → H} {P : Program} {w : World} {t e : TypeId} {k : IntKind} {a : Option Addr} {len cap : Nat} {d : DataW H} {ps : List MemPlace}
    (ht : P.underlying t = some (.slice e)) (he : P.underlying e = some (.int k)) (hc : P.cellsOf e = 1) (hd : DataW.Trod enc P w 0 (fun _ => true) true t (.slice a len cap) d ps) :
    ∃ zs : List Int, zs.length = len ∧ IsCells w a len cap 1 (zs.map (.int k ·)) ∧ ∀ n ∈ zs, (Lit.int k n).wf = true := by
  obtain ⟨fuel, hf⟩ := hd
  rcases open_ints ht he hc hf with ⟨hcs, _⟩ | ⟨x, l, c, zs, hcs, _, hl, hm, hz, _, hcell, hwz⟩
  · simp [Value.cells] at hcs
    obtain ⟨rfl, rfl, rfl⟩ := hcs
    exact ⟨[], rfl, .inl ⟨rfl, rfl, rfl, rfl⟩, fun n hn => by simp at hn⟩
  · simp [Value.cells] at hcs
    obtain ⟨rfl, rfl, rfl⟩ := hcs
    simp only [if_true] at hz
    refine ⟨zs.take len, by simp; omega, .inr ⟨x, rfl, hm, by simp; omega, fun i v hv => ?_⟩, fun n hn => hwz n (List.mem_of_mem_take hn)⟩
    rw [List.getElem?_map, List.getElem?_take] at hv
    split at hv
    · rename_i hi
      have hiz : i < zs.length := by omega
      rw [List.getElem?_eq_getElem hiz, Option.map_some] at hv
      injection hv with hv
      rw [hcell i hiz, ← hv, List.getD_eq_getElem?_getD, List.getElem?_eq_getElem hiz]
      rfl
    · cases hv

/-- Pairs. -/
def pairCells : List (Nat × Int) → List Value
  | [] => []
  | p :: ps => .int .u32 (p.1 : Int) :: .int .i64 p.2 :: pairCells ps
@[simp] theorem pairCells_length (ps : List (Nat × Int)) : (pairCells ps).length = ps.length * 2 := by
  induction ps with
  | nil => rfl
  | cons p ps ih => simp [pairCells, ih]; omega
theorem pairCells_get {ps : List (Nat × Int)} {i : Nat} {p : Nat × Int} (h : ps[i]? = some p) : (pairCells ps)[i * 2]? = some (.int .u32 (p.1 : Int)) ∧ (pairCells ps)[i * 2 + 1]? = some (.int .i64 p.2) := by
  induction ps generalizing i with
  | nil => simp at h
  | cons q ps ih =>
    cases i with
    | zero => simp at h; subst h; simp [pairCells]
    | succ i =>
      have := ih (i := i) (by simpa using h)
      rw [show (i + 1) * 2 = i * 2 + 1 + 1 by omega]
      simpa [pairCells] using this
theorem pairCells_flat (ps : List (Nat × Int)) : ∀ v ∈ pairCells ps, Rlm.flat1 v = true := by
  induction ps with
  | nil => simp [pairCells]
  | cons p ps ih => simpa [pairCells, Rlm.flat1] using ih
theorem ints_flat (k : IntKind) (zs : List Int) : ∀ v ∈ zs.map (Value.int k ·), Rlm.flat1 v = true := by
  intro v hv
  obtain ⟨z, _, rfl⟩ := List.mem_map.1 hv
  rfl

theorem choose_list {α : Type} {n : Nat} {p : Nat → α → Prop} (h : ∀ i, i < n → ∃ x, p i x) : ∃ l : List α, l.length = n ∧ ∀ (i : Nat) (x : α), l[i]? = some x → p i x := by
  induction n with
  | zero => exact ⟨[], rfl, fun i x hx => by simp at hx⟩
  | succ n ih =>
    obtain ⟨l, h1, h2⟩ := ih fun i hi => h i (by omega)
    obtain ⟨x, hx⟩ := h n (by omega)
    refine ⟨l ++ [x], by simp [h1], fun i y hy => ?_⟩
    by_cases hi : i < l.length
    · rw [List.getElem?_append_left hi] at hy
      exact h2 i y hy
    · rw [List.getElem?_append_right (by omega)] at hy
      have : i - l.length = 0 := by
        rcases Nat.eq_zero_or_pos (i - l.length) with h0 | h0
        · exact h0
        · rw [List.getElem?_eq_none (by simp; omega)] at hy; cases hy
      rw [this] at hy
      simp at hy
      subst hy
      rw [show i = n by omega]
      exact hx

theorem wf_u32 {n : Int} (h : (Lit.int .u32 n).wf = true) : ∃ v : Nat, n = v ∧ v < 4294967296 := by
  simp [Lit.wf, IntKind.min, IntKind.max, IntKind.bits, IntKind.signed] at h
  exact ⟨n.toNat, by omega, by omega⟩

theorem open_pairs {H : Type} {enc : TypeId × Value → H} {P : Program} {w : World} {t e : TypeId} {f0 f1 : Field} {a : Option Addr} {len cap : Nat} {d : DataW H} {ps : List MemPlace}
    (ht : P.underlying t = some (.slice e)) (he : P.underlying e = some (.struct #[f0, f1])) (ce : P.cellsOf e = 2) (o0 : f0.offset = 0) (o1 : f1.offset = 1) (c0 : P.cellsOf f0.type = 1) (c1 : P.cellsOf f1.type = 1)
    (u0 : P.underlying f0.type = some (.int .u32)) (u1 : P.underlying f1.type = some (.int .i64)) (hd : DataW.Trod enc P w 0 (fun _ => true) true t (.slice a len cap) d ps) :
    ∃ zs : List (Nat × Int), zs.length = len ∧ IsCells w a len cap 2 (pairCells zs) ∧ ∀ p ∈ zs, p.1 < 4294967296 := by
  obtain ⟨fuel, hf⟩ := hd
  rcases Go.Deep.open_slice_pairs ht he ce o0 o1 c0 c1 hf with ⟨hcs, _⟩ | ⟨x, l, c, m, n, V0, V1, D0, D1, P0, P1, hcs, _, hl, hm, hmm, _, hx⟩
  · simp [Value.cells] at hcs
    obtain ⟨rfl, rfl, rfl⟩ := hcs
    exact ⟨[], rfl, .inl ⟨rfl, rfl, rfl, rfl⟩, fun n hn => by simp at hn⟩
  · simp [Value.cells] at hcs
    obtain ⟨rfl, rfl, rfl⟩ := hcs
    simp only [if_true] at hmm
    subst hmm
    obtain ⟨zs, h1, h2⟩ := choose_list (n := len) (p := fun i (q : Nat × Int) => V0 i = .int .u32 (q.1 : Int) ∧ V1 i = .int .i64 q.2 ∧ q.1 < 4294967296) fun i hi => by
      obtain ⟨g1, g2, g3, g4⟩ := hx i (by omega)
      obtain ⟨n0, e0, _, w0⟩ := DataW.trod_int u0 g3
      obtain ⟨n1, e1, _, w1⟩ := DataW.trod_int u1 g4
      obtain ⟨v, rfl, hv⟩ := wf_u32 w0
      exact ⟨(v, n1), by simpa using e0, by simpa using e1, hv⟩
    refine ⟨zs, h1, .inr ⟨x, rfl, hm, by simp [h1], fun i v hv => ?_⟩, fun p hp => ?_⟩
    · have hi : i < zs.length * 2 := by have := get_lt hv; simpa using this
      have hq : zs[i / 2]? = some zs[i / 2] := List.getElem?_eq_getElem (by omega)
      obtain ⟨q1, q2, _⟩ := h2 _ _ hq
      obtain ⟨r1, r2⟩ := pairCells_get hq
      obtain ⟨g1, g2, _, _⟩ := hx (i / 2) (by omega)
      rcases Nat.mod_two_eq_zero_or_one i with h0 | h0
      · rw [show i / 2 * 2 = i by omega] at r1 g1
        rw [r1] at hv
        injection hv with hv
        rw [g1, q1, hv]
      · rw [show i / 2 * 2 + 1 = i by omega] at r2 g2
        rw [r2] at hv
        injection hv with hv
        rw [g2, q2, hv]
    · obtain ⟨i, hi, rfl⟩ := List.getElem_of_mem hp
      exact (h2 i _ (List.getElem?_eq_getElem hi)).2.2

end Go.Rlm

/- The logical heap: what a step leaves, slices that somebody owns, numbers that fit. No program in sight. -/
import Derived.Test.YtlcchghlhfamjaaRlmBits
namespace Go.Rlm

/-! ### Numbers -/

theorem wI64 {n : Int} (h1 : -9223372036854775808 ≤ n) (h2 : n < 9223372036854775808) : IntKind.wrap .i64 n = n := by
  simp [IntKind.wrap, IntKind.bits, IntKind.signed]
  split <;> omega
theorem wU8 {n : Int} (h1 : 0 ≤ n) (h2 : n < 256) : IntKind.wrap .u8 n = n := by
  simp only [IntKind.wrap, IntKind.bits, IntKind.signed, Bool.false_and, Bool.false_eq_true, if_false]
  have e1 : (2 : Int) ^ 8 = 256 := by decide
  rw [e1]; omega
theorem wU32 {n : Int} (h1 : 0 ≤ n) (h2 : n < 4294967296) : IntKind.wrap .u32 n = n := by
  simp only [IntKind.wrap, IntKind.bits, IntKind.signed, Bool.false_and, Bool.false_eq_true, if_false]
  have e1 : (2 : Int) ^ 32 = 4294967296 := by decide
  rw [e1]; omega
theorem wU64 {n : Int} (h1 : 0 ≤ n) (h2 : n < 18446744073709551616) : IntKind.wrap .u64 n = n := by
  simp only [IntKind.wrap, IntKind.bits, IntKind.signed, Bool.false_and, Bool.false_eq_true, if_false]
  have e1 : (2 : Int) ^ 64 = 18446744073709551616 := by decide
  rw [e1]; omega

theorem wrap_nat {k : IntKind} (hk : k.signed = false) {a : Nat} (ha : a < 2 ^ k.bits) : IntKind.wrap k (a : Int) = a := by
  simp only [IntKind.wrap, hk, Bool.false_and, Bool.false_eq_true, if_false]
  rw [Int.emod_eq_of_lt (by omega)]
  have : ((2 ^ k.bits : Nat) : Int) = (2 : Int) ^ k.bits := by push_cast; rfl
  omega

theorem bitop_or {k : IntKind} (hk : k.signed = false) {a b : Nat} (ha : a < 2 ^ k.bits) (hb : b < 2 ^ k.bits) : bitop .or k (a : Int) (b : Int) = ((a ||| b : Nat) : Int) := by
  simp only [bitop, BitVec.ofInt_natCast, BitVec.toNat_or, BitVec.toNat_ofNat, Nat.mod_eq_of_lt ha, Nat.mod_eq_of_lt hb]
  exact wrap_nat hk (Nat.or_lt_two_pow ha hb)
theorem bitop_and {k : IntKind} (hk : k.signed = false) {a b : Nat} (ha : a < 2 ^ k.bits) (hb : b < 2 ^ k.bits) : bitop .and k (a : Int) (b : Int) = ((a &&& b : Nat) : Int) := by
  simp only [bitop, BitVec.ofInt_natCast, BitVec.toNat_and, BitVec.toNat_ofNat, Nat.mod_eq_of_lt ha, Nat.mod_eq_of_lt hb]
  exact wrap_nat hk (Nat.and_lt_two_pow _ hb)

theorem fdiv_pow (a k : Nat) : Int.fdiv (a : Int) (2 ^ k) = ((a / 2 ^ k : Nat) : Int) := by
  have : ((2 ^ k : Nat) : Int) = (2 : Int) ^ k := by push_cast; rfl
  rw [← this, Int.fdiv_eq_ediv_of_nonneg _ (Int.natCast_nonneg _)]
  rfl
theorem tdiv_nat (a b : Nat) : Int.tdiv (a : Int) (b : Int) = ((a / b : Nat) : Int) := by
  rw [Int.tdiv_eq_ediv_of_nonneg (by omega)]; rfl
theorem tmod_nat (a b : Nat) : Int.tmod (a : Int) (b : Int) = ((a % b : Nat) : Int) := by
  rw [Int.tmod_eq_emod_of_nonneg (by omega)]; rfl

/-! ### Cells -/

@[simp] theorem mk_add (b o n : Nat) : Addr.add ⟨b, o, none⟩ n = ⟨b, o + n, none⟩ := by
  unfold Addr.add
  split
  · rename_i h; subst h; rfl
  · rfl

theorem cell_of {L : LHeap} {b o : Nat} {cs : List Value} {e : TypeId} {ro : Bool} {sp : Nat} (h : L[b]? = some (.cells cs e ro sp)) : cell L ⟨b, o, none⟩ = cs[o]? := by simp [cell, h]
theorem stores_of {L : LHeap} {b o : Nat} {cs vs : List Value} {e : TypeId} {sp : Nat} (h : L[b]? = some (.cells cs e false sp)) (hl : o + vs.length ≤ cs.length) :
    stores L ⟨b, o, none⟩ vs = some (L.set b (.cells (setAll cs o vs) e false sp)) := by
  simp only [stores, h]
  rw [Nat.ble_eq_true_of_le hl]; rfl
theorem idx_of {b o n c i esz : Nat} (h : i < n) : idx ⟨some ⟨b, o, none⟩, n, c⟩ (i : Int) esz = some ⟨b, o + i * esz, none⟩ := by
  simp only [idx]
  rw [show (decide (0 ≤ (i : Int)) && decide ((i : Int) < (n : Int))) = true by simpa using h]
  simp [mk_add]

theorem get_lt {α : Type} {L : List α} {b : Nat} {x : α} (h : L[b]? = some x) : b < L.length := (List.getElem?_eq_some_iff.1 h).1
theorem get_set_ne {L : LHeap} {b c : Nat} {x : LBlk} (h : b ≠ c) : (L.set b x)[c]? = L[c]? := List.getElem?_set_ne h
theorem get_set_self {L : LHeap} {b : Nat} {x y : LBlk} (h : L[b]? = some y) : (L.set b x)[b]? = some x := by
  rw [List.getElem?_set_self (get_lt h)]
theorem get_push {L X : LHeap} {b : Nat} (h : b < L.length) : (L ++ X)[b]? = L[b]? := List.getElem?_append_left h
theorem get_new {L : LHeap} {x : LBlk} : (L ++ [x])[L.length]? = some x := by simp

/-! ### Steps -/

/-- From L to L' by one that owns the blocks F, and then F'. -/
structure Step (F : List Nat) (L : LHeap) (F' : List Nat) (L' : LHeap) : Prop where
  len : L.length ≤ L'.length
  keep : ∀ i, i < L.length → i ∉ F → L'[i]? = L[i]?
  foot : ∀ i ∈ F', i ∈ F ∨ L.length ≤ i

theorem Step.refl (F : List Nat) (L : LHeap) : Step F L F L := ⟨Nat.le_refl _, fun _ _ _ => rfl, fun _ h => .inl h⟩
theorem Step.trans {F F1 F2 : List Nat} {L L1 L2 : LHeap} (h : Step F L F1 L1) (k : Step F1 L1 F2 L2) : Step F L F2 L2 := by
  refine ⟨Nat.le_trans h.len k.len, fun i hi hF => ?_, fun i hi => ?_⟩
  · rw [k.keep i (Nat.lt_of_lt_of_le hi h.len) (fun h1 => by rcases h.foot i h1 with h2 | h2; exact hF h2; omega), h.keep i hi hF]
  · rcases k.foot i hi with h1 | h1
    · exact h.foot i h1
    · exact .inr (Nat.le_trans h.len h1)
theorem Step.mono {F F' G : List Nat} {L L' : LHeap} (h : Step F L F' L') (hG : ∀ i ∈ F, i ∈ G) : Step G L F' L' :=
  ⟨h.len, fun i hi hn => h.keep i hi fun h1 => hn (hG i h1), fun i hi => (h.foot i hi).imp (hG i) id⟩
theorem Step.less {F F' G : List Nat} {L L' : LHeap} (h : Step F L F' L') (hG : ∀ i ∈ G, i ∈ F' ∨ i ∈ F) : Step F L G L' :=
  ⟨h.len, h.keep, fun i hi => (hG i hi).elim (h.foot i) .inl⟩
theorem Step.push (F : List Nat) (L X : LHeap) : Step F L F (L ++ X) := ⟨by simp, fun i hi _ => get_push hi, fun _ h => .inl h⟩
theorem Step.new (F : List Nat) (L : LHeap) (x : LBlk) : Step F L (L.length :: F) (L ++ [x]) :=
  ⟨by simp, fun i hi _ => get_push hi, fun i h => by rcases List.mem_cons.1 h with rfl | h; exact .inr (Nat.le_refl _); exact .inl h⟩
theorem Step.set {F : List Nat} {L : LHeap} {b : Nat} (x : LBlk) (h : b ∈ F) : Step F L F (L.set b x) :=
  ⟨by simp, fun i _ hn => get_set_ne (fun e => hn (e ▸ h)), fun _ h => .inl h⟩

/-- What belongs to another one stays. -/
def Apart (F G : List Nat) : Prop := ∀ i ∈ F, i ∉ G
theorem Apart.symm {F G : List Nat} (h : Apart F G) : Apart G F := fun i hi hf => h i hf hi
def Within (F : List Nat) (L : LHeap) : Prop := ∀ i ∈ F, i < L.length

theorem Step.others {F F' G : List Nat} {L L' : LHeap} (h : Step F L F' L') (hG : Within G L) (ha : Apart F G) : ∀ i ∈ G, L'[i]? = L[i]? :=
  fun i hi => h.keep i (hG i hi) fun hf => ha i hf hi
theorem Step.apart {F F' G : List Nat} {L L' : LHeap} (h : Step F L F' L') (hG : Within G L) (ha : Apart F G) : Apart F' G := by
  intro i hi hg
  rcases h.foot i hi with h1 | h1
  · exact ha i h1 hg
  · have := hG i hg; omega
theorem Step.within {F F' G : List Nat} {L L' : LHeap} (h : Step F L F' L') (hG : Within G L) : Within G L' := fun i hi => Nat.lt_of_lt_of_le (hG i hi) h.len

/-! ### Slices that somebody owns: all of a block's single cells -/

def OS (L : LHeap) (s : Sl) (vs : List Value) (e : TypeId) (F : List Nat) : Prop :=
  (s = ⟨none, 0, 0⟩ ∧ vs = [] ∧ F = []) ∨ ∃ c, s = ⟨some ⟨c, 0, none⟩, vs.length, OPEN⟩ ∧ L[c]? = some (.cells vs e false 1) ∧ F = [c]

theorem OS.nil (L : LHeap) (e : TypeId) : OS L ⟨none, 0, 0⟩ [] e [] := .inl ⟨rfl, rfl, rfl⟩
theorem OS.mono {L L' : LHeap} {s : Sl} {vs : List Value} {e : TypeId} {F : List Nat} (h : OS L s vs e F) (hk : ∀ i ∈ F, L'[i]? = L[i]?) : OS L' s vs e F := by
  rcases h with h | ⟨c, h1, h2, rfl⟩
  · exact .inl h
  · exact .inr ⟨c, h1, by rw [hk c (by simp), h2], rfl⟩
theorem OS.within {L : LHeap} {s : Sl} {vs : List Value} {e : TypeId} {F : List Nat} (h : OS L s vs e F) : Within F L := by
  rcases h with ⟨_, _, rfl⟩ | ⟨c, h1, h2, rfl⟩
  · intro i hi; simp at hi
  · intro i hi; simp at hi; subst hi; exact get_lt h2
theorem OS.len {L : LHeap} {s : Sl} {vs : List Value} {e : TypeId} {F : List Nat} (h : OS L s vs e F) : s.n = vs.length := by
  rcases h with ⟨rfl, rfl, rfl⟩ | ⟨c, rfl, h2, rfl⟩ <;> rfl

theorem blen_of {L : LHeap} {b o : Nat} {cs : List Value} {e : TypeId} {ro : Bool} (h : L[b]? = some (.cells cs e ro 1)) : blen L ⟨b, o, none⟩ 1 = some (cs.length - o) := by
  simp [blen, h]
  rfl

theorem OS.src {L : LHeap} {s : Sl} {vs : List Value} {e : TypeId} {F : List Nat} (h : OS L s vs e F) : srcCells L s s.n 1 = some vs := by
  rcases h with ⟨rfl, rfl, rfl⟩ | ⟨c, rfl, h2, rfl⟩
  · rfl
  · simp only [srcCells]
    cases hv : vs with
    | nil => rfl
    | cons v vs' =>
      rw [hv] at h2
      simp only [List.length_cons, show Nat.beq (vs'.length + 1) 0 = false from rfl, cond_false]
      simp [cellsAt, h2, Nat.ble_eq_true_of_le]

theorem OS.app {L : LHeap} {s : Sl} {vs : List Value} {e : TypeId} {F : List Nat} (h : OS L s vs e F) (news : List Value) (bytes : Nat)
    (hb : (vs.length + news.length) * bytes ≤ 2 ^ 47) (hl : vs.length + news.length ≤ 2 ^ 62) :
    ∃ s' L' F', Rlm.app L e 1 bytes s news.length news = some (s', L') ∧ OS L' s' (vs ++ news) e F' ∧ Step F L F' L' := by
  rcases h with ⟨rfl, rfl, rfl⟩ | ⟨c, rfl, h2, rfl⟩
  · cases news with
    | nil => exact ⟨⟨none, 0, 0⟩, L, [], rfl, .inl ⟨rfl, rfl, rfl⟩, .refl _ _⟩
    | cons x xs =>
      refine ⟨⟨some ⟨L.length, 0, none⟩, xs.length + 1, OPEN⟩, L ++ [.cells (x :: xs) e false 1], [L.length], ?_, .inr ⟨L.length, by simp, by simp, rfl⟩, .new [] L _⟩
      simp only [Rlm.app, List.length_cons, Nat.zero_add]
      rw [show Nat.blt 0 OPEN = true from rfl, show Nat.ble (xs.length + 1) 0 = false from rfl]
      simp only [List.length_nil, List.length_cons, Nat.zero_add] at hb hl
      rw [Nat.ble_eq_true_of_le hb, Nat.ble_eq_true_of_le hl]
      simp [srcCells]
  · have hbl := blen_of (o := 0) h2
    simp only [Rlm.app]
    rw [show Nat.blt OPEN OPEN = false by decide, show Nat.beq OPEN OPEN = true from Nat.beq_refl _]
    simp only [cond_true, cond_false, hbl, Nat.sub_zero]
    cases news with
    | nil =>
      refine ⟨⟨some ⟨c, 0, none⟩, vs.length, OPEN⟩, L, [c], ?_, .inr ⟨c, by simp, by simpa using h2, rfl⟩, .refl _ _⟩
      simp [Nat.ble_eq_true_of_le]
    | cons x xs =>
      refine ⟨⟨some ⟨L.length, 0, none⟩, vs.length + (xs.length + 1), OPEN⟩, L.set c .dead ++ [.cells (vs ++ x :: xs) e false 1], [L.length], ?_, .inr ⟨L.length, by simp, by rw [← List.length_set (as := L) (i := c) (a := .dead)]; exact get_new, rfl⟩, ?_⟩
      · simp only [List.length_cons] at hb hl ⊢
        have hf : Nat.ble (vs.length + (xs.length + 1)) vs.length = false := by
          cases hc : Nat.ble (vs.length + (xs.length + 1)) vs.length with
          | false => rfl
          | true => have := Nat.le_of_ble_eq_true hc; omega
        rw [hf, Nat.ble_eq_true_of_le hb, Nat.ble_eq_true_of_le hl]
        simp [h2, Nat.ble_eq_true_of_le]
      · refine ⟨by simp, fun i hi hn => ?_, fun i hi => by simp at hi; subst hi; exact .inr (Nat.le_refl _)⟩
        rw [get_push (by simpa using hi), get_set_ne (fun e => hn (by simp [e]))]

/-- A cell of it. -/
theorem OS.get {L : LHeap} {s : Sl} {vs : List Value} {e : TypeId} {F : List Nat} (h : OS L s vs e F) {i : Nat} {v : Value} (hv : vs[i]? = some v) :
    ∃ a, idx s (i : Int) 1 = some a ∧ cell L a = some v := by
  rcases h with ⟨rfl, rfl, rfl⟩ | ⟨c, rfl, h2, rfl⟩
  · simp at hv
  · refine ⟨⟨c, 0 + i * 1, none⟩, idx_of (get_lt hv), ?_⟩
    rw [cell_of h2]; simpa using hv

/-- A cell is written. -/
theorem OS.put {L : LHeap} {s : Sl} {vs : List Value} {e : TypeId} {F : List Nat} (h : OS L s vs e F) {i : Nat} (hi : i < vs.length) (v : Value) :
    ∃ a L', idx s (i : Int) 1 = some a ∧ stores L a [v] = some L' ∧ OS L' s (vs.set i v) e F ∧ Step F L F L' := by
  rcases h with ⟨rfl, rfl, rfl⟩ | ⟨c, rfl, h2, rfl⟩
  · simp at hi
  · refine ⟨⟨c, 0 + i * 1, none⟩, _, idx_of hi, stores_of h2 (by simp; omega), .inr ⟨c, by simp, ?_, rfl⟩, .set _ (by simp)⟩
    rw [get_set_self h2]; simp [setAll]

/-! ### Bytes -/
def bV (n : Nat) : Value := .int .u8 n

theorem toBytes_of (vs : List Nat) (hb : ∀ n ∈ vs, n < 256) (acc : ByteArray) : toBytes (vs.map bV) acc = some ⟨acc.data ++ (vs.map UInt8.ofNat).toArray⟩ := by
  induction vs generalizing acc with
  | nil => simp [toBytes]
  | cons v vs ih =>
    simp only [List.map_cons, bV, toBytes]
    have := ih (fun n hn => hb n (by simp [hn])) (acc.push (UInt8.ofNat v))
    rw [show (v : Int).toNat = v from rfl, this]
    simp [ByteArray.push]

theorem OS.bytes {L : LHeap} {s : Sl} {vs : List Nat} {e : TypeId} {F : List Nat} (h : OS L s (vs.map bV) e F) (hb : ∀ n ∈ vs, n < 256) : bytesOf L s = some (strOf vs) := by
  simp only [bytesOf, h.src, Option.bind_eq_bind, Option.bind_some, toBytes_of vs hb]
  simp [strOf, ByteArray.empty, ByteArray.emptyWithCapacity]
  rfl

theorem Packs.small {vs : List Nat} {bs : List Bool} (h : Packs vs bs) : ∀ n ∈ vs, n < 256 := by
  intro n hn
  obtain ⟨i, hi, rfl⟩ := List.getElem_of_mem hn
  have := (h.2 i hi).1
  rwa [List.getD_eq_getElem?_getD, List.getElem?_eq_getElem hi] at this

end Go.Rlm

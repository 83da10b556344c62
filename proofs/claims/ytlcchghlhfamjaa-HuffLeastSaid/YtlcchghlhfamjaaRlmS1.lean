/- How the logical machine's values and blocks stand to the model's: the relation, loads, stores, new blocks. -/
import Derived.Test.YtlcchghlhfamjaaRlmC
import Derived.WalkKit
namespace Go.Rlm

/-- Where a block lies: the model's block, where it begins in it, how many cells that block has, how many cells an element takes. -/
structure Info where
  blk : Nat
  base : Nat
  top : Nat
  esz : Nat

abbrev RMap := Nat → Option Info
def Info.at (i : Info) (a : Addr) : Addr := ⟨i.blk, i.base + a.off, a.spot⟩

mutual
inductive VR (m : RMap) : Value → Value → Prop
  | flat1 {v} (h : flat1 v = true) : VR m v v
  | ptr {a i} (h : m a.block = some i) : VR m (.pointer (some a)) (.pointer (some (i.at a)))
  | slice {a n c i} (h : m a.block = some i) (hc : c < OPEN) : VR m (.slice (some a) n c) (.slice (some (i.at a)) n c)
  | opn {a n i} (h : m a.block = some i) : VR m (.slice (some a) n OPEN) (.slice (some (i.at a)) n ((i.top - a.off) / i.esz))
  | loose {a a' c'} : VR m (.slice (some a) 0 LOOSE) (.slice (some a') 0 c')
  | map {r i} (h : m r = some i) : VR m (.map (some r)) (.map (some i.blk))
  | func {f as as' bs bs'} (h1 : VRs m as as') (h2 : VRs m bs bs') : VR m (.func f ⟨as⟩ ⟨bs⟩) (.func f ⟨as'⟩ ⟨bs'⟩)
  | iface {t v v'} (h : VR m v v') : VR m (.iface t v) (.iface t v')
  | agg {cs cs'} (h : VRs m cs cs') (ho : ∀ v ∈ cs, one v = true) : VR m (.agg ⟨cs⟩) (.agg ⟨cs'⟩)
  | tuple {cs cs'} (h : VRs m cs cs') : VR m (.tuple ⟨cs⟩) (.tuple ⟨cs'⟩)
inductive VRs (m : RMap) : List Value → List Value → Prop
  | nil : VRs m [] []
  | cons {v v' vs vs'} (h : VR m v v') (hs : VRs m vs vs') : VRs m (v :: vs) (v' :: vs')
end

def MExt (m m' : RMap) : Prop := ∀ r i, m r = some i → m' r = some i
theorem MExt.refl (m : RMap) : MExt m m := fun _ _ h => h
theorem MExt.trans {a b c : RMap} (h : MExt a b) (k : MExt b c) : MExt a c := fun r i x => k r i (h r i x)

mutual
theorem VR.mono {m m' : RMap} (hm : MExt m m') {v v' : Value} (h : VR m v v') : VR m' v v' := by
  cases h with
  | flat1 h => exact .flat1 h
  | ptr h => exact .ptr (hm _ _ h)
  | slice h hc => exact .slice (hm _ _ h) hc
  | opn h => exact .opn (hm _ _ h)
  | loose => exact .loose
  | map h => exact .map (hm _ _ h)
  | func h1 h2 => exact .func (VRs.mono hm h1) (VRs.mono hm h2)
  | iface h => exact .iface (VR.mono hm h)
  | agg h ho => exact .agg (VRs.mono hm h) ho
  | tuple h => exact .tuple (VRs.mono hm h)
theorem VRs.mono {m m' : RMap} (hm : MExt m m') {v v' : List Value} (h : VRs m v v') : VRs m' v v' := by
  cases h with
  | nil => exact .nil
  | cons h hs => exact .cons (VR.mono hm h) (VRs.mono hm hs)
end

/-! ### Lists -/
section
variable {m : RMap}

theorem VRs.length {vs vs' : List Value} (h : VRs m vs vs') : vs'.length = vs.length := by
  induction vs generalizing vs' with
  | nil => cases h; rfl
  | cons v vs ih => cases h with | cons h hs => simp [ih hs]

theorem VRs.get {vs vs' : List Value} (h : VRs m vs vs') {j : Nat} {v : Value} (hv : vs[j]? = some v) : ∃ v', vs'[j]? = some v' ∧ VR m v v' := by
  induction vs generalizing vs' j with
  | nil => simp at hv
  | cons x vs ih =>
    cases h with
    | cons h hs =>
      cases j with
      | zero => simp at hv; subst hv; exact ⟨_, by simp, h⟩
      | succ j => simp at hv; simpa using ih hs hv

theorem VRs.of_get {vs : List Value} : ∀ {vs' : List Value}, vs'.length = vs.length → (∀ (j : Nat) (v : Value), vs[j]? = some v → ∃ v', vs'[j]? = some v' ∧ VR m v v') → VRs m vs vs' := by
  induction vs with
  | nil => intro vs' hl _; have : vs' = [] := List.eq_nil_of_length_eq_zero (by simpa using hl); subst this; exact .nil
  | cons v vs ih =>
    intro vs' hl h
    cases vs' with
    | nil => simp at hl
    | cons v' vs' =>
      refine .cons ?_ (ih (by simpa using hl) fun j u hu => ?_)
      · obtain ⟨x, h1, h2⟩ := h 0 v (by simp)
        simp at h1; subst h1; exact h2
      · have := h (j + 1) u (by simpa using hu)
        simpa using this

theorem VRs.append {a a' b b' : List Value} (h : VRs m a a') (k : VRs m b b') : VRs m (a ++ b) (a' ++ b') := by
  induction a generalizing a' with
  | nil => cases h; exact k
  | cons v a ih => cases h with | cons h hs => exact .cons h (ih hs)

theorem VRs.take {a a' : List Value} (n : Nat) (h : VRs m a a') : VRs m (a.take n) (a'.take n) := by
  induction n generalizing a a' with
  | zero => simp; exact .nil
  | succ n ih => cases h with
    | nil => simp; exact .nil
    | cons h hs => simp; exact .cons h (ih hs)

theorem VRs.drop {a a' : List Value} (n : Nat) (h : VRs m a a') : VRs m (a.drop n) (a'.drop n) := by
  induction n generalizing a a' with
  | zero => simpa using h
  | succ n ih => cases h with
    | nil => simp; exact .nil
    | cons h hs => simp; exact ih hs

theorem VRs.flat {vs : List Value} (h : ∀ v ∈ vs, flat1 v = true) : VRs m vs vs := by
  induction vs with
  | nil => exact .nil
  | cons v vs ih => exact .cons (.flat1 (h v (by simp))) (ih fun u hu => h u (by simp [hu]))

theorem VR.one_eq {v v' : Value} (h : VR m v v') : one v' = one v := by cases h <;> rfl

theorem VRs.ones {vs vs' : List Value} (h : VRs m vs vs') (ho : ∀ v ∈ vs, one v = true) : ∀ v ∈ vs', one v = true := by
  induction vs generalizing vs' with
  | nil => cases h; simp
  | cons v vs ih =>
    cases h with
    | cons h hs =>
      intro u hu
      rcases List.mem_cons.1 hu with rfl | hu
      · rw [VR.one_eq h]; exact ho _ (by simp)
      · exact ih hs (fun x hx => ho x (by simp [hx])) u hu

theorem one_of_flat1 {v : Value} (h : Rlm.flat1 v = true) : one v = true := by cases v <;> simp_all [Rlm.flat1, one]

theorem VR.flat {v : Value} (h : Rlm.flat v = true) : VR m v v := by
  cases v <;> first | exact .flat1 h | skip
  case agg cs =>
    have : ∀ v ∈ cs.toList, Rlm.flat1 v = true := List.all_eq_true.1 h
    have e : (Value.agg cs) = .agg ⟨cs.toList⟩ := rfl
    rw [e]
    exact .agg (VRs.flat this) fun v hv => one_of_flat1 (this v hv)
end

/-! ### What is known of a value's kind -/
section
variable {m : RMap} {v' : Value}
theorem VR.of_int {k : IntKind} {n : Int} (h : VR m (.int k n) v') : v' = .int k n := by cases h; rfl
theorem VR.of_bool {b : Bool} (h : VR m (.bool b) v') : v' = .bool b := by cases h; rfl
theorem VR.of_string {s : ByteArray} (h : VR m (.string s) v') : v' = .string s := by cases h; rfl
theorem VR.of_nilPtr (h : VR m (.pointer none) v') : v' = .pointer none := by cases h; rfl
theorem VR.of_ptr {a : Addr} (h : VR m (.pointer (some a)) v') : ∃ i, m a.block = some i ∧ v' = .pointer (some (i.at a)) := by
  cases h with
  | flat1 h => simp [Rlm.flat1] at h
  | ptr h => exact ⟨_, h, rfl⟩
theorem VR.of_nilSlice {n c : Nat} (h : VR m (.slice none n c) v') : v' = .slice none n c := by cases h; rfl
theorem VR.of_slice {a : Addr} {n c : Nat} (h : VR m (.slice (some a) n c) v') :
    (c < OPEN ∧ ∃ i, m a.block = some i ∧ v' = .slice (some (i.at a)) n c) ∨ (c = OPEN ∧ ∃ i, m a.block = some i ∧ v' = .slice (some (i.at a)) n ((i.top - a.off) / i.esz)) ∨
    (c = LOOSE ∧ n = 0 ∧ ∃ a' c', v' = .slice (some a') 0 c') := by
  cases h with
  | flat1 h => simp [Rlm.flat1] at h
  | slice h hc => exact .inl ⟨hc, _, h, rfl⟩
  | opn h => exact .inr (.inl ⟨rfl, _, h, rfl⟩)
  | loose => exact .inr (.inr ⟨rfl, rfl, _, _, rfl⟩)
theorem VR.of_agg {cs : Array Value} (h : VR m (.agg cs) v') : ∃ cs', v' = .agg cs' ∧ VRs m cs.toList cs'.toList ∧ ∀ v ∈ cs.toList, one v = true := by
  cases h with
  | flat1 h => simp [Rlm.flat1] at h
  | agg h ho => exact ⟨_, rfl, h, ho⟩
theorem VR.of_tuple {cs : Array Value} (h : VR m (.tuple cs) v') : ∃ cs', v' = .tuple cs' ∧ VRs m cs.toList cs'.toList := by
  cases h with
  | flat1 h => simp [Rlm.flat1] at h
  | tuple h => exact ⟨_, rfl, h⟩
theorem VR.of_func {f : Fn} {a b : Array Value} (h : VR m (.func f a b) v') : ∃ a' b', v' = .func f a' b' ∧ VRs m a.toList a'.toList ∧ VRs m b.toList b'.toList := by
  cases h with
  | flat1 h => simp [Rlm.flat1] at h
  | func h1 h2 => exact ⟨_, _, rfl, h1, h2⟩
theorem VR.of_iface {t : TypeId} {v : Value} (h : VR m (.iface t v) v') : ∃ u, v' = .iface t u ∧ VR m v u := by
  cases h with
  | flat1 h => simp [Rlm.flat1] at h
  | iface h => exact ⟨_, rfl, h⟩
theorem VR.undef : VR m (.tuple #[]) undef := VR.tuple (cs := []) (cs' := []) .nil
end

/-! ### Blocks -/

def own (L : LHeap) (r : Nat) : Prop := ∃ cs e sp, L[r]? = some (.cells cs e false sp)
def live (L : LHeap) (r : Nat) : Prop := ∃ cs e ro sp, L[r]? = some (.cells cs e ro sp)

theorem own.live {L : LHeap} {r : Nat} (h : own L r) : live L r := let ⟨cs, e, sp, h⟩ := h; ⟨cs, e, false, sp, h⟩

/-- A block's cells as the model has them. -/
structure Row (P : Program) (m : RMap) (w : World) (i : Info) (cs : List Value) (e : TypeId) (ro : Bool) (sp : Nat) : Prop where
  there : ∃ cp e' fz, w.heap[i.blk]? = some (.cells cp e' fz) ∧ (∀ (j : Nat) (v : Value), cs[j]? = some v → ∃ v', cp[i.base + j]? = some v' ∧ VR m v v') ∧
    (ro = false → i.base = 0 ∧ e' = e ∧ ∀ o, o < cp.size → ¬ (fz.1 ≤ o ∧ o < fz.2)) ∧ (sp ≠ 0 → ro = false ∧ i.top = cp.size ∧ i.esz = sp ∧ sp = P.cellsOf e)
  ones : ∀ v ∈ cs, one v = true

structure Rep (P : Program) (m : RMap) (L : LHeap) (w : World) : Prop where
  fresh : ∀ r, L.length ≤ r → m r = none
  row : ∀ r cs e ro sp, L[r]? = some (.cells cs e ro sp) → ∃ i, m r = some i ∧ Row P m w i cs e ro sp
  sep : ∀ r r' i i', own L r → live L r' → r ≠ r' → m r = some i → m r' = some i' → i.blk ≠ i'.blk

/-- What a run may have done: the blocks that were there and not the machine's own are as they were. -/
structure Tr (m : RMap) (L : LHeap) (w : World) (m' : RMap) (L' : LHeap) (w' : World) : Prop where
  ext : MExt m m'
  len : L.length ≤ L'.length
  size : w.heap.size ≤ w'.heap.size
  os : w'.os = w.os
  tape : w'.tape = w.tape
  output : w'.output = w.output
  foot : ∀ r i, own L' r → m' r = some i → (∃ r0 i0, own L r0 ∧ m r0 = some i0 ∧ i0.blk = i.blk) ∨ w.heap.size ≤ i.blk
  frame : ∀ b, b < w.heap.size → (∀ r i, own L r → m r = some i → i.blk ≠ b) → w'.heap[b]? = w.heap[b]?

theorem Tr.refl (m : RMap) (L : LHeap) (w : World) : Tr m L w m L w :=
  ⟨.refl m, Nat.le_refl _, Nat.le_refl _, rfl, rfl, rfl, fun r i ho hm => .inl ⟨r, i, ho, hm, rfl⟩, fun _ _ _ => rfl⟩

theorem Tr.trans {m L w m1 L1 w1 m2 L2 w2} (h : Tr m L w m1 L1 w1) (k : Tr m1 L1 w1 m2 L2 w2) : Tr m L w m2 L2 w2 := by
  refine ⟨h.ext.trans k.ext, Nat.le_trans h.len k.len, Nat.le_trans h.size k.size, k.os.trans h.os, k.tape.trans h.tape, k.output.trans h.output, fun r i ho hm => ?_, fun b hb hn => ?_⟩
  · rcases k.foot r i ho hm with ⟨r0, i0, h0, h1, h2⟩ | h0
    · rcases h.foot r0 i0 h0 h1 with ⟨q, j, h3, h4, h5⟩ | h3
      · exact .inl ⟨q, j, h3, h4, h5.trans h2⟩
      · exact .inr (h2 ▸ h3)
    · exact .inr (Nat.le_trans h.size h0)
  · refine (k.frame b (Nat.lt_of_lt_of_le hb h.size) fun r i ho hm e => ?_).trans (h.frame b hb hn)
    rcases h.foot r i ho hm with ⟨q, j, h3, h4, h5⟩ | h3
    · exact hn q j h3 h4 (h5.trans e)
    · omega

theorem Tr.drew {m L w m' L' w'} (h : Tr m L w m' L' w') : Tr m L w m' L' { w' with drawn := w'.drawn + 1 } :=
  ⟨h.ext, h.len, h.size, h.os, h.tape, h.output, h.foot, h.frame⟩

theorem Rep.drew {P : Program} {m L w} (h : Rep P m L w) (n : Nat) : Rep P m L { w with drawn := n } :=
  ⟨h.fresh, fun r cs e ro sp hr => let ⟨i, h1, h2⟩ := h.row r cs e ro sp hr; ⟨i, h1, ⟨h2.there, h2.ones⟩⟩, h.sep⟩

/-! ### Loads -/

theorem at_add (i : Info) (a : Addr) (n : Nat) : (i.at a).add n = i.at (a.add n) := by
  unfold Addr.add Info.at
  split
  · rfl
  · simp [Nat.add_assoc]

theorem add_block (a : Addr) (n : Nat) : (a.add n).block = a.block := by unfold Addr.add; split <;> rfl

theorem cell_spot {L : LHeap} {a : Addr} {v : Value} (h : cell L a = some v) : a.spot = none := by
  unfold cell at h; split at h <;> simp_all

theorem Rep.cell {P : Program} {m L w} (h : Rep P m L w) {a : Addr} {v : Value} (hc : cell L a = some v) :
    ∃ i v', m a.block = some i ∧ w.cell? (i.at a) = some v' ∧ VR m v v' ∧ one v = true := by
  have hs := cell_spot hc
  unfold Rlm.cell at hc
  rw [hs] at hc
  simp only at hc
  split at hc
  case h_2 => cases hc
  rename_i cs e ro sp hr
  obtain ⟨i, hm, hrow⟩ := h.row _ _ _ _ _ hr
  obtain ⟨cp, e', fz, hh, hv, _⟩ := hrow.there
  obtain ⟨v', h1, h2⟩ := hv _ _ hc
  refine ⟨i, v', hm, ?_, h2, hrow.ones v (List.mem_of_getElem? hc)⟩
  simp [World.cell?, Info.at, hh, hs, h1]

/-- cells one by one -/
theorem cellsAt_cell {L : LHeap} {a : Addr} {n : Nat} {cs : List Value} (h : cellsAt L a n = some cs) :
    cs.length = n ∧ ∀ (j : Nat) (v : Value), cs[j]? = some v → cell L (addrN a j) = some v := by
  unfold cellsAt at h
  split at h
  · cases h
  split at h
  case h_2 => cases h
  rename_i hs _ xs e ro sp hr
  simp only [hif_eq, cond_eq_ite] at h
  split at h
  case isFalse => cases h
  rename_i hle
  simp only [Nat.ble_eq] at hle
  injection h with h
  subst h
  refine ⟨by simp; omega, fun j v hv => ?_⟩
  have hj : j < n := by
    rcases Nat.lt_or_ge j n with h | h
    · exact h
    · rw [List.getElem?_take, if_neg (by omega)] at hv; cases hv
  rw [List.getElem?_take, if_pos hj, List.getElem?_drop] at hv
  simp [cell, addrN, hr, hv]

theorem cellsAt_spot {L : LHeap} {a : Addr} {n : Nat} {cs : List Value} (h : cellsAt L a n = some cs) : a.spot = none := by
  unfold cellsAt at h; split at h <;> simp_all

theorem addrN_add {a : Addr} (h : a.spot = none) (n : Nat) : a.add n = addrN a n := by
  unfold Addr.add addrN
  split
  · rename_i hn; subst hn; cases a; simp_all
  · rfl

/-- Many cells. -/
theorem Rep.cells {P : Program} {m L w} (h : Rep P m L w) {a : Addr} {i : Info} (hi : m a.block = some i) {cs : List Value}
    (hc : ∀ (j : Nat) (v : Value), cs[j]? = some v → Rlm.cell L (a.add j) = some v) :
    ∃ cs', (loadCells (i.at a) cs.length).run P w = .ok ⟨cs'⟩ w ∧ VRs m cs cs' ∧ ∀ v ∈ cs, one v = true := by
  have key : ∀ j (hj : j < cs.length), ∃ v', w.cell? ((i.at a).add j) = some v' ∧ VR m cs[j] v' ∧ one cs[j] = true := fun j hj => by
    obtain ⟨i', v', h1, h2, h3, h4⟩ := h.cell (hc j cs[j] (by simp [hj]))
    rw [add_block, hi] at h1
    injection h1 with h1; subst h1
    exact ⟨v', by rw [at_add]; exact h2, h3, h4⟩
  let cs' : List Value := (List.range cs.length).map fun j => (w.cell? ((i.at a).add j)).getD undef
  have hget : ∀ (j : Nat) (v : Value), cs'[j]? = some v → w.cell? ((i.at a).add j) = some v := fun j v hv => by
    have hj : j < cs.length := by
      have := (List.getElem?_eq_some_iff.1 hv).1
      simpa [cs'] using this
    obtain ⟨v', h1, _⟩ := key j hj
    simp [cs', hj, h1] at hv
    rw [h1, hv]
  have hlen : cs'.length = cs.length := by simp [cs']
  refine ⟨cs', ?_, ?_, ?_⟩
  · have := run_loadCells_list (P := P) (w := w) (i.at a) cs' hget
    rw [hlen] at this
    exact this
  · refine VRs.of_get hlen fun j v hv => ?_
    have hj := (List.getElem?_eq_some_iff.1 hv).1
    have hv2 := (List.getElem?_eq_some_iff.1 hv).2
    obtain ⟨v', h1, h2, _⟩ := key j hj
    exact ⟨v', by simp [cs', hj, h1], hv2 ▸ h2⟩
  · intro v hv
    obtain ⟨j, hj, e⟩ := List.getElem_of_mem hv
    obtain ⟨_, _, _, h4⟩ := key j hj
    exact e ▸ h4

end Go.Rlm

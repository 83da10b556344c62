/- The logical machine, its likeness to the model, and the contracts of the functions that the law calls. Printed by pack.py, a program of this work, out of its texts; what the law does not use is left out. -/
import Derived.Test.YtffcfaabjodpcaaDoorSliceTellsM3
import Derived.Test.YtffcfaabjodpcaaDoorProg
import Derived.KernelRfl
section
set_option maxRecDepth 100000
set_option linter.unusedVariables false
namespace Go.Proofs.YtffcfaabjodpcaaDoor.W
open Go Go.Rlm
/-- hamper/hamperlaw26.SliceTells -/
noncomputable def f3 (k : Nat) (s0 : ByteArray) (n1 : Int) (n2 : Int) (n3 : Int) (n4 : Int) (n5 : Int) (l6 : Sl) (L : LHeap) : R :=
  lcall Tryd.prog T k 3
  [Value.string s0, Value.int IntKind.i64 n1, Value.agg #[Value.int IntKind.i64 n2, Value.int IntKind.i64 n3, Value.int IntKind.i64 n4, Value.int IntKind.i64 n5], Value.slice l6.a l6.n l6.c] L
/-- slots 0, 1, 3, 6, 9 -/
noncomputable def f3_l4 (k : Nat) (j4 : Nat) (s82 : ByteArray) (n83 : Int) (l84 : Sl) (r85 : Nat) (n86 : Int) (L : LHeap) : R :=
  loopAt Tryd.prog T 3 k [1, 1, 0, 1, 0] [] j4
  [(0, Value.string s82), (1, Value.int IntKind.i64 n83), (3, Value.slice l84.a l84.n l84.c), (6, Value.pointer (some (Addr.mk r85 0 none))), (9, Value.int IntKind.i64 n86)] L
theorem f3_eq (k : Nat) (s0 : ByteArray) (n1 : Int) (n2 : Int) (n3 : Int) (n4 : Int) (n5 : Int) (l6 : Sl) (L : LHeap) : f3 (k + 1) s0 n1 n2 n3 n4 n5 l6 L =
 lif (decide ((↑(ByteArray.size s0) : Int) > 3000))
 (some (LR.ret (Value.bool true) (L ++ [LBlk.cells [Value.int IntKind.i64 n2, Value.int IntKind.i64 n3, Value.int IntKind.i64 n4, Value.int IntKind.i64 n5] 23 false 0])))
 (lbind
 (lcall Tryd.prog T k 9 [Value.slice l6.a l6.n l6.c]
 (L ++ [LBlk.cells [Value.int IntKind.i64 n2, Value.int IntKind.i64 n3, Value.int IntKind.i64 n4, Value.int IntKind.i64 n5] 23 false 0]))
 fun v7 L8 => obind (asB v7) fun b9 => lif b9 (some (LR.ret (Value.bool true) L8)) (f3_l4 k k s0 n1 l6 (List.length L) 0 L8)) := by kernel_rfl
theorem f3_l4_eq (k : Nat) (j4 : Nat) (s0 : ByteArray) (n1 : Int) (l2 : Sl) (r3 : Nat) (n4 : Int) (L : LHeap) : f3_l4 k (j4 + 1) s0 n1 l2 r3 n4 L =
 lif (decide (n4 < 2))
 (obind (Option.bind (cell L (Addr.add (Addr.mk r3 0 none) 0)) (asI IntKind.i64)) fun n5 =>
 obind (Option.bind (cell L (Addr.add (Addr.mk r3 0 none) 1)) (asI IntKind.i64)) fun n6 =>
 obind (Option.bind (cell L (Addr.add (Addr.mk r3 0 none) 2)) (asI IntKind.i64)) fun n7 =>
 obind (Option.bind (cell L (Addr.add (Addr.mk r3 0 none) 3)) (asI IntKind.i64)) fun n8 =>
 lbind
 (lcall Tryd.prog T k 11
 [Value.string s0, Value.agg #[Value.int IntKind.i64 n5, Value.int IntKind.i64 n6, Value.int IntKind.i64 n7, Value.int IntKind.i64 n8]] L)
 fun v9 L10 =>
 obind (tupL v9) fun x11 =>
 uncons x11 fun v12 vs13 =>
 obind (asSl v12) fun l14 =>
 uncons vs13 fun v15 vs16 =>
 obind (asI IntKind.i64 v15) fun n17 =>
 nilL vs16
 (obind (Option.bind (cell L10 (Addr.add (Addr.mk r3 0 none) 0)) (asI IntKind.i64)) fun n18 =>
 obind (Option.bind (cell L10 (Addr.add (Addr.mk r3 0 none) 1)) (asI IntKind.i64)) fun n19 =>
 obind (Option.bind (cell L10 (Addr.add (Addr.mk r3 0 none) 2)) (asI IntKind.i64)) fun n20 =>
 obind (Option.bind (cell L10 (Addr.add (Addr.mk r3 0 none) 3)) (asI IntKind.i64)) fun n21 =>
 lbind
 (lcall Tryd.prog T k 12
 [Value.string s0, Value.agg #[Value.int IntKind.i64 n18, Value.int IntKind.i64 n19, Value.int IntKind.i64 n20, Value.int IntKind.i64 n21]] L10)
 fun v22 L23 =>
 obind (tupL v22) fun x24 =>
 uncons x24 fun v25 vs26 =>
 obind (asSl v25) fun l27 =>
 uncons vs26 fun v28 vs29 =>
 obind (asI IntKind.i64 v28) fun n30 =>
 nilL vs29
 (lif (n17 != n30) (some (LR.ret (Value.bool false) L23))
 (lbind (lcall Tryd.prog T k 13 [Value.slice l14.a l14.n l14.c, Value.slice l27.a l27.n l27.c] L23) fun v31 L32 =>
 obind (asB v31) fun b33 =>
 lif (!b33) (some (LR.ret (Value.bool false) L32))
 (lbind (lcall Tryd.prog T k 14 [Value.slice l14.a l14.n l14.c] L32) fun v34 L35 =>
 f3_l4 k j4 s0 n1 l2 r3 (IntKind.wrap IntKind.i64 (n4 + 1)) L35)))))
 (obind (Option.bind (cell L (Addr.add (Addr.mk r3 0 none) 0)) (asI IntKind.i64)) fun n36 =>
 obind (Option.bind (cell L (Addr.add (Addr.mk r3 0 none) 1)) (asI IntKind.i64)) fun n37 =>
 obind (Option.bind (cell L (Addr.add (Addr.mk r3 0 none) 2)) (asI IntKind.i64)) fun n38 =>
 obind (Option.bind (cell L (Addr.add (Addr.mk r3 0 none) 3)) (asI IntKind.i64)) fun n39 =>
 when (decide (n1 < 9223372036854775808))
 (obind (Option.bind (cell L (Addr.add (Addr.mk r3 0 none) 0)) (asI IntKind.i64)) fun n40 =>
 obind (Option.bind (cell L (Addr.add (Addr.mk r3 0 none) 1)) (asI IntKind.i64)) fun n41 =>
 obind (Option.bind (cell L (Addr.add (Addr.mk r3 0 none) 2)) (asI IntKind.i64)) fun n42 =>
 obind (Option.bind (cell L (Addr.add (Addr.mk r3 0 none) 3)) (asI IntKind.i64)) fun n43 =>
 when (decide (n1 < 9223372036854775808))
 (obind (Option.bind (cell L (Addr.add (Addr.mk r3 0 none) 0)) (asI IntKind.i64)) fun n44 =>
 obind (Option.bind (cell L (Addr.add (Addr.mk r3 0 none) 1)) (asI IntKind.i64)) fun n45 =>
 obind (Option.bind (cell L (Addr.add (Addr.mk r3 0 none) 2)) (asI IntKind.i64)) fun n46 =>
 obind (Option.bind (cell L (Addr.add (Addr.mk r3 0 none) 3)) (asI IntKind.i64)) fun n47 =>
 lbind
 (lcall Tryd.prog T k 17
 [Value.slice l2.a l2.n l2.c, Value.agg #[Value.int IntKind.i64 n44, Value.int IntKind.i64 n45, Value.int IntKind.i64 n46, Value.int IntKind.i64 n47]] L)
 fun v48 L49 =>
 obind (tupL v48) fun x50 =>
 uncons x50 fun v51 vs52 =>
 obind (asS v51) fun s53 =>
 uncons vs52 fun v54 vs55 =>
 obind (asI IntKind.i64 v54) fun n56 =>
 nilL vs55
 (obind (Option.bind (cell L49 (Addr.add (Addr.mk r3 0 none) 0)) (asI IntKind.i64)) fun n57 =>
 obind (Option.bind (cell L49 (Addr.add (Addr.mk r3 0 none) 1)) (asI IntKind.i64)) fun n58 =>
 obind (Option.bind (cell L49 (Addr.add (Addr.mk r3 0 none) 2)) (asI IntKind.i64)) fun n59 =>
 obind (Option.bind (cell L49 (Addr.add (Addr.mk r3 0 none) 3)) (asI IntKind.i64)) fun n60 =>
 lbind
 (lcall Tryd.prog T k 18
 [Value.slice l2.a l2.n l2.c,
 Value.agg #[Value.int IntKind.i64 n57, Value.int IntKind.i64 n58, Value.int IntKind.i64 n59, Value.int IntKind.i64 n60]]
 L49)
 fun v61 L62 =>
 obind (tupL v61) fun x63 =>
 uncons x63 fun v64 vs65 =>
 obind (asS v64) fun s66 =>
 uncons vs65 fun v67 vs68 =>
 obind (asI IntKind.i64 v67) fun n69 =>
 nilL vs68
 (lif (countK n1 n36 n37 n38 n39 == countK n1 n40 n41 n42 n43)
 (lif (countE n1 n36 n37 n38 n39 == countE n1 n40 n41 n42 n43)
 (lif (ByteArray.toList s53 == ByteArray.toList s66)
 (lif (n56 == n69)
 (obind (Option.bind (cell L62 (Addr.add (Addr.mk r3 0 none) 0)) (asI IntKind.i64)) fun n70 =>
 obind (Option.bind (cell L62 (Addr.add (Addr.mk r3 0 none) 1)) (asI IntKind.i64)) fun n71 =>
 obind (Option.bind (cell L62 (Addr.add (Addr.mk r3 0 none) 2)) (asI IntKind.i64)) fun n72 =>
 obind (Option.bind (cell L62 (Addr.add (Addr.mk r3 0 none) 3)) (asI IntKind.i64)) fun n73 =>
 obind (Option.bind (cell L62 (Addr.add (Addr.mk r3 0 none) 0)) (asI IntKind.i64)) fun n74 =>
 obind (Option.bind (cell L62 (Addr.add (Addr.mk r3 0 none) 1)) (asI IntKind.i64)) fun n75 =>
 obind (Option.bind (cell L62 (Addr.add (Addr.mk r3 0 none) 2)) (asI IntKind.i64)) fun n76 =>
 obind (Option.bind (cell L62 (Addr.add (Addr.mk r3 0 none) 3)) (asI IntKind.i64)) fun n77 =>
 obind (Option.bind (cell L62 (Addr.add (Addr.mk r3 0 none) 0)) (asI IntKind.i64)) fun n78 =>
 obind (Option.bind (cell L62 (Addr.add (Addr.mk r3 0 none) 1)) (asI IntKind.i64)) fun n79 =>
 obind (Option.bind (cell L62 (Addr.add (Addr.mk r3 0 none) 2)) (asI IntKind.i64)) fun n80 =>
 obind (Option.bind (cell L62 (Addr.add (Addr.mk r3 0 none) 3)) (asI IntKind.i64)) fun n81 =>
 when
 (same
 (Value.agg
 #[Value.int IntKind.i64 n74, Value.int IntKind.i64 n75, Value.int IntKind.i64 n76,
 Value.int IntKind.i64 n77])
 (Value.agg
 #[Value.int IntKind.i64 n78, Value.int IntKind.i64 n79, Value.int IntKind.i64 n80,
 Value.int IntKind.i64 n81]))
 (lif (shapeB n70 n71 n72 n73 == shapeB n74 n75 n76 n77) (some (LR.ret (Value.bool true) L62))
 (some (LR.ret (Value.bool false) L62))))
 (some (LR.ret (Value.bool false) L62)))
 (some (LR.ret (Value.bool false) L62)))
 (some (LR.ret (Value.bool false) L62)))
 (some (LR.ret (Value.bool false) L62))))))) := by kernel_rfl
end Go.Proofs.YtffcfaabjodpcaaDoor.W
end

section
set_option maxRecDepth 100000
namespace Go.Proofs.YtffcfaabjodpcaaDoor
open Go Go.Rlm
/-- Volumes that may be written over: how long they are. -/
def SP (L : LHeap) (s : Sl) (ns A F : List Nat) : Prop :=
  s.n = ns.length ∧ (∀ a ∈ A, a ∈ F) ∧ ∀ (i n : Nat), ns[i]? = some n → ∃ (a : Addr) (x : Sl), idx s (i : Int) 1 = some a ∧ a.block ∈ A ∧ (cell L a).bind asSl = some x ∧ x.n = n ∧
    (n = 0 ∨ ∃ c cs e, x = ⟨some ⟨c, 0, none⟩, n, OPEN⟩ ∧ L[c]? = some (.cells cs e false 1) ∧ cs.length = n ∧ c ∈ F ∧ c ∉ A)
theorem Vols.sp {L : LHeap} {s : Sl} {vs : List (List (List Nat))} {F : List Nat} (h : Vols L s vs F) : ∃ A, SP L s (vs.map List.length) A F := by
  obtain ⟨xs, A, h1, h2, h3, h4⟩ := h
  refine ⟨A, by rw [h1.len, List.length_map, List.length_map, h2], h4, fun i n hn => ?_⟩
  rw [List.getElem?_map] at hn
  cases hv : vs[i]? with
  | none => rw [hv] at hn; cases hn
  | some v =>
    rw [hv] at hn
    injection hn with hn
    have hi := get_lt hv
    have hx : xs[i]? = some (xs[i]'(by omega)) := List.getElem?_eq_getElem (by omega)
    obtain ⟨B, b1, b2⟩ := h3 i _ v hx hv
    rcases h1 with ⟨_, hx0, _⟩ | ⟨c, rfl, hc, rfl⟩
    · have : xs = [] := by simpa using hx0
      subst this; simp at hx
    refine ⟨⟨c, 0 + i * 1, none⟩, xs[i]'(by omega), idx_of (by simp; omega), by simp, ?_, ?_, ?_⟩
    · rw [cell_of hc, show 0 + i * 1 = i by omega, List.getElem?_map, hx]; rfl
    · rw [b1.len, List.length_map]; exact hn
    · rcases b1 with ⟨_, hv0, _⟩ | ⟨c', hx', hc', rfl⟩
      · left
        have : v = [] := by simpa using hv0
        rw [← hn, this]; rfl
      · right
        refine ⟨c', _, _, by rw [hx']; congr 1; simpa using hn, hc', by simpa using hn, (b2 c' (by simp)).1, (b2 c' (by simp)).2⟩
theorem SP.set {L : LHeap} {s : Sl} {ns A F : List Nat} (h : SP L s ns A F) {c : Nat} {cs ds : List Value} {e : TypeId} (hc : L[c]? = some (.cells cs e false 1)) (hl : ds.length = cs.length) (hA : c ∉ A) :
    SP (L.set c (.cells ds e false 1)) s ns A F := by
  obtain ⟨h1, h2, h3⟩ := h
  refine ⟨h1, h2, fun i n hn => ?_⟩
  obtain ⟨a, x, g1, g2, g3, g4, g5⟩ := h3 i n hn
  have hac : c ≠ a.block := fun h => hA (h ▸ g2)
  refine ⟨a, x, g1, g2, ?_, g4, ?_⟩
  · rw [← g3]; congr 1
    unfold cell
    rw [get_set_ne hac]
  · rcases g5 with g5 | ⟨c', cs', e', k1, k2, k3, k4, k5⟩
    · exact .inl g5
    · by_cases hcc : c = c'
      · subst hcc
        rw [hc] at k2
        injection k2 with k2
        injection k2 with k2 _ _ _
        exact .inr ⟨c, ds, e, k1, get_set_self hc, by rw [hl, k2, k3], k4, k5⟩
      · exact .inr ⟨c', cs', e', k1, by rw [get_set_ne hcc, k2], k3, k4, k5⟩
theorem spoil_row {s : Sl} {ns A F : List Nat} {i n : Nat} (hn : ns[i]? = some n) (hb : n < 9223372036854775808) {k j1 : Nat} : ∀ (q t j : Nat) (L : LHeap), SP L s ns A F → t + q = n → q < j →
    ∃ L', W.f14_l4 k j1 j s (i : Int) (t : Int) L = W.f14_l1 k j1 s (IntKind.wrap .i64 ((i : Int) + 1)) L' ∧ SP L' s ns A F ∧ Step F L F L' := by
  intro q
  induction q with
  | zero =>
    intro t j L h ht hj
    obtain ⟨j, rfl⟩ : ∃ j', j = j' + 1 := ⟨j - 1, by omega⟩
    obtain ⟨a, x, g1, g2, g3, g4, g5⟩ := h.2.2 i n hn
    refine ⟨L, ?_, h, .refl _ _⟩
    rw [W.f14_l4_eq, g1, obind_some, g3, obind_some, decide_eq_false (by omega), lif_false]
  | succ q ih =>
    intro t j L h ht hj
    obtain ⟨j, rfl⟩ : ∃ j', j = j' + 1 := ⟨j - 1, by omega⟩
    obtain ⟨a, x, g1, g2, g3, g4, g5⟩ := h.2.2 i n hn
    rcases g5 with g5 | ⟨c, cs, e, rfl, k2, k3, k4, k5⟩
    · omega
    have hst := stores_of (L := L) (b := c) (o := 0 + t * 1) (vs := [.string ⟨#[115, 112, 111, 105, 108, 116]⟩]) k2 (by simp; omega)
    have hset : (setAll cs (0 + t * 1) [Value.string ⟨#[115, 112, 111, 105, 108, 116]⟩]).length = cs.length := by simp [setAll]
    obtain ⟨L', e1, e2, e3⟩ := ih (t + 1) j _ (h.set k2 hset k5) (by omega) (by omega)
    refine ⟨L', ?_, e2, (Step.set _ k4).trans e3⟩
    rw [W.f14_l4_eq, g1, obind_some, g3, obind_some, decide_eq_true (by simp; omega), lif_true, obind_some, g3, obind_some, idx_of (by omega), obind_some, hst, obind_some, wI64 (n := (t : Int) + 1) (by omega) (by omega), show (t : Int) + 1 = ((t + 1 : Nat) : Int) by omega]
    exact e1
theorem spoil_rows {s : Sl} {ns A F : List Nat} {k : Nat} (hb : ∀ n ∈ ns, n < 9223372036854775808 ∧ n < k) (hl : ns.length < 9223372036854775808) : ∀ (q i j : Nat) (L : LHeap), SP L s ns A F → i + q = ns.length → q < j →
    ∃ L', W.f14_l1 k j s (i : Int) L = some (.ret (.tuple #[]) L') ∧ Step F L F L' := by
  intro q
  induction q with
  | zero =>
    intro i j L h hi hj
    obtain ⟨j, rfl⟩ : ∃ j', j = j' + 1 := ⟨j - 1, by omega⟩
    exact ⟨L, by rw [W.f14_l1_eq, h.1, decide_eq_false (by omega), lif_false], .refl _ _⟩
  | succ q ih =>
    intro i j L h hi hj
    obtain ⟨j, rfl⟩ : ∃ j', j = j' + 1 := ⟨j - 1, by omega⟩
    have hlt : i < ns.length := by omega
    have hm := hb _ (List.getElem_mem hlt)
    obtain ⟨L1, e1, e2, e3⟩ := spoil_row (i := i) (n := ns[i]) (List.getElem?_eq_getElem hlt) hm.1 (k := k) (j1 := j) ns[i] 0 k L h (by omega) hm.2
    obtain ⟨L2, g1, g2⟩ := ih (i + 1) j L1 e2 (by omega) (by omega)
    refine ⟨L2, ?_, e3.trans g2⟩
    rw [W.f14_l1_eq, h.1, decide_eq_true (by omega), lif_true]
    rw [Int.natCast_zero] at e1
    rw [e1, wI64 (n := (i : Int) + 1) (by omega) (by omega), show (i : Int) + 1 = ((i + 1 : Nat) : Int) by omega]
    exact g1
theorem spoil_ok {L : LHeap} {s : Sl} {vs : List (List (List Nat))} {F : List Nat} (h : Vols L s vs F) {k : Nat} (hk : vs.length < k) (hb : ∀ v ∈ vs, v.length < k ∧ v.length < 9223372036854775808) (hl : vs.length < 9223372036854775808) :
    ∃ L', W.f14 (k + 1) s L = some (.ret (.tuple #[]) L') ∧ Step F L F L' := by
  obtain ⟨A, hs⟩ := h.sp
  obtain ⟨L', e1, e2⟩ := spoil_rows (k := k) (s := s) (A := A) (F := F) (ns := vs.map List.length) (fun n hn => by
    obtain ⟨v, hv, rfl⟩ := List.mem_map.1 hn
    exact ⟨(hb v hv).2, (hb v hv).1⟩) (by simpa using hl) vs.length 0 k L hs (by simp) hk
  exact ⟨L', by rw [W.f14_eq]; exact e1, e2⟩
theorem cutV_len {b : List Nat} (hb : ∀ x ∈ b, x < 256) {d r z m : Int} : (cutV b d r z m).length ≤ 96 ∧ (∀ v ∈ cutV b d r z m, v.length ≤ 64) ∧ Small (cutV b d r z m) := by
  by_cases he : countE b.length d r z m = 0
  · obtain ⟨c1, c2, c3, _⟩ := cutV_all hb he
    obtain ⟨hs, p2, p3, p4, p5⟩ := fit_ok (by omega) he
    have hs' := shapeB_iff.1 hs
    exact ⟨by omega, fun v hv => by have := (c2 v hv).1; omega, c3⟩
  · have hnil : cutV b d r z m = [] := by unfold cutV; rw [if_neg he]
    rw [hnil]
    exact ⟨by simp, fun v hv => by simp at hv, fun v hv => by simp at hv⟩
theorem tells_iter {k j : Nat} {b : List Nat} (hb : ∀ x ∈ b, x < 256) (hl : b.length ≤ 3000) {n : Int} {l1 : Sl} {d r z m i : Int} (hi : i < 2) {L : LHeap} {p : Nat} (hp : L[p]? = some (.cells [.int .i64 d, .int .i64 r, .int .i64 z, .int .i64 m] 23 false 0)) :
    ∃ L', W.f3_l4 (k + 101) (j + 1) (strOf b) n l1 p i L = W.f3_l4 (k + 101) j (strOf b) n l1 p (IntKind.wrap .i64 (i + 1)) L' ∧ Step [] L [] L' := by
  obtain ⟨y0, y1, y2, y3⟩ := shape_cell hp
  obtain ⟨s, L2, F2, t1, t2, t3, t4⟩ := cut_ok (k := k) hb (by omega) d r z m L
  have hp2 : L2[p]? = some (.cells [.int .i64 d, .int .i64 r, .int .i64 z, .int .i64 m] 23 false 0) := by rw [t3.keep _ (get_lt hp) (by simp)]; exact hp
  obtain ⟨w0, w1, w2, w3⟩ := shape_cell hp2
  obtain ⟨t, L3, F3, u1, u2, u3, u4⟩ := refcut_ok (k := k) hb (by omega) d r z m L2
  have hv3 : Vols L3 s (cutV b d r z m) F2 := t2.mono (u3.others t4 fun i hi => by simp at hi)
  obtain ⟨c1, c2, c3⟩ := cutV_len hb (d := d) (r := r) (z := z) (m := m)
  have hsame := same_ok hv3.rv u2.rv c3 c3 (by omega) (k := k + 100) (by omega) fun v hv => by have := c2 v hv; omega
  obtain ⟨L4, s1, s2⟩ := spoil_ok hv3 (k := k + 100) (by omega) (fun v hv => by have := c2 v hv; omega) (by omega)
  refine ⟨L4, ?_, ?_⟩
  · rw [W.f3_l4_eq, decide_eq_true hi, lif_true, y0, obind_some, y1, obind_some, y2, obind_some, y3, obind_some]
    rw [show lcall Tryd.prog W.T (k + 101) 11 [.string (strOf b), .agg #[.int .i64 d, .int .i64 r, .int .i64 z, .int .i64 m]] L = W.f11 (k + 101) (strOf b) d r z m L from rfl, t1, lbind_ret]
    rw [tupL_tuple, obind_some, uncons_cons, show asSl (slV s) = some s from rfl, obind_some, uncons_cons, asI_int, obind_some, nilL_nil, w0, obind_some, w1, obind_some, w2, obind_some, w3, obind_some]
    rw [show lcall Tryd.prog W.T (k + 101) 12 [.string (strOf b), .agg #[.int .i64 d, .int .i64 r, .int .i64 z, .int .i64 m]] L2 = W.f12 (k + 101) (strOf b) d r z m L2 from rfl, u1, lbind_ret]
    rw [tupL_tuple, obind_some, uncons_cons, show asSl (slV t) = some t from rfl, obind_some, uncons_cons, asI_int, obind_some, nilL_nil, show (countE b.length d r z m != countE b.length d r z m) = false by simp, lif_false]
    rw [show lcall Tryd.prog W.T (k + 101) 13 [.slice s.a s.n s.c, .slice t.a t.n t.c] L3 = W.f13 (k + 100 + 1) s t L3 from rfl, hsame, lbind_ret, asB_bool, obind_some, decide_eq_true rfl, Bool.not_true, lif_false]
    rw [show lcall Tryd.prog W.T (k + 101) 14 [.slice s.a s.n s.c] L3 = W.f14 (k + 100 + 1) s L3 from rfl, s1, lbind_ret]
  · have st : Step [] L F2 L3 := (t3.trans (F2 := F2) ⟨u3.len, fun i hi hF => u3.keep i hi (by simp), fun i hi => .inl hi⟩)
    exact (st.trans s2).less fun i hi => by simp at hi
theorem tells_ok' {k : Nat} (hk : 4000000 ≤ k) {b : List Nat} (hb : ∀ x ∈ b, x < 256) {l1 : Sl} {vols : List (List (List Nat))} {A : List Nat} {L : LHeap} {n d r z m : Int} (hw : n < 9223372036854775808)
    (hrv : RV L l1 vols A) (hA : Within A L) (hn : vols.length < 9223372036854775808) (hnk : vols.length + 1 < k) (hvl : ∀ v ∈ vols, v.length < 9223372036854775808 ∧ v.length < k) (hsm : Small vols) :
    ∃ L', W.f3 (k + 102) (strOf b) n d r z m l1 L = some (.ret (.bool true) L') := by
  rw [W.f3_eq, strOf_size]
  by_cases h1 : (b.length : Int) > 3000
  · exact ⟨_, by rw [decide_eq_true h1, lif_true]⟩
  rw [decide_eq_false h1, lif_false]
  have hr : (L ++ [LBlk.cells [.int .i64 d, .int .i64 r, .int .i64 z, .int .i64 m] 23 false 0])[L.length]? = some (.cells [.int .i64 d, .int .i64 r, .int .i64 z, .int .i64 m] 23 false 0) := get_new
  have hrv0 : RV (L ++ [LBlk.cells [.int .i64 d, .int .i64 r, .int .i64 z, .int .i64 m] 23 false 0]) l1 vols A := hrv.mono fun i hi => get_push (hA i hi)
  have hA0 : Within A (L ++ [LBlk.cells [.int .i64 d, .int .i64 r, .int .i64 z, .int .i64 m] 23 false 0]) := fun i hi => by have := hA i hi; simp; omega
  generalize L ++ [LBlk.cells [.int .i64 d, .int .i64 r, .int .i64 z, .int .i64 m] 23 false 0] = L0 at *
  obtain ⟨lb, e1, hlong⟩ := long_ok hrv0 (k := k + 100) (fun v hv => ⟨by have := (hvl v hv).2; omega, (hvl v hv).1⟩) (by omega) hn
  rw [show lcall Tryd.prog W.T (k + 101) 9 [.slice l1.a l1.n l1.c] L0 = W.f9 (k + 100 + 1) l1 L0 from rfl, e1, lbind_ret, asB_bool, obind_some]
  cases lb with
  | true => exact ⟨_, by rw [lif_true]⟩
  | false =>
  have hlong := hlong rfl
  rw [lif_false]
  obtain ⟨j3, hj3⟩ : ∃ j, k + 101 = j + 1 + 1 + 1 := ⟨k + 98, by omega⟩
  obtain ⟨L1, g1, g2⟩ := tells_iter (k := k) (j := j3 + 1 + 1) hb (by omega) (n := n) (l1 := l1) (i := 0) (by omega) hr
  have hr1 : L1[L.length]? = some (.cells [.int .i64 d, .int .i64 r, .int .i64 z, .int .i64 m] 23 false 0) := by rw [g2.keep _ (get_lt hr) (by simp)]; exact hr
  obtain ⟨L2, g3, g4⟩ := tells_iter (k := k) (j := j3 + 1) hb (by omega) (n := n) (l1 := l1) (i := 1) (by omega) hr1
  have hr2 : L2[L.length]? = some (.cells [.int .i64 d, .int .i64 r, .int .i64 z, .int .i64 m] 23 false 0) := by rw [g4.keep _ (get_lt hr1) (by simp)]; exact hr1
  have hstart : W.f3_l4 (k + 101) (k + 101) (strOf b) n l1 L.length 0 L0 = W.f3_l4 (k + 101) (j3 + 1) (strOf b) n l1 L.length 2 L2 := by
    conv => lhs; arg 2; rw [hj3]
    rw [g1, wI64 (n := 0 + 1) (by omega) (by omega), show (0 : Int) + 1 = 1 from rfl, g3, wI64 (n := 1 + 1) (by omega) (by omega)]
    rfl
  rw [hstart, W.f3_l4_eq, decide_eq_false (by omega), lif_false]
  have hrv2 := (hrv0.mono (g2.others hA0 fun i hi => by simp at hi)).mono (g4.others (g2.within hA0) fun i hi => by simp at hi)
  have hA2 := g4.within (g2.within hA0)
  have hB : ∀ p, p ≤ vols.length → (∀ v ∈ vols.take p, v ≠ []) → ((vols.take p).map List.flatten).flatten.length ≤ 1000000 := fun p hp hne => by
    have := (hlong p hp hne).1
    have := flat_le (vols.take p)
    omega
  obtain ⟨y0, y1, y2, y3⟩ := shape_cell hr2
  obtain ⟨L4, F4, p1, p2⟩ := join_ok' (k := k + 97) (d := d) (r := r) (z := z) (m := m) (by omega) hrv2 hA2 hn (by omega) (fun v hv => (hvl v hv).1) hsm fun p hp hne => by have := hB p hp hne; omega
  have hr4 : L4[L.length]? = some (.cells [.int .i64 d, .int .i64 r, .int .i64 z, .int .i64 m] 23 false 0) := by rw [p2.keep _ (get_lt hr2) (by simp)]; exact hr2
  obtain ⟨x0, x1, x2, x3⟩ := shape_cell hr4
  obtain ⟨L5, q1, q2⟩ := refjoin_ok (k := k - 1) (d := d) (r := r) (z := z) (m := m) (by omega) (hrv2.mono (p2.others hA2 fun i hi => by simp at hi)) (p2.within hA2) hn (by omega) (fun v hv => (hvl v hv).1) hsm hB
  have hr5 : L5[L.length]? = some (.cells [.int .i64 d, .int .i64 r, .int .i64 z, .int .i64 m] 23 false 0) := by rw [q2.keep _ (get_lt hr4) (by simp)]; exact hr4
  obtain ⟨v0, v1, v2, v3⟩ := shape_cell hr5
  refine ⟨L5, ?_⟩
  rw [y0, obind_some, y1, obind_some, y2, obind_some, y3, obind_some, decide_eq_true hw, when_true, obind_some, obind_some, obind_some, obind_some, when_true, obind_some, obind_some, obind_some, obind_some]
  rw [show lcall Tryd.prog W.T (k + 101) 17 [.slice l1.a l1.n l1.c, .agg #[.int .i64 d, .int .i64 r, .int .i64 z, .int .i64 m]] L2 = W.f17 (k + 97 + 4) l1 d r z m L2 from rfl, p1, lbind_ret]
  rw [tupL_tuple, obind_some, uncons_cons, asS_string, obind_some, uncons_cons, asI_int, obind_some, nilL_nil, x0, obind_some, x1, obind_some, x2, obind_some, x3, obind_some]
  rw [show lcall Tryd.prog W.T (k + 101) 18 [.slice l1.a l1.n l1.c, .agg #[.int .i64 d, .int .i64 r, .int .i64 z, .int .i64 m]] L4 = W.f18 (k - 1 + 102) l1 d r z m L4 by rw [show k - 1 + 102 = k + 101 by omega]; rfl, q1, lbind_ret]
  rw [tupL_tuple, obind_some, uncons_cons, asS_string, obind_some, uncons_cons, asI_int, obind_some, nilL_nil, beq_self_eq_true, lif_true, beq_self_eq_true, lif_true, beq_self_eq_true, lif_true, beq_self_eq_true, lif_true]
  rw [v0, obind_some, v1, obind_some, v2, obind_some, v3, obind_some, obind_some, obind_some, obind_some, obind_some, obind_some, obind_some, obind_some, obind_some, same_self, when_true, beq_self_eq_true, lif_true]
end Go.Proofs.YtffcfaabjodpcaaDoor
end

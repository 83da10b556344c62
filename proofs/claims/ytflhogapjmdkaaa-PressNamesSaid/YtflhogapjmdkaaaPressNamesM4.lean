/- The logical machine, its likeness to the model, and the contracts of the functions that the law calls. Printed by pack.py, a program of this work, out of its texts; what the law does not use is left out. -/
import Derived.Test.YtflhogapjmdkaaaPressNamesM3
import Derived.Test.YtflhogapjmdkaaaProg
import Derived.KernelRfl
section
set_option maxRecDepth 100000
set_option linter.unusedVariables false
namespace Go.Proofs.Ytflhogapjmdkaaa.X
open Go Go.Rlm
abbrev Tri := Int × Int × Int
def triCells : List Tri → List Value
  | [] => []
  | p :: ps => iV p.1 :: iV p.2.1 :: iV p.2.2 :: triCells ps
@[simp] theorem triCells_length (ps : List Tri) : (triCells ps).length = ps.length * 3 := by
  induction ps with
  | nil => rfl
  | cons p ps ih => simp [triCells, ih]; omega
theorem triCells_get {ps : List Tri} {i : Nat} {p : Tri} (h : ps[i]? = some p) : (triCells ps)[i * 3]? = some (iV p.1) ∧ (triCells ps)[i * 3 + 1]? = some (iV p.2.1) ∧ (triCells ps)[i * 3 + 2]? = some (iV p.2.2) := by
  induction ps generalizing i with
  | nil => simp at h
  | cons q ps ih =>
    cases i with
    | zero => simp at h; subst h; simp [triCells]
    | succ i =>
      have := ih (i := i) (by simpa using h)
      rw [show (i + 1) * 3 = i * 3 + 1 + 1 + 1 by omega]
      simpa [triCells] using this
theorem triCells_append (a b : List Tri) : triCells (a ++ b) = triCells a ++ triCells b := by
  induction a with
  | nil => rfl
  | cons p a ih => simp [triCells, ih]
def kV (k : Nat) : Value := .int .i64 (k : Int)
/-- At place k stands this tree. -/
def NR (ns : List Tri) : Nat → HT → Prop
  | k, .leaf w i => ns[k]? = some ((w : Int), -1, (i : Int))
  | k, .node l r => ∃ a b : Nat, ns[k]? = some (((l.wt + r.wt : Nat) : Int), (a : Int), (b : Int)) ∧ NR ns a l ∧ NR ns b r
theorem NR.mono {ns : List Tri} (x : List Tri) {t : HT} : ∀ {k : Nat}, NR ns k t → NR (ns ++ x) k t := by
  induction t with
  | leaf w i => intro k h; simp only [NR] at h ⊢; rw [List.getElem?_append_left (get_lt h), h]
  | node l r ihl ihr =>
    intro k h
    obtain ⟨a, b, h1, h2, h3⟩ := h
    exact ⟨a, b, by rw [List.getElem?_append_left (get_lt h1), h1], ihl h2, ihr h3⟩
theorem NR.wt {ns : List Tri} {t : HT} {k : Nat} (h : NR ns k t) : ∃ x, ns[k]? = some ((t.wt : Int), x) := by
  cases t with
  | leaf w i => exact ⟨_, h⟩
  | node l r => obtain ⟨a, b, h1, _⟩ := h; exact ⟨_, h1⟩
/-- The forest: the trees' row, and those that are not put together yet. -/
def Forest (L : LHeap) (r1 r2 : Nat) (ns : List Tri) (ks : List Nat) (ts : List HT) (G : List Nat) : Prop :=
  ∃ (sa so : Sl) (Ga Go : List Nat), L[r1]? = some (.cells [.slice sa.a sa.n sa.c] 155 false 0) ∧ L[r2]? = some (.cells [.slice so.a so.n so.c] 49 false 0) ∧
    OZ L sa (triCells ns) 157 3 Ga ∧ OP L so (ks.map kV) 3 Go ∧ r1 ≠ r2 ∧ r1 ∉ Ga ∧ r1 ∉ Go ∧ r2 ∉ Ga ∧ r2 ∉ Go ∧ Apart Ga Go ∧ G = r1 :: r2 :: (Ga ++ Go) ∧
    ks.length = ts.length ∧ ∀ (i k : Nat) (t : HT), ks[i]? = some k → ts[i]? = some t → NR ns k t
theorem Forest.mono {L L' : LHeap} {r1 r2 : Nat} {ns : List Tri} {ks : List Nat} {ts : List HT} {G : List Nat} (h : Forest L r1 r2 ns ks ts G) (hk : ∀ i ∈ G, L'[i]? = L[i]?) : Forest L' r1 r2 ns ks ts G := by
  obtain ⟨sa, so, Ga, Go, h1, h2, h3, h4, h5, h6, h7, h8, h9, h10, rfl, h11, h12⟩ := h
  exact ⟨sa, so, Ga, Go, by rw [hk r1 (by simp), h1], by rw [hk r2 (by simp), h2], h3.mono fun i hi => hk i (by simp [hi]), h4.mono fun i hi => hk i (by simp [hi]), h5, h6, h7, h8, h9, h10, rfl, h11, h12⟩
theorem Forest.within {L : LHeap} {r1 r2 : Nat} {ns : List Tri} {ks : List Nat} {ts : List HT} {G : List Nat} (h : Forest L r1 r2 ns ks ts G) : Within G L := by
  obtain ⟨sa, so, Ga, Go, h1, h2, h3, h4, h5, h6, h7, h8, h9, h10, rfl, h11, h12⟩ := h
  intro i hi
  simp only [List.mem_cons, List.mem_append] at hi
  rcases hi with rfl | rfl | hi | hi
  · exact get_lt h1
  · exact get_lt h2
  · exact h3.within i hi
  · exact h4.within i hi
theorem map_erase {α β : Type} (f : α → β) : ∀ (l : List α) (i : Nat), (l.eraseIdx i).map f = (l.map f).eraseIdx i
  | [], i => by simp
  | x :: l, 0 => by simp
  | x :: l, i + 1 => by simp [map_erase f l i]
/-- The least: its place is told, and taken away. -/
theorem least_loop {k r1 r2 : Nat} {sa so : Sl} {ns : List Tri} {ks : List Nat} {ts : List HT} {Ga Go : List Nat} {L : LHeap} (h1 : L[r1]? = some (.cells [.slice sa.a sa.n sa.c] 155 false 0)) (h2 : L[r2]? = some (.cells [.slice so.a so.n so.c] 49 false 0))
    (h3 : OZ L sa (triCells ns) 157 3 Ga) (h4 : OP L so (ks.map kV) 3 Go) (h11 : ks.length = ts.length) (h12 : ∀ (i k : Nat) (t : HT), ks[i]? = some k → ts[i]? = some t → NR ns k t) (hlen : ks.length < 2 ^ 40) :
    ∀ (m i a j : Nat), i + m = ts.length → m < j → a < ts.length →
      f101_l3 k j r2 r1 (a : Int) so (so.n : Int) (i : Int) L = f101_l3 k (j - m) r2 r1 ((minLoop (ts.map HT.wt) m i a : Nat) : Int) so (so.n : Int) (ts.length : Int) L := by
  have hn := h4.rd.len
  simp only [List.length_map] at hn
  have hns : sa.n = ns.length := by have := h3.1; simp at this; omega
  have c1 : cell L ⟨r1, 0, none⟩ = some (.slice sa.a sa.n sa.c) := by rw [cell_of h1]; rfl
  have c2 : cell L ⟨r2, 0, none⟩ = some (.slice so.a so.n so.c) := by rw [cell_of h2]; rfl
  have key : ∀ i, (hi : i < ts.length) → ∃ (a : Addr) (k c : Nat), idx so (i : Int) 1 = some a ∧ cell L a = some (.int .i64 (k : Int)) ∧ idx sa ((k : Nat) : Int) 3 = some ⟨c, k * 3, none⟩ ∧ cell L ⟨c, k * 3, none⟩ = some (.int .i64 ((ts.map HT.wt).getD i 0 : Nat)) := by
    intro i hi
    have hk : ks[i]? = some ks[i] := List.getElem?_eq_getElem (by omega)
    obtain ⟨a, a1, a2⟩ := h4.rd.here (i := i) (v := kV ks[i]) (by simp [h11, hi])
    have hnr := h12 i ks[i] ts[i] hk (List.getElem?_eq_getElem hi)
    obtain ⟨x, hx⟩ := hnr.wt
    obtain ⟨c, e1, e2⟩ := h3.get (i := ks[i]) (by rw [hns]; exact get_lt hx)
    refine ⟨a, ks[i], c, a1, a2, e1, ?_⟩
    rw [e2 L (fun _ _ => rfl), (triCells_get hx).1, wt_getD ts i hi, List.getD_eq_getElem?_getD, List.getElem?_eq_getElem hi]
    rfl
  intro m
  induction m with
  | zero =>
    intro i a j hi hj ha
    obtain rfl : i = ts.length := by omega
    rfl
  | succ m ih =>
    intro i a j hi hj ha
    obtain ⟨j, rfl⟩ : ∃ j', j = j' + 1 := ⟨j - 1, by omega⟩
    obtain ⟨a1, k1, x1, p1, p2, p3, p4⟩ := key i (by omega)
    obtain ⟨a2, k2, x2, q1, q2, q3, q4⟩ := key a ha
    rw [f101_l3_eq, decide_eq_true (by omega)]
    simp only [lif_true, p1, p2, p3, p4, q1, q2, q3, q4, c1, c2, obind_some, Option.bind_some, asI_int, asSl_slice, mk_add, Nat.add_zero]
    rw [wI64 (n := (i : Int) + 1) (by omega) (by omega), show j + 1 - (m + 1) = j - m by omega]
    simp only [minLoop]
    by_cases hw : (ts.map HT.wt).getD i 0 < (ts.map HT.wt).getD a 0
    · rw [decide_eq_true (by omega), if_pos hw]
      exact ih (i + 1) i j (by omega) (by omega) (by omega)
    · rw [decide_eq_false (by omega), if_neg hw]
      exact ih (i + 1) a j (by omega) (by omega) ha
theorem least_ok {k r1 r2 : Nat} {ns : List Tri} {ks : List Nat} {ts : List HT} {G : List Nat} {L : LHeap} (h : Forest L r1 r2 ns ks ts G) (hne : ts ≠ []) (hlen : ks.length < 2 ^ 40) (hk : ks.length + 10 ≤ k) :
    ∃ (q : Nat) (L' : LHeap), f101 k r2 r1 L = some (.ret (.int .i64 (q : Int)) L') ∧ NR ns q (pick ts) ∧ Forest L' r1 r2 ns (ks.eraseIdx (least ts)) (rest ts) G ∧ Step G L G L' := by
  obtain ⟨k, rfl⟩ : ∃ k', k = k' + 1 := ⟨k - 1, by omega⟩
  obtain ⟨sa, so, Ga, Go, h1, h2, h3, h4, h5, h6, h7, h8, h9, h10, rfl, h11, h12⟩ := h
  have hn := h4.rd.len
  simp only [List.length_map] at hn
  have hll := least_lt hne
  have c2 : cell L ⟨r2, 0, none⟩ = some (.slice so.a so.n so.c) := by rw [cell_of h2]; rfl
  have hks : ks[least ts]? = some ks[least ts] := List.getElem?_eq_getElem (by omega)
  have hpk : ts[least ts]? = some (pick ts) := by rw [pick, List.getD_eq_getElem?_getD, List.getElem?_eq_getElem hll]; rfl
  have hl := least_loop (k := k) h1 h2 h3 h4 h11 h12 hlen ts.length 0 0 k (by omega) (by omega) (by omega)
  have hmin : minLoop (ts.map HT.wt) ts.length 0 0 = least ts := by unfold least minAt; simp
  rw [hmin] at hl
  obtain ⟨a, a1, a2⟩ := h4.rd.here (i := least ts) (v := kV ks[least ts]) (by simp [h11, hll])
  obtain ⟨so', L1, d1, d2, d3⟩ := delete_ok (k := k) h4 (i := least ts) (by simp; omega) (by simpa using hlen) (by omega)
  have h21 : L1[r2]? = some (.cells [.slice so.a so.n so.c] 49 false 0) := by rw [d3.keep r2 (get_lt h2) h9, h2]
  have h11' : L1[r1]? = some (.cells [.slice sa.a sa.n sa.c] 155 false 0) := by rw [d3.keep r1 (get_lt h1) h7, h1]
  have h31 := h3.mono (d3.others h3.within h10.symm)
  refine ⟨ks[least ts], L1.set r2 (.cells [.slice so'.a so'.n so'.c] 49 false 0), ?_, h12 _ _ _ hks hpk, ⟨sa, so', Ga, Go, by rw [get_set_ne h5.symm, h11'], by rw [get_set_self h21], h31.mono fun i hi => get_set_ne (fun e => h8 (e ▸ hi)), ?_, h5, h6, h7, h8, h9, h10, rfl, ?_, ?_⟩, ?_⟩
  · rw [f101_eq]
    simp only [c2, Option.bind_some, asSl_slice, obind_some]
    rw [show ((0 : Nat) : Int) = 0 from rfl] at hl
    rw [hl]
    obtain ⟨j, hj⟩ : ∃ j, k - ts.length = j + 1 := ⟨k - ts.length - 1, by omega⟩
    rw [hj, f101_l3_eq, decide_eq_false (by omega)]
    simp only [lif_false, c2, Option.bind_some, asSl_slice, obind_some, a1, a2, kV, asI_int]
    rw [wI64 (by omega) (by omega)]
    have d1 : f102 k so (least ts : Int) ((least ts : Int) + 1) L = some (.ret (.slice so'.a so'.n so'.c) L1) := d1
    simp only [d1, lbind_ret, asSl_slice, obind_some]
    rw [stores_all h21 (news := [Value.slice so'.a so'.n so'.c]) rfl]
    rfl
  · rw [← map_erase] at d2
    exact d2.mono fun i hi => get_set_ne (fun e => h9 (e ▸ hi))
  · rw [List.length_eraseIdx_of_lt (by omega), rest_length hne]; omega
  · intro i q t hq ht
    rw [rest] at ht
    rw [List.getElem?_eraseIdx] at hq ht
    split at hq
    · rename_i hlt
      rw [if_pos hlt] at ht
      exact h12 _ _ _ hq ht
    · rename_i hlt
      rw [if_neg hlt] at ht
      exact h12 _ _ _ hq ht
  · exact ((d3.mono (G := r1 :: r2 :: (Ga ++ Go)) fun i hi => by simp [hi]).less fun i hi => .inr hi).trans (.set _ (by simp))
theorem src_tri {L : LHeap} {u v w : Value} {e : TypeId} {ro : Bool} {sp c : Nat} : srcOf (L ++ [LBlk.cells [u, v, w] e ro sp]) 3 1 (.slice (some ⟨L.length, 0, none⟩) 1 c) = some [u, v, w] := by
  simp [srcOf, srcCells, cellsAt]
  rfl
/-- A tree comes behind the others. -/
theorem push_ok {r1 r2 : Nat} {ns : List Tri} {ks : List Nat} {ts : List HT} {G : List Nat} {L : LHeap} (h : Forest L r1 r2 ns ks ts G) (p : Tri) (t : HT) (hp : NR (ns ++ [p]) ns.length t) (hlen : ns.length < 2 ^ 30) (hlk : ks.length < 2 ^ 30) :
    ∃ (sa so so' sa' : Sl) (La Lb Lc Ld : LHeap) (Ga G' : List Nat), L[r1]? = some (.cells [.slice sa.a sa.n sa.c] 155 false 0) ∧ L[r2]? = some (.cells [.slice so.a so.n so.c] 49 false 0) ∧ sa.n = ns.length ∧
      app (L ++ [LBlk.cells [kV ns.length] 3 false 0]) 3 1 8 so 1 [kV ns.length] = some (so', La) ∧ stores La ⟨r2, 0, none⟩ [.slice so'.a so'.n so'.c] = some Lb ∧ Lb[r1]? = some (.cells [.slice sa.a sa.n sa.c] 155 false 0) ∧ OZ Lb sa (triCells ns) 157 3 Ga ∧
      app (Lb ++ [LBlk.cells [iV p.1, iV p.2.1, iV p.2.2] 157 false 0]) 157 3 24 sa 1 [iV p.1, iV p.2.1, iV p.2.2] = some (sa', Lc) ∧ stores Lc ⟨r1, 0, none⟩ [.slice sa'.a sa'.n sa'.c] = some Ld ∧
      Forest Ld r1 r2 (ns ++ [p]) (ks ++ [ns.length]) (ts ++ [t]) G' ∧ Step G L G' Ld := by
  obtain ⟨sa, so, Ga, Go, h1, h2, h3, h4, h5, h6, h7, h8, h9, h10, rfl, h11, h12⟩ := h
  have hns : sa.n = ns.length := by have := h3.1; simp at this; omega
  obtain ⟨so', La, Go', a1, a2, a3⟩ := (h4.mono (L' := L ++ [LBlk.cells [kV ns.length] 3 false 0]) fun i hi => get_push (h4.within i hi)).app [kV ns.length] 8 (by simp) (by simp; omega) (by simp; omega)
  have st1 : Step Go L Go' La := (Step.push Go L _).trans a3
  have h2a : La[r2]? = some (.cells [.slice so.a so.n so.c] 49 false 0) := by rw [st1.keep r2 (get_lt h2) h9, h2]
  have h1a : La[r1]? = some (.cells [.slice sa.a sa.n sa.c] 155 false 0) := by rw [st1.keep r1 (get_lt h1) h7, h1]
  have h3a := h3.mono (st1.others h3.within h10.symm)
  have r2o : r2 ∉ Go' := fun hh => by rcases st1.foot r2 hh with q | q; exact h9 q; have := get_lt h2; omega
  have r1o : r1 ∉ Go' := fun hh => by rcases st1.foot r1 hh with q | q; exact h7 q; have := get_lt h1; omega
  have ap1 : Apart Ga Go' := (st1.apart h3.within h10.symm).symm
  have st2 : Step [r2] La [r2] (La.set r2 (.cells [.slice so'.a so'.n so'.c] 49 false 0)) := .set _ (by simp)
  have h2b := get_set_self (x := LBlk.cells [.slice so'.a so'.n so'.c] 49 false 0) h2a
  have sb : stores La ⟨r2, 0, none⟩ [.slice so'.a so'.n so'.c] = some (La.set r2 (.cells [.slice so'.a so'.n so'.c] 49 false 0)) := stores_all h2a rfl
  generalize La.set r2 (.cells [.slice so'.a so'.n so'.c] 49 false 0) = Lb at *
  have h1b : Lb[r1]? = some (.cells [.slice sa.a sa.n sa.c] 155 false 0) := by rw [st2.keep r1 (get_lt h1a) (by simpa using h5), h1a]
  have h3b := h3a.mono (st2.others h3a.within (one_apart h8))
  have a2b := a2.mono (st2.others a2.within (one_apart r2o))
  obtain ⟨sa', Lc, Ga', b1, b2, b3, b4⟩ := (h3b.mono (L' := Lb ++ [LBlk.cells [iV p.1, iV p.2.1, iV p.2.2] 157 false 0]) fun i hi => get_push (h3b.within i hi)).app [iV p.1, iV p.2.1, iV p.2.2] 1 24 (by omega) rfl (by omega) (by omega)
  have st3 : Step Ga Lb Ga' Lc := (Step.push Ga Lb _).trans b4
  have h1c : Lc[r1]? = some (.cells [.slice sa.a sa.n sa.c] 155 false 0) := by rw [st3.keep r1 (get_lt h1b) h6, h1b]
  have h2c : Lc[r2]? = some (.cells [.slice so'.a so'.n so'.c] 49 false 0) := by rw [st3.keep r2 (get_lt h2b) h8, h2b]
  have r1a : r1 ∉ Ga' := fun hh => by rcases st3.foot r1 hh with q | q; exact h6 q; have := get_lt h1b; omega
  have r2a : r2 ∉ Ga' := fun hh => by rcases st3.foot r2 hh with q | q; exact h8 q; have := get_lt h2b; omega
  have a2c := a2b.mono (st3.others a2b.within ap1)
  have ap2 := st3.apart a2b.within ap1
  have st4 : Step [r1] Lc [r1] (Lc.set r1 (.cells [.slice sa'.a sa'.n sa'.c] 155 false 0)) := .set _ (by simp)
  have h1d := get_set_self (x := LBlk.cells [.slice sa'.a sa'.n sa'.c] 155 false 0) h1c
  have sd : stores Lc ⟨r1, 0, none⟩ [.slice sa'.a sa'.n sa'.c] = some (Lc.set r1 (.cells [.slice sa'.a sa'.n sa'.c] 155 false 0)) := stores_all h1c rfl
  generalize Lc.set r1 (.cells [.slice sa'.a sa'.n sa'.c] 155 false 0) = Ld at *
  refine ⟨sa, so, so', sa', La, Lb, Lc, Ld, Ga, r1 :: r2 :: (Ga' ++ Go'), h1, h2, hns, a1, sb, h1b, h3b, b1, sd, ⟨sa', so', Ga', Go', h1d, by rw [st4.keep r2 (get_lt h2c) (by simpa using h5.symm), h2c], ?_, ?_, h5, r1a, r1o, r2a, r2o, ap2, rfl, ?_, ?_⟩, ?_⟩
  · rw [triCells_append]
    exact b2.mono (st4.others b2.within (one_apart r1a))
  · rw [List.map_append]
    exact a2c.mono (st4.others a2c.within (one_apart r1o))
  · simp [h11]
  · intro i k u hk hu
    by_cases hi : i < ks.length
    · rw [List.getElem?_append_left hi] at hk
      rw [List.getElem?_append_left (by omega)] at hu
      exact (h12 _ _ _ hk hu).mono _
    · rw [List.getElem?_append_right (by omega)] at hk
      rw [List.getElem?_append_right (by omega)] at hu
      have e : i - ks.length = 0 := by
        rcases Nat.eq_zero_or_pos (i - ks.length) with h0 | h0
        · exact h0
        · rw [List.getElem?_eq_none (by simp; omega)] at hk; cases hk
      rw [← h11, e] at hu
      rw [e] at hk
      simp at hk hu
      subst hk; subst hu
      exact hp
  · refine ⟨Nat.le_trans st1.len (Nat.le_trans st2.len (Nat.le_trans st3.len st4.len)), fun i hi hn => ?_, fun i hi => ?_⟩
    · simp only [List.mem_cons, List.mem_append, not_or] at hn
      have i1 := Nat.lt_of_lt_of_le hi st1.len
      have i2 := Nat.lt_of_lt_of_le i1 st2.len
      have i3 := Nat.lt_of_lt_of_le i2 st3.len
      rw [st4.keep i i3 (by simpa using hn.1), st3.keep i i2 hn.2.2.1, st2.keep i i1 (by simpa using hn.2.1), st1.keep i hi hn.2.2.2]
    · simp only [List.mem_cons, List.mem_append] at hi ⊢
      rcases hi with rfl | rfl | hi | hi
      · exact .inl (.inl rfl)
      · exact .inl (.inr (.inl rfl))
      · rcases st3.foot i hi with q | q
        · exact .inl (.inr (.inr (.inl q)))
        · exact .inr (Nat.le_trans st1.len (Nat.le_trans st2.len q))
      · rcases st1.foot i hi with q | q
        · exact .inl (.inr (.inr (.inr q)))
        · exact .inr q
def deepFn (r1 r0 r4 : Nat) : Value := .func (.func 103) #[] #[.pointer (some ⟨r1, 0, none⟩), .pointer (some ⟨r0, 0, none⟩), .pointer (some ⟨r4, 0, none⟩)]
theorem deep_app (k : Nat) (r1 r0 r4 : Nat) (a b : Int) (L : LHeap) : lapp (lcall Proofs.Try.prog T k) (deepFn r1 r0 r4) [.int .i64 a, .int .i64 b] L = f103 k a b r1 r0 r4 L := rfl
theorem deep_ok {r0 r1 r4 : Nat} {sa so : Sl} {ns : List Tri} {Ga Fo : List Nat} (h0 : r0 ∉ Fo) (h1 : r1 ∉ Fo) (h4 : r4 ∉ Fo) (ha : Apart Fo Ga) : ∀ (t : HT) (q n k : Nat) (out : List Int) (L : LHeap), NR ns q t → t.height + 2 ≤ k → (∀ i ∈ t.syms, i < out.length) → n + t.height < 2 ^ 40 →
    L[r0]? = some (.cells [.slice so.a so.n so.c] 49 false 0) → L[r1]? = some (.cells [.slice sa.a sa.n sa.c] 155 false 0) → L[r4]? = some (.cells [deepFn r1 r0 r4] 159 false 0) → OZ L sa (triCells ns) 157 3 Ga → WS L so (out.map iV) 3 Fo →
    ∃ L', f103 k (q : Int) (n : Int) r1 r0 r4 L = some (.ret (.tuple #[]) L') ∧ WS L' so ((t.lay n out).map iV) 3 Fo ∧ Step Fo L Fo L' := by
  intro t
  induction t with
  | leaf w i =>
    intro q n k out L hq hk hs hn b0 b1 b4 hz hw
    obtain ⟨k, rfl⟩ : ∃ k', k = k' + 1 := ⟨k - 1, by omega⟩
    have hns : sa.n = ns.length := by have := hz.1; simp at this; omega
    have hq : ns[q]? = some ((w : Int), -1, (i : Int)) := hq
    obtain ⟨g1, g2, g3⟩ := triCells_get hq
    obtain ⟨c, e1, e2⟩ := hz.get (i := q) (by rw [hns]; exact get_lt hq)
    have cc := e2 L fun _ _ => rfl
    have c1 : cell L ⟨r1, 0, none⟩ = some (.slice sa.a sa.n sa.c) := by rw [cell_of b1]; rfl
    have c0 : cell L ⟨r0, 0, none⟩ = some (.slice so.a so.n so.c) := by rw [cell_of b0]; rfl
    have hi := hs i (by simp [HT.syms])
    obtain ⟨a, L', p1, p2, p3, p4⟩ := hw.put (i := i) (by simpa using hi) (iV (n : Int))
    refine ⟨L', ?_, by rw [← List.map_set] at p3; exact p3, p4⟩
    rw [f103_eq]
    have p2 : stores L a [Value.int .i64 (n : Int)] = some L' := p2
    simp only [c1, c0, Option.bind_some, asSl_slice, obind_some, e1, mk_add, cc, g2, g3, iV, asI_int]
    rw [decide_eq_true (by omega)]
    simp only [lif_true, p1, p2, obind_some]
  | node l r ihl ihr =>
    intro q n k out L hq hk hs hn b0 b1 b4 hz hw
    obtain ⟨k, rfl⟩ : ∃ k', k = k' + 1 := ⟨k - 1, by omega⟩
    have hns : sa.n = ns.length := by have := hz.1; simp at this; omega
    obtain ⟨x, y, hq, hl, hr⟩ := hq
    obtain ⟨g1, g2, g3⟩ := triCells_get hq
    obtain ⟨c, e1, e2⟩ := hz.get (i := q) (by rw [hns]; exact get_lt hq)
    have cc := e2 L fun _ _ => rfl
    have c1 : cell L ⟨r1, 0, none⟩ = some (.slice sa.a sa.n sa.c) := by rw [cell_of b1]; rfl
    have c4 : cell L ⟨r4, 0, none⟩ = some (deepFn r1 r0 r4) := by rw [cell_of b4]; rfl
    simp only [HT.height, HT.syms] at hk hs hn
    obtain ⟨L1, p1, p2, p3⟩ := ihl x (n + 1) k out L hl (by omega) (fun i hi => hs i (List.mem_append.2 (.inl hi))) (by omega) b0 b1 b4 hz hw
    have b01 := (p3.keep r0 (get_lt b0) h0).trans b0
    have b11 := (p3.keep r1 (get_lt b1) h1).trans b1
    have b41 := (p3.keep r4 (get_lt b4) h4).trans b4
    have hz1 := hz.mono (p3.others hz.within ha)
    have cc1 := e2 L1 (p3.others hz.within ha)
    have c11 : cell L1 ⟨r1, 0, none⟩ = some (.slice sa.a sa.n sa.c) := by rw [cell_of b11]; rfl
    have c41 : cell L1 ⟨r4, 0, none⟩ = some (deepFn r1 r0 r4) := by rw [cell_of b41]; rfl
    obtain ⟨L2, q1, q2, q3⟩ := ihr y (n + 1) k (l.lay (n + 1) out) L1 hr (by omega) (fun i hi => by rw [HT.lay_length]; exact hs i (List.mem_append.2 (.inr hi))) (by omega) b01 b11 b41 hz1 p2
    refine ⟨L2, ?_, q2, p3.trans q3⟩
    rw [f103_eq]
    simp only [c1, Option.bind_some, asSl_slice, obind_some, e1, mk_add, cc, g2, iV, asI_int]
    rw [decide_eq_false (by omega), wI64 (n := (n : Int) + 1) (by omega) (by omega)]
    have p1 : f103 k (x : Int) ((n : Int) + 1) r1 r0 r4 L = some (.ret (.tuple #[]) L1) := p1
    have q1 : f103 k (y : Int) ((n : Int) + 1) r1 r0 r4 L1 = some (.ret (.tuple #[]) L2) := q1
    simp only [lif_false, c4, obind_some, deep_app, p1, lbindR_ret, c41, c11, Option.bind_some, asSl_slice, e1, mk_add, cc1, g3, iV, asI_int, q1]
end Go.Proofs.Ytflhogapjmdkaaa.X
end

section
set_option maxRecDepth 100000
set_option linter.unusedVariables false
namespace Go.Proofs.Ytflhogapjmdkaaa.X
open Go Go.Rlm
theorem collect {k r0 r1 r2 : Nat} {l : Sl} {fs : List Int} {A : List Nat} (hn : l.n = fs.length) (hf : fs.length < 2 ^ 29) :
    ∀ (m i j : Nat) (ns : List Tri) (G : List Nat) (L : LHeap), i + m = fs.length → m < j → Forest L r1 r2 ns (List.range ns.length) (leavesFrom 0 (fs.take i)) G → ns.length = (leavesFrom 0 (fs.take i)).length → Rd L l (fs.map iV) A → Apart G A →
      ∃ ns' G' L', f93_l5 k j r0 r1 r2 l (l.n : Int) (i : Int) L = f93_l5 k (j - m) r0 r1 r2 l (l.n : Int) (fs.length : Int) L' ∧ Forest L' r1 r2 ns' (List.range ns'.length) (leavesFrom 0 fs) G' ∧ ns'.length = (leavesFrom 0 fs).length ∧ Step G L G' L' := by
  intro m
  induction m with
  | zero =>
    intro i j ns G L hi hj hF hl hr hGA
    obtain rfl : i = fs.length := by omega
    rw [List.take_length] at hF hl
    exact ⟨ns, G, L, rfl, hF, hl, .refl _ _⟩
  | succ m ih =>
    intro i j ns G L hi hj hF hl hr hGA
    obtain ⟨j, rfl⟩ : ∃ j', j = j' + 1 := ⟨j - 1, by omega⟩
    have hiz : i < fs.length := by omega
    obtain ⟨a, a1, a2⟩ := hr.here (i := i) (v := iV fs[i]) (by simp [hiz])
    have hsn : leavesFrom 0 (fs.take (i + 1)) = leavesFrom 0 (fs.take i) ++ (if fs[i] > 0 then [.leaf fs[i].toNat i] else []) := by
      rw [take_succ_int hiz, leavesFrom_snoc]
      simp [show min i fs.length = i by omega]
    have hll := leavesFrom_length (fs.take i) 0
    simp only [List.length_take] at hll
    rw [f93_l5_eq, decide_eq_true (by omega), show j + 1 - (m + 1) = j - m by omega]
    simp only [lif_true, a1, a2, iV, obind_some, Option.bind_some, asI_int]
    rw [wI64 (n := (i : Int) + 1) (by omega) (by omega)]
    by_cases h0 : fs[i] > 0
    · rw [if_pos h0] at hsn
      obtain ⟨sa, so, so', sa', La, Lb, Lc, Ld, Ga, G', p1, p2, p3, p4, p5, p6, p7, p8, p9, p10, p11⟩ := push_ok hF (fs[i], -1, (i : Int)) (.leaf fs[i].toNat i) (by simp only [NR]; rw [List.getElem?_append_right (Nat.le_refl _)]; simp; omega) (by omega) (by simp; omega)
      rw [← hsn] at p10
      rw [← List.range_succ] at p10
      have hl' : (ns ++ [(fs[i], -1, (i : Int))]).length = (leavesFrom 0 (fs.take (i + 1))).length := by rw [hsn]; simp [hl]
      obtain ⟨ns', G2, L', e1, e2, e3, e4⟩ := ih (i + 1) j (ns ++ [(fs[i], -1, (i : Int))]) G' Ld (by omega) (by omega) (by simpa using p10) hl' (hr.mono (p11.others hr.within hGA)) (p11.apart hr.within hGA)
      refine ⟨ns', G2, L', ?_, e2, e3, p11.trans e4⟩
      rw [← e1, decide_eq_true h0]
      have c1 : cell L ⟨r1, 0, none⟩ = some (.slice sa.a sa.n sa.c) := by rw [cell_of p1]; rfl
      have c2 : cell L ⟨r2, 0, none⟩ = some (.slice so.a so.n so.c) := by rw [cell_of p2]; rfl
      have c3 : cell Lb ⟨r1, 0, none⟩ = some (.slice sa.a sa.n sa.c) := by rw [cell_of p6]; rfl
      rw [← p3] at p4
      simp only [kV] at p4
      simp only [iV] at p8
      simp only [lif_true, c1, c2, Option.bind_some, asSl_slice, obind_some, size3, bytes3, src_new, p4, p5, c3, size95, bytes95, src_tri, p8, p9]
      rfl
    · rw [if_neg h0, List.append_nil] at hsn
      rw [decide_eq_false h0]
      rw [← hsn] at hF hl
      exact ih (i + 1) j ns G L (by omega) (by omega) hF hl hr hGA
theorem merge {k r0 r1 r2 : Nat} : ∀ (m j : Nat) (ns : List Tri) (ks : List Nat) (ts : List HT) (G : List Nat) (L : LHeap), ts.length = m + 1 → m < j → Forest L r1 r2 ns ks ts G → ns.length + m < 2 ^ 29 → ts.length + 20 ≤ k → total ts < 2 ^ 60 →
    (∃ t, ts.getLast? = some t ∧ NR ns (ns.length - 1) t) →
    ∃ ns' ks' G' L', f93_l15 k j r0 r1 r2 r2 r1 L = f93_l15 k (j - m) r0 r1 r2 r2 r1 L' ∧ Forest L' r1 r2 ns' ks' (joinAll m ts) G' ∧ Step G L G' L' ∧ (∃ t, (joinAll m ts).getLast? = some t ∧ NR ns' (ns'.length - 1) t) ∧ ns'.length = ns.length + m := by
  intro m
  induction m with
  | zero =>
    intro j ns ks ts G L ht hj hF hns hk htot hlast
    exact ⟨ns, ks, G, L, rfl, hF, .refl _ _, hlast, rfl⟩
  | succ m ih =>
    intro j ns ks ts G L ht hj hF hns hk htot hlast
    obtain ⟨j, rfl⟩ : ∃ j', j = j' + 1 := ⟨j - 1, by omega⟩
    have hne : ts ≠ [] := by intro h0; subst h0; simp at ht
    have hr1 := rest_length hne
    have hne2 : rest ts ≠ [] := by intro h0; rw [h0] at hr1; simp at hr1; omega
    have hr2 := rest_length hne2
    have hks : ks.length = ts.length := by obtain ⟨_, _, _, _, _, _, _, _, _, _, _, _, _, _, _, h, _⟩ := hF; exact h
    have hso : ∃ so : Sl, cell L ⟨r2, 0, none⟩ = some (.slice so.a so.n so.c) ∧ so.n = ts.length := by
      obtain ⟨sa, so, Ga, Go, h1, h2, h3, h4, _, _, _, _, _, _, _, h11, _⟩ := hF
      refine ⟨so, by rw [cell_of h2]; rfl, ?_⟩
      have := h4.rd.len
      simp at this
      omega
    obtain ⟨so0, c0, hso0⟩ := hso
    obtain ⟨q1, L1, a1, a2, a3, a4⟩ := least_ok (k := k) hF hne (by omega) (by omega)
    have hks1 : (ks.eraseIdx (least ts)).length = (rest ts).length := by rw [List.length_eraseIdx_of_lt (by have := least_lt hne; omega)]; omega
    obtain ⟨q2, L2, b1, b2, b3, b4⟩ := least_ok (k := k) a3 hne2 (by omega) (by omega)
    have hks2 : ((ks.eraseIdx (least ts)).eraseIdx (least (rest ts))).length = (rest (rest ts)).length := by rw [List.length_eraseIdx_of_lt (by have := least_lt hne2; omega)]; omega
    generalize (ks.eraseIdx (least ts)).eraseIdx (least (rest ts)) = ks2 at *
    obtain ⟨x1, hx1⟩ := a2.wt
    obtain ⟨x2, hx2⟩ := b2.wt
    obtain ⟨sa, so, so', sa', La, Lb, Lc, Ld, Ga, G', p1, p2, p3, p4, p5, p6, p7, p8, p9, p10, p11⟩ := push_ok b3 ((((pick ts).wt + (pick (rest ts)).wt : Nat) : Int), (q1 : Int), (q2 : Int)) (.node (pick ts) (pick (rest ts)))
      ⟨q1, q2, by rw [List.getElem?_append_right (Nat.le_refl _)]; simp, a2.mono _, b2.mono _⟩ (by omega) (by omega)
    have hjoin : rest (rest ts) ++ [HT.node (pick ts) (pick (rest ts))] = join ts := rfl
    rw [hjoin] at p10
    have hjl : (join ts).length = m + 1 := by rw [join_length (by omega)]; omega
    obtain ⟨ns', ks', G2, L', e1, e2, e3, e4, e5⟩ := ih j _ _ (join ts) G' Ld hjl (by omega) p10 (by simp; omega) (by omega) (by rw [join_total (by omega)]; exact htot) ⟨.node (pick ts) (pick (rest ts)), by simp [join], by
      refine ⟨q1, q2, ?_, a2.mono _, b2.mono _⟩
      simp⟩
    refine ⟨ns', ks', G2, L', ?_, e2, (a4.trans (b4.trans p11)).trans e3, e4, by rw [e5]; simp; omega⟩
    have hwt : (pick ts).wt + (pick (rest ts)).wt ≤ total ts := by
      have h1 := sum_rest HT.wt hne
      have h2 := sum_rest HT.wt hne2
      simp only [total]
      omega
    obtain ⟨c1', i1, i2⟩ := p7.get (i := q1) (by rw [p3]; exact get_lt hx1)
    obtain ⟨c2', i3, i4⟩ := p7.get (i := q2) (by rw [p3]; exact get_lt hx2)
    have w1 := i2 Lb fun _ _ => rfl
    have w2 := i4 Lb fun _ _ => rfl
    obtain ⟨g1, _, _⟩ := triCells_get hx1
    obtain ⟨g2, _, _⟩ := triCells_get hx2
    have d1 : cell L2 ⟨r1, 0, none⟩ = some (.slice sa.a sa.n sa.c) := by rw [cell_of p1]; rfl
    have d2 : cell L2 ⟨r2, 0, none⟩ = some (.slice so.a so.n so.c) := by rw [cell_of p2]; rfl
    have d3 : cell Lb ⟨r1, 0, none⟩ = some (.slice sa.a sa.n sa.c) := by rw [cell_of p6]; rfl
    have d4 : ∀ X : LBlk, cell (Lb ++ [X]) ⟨r1, 0, none⟩ = some (.slice sa.a sa.n sa.c) := fun X => by rw [cell_of (by rw [get_push (get_lt p6)]; exact p6)]; rfl
    rw [← p3] at p4
    simp only [kV] at p4
    simp only [iV] at p8 g1 g2
    have ew : IntKind.wrap .i64 (((pick ts).wt : Int) + ((pick (rest ts)).wt : Int)) = (((pick ts).wt + (pick (rest ts)).wt : Nat) : Int) := by rw [wI64] <;> omega
    rw [show j + 1 - (m + 1) = j - m by omega, ← e1, f93_l15_eq]
    simp only [c0, Option.bind_some, asSl_slice, obind_some]
    rw [decide_eq_true (by omega)]
    simp only [lif_true, a1, b1, lbind_ret, asI_int, obind_some, d1, d2, Option.bind_some, asSl_slice, size3, bytes3, src_new, p4, p5, d3, i1, i3, mk_add, Nat.add_zero, w1, w2, g1, g2, ew, d4, same_self, when_true, size95, bytes95, src_tri, p8, p9]
theorem height_syms (t : HT) : t.height + 1 ≤ t.syms.length := by
  induction t with
  | leaf w i => simp [HT.height, HT.syms]
  | node l r ihl ihr => simp only [HT.height, HT.syms, List.length_append]; omega
theorem joinAll_inv {p : HT → Prop} (hn : ∀ a b, p a → p b → p (.node a b)) : ∀ (m : Nat) (ts : List HT), ts.length = m + 1 → (∀ t ∈ ts, p t) → ∀ t ∈ joinAll m ts, p t
  | 0, ts, _, h => h
  | m + 1, ts, hl, h => joinAll_inv hn m (join ts) (by rw [join_length (by omega)]; omega) (join_all (by omega) h hn)
theorem joinAll_sum {f : HT → Nat} (hn : ∀ a b, f (.node a b) = f a + f b) : ∀ (m : Nat) (ts : List HT), ts.length = m + 1 → ((joinAll m ts).map f).sum = (ts.map f).sum
  | 0, ts, _ => rfl
  | m + 1, ts, hl => by
    simp only [joinAll]
    rw [joinAll_sum hn m (join ts) (by rw [join_length (by omega)]; omega)]
    have := sum_join f (ts := ts) (by omega)
    rw [hn] at this
    omega
theorem leaves_syms (fs : List Int) (i : Nat) : ((leavesFrom i fs).map fun t => t.syms.length).sum = (leavesFrom i fs).length := by
  induction fs generalizing i with
  | nil => rfl
  | cons f fs ih =>
    simp only [leavesFrom]
    split
    · simp only [List.map_cons, List.sum_cons, List.length_cons, ih, HT.syms, List.length_nil]
      omega
    · exact ih _
theorem leaves_total {fs : List Int} (h : ∀ f ∈ fs, f ≤ 1073741824) (i : Nat) : total (leavesFrom i fs) ≤ fs.length * 1073741824 := by
  induction fs generalizing i with
  | nil => simp [leavesFrom, total]
  | cons f fs ih =>
    have := ih (fun g hg => h g (by simp [hg])) (i + 1)
    have hf := h f (by simp)
    simp only [total] at this
    simp only [leavesFrom, total, List.length_cons, Nat.add_mul]
    split
    · simp only [List.map_cons, List.sum_cons, HT.wt]; omega
    · exact Nat.le_trans this (Nat.le_add_right _ _)
theorem lensOf_one {fs : List Int} {t : HT} (h : leavesFrom 0 fs = [t]) : lensOf fs = t.lay 1 (List.replicate fs.length 0) := by unfold lensOf; rw [h]
theorem lensOf_nil {fs : List Int} (h : leavesFrom 0 fs = []) : lensOf fs = List.replicate fs.length 0 := by unfold lensOf; rw [h]
theorem lensOf_more {fs : List Int} {m : Nat} {t : HT} (h : (leavesFrom 0 fs).length = m + 2) (ht : joinAll (m + 1) (leavesFrom 0 fs) = [t]) : lensOf fs = t.lay 0 (List.replicate fs.length 0) := by
  unfold lensOf
  split
  · rename_i h0; rw [h0] at h; simp at h
  · rename_i h0; rw [h0] at h; simp at h
  · rename_i ts h0 h1
    rw [h, show m + 2 - 1 = m + 1 by omega, ht]
/-- The end: nothing more to put together. -/
theorem finish {k r0 r1 r2 : Nat} {so : Sl} {ns : List Tri} {ks : List Nat} {ts : List HT} {G Fo : List Nat} {out : List Int} {L : LHeap} (hF : Forest L r1 r2 ns ks ts G) (h1 : ts.length ≤ 1) (hns : ns.length < 2 ^ 40) (hts : ts = [] → ns = [])
    (hlast : ∀ t, ts = [t] → NR ns (ns.length - 1) t ∧ t.height + 2 ≤ k ∧ t.height < 2 ^ 30 ∧ ∀ i ∈ t.syms, i < out.length) (b0 : L[r0]? = some (.cells [.slice so.a so.n so.c] 49 false 0)) (hw : WS L so (out.map iV) 3 Fo)
    (h0 : r0 ∉ G) (h0o : r0 ∉ Fo) (hGo : Apart G Fo) (j : Nat) :
    ∃ L', f93_l15 k (j + 1) r0 r1 r2 r2 r1 L = some (.ret (.slice so.a so.n so.c) L') ∧ WS L' so ((match ts with | t :: _ => t.lay 0 out | [] => out).map iV) 3 Fo ∧ Step Fo L Fo L' := by
  obtain ⟨sa, sp, Ga, Go, g1, g2, g3, g4, g5, g6, g7, g8, g9, g10, rfl, g11, g12⟩ := hF
  have hsn : sa.n = ns.length := by have := g3.1; simp at this; omega
  have hso : sp.n = ts.length := by have := g4.rd.len; simp at this; omega
  have c2 : cell L ⟨r2, 0, none⟩ = some (.slice sp.a sp.n sp.c) := by rw [cell_of g2]; rfl
  have r1o : r1 ∉ Fo := fun h => hGo r1 (by simp) h
  have aGa : Apart Fo Ga := fun i hi hg => hGo i (by simp [hg]) hi
  rw [f93_l15_eq]
  simp only [c2, Option.bind_some, asSl_slice, obind_some]
  rw [decide_eq_false (by omega)]
  simp only [lif_false]
  have st0 : Step Fo L Fo (L ++ [LBlk.cells [Value.nilFunc] 159 false 0]) := .push _ _ _
  have hnew : (L ++ [LBlk.cells [Value.nilFunc] 159 false 0])[L.length]? = some (.cells [Value.nilFunc] 159 false 0) := get_new
  have hst : stores (L ++ [LBlk.cells [Value.nilFunc] 159 false 0]) ⟨L.length, 0, none⟩ [Value.func (Fn.func 103) #[] #[Value.pointer (some ⟨r1, 0, none⟩), Value.pointer (some ⟨r0, 0, none⟩), Value.pointer (some ⟨L.length, 0, none⟩)]] =
    some ((L ++ [LBlk.cells [Value.nilFunc] 159 false 0]).set L.length (.cells [deepFn r1 r0 L.length] 159 false 0)) := stores_all hnew rfl
  rw [hst]
  simp only [obind_some]
  have b4 := get_set_self (x := LBlk.cells [deepFn r1 r0 L.length] 159 false 0) hnew
  have st1 : Step Fo L Fo ((L ++ [LBlk.cells [Value.nilFunc] 159 false 0]).set L.length (.cells [deepFn r1 r0 L.length] 159 false 0)) := by
    refine ⟨by simp, fun i hi hn => ?_, fun i hi => .inl hi⟩
    rw [get_set_ne (by omega), get_push hi]
  have keep : ∀ i, i < L.length → ((L ++ [LBlk.cells [Value.nilFunc] 159 false 0]).set L.length (.cells [deepFn r1 r0 L.length] 159 false 0))[i]? = L[i]? := fun i hi => by rw [get_set_ne (by omega), get_push hi]
  show ∃ L', obind (Option.bind (cell ((L ++ [LBlk.cells [Value.nilFunc] 159 false 0]).set L.length (.cells [deepFn r1 r0 L.length] 159 false 0)) ⟨r1, 0, none⟩) asSl) _ = _ ∧ _
  generalize (L ++ [LBlk.cells [Value.nilFunc] 159 false 0]).set L.length (.cells [deepFn r1 r0 L.length] 159 false 0) = L1 at *
  have b1 : L1[r1]? = some (.cells [.slice sa.a sa.n sa.c] 155 false 0) := by rw [keep r1 (get_lt g1), g1]
  have b01 : L1[r0]? = some (.cells [.slice so.a so.n so.c] 49 false 0) := by rw [keep r0 (get_lt b0), b0]
  have hw1 := hw.mono fun i hi => keep i (hw.within i hi)
  have g31 := g3.mono fun i hi => keep i (g3.within i hi)
  have c1 : cell L1 ⟨r1, 0, none⟩ = some (.slice sa.a sa.n sa.c) := by rw [cell_of b1]; rfl
  have c0 : cell L1 ⟨r0, 0, none⟩ = some (.slice so.a so.n so.c) := by rw [cell_of b01]; rfl
  have c4 : cell L1 ⟨L.length, 0, none⟩ = some (deepFn r1 r0 L.length) := by rw [cell_of b4]; rfl
  simp only [c1, Option.bind_some, asSl_slice, obind_some]
  match ts, h1, hts, hlast with
  | [], _, hts, _ =>
    rw [decide_eq_false (by rw [hsn, hts rfl]; simp)]
    simp only [lif_false, c0, Option.bind_some, asSl_slice, obind_some]
    exact ⟨L1, rfl, hw1, st1⟩
  | [t], _, _, hlast =>
    obtain ⟨q1, q2, q3, q4⟩ := hlast t rfl
    obtain ⟨x, hx⟩ := q1.wt
    have hpos := get_lt hx
    rw [decide_eq_true (by omega)]
    obtain ⟨L2, e1, e2, e3⟩ := deep_ok (r4 := L.length) h0o r1o (fun h => by have := hw.within _ h; omega) aGa t (ns.length - 1) 0 k out L1 q1 q2 q4 (by omega) b01 b1 b4 g31 hw1
    have c02 : cell L2 ⟨r0, 0, none⟩ = some (.slice so.a so.n so.c) := by rw [cell_of ((e3.keep r0 (get_lt b01) h0o).trans b01)]; rfl
    have ew : IntKind.wrap .i64 ((sa.n : Int) - 1) = ((ns.length - 1 : Nat) : Int) := by rw [wI64] <;> omega
    have e1 : f103 k ((ns.length - 1 : Nat) : Int) 0 r1 r0 L.length L1 = some (.ret (.tuple #[]) L2) := e1
    simp only [lif_true, c4, c1, Option.bind_some, asSl_slice, obind_some, ew, deep_app, e1, lbind_ret, c02]
    exact ⟨L2, rfl, e2, st1.trans e3⟩
theorem once_ok {k : Nat} {l : Sl} {fs : List Int} {A : List Nat} {L : LHeap} (hl : Rd L l (fs.map iV) A) (hf : ∀ f ∈ fs, f ≤ 1073741824) (hs : fs.length ≤ 1024) (hk : 2 * fs.length + 60 ≤ k) :
    ∃ s L' F, f93 k l L = some (.ret (.slice s.a s.n s.c) L') ∧ WS L' s ((lensOf fs).map iV) 3 F ∧ Step [] L F L' := by
  obtain ⟨k, rfl⟩ : ∃ k', k = k' + 1 := ⟨k - 1, by omega⟩
  have hn := hl.len
  simp only [List.length_map] at hn
  rw [f93_eq]
  simp only [bytes3, hn, room_ok (n := fs.length) (b := 8) (by omega) (by omega), when_true, Int.toNat_natCast]
  -- the row of lengths
  have hw := WS.made (L := L) (n := fs.length) (v := Value.int .i64 0) (e := 3)
  have s0 := Step.new [] L (LBlk.cells (List.flatten (List.replicate fs.length [Value.int .i64 0])) 3 false 0)
  generalize L ++ [LBlk.cells (List.flatten (List.replicate fs.length [Value.int .i64 0])) 3 false 0] = M0 at *
  have hl0 := hl.mono (s0.others hl.within (none_apart _))
  have ap0 : Apart [L.length] A := s0.apart hl.within (none_apart _)
  have hlt0 : L.length < M0.length := hw.within L.length (by simp)
  -- its box
  have hbn : (M0 ++ [LBlk.cells [Value.slice none 0 0] 49 false 0])[M0.length]? = some (.cells [Value.slice none 0 0] 49 false 0) := get_new
  rw [stores_all hbn (news := [Value.slice (some ⟨L.length, 0, none⟩) fs.length fs.length]) rfl]
  simp only [obind_some]
  have b0 := get_set_self (x := LBlk.cells [Value.slice (some ⟨L.length, 0, none⟩) fs.length fs.length] 49 false 0) hbn
  have s1 : Step [] M0 [M0.length] ((M0 ++ [LBlk.cells [Value.slice none 0 0] 49 false 0]).set M0.length (.cells [Value.slice (some ⟨L.length, 0, none⟩) fs.length fs.length] 49 false 0)) := (Step.new [] M0 _).trans (.set _ (by simp))
  generalize (M0 ++ [LBlk.cells [Value.slice none 0 0] 49 false 0]).set M0.length (.cells [Value.slice (some ⟨L.length, 0, none⟩) fs.length fs.length] 49 false 0) = L1 at *
  have hl1 := hl0.mono (s1.others hl0.within (none_apart _))
  have hw1 := hw.mono (s1.others hw.within (none_apart _))
  have hlt1 := get_lt b0
  -- the forest's boxes
  have p1 : (L1 ++ [LBlk.cells [Value.slice none 0 0] 155 false 0])[L1.length]? = some (.cells [Value.slice none 0 0] 155 false 0) := get_new
  have s2 := Step.new [] L1 (LBlk.cells [Value.slice none 0 0] 155 false 0)
  generalize L1 ++ [LBlk.cells [Value.slice none 0 0] 155 false 0] = M2 at *
  have p2 : (M2 ++ [LBlk.cells [Value.slice none 0 0] 49 false 0])[M2.length]? = some (.cells [Value.slice none 0 0] 49 false 0) := get_new
  have s3 := Step.new [] M2 (LBlk.cells [Value.slice none 0 0] 49 false 0)
  generalize M2 ++ [LBlk.cells [Value.slice none 0 0] 49 false 0] = M3 at *
  have hlt2 := get_lt p1
  have p13 : M3[L1.length]? = some (.cells [Value.slice none 0 0] 155 false 0) := by rw [s3.keep _ hlt2 (by simp), p1]
  have hl3 := (hl1.mono (s2.others hl1.within (none_apart _))).mono (s3.others (s2.within hl1.within) (none_apart _))
  have hw3 := (hw1.mono (s2.others hw1.within (none_apart _))).mono (s3.others (s2.within hw1.within) (none_apart _))
  have b03 : M3[M0.length]? = some (.cells [Value.slice (some ⟨L.length, 0, none⟩) fs.length fs.length] 49 false 0) := by rw [s3.keep _ (Nat.lt_of_lt_of_le hlt1 s2.len) (by simp), s2.keep _ hlt1 (by simp), b0]
  have hF : Forest M3 L1.length M2.length [] (List.range ([] : List Tri).length) (leavesFrom 0 (fs.take 0)) [L1.length, M2.length] :=
    ⟨⟨none, 0, 0⟩, ⟨none, 0, 0⟩, [], [], p13, p2, OZ.nil _ _ (by omega), OP.nil _ _, by omega, by simp, by simp, by simp, by simp, none_apart _, rfl, rfl, fun i k t h => by simp at h⟩
  have e02 := s2.len
  have e01 := s1.len
  have apU : Apart [L1.length, M2.length] (M0.length :: L.length :: A) := by
    intro i hi hj
    simp only [List.mem_cons, List.not_mem_nil, or_false] at hi hj
    rcases hj with rfl | rfl | hj
    · omega
    · omega
    · have := hl.within i hj; omega
  have wU : Within (M0.length :: L.length :: A) M3 := by
    intro i hi
    simp only [List.mem_cons] at hi
    have := s3.len
    rcases hi with rfl | rfl | hi
    · omega
    · omega
    · have := hl.within i hi; omega
  have apGA : Apart [L1.length, M2.length] A := fun i hi hj => apU i hi (by simp [hj])
  obtain ⟨ns, G, L4, c1, c2, c3, c4⟩ := collect (k := k) (r0 := M0.length) hn (by omega) fs.length 0 k [] [L1.length, M2.length] M3 (by omega) (by omega) hF rfl hl3 apGA
  have apG := c4.apart wU apU
  have b04 : L4[M0.length]? = some (.cells [Value.slice (some ⟨L.length, 0, none⟩) fs.length fs.length] 49 false 0) := by rw [c4.others wU apU _ (by simp), b03]
  have hw4 := hw3.mono (c4.others hw3.within fun i hi hj => apU i hi (by simp at hj; simp [hj]))
  have hll := leavesFrom_length fs 0
  have h0G : M0.length ∉ G := fun h => apG _ h (by simp)
  have hGo : Apart G [L.length] := fun i hi hj => apG i hi (by simp at hj; simp [hj])
  have h0o : M0.length ∉ [L.length] := by simp; omega
  have stA : Step [] L (L.length :: [M0.length, L1.length, M2.length]) M3 := by
    refine ⟨by have := s0.len; have := s3.len; omega, fun i hi _ => ?_, fun i hi => ?_⟩
    · have := s0.len
      rw [s3.keep i (by omega) (by simp), s2.keep i (by omega) (by simp), s1.keep i (by omega) (by simp), s0.keep i hi (by simp)]
    · have := s0.len
      simp at hi
      exact .inr (by omega)
  have stB : ∀ {L' : LHeap}, Step (L.length :: G) L4 [L.length] L' → Step [] L [L.length] L' := fun {L'} h => by
    have q1 : Step [] L (L.length :: [L1.length, M2.length]) M3 := stA.less fun i hi => .inl (by simp at hi ⊢; omega)
    have q2 : Step (L.length :: [L1.length, M2.length]) M3 (L.length :: G) L4 := by
      refine ⟨c4.len, fun i hi hn => c4.keep i hi (fun h => hn (List.mem_cons_of_mem _ h)), fun i hi => ?_⟩
      rcases List.mem_cons.1 hi with rfl | hi
      · exact .inl (by simp)
      · exact (c4.foot i hi).imp (List.mem_cons_of_mem _) id
    exact (q1.trans q2).trans h
  rw [show ((0 : Nat) : Int) = 0 from rfl] at c1
  rw [hn] at c1
  rw [c1]
  obtain ⟨j, hj⟩ : ∃ j, k - fs.length = j + 1 := ⟨k - fs.length - 1, by omega⟩
  rw [hj, f93_l5_eq, decide_eq_false (by omega)]
  have hF' := c2
  obtain ⟨sa, sp, Ga, Go, g1, g2, g3, g4, g5, g6, g7, g8, g9, g10, hGe, g11, g12⟩ := c2
  have hsp : sp.n = (leavesFrom 0 fs).length := by have := g4.rd.len; simp at this; omega
  have d2 : cell L4 ⟨M2.length, 0, none⟩ = some (.slice sp.a sp.n sp.c) := by rw [cell_of g2]; rfl
  simp only [lif_false, d2, Option.bind_some, asSl_slice, obind_some, hsp]
  have hrep : List.replicate fs.length (Value.int .i64 0) = (List.replicate fs.length (0 : Int)).map iV := by simp [iV]
  rw [hrep] at hw4
  have hsym : ∀ t ∈ leavesFrom 0 fs, ∀ i ∈ t.syms, i < fs.length := fun t ht i hi => by
    obtain ⟨q, hq, rfl, _⟩ := leavesFrom_leaf ht
    simp [HT.syms] at hi
    omega
  by_cases hone : (leavesFrom 0 fs).length = 1
  · obtain ⟨t, ht⟩ := List.length_eq_one_iff.1 hone
    obtain ⟨q, hq, htq, _⟩ := leavesFrom_leaf (show t ∈ leavesFrom 0 fs by rw [ht]; simp)
    have hn0 : ns[0]? = some (((fs.getD q 0).toNat : Int), -1, ((0 + q : Nat) : Int)) := by
      have := g12 0 0 t (by rw [List.getElem?_eq_getElem (by simp; omega)]; simp) (by rw [ht]; rfl)
      rw [htq] at this
      exact this
    obtain ⟨_, _, w3⟩ := triCells_get hn0
    have hsn : sa.n = ns.length := by have := g3.1; simp at this; omega
    obtain ⟨c, i1, i2⟩ := g3.get (i := 0) (by omega)
    have w3' := (i2 L4 (fun _ _ => rfl) (0 * 3 + 2)).trans w3
    have d1 : cell L4 ⟨L1.length, 0, none⟩ = some (.slice sa.a sa.n sa.c) := by rw [cell_of g1]; rfl
    have d0 : cell L4 ⟨M0.length, 0, none⟩ = some (Value.slice (some ⟨L.length, 0, none⟩) fs.length fs.length) := by rw [cell_of b04]; rfl
    obtain ⟨a, L5, e1, e2, e3, e4⟩ := hw4.put (i := 0 + q) (by simp; omega) (iV 1)
    have d05 : cell L5 ⟨M0.length, 0, none⟩ = some (Value.slice (some ⟨L.length, 0, none⟩) fs.length fs.length) := by rw [cell_of ((e4.keep _ (get_lt b04) h0o).trans b04)]; rfl
    refine ⟨⟨some ⟨L.length, 0, none⟩, fs.length, fs.length⟩, L5, [L.length], ?_, ?_, stB (e4.mono fun i hi => by simp at hi; simp [hi])⟩
    · rw [hone, show (((1 : Nat) : Int) == 1) = true from rfl]
      have i1 : idx sa 0 3 = some ⟨c, 0 * 3, none⟩ := i1
      have e2 : stores L4 a [Value.int .i64 1] = some L5 := e2
      simp only [lif_true, d0, d1, Option.bind_some, asSl_slice, obind_some, i1, mk_add, w3', iV, asI_int, e1, e2, d05]
    · rw [lensOf_one ht, htq]
      simp only [HT.lay]
      rw [List.map_set]
      exact e3
  · rw [show (((leavesFrom 0 fs).length : Int) == 1) = false by simp; omega]
    simp only [lif_false]
    by_cases hnil : leavesFrom 0 fs = []
    · have hns : ns = [] := List.eq_nil_of_length_eq_zero (by rw [c3, hnil]; rfl)
      obtain ⟨j', hj'⟩ : ∃ j', k = j' + 1 := ⟨k - 1, by omega⟩
      obtain ⟨L5, e1, e2, e3⟩ := finish (k := k) (so := ⟨some ⟨L.length, 0, none⟩, fs.length, fs.length⟩) hF' (by rw [hnil]; simp) (by rw [hns]; simp) (fun _ => hns) (fun t ht => by rw [hnil] at ht; cases ht) b04 hw4 h0G h0o hGo j'
      rw [← hj'] at e1
      refine ⟨_, L5, [L.length], e1, ?_, stB (e3.mono fun i hi => by simp at hi; simp [hi])⟩
      rw [lensOf_nil hnil]
      rw [hnil] at e2
      exact e2
    · obtain ⟨m, hm⟩ : ∃ m, (leavesFrom 0 fs).length = m + 2 := by
        have : (leavesFrom 0 fs).length ≠ 0 := fun h => hnil (List.eq_nil_of_length_eq_zero h)
        exact ⟨(leavesFrom 0 fs).length - 2, by omega⟩
      have htot : total (leavesFrom 0 fs) < 2 ^ 60 := by have := leaves_total hf 0; omega
      have hlast : ∃ t, (leavesFrom 0 fs).getLast? = some t ∧ NR ns (ns.length - 1) t := by
        have hlt : (leavesFrom 0 fs).length - 1 < (leavesFrom 0 fs).length := by omega
        refine ⟨(leavesFrom 0 fs)[(leavesFrom 0 fs).length - 1], by rw [List.getLast?_eq_getElem?, List.getElem?_eq_getElem hlt], ?_⟩
        refine g12 ((leavesFrom 0 fs).length - 1) _ _ ?_ (List.getElem?_eq_getElem hlt)
        rw [List.getElem?_eq_getElem (by simp; omega)]
        simp
        omega
      obtain ⟨ns', ks', G2, L5, m1, m2, m3, m4, m5⟩ := merge (k := k) (r0 := M0.length) (m + 1) k ns (List.range ns.length) (leavesFrom 0 fs) G L4 (by omega) (by omega) hF' (by omega) (by omega) htot hlast
      have hj1 := joinAll_length (m + 1) (leavesFrom 0 fs) (by omega)
      obtain ⟨t, ht⟩ := List.length_eq_one_iff.1 hj1
      have wU4 : Within (M0.length :: L.length :: A) L4 := c4.within wU
      have apG2 := m3.apart wU4 apG
      have b05 : L5[M0.length]? = some (.cells [Value.slice (some ⟨L.length, 0, none⟩) fs.length fs.length] 49 false 0) := by rw [m3.others wU4 apG _ (by simp), b04]
      have hw5 := hw4.mono (m3.others hw4.within hGo)
      obtain ⟨t', ht', hnr⟩ := m4
      rw [ht] at ht'
      simp at ht'
      subst ht'
      have hsy : ∀ i ∈ t.syms, i < fs.length := joinAll_inv (p := fun t => ∀ i ∈ t.syms, i < fs.length) (fun a b ha hb i hi => (List.mem_append.1 hi).elim (ha i) (hb i)) (m + 1) _ (by omega) hsym t (by rw [ht]; simp)
      have hsl : t.syms.length = (leavesFrom 0 fs).length := by
        have := joinAll_sum (f := fun t => t.syms.length) (fun a b => by simp [HT.syms]) (m + 1) (leavesFrom 0 fs) (by omega)
        rw [ht, leaves_syms] at this
        simpa using this
      have hh := height_syms t
      obtain ⟨j', hj'⟩ : ∃ j', k - (m + 1) = j' + 1 := ⟨k - (m + 1) - 1, by omega⟩
      have hnsl : ns'.length < 2 ^ 40 := by omega
      obtain ⟨L6, e1, e2, e3⟩ := finish (k := k) (so := ⟨some ⟨L.length, 0, none⟩, fs.length, fs.length⟩) m2 (by omega) hnsl (fun h => by rw [ht] at h; cases h)
        (fun u hu => by rw [ht] at hu; cases hu; exact ⟨hnr, by omega, by omega, by simpa using hsy⟩) b05 hw5 (fun h => apG2 _ h (by simp)) h0o (fun i hi hj => apG2 i hi (by simp at hj; simp [hj])) j'
      rw [m1, hj', e1]
      refine ⟨_, L6, [L.length], rfl, ?_, ?_⟩
      · rw [lensOf_more hm ht]
        rw [ht] at e2
        exact e2
      · have q0 : Step (L.length :: G) L4 (L.length :: G2) L5 := by
          refine ⟨m3.len, fun i hi hn => m3.keep i hi (fun h => hn (List.mem_cons_of_mem _ h)), fun i hi => ?_⟩
          rcases List.mem_cons.1 hi with rfl | hi
          · exact .inl (by simp)
          · exact (m3.foot i hi).imp (List.mem_cons_of_mem _) id
        exact stB (q0.trans (e3.mono fun i hi => by simp at hi; simp [hi]))
end Go.Proofs.Ytflhogapjmdkaaa.X
end

section
set_option maxRecDepth 100000
set_option linter.unusedVariables false
namespace Go.Proofs.Ytflhogapjmdkaaa.X
open Go Go.Rlm
def bad (f : Int) : Bool := decide (f < 0) || decide (f > 1073741824)
def fnBad : Value := .func (.func 92) #[] #[]
theorem bad_app (k : Nat) (f : Int) (L : LHeap) : lapp (lcall Proofs.Try.prog T (k + 1)) fnBad [.int .i64 f] L = some (.ret (.bool (bad f)) L) := by
  rw [fnBad, lapp_plain (g := 92) rfl]
  show f92 (k + 1) f L = _
  rw [f92_eq]
  unfold bad
  by_cases h : f < 0
  · rw [decide_eq_true h]; rfl
  · rw [decide_eq_false h]; rfl
theorem index_loop {k : Nat} {l : Sl} {fs : List Int} {A : List Nat} {L : LHeap} (hl : Rd L l (fs.map iV) A) (hs : fs.length < 2 ^ 60) :
    ∀ (m i j : Nat), i + m = fs.length → m < j → ∃ n : Int, f100_l2 (k + 1) j l fnBad (l.n : Int) (i : Int) L = some (.ret (.int .i64 n) L) ∧ decide (n ≥ 0) = (fs.drop i).any bad := by
  have hn := hl.len
  simp only [List.length_map] at hn
  intro m
  induction m with
  | zero =>
    intro i j hi hj
    obtain ⟨j, rfl⟩ : ∃ j', j = j' + 1 := ⟨j - 1, by omega⟩
    refine ⟨-1, ?_, by rw [List.drop_eq_nil_of_le (by omega)]; rfl⟩
    rw [f100_l2_eq, decide_eq_false (by omega)]
    rfl
  | succ m ih =>
    intro i j hi hj
    obtain ⟨j, rfl⟩ : ∃ j', j = j' + 1 := ⟨j - 1, by omega⟩
    obtain ⟨a, a1, a2⟩ := hl.here (i := i) (v := iV fs[i]) (by simp [show i < fs.length by omega])
    rw [f100_l2_eq, decide_eq_true (by omega), List.drop_eq_getElem_cons (show i < fs.length by omega), List.any_cons]
    simp only [lif_true, a1, a2, iV, obind_some, Option.bind_some, asI_int, bad_app, lbind_ret, asB_bool]
    rw [wI64 (n := (i : Int) + 1) (by omega) (by omega)]
    cases hb : bad fs[i]
    · simpa using ih (i + 1) j (by omega) (by omega)
    · exact ⟨(i : Int), rfl, by simp⟩
theorem contains_ok {k : Nat} {l : Sl} {fs : List Int} {A : List Nat} {L : LHeap} (hl : Rd L l (fs.map iV) A) (hs : fs.length < 2 ^ 60) (hk : fs.length + 10 ≤ k) :
    f91 k l fnBad L = some (.ret (.bool (fs.any bad)) L) := by
  obtain ⟨k, rfl⟩ : ∃ k', k = k' + 3 := ⟨k - 3, by omega⟩
  obtain ⟨n, h1, h2⟩ := index_loop (k := k) hl hs fs.length 0 (k + 1) (by omega) (by omega)
  rw [f91_eq, f100_eq]
  have h1 : f100_l2 (k + 1) (k + 1) l fnBad (l.n : Int) 0 L = some (.ret (.int .i64 n) L) := h1
  simp only [h1, lbind_ret, asI_int, obind_some]
  rw [h2, List.drop_zero]
theorem clone_ok {k : Nat} {l : Sl} {fs : List Int} {A : List Nat} {L : LHeap} (hl : Rd L l (fs.map iV) A) (hs : fs.length ≤ 2 ^ 40) (hk : 1 ≤ k) :
    ∃ s L' F, f82 k l L = some (.ret (.slice s.a s.n s.c) L') ∧ WS L' s (fs.map iV) 3 F ∧ Step [] L F L' := by
  obtain ⟨k, rfl⟩ : ∃ k', k = k' + 1 := ⟨k - 1, by omega⟩
  have hn := hl.len
  rw [f82_eq]
  cases ha : l.a with
  | none =>
    have hv : fs.map iV = [] := by
      obtain ⟨h1, ⟨h2, _⟩ | ⟨c, o, cs, e, ro, sp, h2, _⟩⟩ := hl
      · exact h2
      · rw [ha] at h2; cases h2
    exact ⟨⟨none, 0, 0⟩, L, [], rfl, .inl ⟨rfl, hv, rfl⟩, .refl _ _⟩
  | some a =>
    have hl' := (hl.mono fun i hi => get_push (X := [LBlk.cells [] 3 false 0]) (hl.within i hi)).src
    rw [ha] at hl'
    obtain ⟨s', L', F', c1, c2, c3, c4⟩ := copy_ok (L := L) (vs := fs.map iV) 3 8 (by simp; omega) (by simp; omega)
    rw [← hn] at c1
    refine ⟨s', L', F', ?_, c2, c3⟩
    simp only [Option.isNone_some, lif_false, size3, bytes3, hl', obind_some, c1]
theorem max_loop {k : Nat} {l : Sl} {zs : List Int} {A : List Nat} {L : LHeap} (hl : Rd L l (zs.map iV) A) (hs : zs.length < 2 ^ 60) :
    ∀ (m i j : Nat) (x : Int), i + m = zs.length → m < j → ∃ y : Int, f94_l5 k j l x (i : Int) L = some (.ret (.int .i64 y) L) ∧ (y ≤ 15 ↔ x ≤ 15 ∧ ∀ z ∈ zs.drop i, z ≤ 15) := by
  have hn := hl.len
  simp only [List.length_map] at hn
  intro m
  induction m with
  | zero =>
    intro i j x hi hj
    obtain ⟨j, rfl⟩ : ∃ j', j = j' + 1 := ⟨j - 1, by omega⟩
    refine ⟨x, ?_, by rw [List.drop_eq_nil_of_le (by omega)]; simp⟩
    rw [f94_l5_eq, decide_eq_false (by omega)]
    rfl
  | succ m ih =>
    intro i j x hi hj
    obtain ⟨j, rfl⟩ : ∃ j', j = j' + 1 := ⟨j - 1, by omega⟩
    obtain ⟨a, a1, a2⟩ := hl.here (i := i) (v := iV zs[i]) (by simp [show i < zs.length by omega])
    obtain ⟨y, h1, h2⟩ := ih (i + 1) j (if zs[i] > x then zs[i] else x) (by omega) (by omega)
    refine ⟨y, ?_, ?_⟩
    · rw [f94_l5_eq, decide_eq_true (by omega)]
      simp only [lif_true, a1, a2, iV, obind_some, Option.bind_some, asI_int, if_true]
      rw [wI64 (n := (i : Int) + 1) (by omega) (by omega)]
      exact h1
    · have hd : zs.drop i = zs[i] :: zs.drop (i + 1) := List.drop_eq_getElem_cons (by omega)
      rw [h2, hd]
      simp only [List.mem_cons, forall_eq_or_imp]
      by_cases hgt : zs[i] > x
      · rw [if_pos hgt]
        exact ⟨fun ⟨p, q⟩ => ⟨by omega, p, q⟩, fun ⟨p, q, r⟩ => ⟨q, r⟩⟩
      · rw [if_neg hgt]
        exact ⟨fun ⟨p, q⟩ => ⟨p, by omega, q⟩, fun ⟨p, q, r⟩ => ⟨p, r⟩⟩
theorem max_ok {k : Nat} {l : Sl} {zs : List Int} {A : List Nat} {L : LHeap} (hl : Rd L l (zs.map iV) A) (hs : zs.length < 2 ^ 60) (h0 : 0 < zs.length) (hk : zs.length + 10 ≤ k) :
    ∃ y : Int, f94 k l L = some (.ret (.int .i64 y) L) ∧ decide (y ≤ 15) = fits zs := by
  obtain ⟨k, rfl⟩ : ∃ k', k = k' + 1 := ⟨k - 1, by omega⟩
  have hn := hl.len
  simp only [List.length_map] at hn
  obtain ⟨a, a1, a2⟩ := hl.here (i := 0) (v := iV zs[0]) (by simp [h0])
  obtain ⟨y, h1, h2⟩ := max_loop (k := k) hl hs (zs.length - 1) 1 k zs[0] (by omega) (by omega)
  refine ⟨y, ?_, ?_⟩
  · rw [f94_eq, decide_eq_false (by omega)]
    have a1 : idx l 0 1 = some a := a1
    simp only [lif_false, a1, a2, iV, obind_some, Option.bind_some, asI_int]
    exact h1
  · have hd : zs = zs[0] :: zs.drop 1 := by
      have := List.drop_eq_getElem_cons (l := zs) (i := 0) h0
      simpa using this
    rw [Bool.eq_iff_iff, decide_eq_true_eq, h2, fits_iff]
    constructor
    · rintro ⟨p, q⟩ z hz
      rw [hd] at hz
      rcases List.mem_cons.1 hz with rfl | hz
      · exact p
      · exact q z hz
    · exact fun p => ⟨p _ (List.getElem_mem h0), fun z hz => p z (List.mem_of_mem_drop hz)⟩
theorem halve_loop {k j4 : Nat} {l : Sl} {fs : List Int} (hf : ∀ f ∈ fs, 0 ≤ f ∧ f ≤ 1073741824) (hs : fs.length < 2 ^ 60) :
    ∀ (m i j : Nat) (F : List Nat) (L : LHeap), i + m = fs.length → m < j → WS L l ((halve (fs.take i) ++ fs.drop i).map iV) 3 F →
      ∃ L', f75_l8 k j4 j l (fs.length : Int) (i : Int) L = f75_l4 k j4 l L' ∧ WS L' l ((halve fs).map iV) 3 F ∧ Step F L F L' := by
  intro m
  induction m with
  | zero =>
    intro i j F L hi hj hw
    obtain ⟨j, rfl⟩ : ∃ j', j = j' + 1 := ⟨j - 1, by omega⟩
    rw [List.take_of_length_le (by omega), List.drop_eq_nil_of_le (by omega), List.append_nil] at hw
    refine ⟨L, ?_, hw, .refl _ _⟩
    rw [f75_l8_eq, decide_eq_false (by omega)]
    rfl
  | succ m ih =>
    intro i j F L hi hj hw
    obtain ⟨j, rfl⟩ : ∃ j', j = j' + 1 := ⟨j - 1, by omega⟩
    have hiz : i < fs.length := by omega
    obtain ⟨f1, f2⟩ := hf _ (List.getElem_mem hiz)
    have hlen : (halve (fs.take i)).length = i := by rw [halve_length, List.length_take]; omega
    have hget : ((halve (fs.take i) ++ fs.drop i).map iV)[i]? = some (iV fs[i]) := by
      rw [List.getElem?_map, List.getElem?_append_right (by omega), hlen, Nat.sub_self, List.getElem?_drop, Nat.add_zero, List.getElem?_eq_getElem hiz]; rfl
    obtain ⟨a, a1, a2⟩ := hw.rd.here hget
    obtain ⟨a', L1, b1, b2, b3, b4⟩ := hw.put (i := i) (get_lt hget) (iV ((fs[i] + 1).tdiv 2))
    rw [← List.map_set] at b3
    have hset : (halve (fs.take i) ++ fs.drop i).set i ((fs[i] + 1).tdiv 2) = halve (fs.take (i + 1)) ++ fs.drop (i + 1) := by
      rw [List.set_append_right _ _ (by omega), hlen, Nat.sub_self, List.drop_eq_getElem_cons hiz, List.set_cons_zero, take_succ_int hiz]
      simp only [halve, List.map_append, List.map_cons, List.map_nil, List.append_assoc, List.singleton_append]
    rw [hset] at b3
    obtain ⟨L2, c1, c2, c3⟩ := ih (i + 1) j F L1 (by omega) (by omega) b3
    refine ⟨L2, ?_, c2, b4.trans c3⟩
    rw [← c1, f75_l8_eq, decide_eq_true (by omega)]
    simp only [lif_true, a1, a2, iV, obind_some, Option.bind_some, asI_int]
    have e1 : IntKind.wrap .i64 (Int.tdiv (IntKind.wrap .i64 (fs[i] + 1)) 2) = (fs[i] + 1).tdiv 2 := by
      rw [wI64 (n := fs[i] + 1) (by omega) (by omega), Int.tdiv_eq_ediv_of_nonneg (by omega), wI64] <;> omega
    rw [e1, wI64 (n := (i : Int) + 1) (by omega) (by omega)]
    have b2 : stores L a' [Value.int .i64 ((fs[i] + 1).tdiv 2)] = some L1 := b2
    obtain rfl : a = a' := Option.some.inj (a1.symm.trans b1)
    simp only [b2, obind_some]
    rfl
theorem lengths_loop {k : Nat} {l : Sl} : ∀ (n j : Nat) (fs : List Int) (F : List Nat) (L : LHeap), n < j → n ≤ 30 → (∀ f ∈ fs, 0 ≤ f ∧ f ≤ 2 ^ n) → fs.length ≤ 512 → 2 * fs.length + 70 ≤ k → WS L l (fs.map iV) 3 F →
    ∃ s L' F', f75_l4 k j l L = some (.ret (.tuple #[.slice s.a s.n s.c, .int .i64 0]) L') ∧ WS L' s ((lensLoop n fs).map iV) 3 F' ∧ Step F L F' L' := by
  intro n
  have main : ∀ (n j : Nat) (fs : List Int) (F : List Nat) (L : LHeap), n ≤ 30 → (∀ f ∈ fs, 0 ≤ f ∧ f ≤ 2 ^ n) → fs.length ≤ 512 → 2 * fs.length + 70 ≤ k → WS L l (fs.map iV) 3 F →
      (fits (lensOf fs) = true → ∃ s L' F', f75_l4 k (j + 1) l L = some (.ret (.tuple #[.slice s.a s.n s.c, .int .i64 0]) L') ∧ WS L' s ((lensOf fs).map iV) 3 F' ∧ Step F L F' L') ∧
      (fits (lensOf fs) = false → ∃ L', f75_l4 k (j + 1) l L = f75_l4 k j l L' ∧ WS L' l ((halve fs).map iV) 3 F ∧ Step F L F L') := by
    intro n j fs F L hn30 hf hl hk hw
    have hln := hw.rd.len
    simp only [List.length_map] at hln
    have hb : (2 : Int) ^ n ≤ 2 ^ 30 := by
      have : (2 : Nat) ^ n ≤ 2 ^ 30 := Nat.pow_le_pow_right (by omega) hn30
      exact_mod_cast this
    have hf' : ∀ f ∈ fs, 0 ≤ f ∧ f ≤ 1073741824 := fun f hff => by have := hf f hff; omega
    obtain ⟨s, L1, F1, a1, a2, a3⟩ := once_ok (k := k) hw.rd (fun f hff => (hf' f hff).2) (by omega) (by omega)
    have hsn := a2.rd.len
    simp only [List.length_map, lensOf_length] at hsn
    have hw1 : WS L1 l (fs.map iV) 3 F := hw.mono (a3.others hw.within (none_apart _))
    have st : Step F L F1 L1 := a3.mono fun i hi => by simp at hi
    rw [f75_l4_eq]
    simp only [a1, lbind_ret, asSl_slice, obind_some]
    by_cases h0 : fs.length = 0
    · have hnil : fs = [] := List.eq_nil_of_length_eq_zero h0
      refine ⟨fun _ => ⟨s, L1, F1, ?_, a2, st⟩, fun h => ?_⟩
      · rw [show ((s.n : Int) == 0) = true by simp; omega]; rfl
      · subst hnil
        exact absurd h (by decide)
    · rw [show ((s.n : Int) == 0) = false by simp; omega]
      obtain ⟨y, b1, b2⟩ := max_ok (k := k) a2.rd (by rw [lensOf_length]; omega) (by rw [lensOf_length]; omega) (by rw [lensOf_length]; omega)
      simp only [lif_false, b1, lbind_ret, asI_int, obind_some, b2]
      refine ⟨fun h => ⟨s, L1, F1, by rw [h]; rfl, a2, st⟩, fun h => ?_⟩
      rw [h]
      obtain ⟨L2, c1, c2, c3⟩ := halve_loop (k := k) (j4 := j) (l := l) hf' (by omega) fs.length 0 k F L1 (by omega) (by omega) (by simpa [halve] using hw1)
      refine ⟨L2, ?_, c2, ?_⟩
      · rw [← c1, hln]; rfl
      · exact (st.less (G := F) fun i hi => .inr hi).trans c3
  induction n with
  | zero =>
    intro j fs F L hj hn30 hf hl hk hw
    obtain ⟨j, rfl⟩ : ∃ j', j = j' + 1 := ⟨j - 1, by omega⟩
    exact (main 0 j fs F L hn30 hf hl hk hw).1 (fits_ones (fun f hff => by have := (hf f hff).2; simpa using this) hl)
  | succ n ih =>
    intro j fs F L hj hn30 hf hl hk hw
    obtain ⟨j, rfl⟩ : ∃ j', j = j' + 1 := ⟨j - 1, by omega⟩
    obtain ⟨m1, m2⟩ := main (n + 1) j fs F L hn30 hf hl hk hw
    simp only [lensLoop]
    cases hfit : fits (lensOf fs) with
    | true => simpa using m1 hfit
    | false =>
      obtain ⟨L1, c1, c2, c3⟩ := m2 hfit
      obtain ⟨s, L2, F2, d1, d2, d3⟩ := ih j (halve fs) F L1 (by omega) (by omega) (halve_mem hf) (by rw [halve_length]; exact hl) (by rw [halve_length]; exact hk) c2
      exact ⟨s, L2, F2, by rw [c1, d1], by simpa using d2, c3.trans d3⟩
def lenOk (fs : List Int) : Bool := decide (fs.length ≤ 512) && !fs.any bad
def lenRes (fs : List Int) : List Int := if lenOk fs then lengthsOf fs else []
def lenErr (fs : List Int) : Int := if lenOk fs then 0 else 1
theorem lenOk_mem {fs : List Int} (h : lenOk fs = true) : fs.length ≤ 512 ∧ ∀ f ∈ fs, 0 ≤ f ∧ f ≤ 1073741824 := by
  simp only [lenOk, Bool.and_eq_true, decide_eq_true_eq, Bool.not_eq_true', List.any_eq_false] at h
  refine ⟨h.1, fun f hf => ?_⟩
  have := h.2 f hf
  simp only [bad, Bool.or_eq_true, decide_eq_true_eq] at this
  omega
theorem lengths_ok {k : Nat} {l : Sl} {fs : List Int} {A : List Nat} {L : LHeap} (hl : Rd L l (fs.map iV) A) (hs : fs.length < 2 ^ 40) (hk : 2 * fs.length + 80 ≤ k) :
    ∃ s L' F, f75 k l L = some (.ret (.tuple #[.slice s.a s.n s.c, .int .i64 (lenErr fs)]) L') ∧ WS L' s ((lenRes fs).map iV) 3 F ∧ Step [] L F L' := by
  obtain ⟨k, rfl⟩ : ∃ k', k = k' + 1 := ⟨k - 1, by omega⟩
  have hn := hl.len
  simp only [List.length_map] at hn
  rw [f75_eq]
  by_cases h512 : fs.length > 512
  · have hno : lenOk fs = false := by simp [lenOk, show ¬ fs.length ≤ 512 by omega]
    rw [decide_eq_true (by omega)]
    exact ⟨⟨none, 0, 0⟩, L, [], by rw [lenErr, hno]; rfl, .inl ⟨rfl, by rw [lenRes, hno]; rfl, rfl⟩, .refl _ _⟩
  rw [decide_eq_false (by omega)]
  have hc := contains_ok (k := k) hl (by omega) (by omega)
  have hc : f91 k l (.func (.func 92) #[] #[]) L = some (.ret (.bool (fs.any bad)) L) := hc
  simp only [lif_false, hc, lbind_ret, asB_bool, obind_some]
  cases hb : fs.any bad with
  | true =>
    have hno : lenOk fs = false := by simp [lenOk, hb]
    exact ⟨⟨none, 0, 0⟩, L, [], by rw [lenErr, hno]; rfl, .inl ⟨rfl, by rw [lenRes, hno]; rfl, rfl⟩, .refl _ _⟩
  | false =>
    have hok : lenOk fs = true := by simp [lenOk, hb]; omega
    obtain ⟨_, hf⟩ := lenOk_mem hok
    obtain ⟨s1, L1, F1, c1, c2, c3⟩ := clone_ok (k := k) hl (by omega) (by omega)
    obtain ⟨s, L2, F2, d1, d2, d3⟩ := lengths_loop (k := k) 30 k fs F1 L1 (by omega) (by omega) (fun f hff => by have := hf f hff; omega) (by omega) (by omega) c2
    refine ⟨s, L2, F2, ?_, by rw [lenRes, hok]; exact d2, c3.trans d3⟩
    rw [lenErr, hok]
    simp only [lif_false, c1, lbind_ret, asSl_slice, obind_some]
    exact d1
end Go.Proofs.Ytflhogapjmdkaaa.X
end

section
set_option maxRecDepth 100000
set_option linter.unusedVariables false
namespace Go.Proofs.Ytflhogapjmdkaaa.X
open Go Go.Rlm
theorem cells87 : Program.cellsOf Proofs.Try.prog 125 = 16 := by kernel_rfl
def slV (s : Sl) : Value := .slice s.a s.n s.c
def coderCells (sl sc : Sl) (zs : List Int) (sy : Nat → Sl) : List Value := [slV sl, slV sc] ++ fcAll zs ++ (List.range 16).map fun n => slV (sy n)
@[simp] theorem coderCells_length (sl sc : Sl) (zs : List Int) (sy : Nat → Sl) : (coderCells sl sc zs sy).length = 34 := by simp [coderCells]
theorem coder_len (sl sc : Sl) (zs : List Int) (sy : Nat → Sl) : (coderCells sl sc zs sy)[0]? = some (slV sl) ∧ (coderCells sl sc zs sy)[1]? = some (slV sc) := ⟨rfl, rfl⟩
theorem coder_first (sl sc : Sl) (zs : List Int) (sy : Nat → Sl) {n : Nat} (h : n < 16) : (coderCells sl sc zs sy)[2 + n]? = some (uV (fc zs n)) := by
  rw [coderCells, List.append_assoc, List.getElem?_append_right (by simp)]
  rw [List.getElem?_append_left (by simp; omega)]
  simp [fcAll, h]
theorem coder_syms (sl sc : Sl) (zs : List Int) (sy : Nat → Sl) {n : Nat} (h : n < 16) : (coderCells sl sc zs sy)[18 + n]? = some (slV (sy n)) := by
  rw [coderCells, List.getElem?_append_right (by simp)]
  simp [h]
theorem coder_set (sl sc : Sl) (zs : List Int) (sy : Nat → Sl) {n : Nat} (h : n < 16) (s : Sl) : (coderCells sl sc zs sy).set (18 + n) (slV s) = coderCells sl sc zs (fun q => if q = n then s else sy q) := by
  rw [coderCells, coderCells, List.set_append_right _ _ (by simp)]
  congr 1
  have hl : 18 + n - ([slV sl, slV sc] ++ fcAll zs).length = n := by simp
  rw [hl]
  apply List.ext_getElem?
  intro q
  by_cases hq : q < 16
  · by_cases hn : n = q
    · subst hn
      rw [List.getElem?_set_self (by simpa using hq)]
      simp [hq]
    · rw [List.getElem?_set_ne hn]
      simp [hq, Ne.symm hn]
  · rw [List.getElem?_eq_none (by simp; omega), List.getElem?_eq_none (by simp; omega)]
/-- The symbols' rows: each its own. -/
def Rows (L : LHeap) (b : Nat) (U : List Nat) (zs : List Int) (i : Nat) (sy : Nat → Sl) (G : Nat → List Nat) : Prop :=
  (∀ n, n < 16 → OS L (sy n) ((symsTo zs i n).map kV) 3 (G n) ∧ b ∉ G n ∧ Apart (G n) U) ∧ ∀ n m, n < 16 → m < 16 → n ≠ m → Apart (G n) (G m)
theorem new_loop {k b : Nat} {l sl sc : Sl} {zs : List Int} {A U : List Nat} (hok : okLen zs = true) (hn : l.n = zs.length) (h512 : zs.length ≤ 512) (hbA : b ∉ A) (hAU : ∀ i ∈ A, i ∈ U) :
    ∀ (m i j : Nat) (sy : Nat → Sl) (G : Nat → List Nat) (L : LHeap), i + m = zs.length → m < j → L[b]? = some (.cells (coderCells sl sc zs sy) 128 false 0) → Rows L b U zs i sy G → Within U L → Rd L l (zs.map iV) A →
      ∃ sy' G' L', f63_l7 k j b l (l.n : Int) (i : Int) L = some (.ret (.tuple #[.pointer (some ⟨b, 0, none⟩), .int .i64 0]) L') ∧ L'[b]? = some (.cells (coderCells sl sc zs sy') 128 false 0) ∧ Rows L' b U zs zs.length sy' G' ∧
        L.length ≤ L'.length ∧ (∀ q, q < L.length → q ≠ b → (∀ n, n < 16 → q ∉ G n) → L'[q]? = L[q]?) ∧ ∀ n, n < 16 → ∀ q ∈ G' n, q ∈ G n ∨ L.length ≤ q := by
  intro m
  induction m with
  | zero =>
    intro i j sy G L hi hj hb hR hU hl
    obtain ⟨j, rfl⟩ : ∃ j', j = j' + 1 := ⟨j - 1, by omega⟩
    obtain rfl : i = zs.length := by omega
    refine ⟨sy, G, L, ?_, hb, hR, Nat.le_refl _, fun _ _ _ _ => rfl, fun n _ q hq => .inl hq⟩
    rw [f63_l7_eq, decide_eq_false (by omega)]
    rfl
  | succ m ih =>
    intro i j sy G L hi hj hb hR hU hl
    obtain ⟨j, rfl⟩ : ∃ j', j = j' + 1 := ⟨j - 1, by omega⟩
    have hiz : i < zs.length := by omega
    obtain ⟨a, a1, a2⟩ := hl.here (i := i) (v := iV zs[i]) (by simp [hiz])
    obtain ⟨z0, z1⟩ := okLen_mem hok (List.getElem_mem hiz)
    obtain ⟨z, hz⟩ : ∃ z : Nat, zs[i] = (z : Int) := ⟨zs[i].toNat, by omega⟩
    have hz16 : z < 16 := by omega
    obtain ⟨R1, R2⟩ := hR
    obtain ⟨ho, hbG, hGU⟩ := R1 z hz16
    have c1 : cell L ⟨b, 0 + 18 + z * 1, none⟩ = some (.slice (sy z).a (sy z).n (sy z).c) := by
      rw [cell_of hb, Nat.mul_one, show 0 + 18 + z = 18 + z by omega, coder_syms _ _ _ _ hz16]; rfl
    have c2 : ∀ X : LBlk, cell (L ++ [X]) ⟨b, 0 + 18 + z * 1, none⟩ = some (.slice (sy z).a (sy z).n (sy z).c) := fun X => by
      rw [cell_of (by rw [get_push (get_lt hb)]; exact hb), Nat.mul_one, show 0 + 18 + z = 18 + z by omega, coder_syms _ _ _ _ hz16]; rfl
    have hsl := symsTo_length_le zs i z
    obtain ⟨s', L1, G1, d1, d2, d3⟩ := (ho.mono (L' := L ++ [LBlk.cells [kV i] 3 false 0]) fun q hq => get_push (ho.within q hq)).app [kV i] 8 (by simp; omega) (by simp; omega)
    have st1 : Step (G z) L G1 L1 := (Step.push (G z) L _).trans d3
    have hb1 : L1[b]? = some (.cells (coderCells sl sc zs sy) 128 false 0) := by rw [st1.keep b (get_lt hb) hbG, hb]
    have hbG1 : b ∉ G1 := fun h => by rcases st1.foot b h with q | q; exact hbG q; have := get_lt hb; omega
    have hst : stores L1 ⟨b, 0 + 18 + z * 1, none⟩ [Value.slice s'.a s'.n s'.c] = some (L1.set b (.cells (coderCells sl sc zs (fun q => if q = z then s' else sy q)) 128 false 0)) := by
      rw [stores_of hb1 (by simp; omega), Nat.mul_one, show 0 + 18 + z = 18 + z by omega]
      have := coder_set sl sc zs sy hz16 s'
      simp only [setAll]
      rw [show Value.slice s'.a s'.n s'.c = slV s' from rfl, this]
    have hb2 := get_set_self (x := LBlk.cells (coderCells sl sc zs (fun q => if q = z then s' else sy q)) 128 false 0) hb1
    have st2 : Step [b] L1 [b] (L1.set b (.cells (coderCells sl sc zs (fun q => if q = z then s' else sy q)) 128 false 0)) := .set _ (by simp)
    generalize L1.set b (.cells (coderCells sl sc zs (fun q => if q = z then s' else sy q)) 128 false 0) = L2 at *
    have hAG : Apart (G z) A := fun q hq ha => hGU q hq (hAU q ha)
    have hl1 := hl.mono (st1.others hl.within hAG)
    have hl2 := hl1.mono (st2.others hl1.within (one_apart hbA))
    have hU1 : Within U L2 := st2.within (st1.within hU)
    have hR2 : Rows L2 b U zs (i + 1) (fun q => if q = z then s' else sy q) (fun q => if q = z then G1 else G q) := by
      refine ⟨fun n hn16 => ?_, fun n m hn hm hnm => ?_⟩
      · rw [symsTo_succ hiz]
        by_cases hnz : n = z
        · subst hnz
          simp only [if_true]
          rw [if_pos hz, List.map_append]
          refine ⟨d2.mono (st2.others d2.within (one_apart hbG1)), hbG1, st1.apart hU hGU⟩
        · simp only [if_neg hnz]
          obtain ⟨o1, o2, o3⟩ := R1 n hn16
          rw [if_neg (by omega), List.append_nil]
          have o11 := o1.mono (st1.others o1.within (R2 z n hz16 hn16 (Ne.symm hnz)))
          exact ⟨o11.mono (st2.others o11.within (one_apart o2)), o2, o3⟩
      · by_cases hnz : n = z
        · subst hnz
          simp only [if_true, if_neg (Ne.symm hnm)]
          exact st1.apart (R1 m hm).1.within (R2 n m hn hm hnm)
        · simp only [if_neg hnz]
          by_cases hmz : m = z
          · subst hmz
            simp only [if_true]
            exact (st1.apart (R1 n hn).1.within (R2 m n hm hn hnm.symm)).symm
          · simp only [if_neg hmz]
            exact R2 n m hn hm hnm
    obtain ⟨sy', G', L', e1, e2, e3, e4, e5, e6⟩ := ih (i + 1) j _ _ L2 (by omega) (by omega) hb2 hR2 hU1 hl2
    have hlen : L.length ≤ L2.length := Nat.le_trans st1.len st2.len
    refine ⟨sy', G', L', ?_, e2, e3, Nat.le_trans hlen e4, fun q hq hqb hqG => ?_, fun n hn16 q hq => ?_⟩
    · rw [f63_l7_eq, decide_eq_true (by omega)]
      simp only [kV] at d1
      have d1 : app (L ++ [LBlk.cells [Value.int .i64 (i : Int)] 3 false 0]) 3 1 8 (sy z) 1 [Value.int .i64 (i : Int)] = some (s', L1) := d1
      simp only [lif_true, a1, a2, iV, obind_some, Option.bind_some, asI_int, hz]
      rw [decide_eq_true (show (0 : Int) ≤ (z : Int) by omega), decide_eq_true (show (z : Int) < 16 by omega), wI64 (n := (i : Int) + 1) (by omega) (by omega)]
      simp only [when_true, Int.toNat_natCast, mk_add, c1, c2, Option.bind_some, asSl_slice, obind_some, same_self, size3, bytes3, src_new, d1, hst]
      exact e1
    · rw [e5 q (Nat.lt_of_lt_of_le hq hlen) hqb (fun n hn => ?_), st2.keep q (Nat.lt_of_lt_of_le hq st1.len) (by simpa using hqb), st1.keep q hq (hqG z hz16)]
      by_cases hnz : n = z
      · subst hnz
        simp only [if_true]
        intro h
        rcases st1.foot q h with h | h
        · exact hqG n hn h
        · omega
      · simp only [if_neg hnz]
        exact hqG n hn
    · rcases e6 n hn16 q hq with h | h
      · by_cases hnz : n = z
        · subst hnz
          simp only [if_true] at h
          exact st1.foot q h
        · simp only [if_neg hnz] at h
          exact .inl h
      · exact .inr (Nat.le_trans hlen h)
/-- A coder: at b, of these lengths; it stands in the blocks F. -/
def CO (L : LHeap) (b : Nat) (zs : List Int) (F : List Nat) : Prop :=
  ∃ (sl sc : Sl) (sy : Nat → Sl) (A1 A2 : List Nat) (A3 : Nat → List Nat), L[b]? = some (.cells (coderCells sl sc zs sy) 128 false 0) ∧ Rd L sl (zs.map iV) A1 ∧ Rd L sc ((codesOf zs).map uV) A2 ∧ (∀ n, n < 16 → Rd L (sy n) ((symsOf zs n).map kV) (A3 n)) ∧
    b ∈ F ∧ (∀ i ∈ A1, i ∈ F) ∧ (∀ i ∈ A2, i ∈ F) ∧ (∀ n, n < 16 → ∀ i ∈ A3 n, i ∈ F) ∧ Within F L
theorem CO.mono {L L' : LHeap} {b : Nat} {zs : List Int} {F : List Nat} (h : CO L b zs F) (hk : ∀ i ∈ F, L'[i]? = L[i]?) (hle : L.length ≤ L'.length) : CO L' b zs F := by
  obtain ⟨sl, sc, sy, A1, A2, A3, h1, h2, h3, h4, h5, h6, h7, h8, h9⟩ := h
  exact ⟨sl, sc, sy, A1, A2, A3, by rw [hk b h5, h1], h2.mono fun i hi => hk i (h6 i hi), h3.mono fun i hi => hk i (h7 i hi), fun n hn => (h4 n hn).mono fun i hi => hk i (h8 n hn i hi), h5, h6, h7, h8, fun i hi => Nat.lt_of_lt_of_le (h9 i hi) hle⟩
theorem CO.within {L : LHeap} {b : Nat} {zs : List Int} {F : List Nat} (h : CO L b zs F) : Within F L := by
  obtain ⟨sl, sc, sy, A1, A2, A3, h1, h2, h3, h4, h5, h6, h7, h8, h9⟩ := h
  exact h9
theorem new_ok {k : Nat} {l : Sl} {zs : List Int} {A : List Nat} {L : LHeap} (hl : Rd L l (zs.map iV) A) (hs : zs.length < 2 ^ 40) (hk : zs.length + 50 ≤ k) :
    (may zs = false → ∃ L', f63 k l L = some (.ret (.tuple #[.pointer none, .int .i64 4]) L') ∧ Step [] L [] L') ∧
    (may zs = true → ∃ b F L', f63 k l L = some (.ret (.tuple #[.pointer (some ⟨b, 0, none⟩), .int .i64 0]) L') ∧ CO L' b zs F ∧ Step [] L F L') := by
  obtain ⟨k, rfl⟩ : ∃ k', k = k' + 1 := ⟨k - 1, by omega⟩
  have hn := hl.len
  simp only [List.length_map] at hn
  obtain ⟨sc, L1, Fc, a1, a2, a3⟩ := codes_ok (k := k) hl hs (by omega)
  rw [f63_eq]
  simp only [a1, lbind_ret, tupL_tuple, uncons_cons, nilL_nil, asSl_slice, asI_int, obind_some]
  constructor
  · intro hm
    rw [codesErr, hm]
    exact ⟨L1, rfl, a3.less fun i hi => by simp at hi⟩
  · intro hm
    obtain ⟨hok, h512, hfill⟩ := may_ok hm
    have hcr : codesRes zs = codesOf zs := by rw [codesRes, if_pos hm]
    have hce : codesErr zs = 0 := by rw [codesErr, if_pos hm]
    rw [hce]
    rw [hcr] at a2
    have hl1 := hl.mono (a3.others hl.within (none_apart _))
    obtain ⟨L2, cs, b1, b2, b3, b4⟩ := count_ok (k := k) hl1 (by omega) (by omega)
    obtain rfl := b3 hok
    have hl2 := hl1.mono (b4.others hl1.within (none_apart _))
    have a22 := a2.mono (b4.others a2.within (none_apart _))
    simp only [bne_self_eq_false, lif_false, b1, lbind_ret, tupL_tuple, uncons_cons, nilL_nil, asAgg_agg, asB_bool, obind_some, b2, Nat.beq_refl, when_true]
    generalize hX : LBlk.cells _ 137 false 0 = X
    have hX' : X = .cells (cntCells []) 137 false 0 := by rw [← hX]; rfl
    have hnew : (L2 ++ [X])[L2.length]? = some (.cells (cntCells []) 137 false 0) := by rw [get_new, hX']
    rw [stores_all hnew (news := cntCells zs) (by simp)]
    have st3 : Step [] L2 [L2.length] ((L2 ++ [X]).set L2.length (.cells (cntCells zs) 137 false 0)) := (Step.new [] L2 X).trans (Step.set _ (by simp))
    have hb3 := get_set_self (x := LBlk.cells (cntCells zs) 137 false 0) hnew
    generalize (L2 ++ [X]).set L2.length (.cells (cntCells zs) 137 false 0) = L3 at *
    have hl3 := hl2.mono (st3.others hl2.within (none_apart _))
    have a23 := a22.mono (st3.others a22.within (none_apart _))
    obtain ⟨sl, L4, Fl, d1, d2, d3⟩ := clone_ok (k := k) hl3 (by omega) (by omega)
    have hl4 := hl3.mono (d3.others hl3.within (none_apart _))
    have a24 := a23.mono (d3.others a23.within (none_apart _))
    have hb4 : L4[L2.length]? = some (.cells (cntCells zs) 137 false 0) := by rw [d3.keep _ (get_lt hb3) (by simp), hb3]
    obtain ⟨L5, e1, e2⟩ := firsts_ok (k := k) (L := L4) hfill (by omega)
    have hl5 := hl4.mono (e2.others hl4.within (none_apart _))
    have a25 := a24.mono (e2.others a24.within (none_apart _))
    have d25 := d2.mono (e2.others d2.within (none_apart _))
    simp only [obind_some, d1, lbindR_ret, asSl_slice, cellsAt_all hb4 (cntCells_length zs), cellsAt_all hb3 (cntCells_length zs), same_self, when_true, e1, asAgg_agg, fcAll_length]
    generalize hW : setAll _ 2 (fcAll zs) = W
    have hWe : W = coderCells sl sc zs (fun _ => ⟨none, 0, 0⟩) := by
      rw [← hW]
      have := setAll_append [slV sl, slV sc] (List.replicate 16 (Value.slice none 0 0)) (fcAll zs) (List.replicate 16 (Value.int .u32 0)) (by simp)
      simp only [List.length_cons, List.length_nil, Nat.zero_add] at this
      exact this
    have hb87 : Nat.beq 16 (Program.cellsOf Proofs.Try.prog #[Field.mk "lengths" 49 0 false "" "hamper/huff" 0, Field.mk "codes" 52 1 false "" "hamper/huff" 24, Field.mk "first" 125 2 false "" "hamper/huff" 48, Field.mk "symbols" 126 18 false "" "hamper/huff" 112][2].type) = true := by
      show Nat.beq 16 (Program.cellsOf Proofs.Try.prog 125) = true
      rw [cells87]; rfl
    rw [hb87]
    simp only [when_true, hWe]
    have hb6 : (L5 ++ [LBlk.cells (coderCells sl sc zs (fun _ => ⟨none, 0, 0⟩)) 128 false 0])[L5.length]? = some (.cells (coderCells sl sc zs (fun _ => ⟨none, 0, 0⟩)) 128 false 0) := get_new
    have st6 := Step.new [] L5 (LBlk.cells (coderCells sl sc zs (fun _ => ⟨none, 0, 0⟩)) 128 false 0)
    generalize L5 ++ [LBlk.cells (coderCells sl sc zs (fun _ => ⟨none, 0, 0⟩)) 128 false 0] = L6 at *
    have hl6 := hl5.mono (st6.others hl5.within (none_apart _))
    have a26 := a25.mono (st6.others a25.within (none_apart _))
    have d26 := d25.mono (st6.others d25.within (none_apart _))
    have wU : Within (Fc ++ Fl ++ A) L6 := fun i hi => by
      simp only [List.mem_append] at hi
      rcases hi with (hi | hi) | hi
      · exact a26.within i hi
      · exact d26.within i hi
      · exact hl6.within i hi
    obtain ⟨sy, G, L7, g1, g2, g3, g4, g5, g6⟩ := new_loop (k := k) (b := L5.length) (sl := sl) (sc := sc) (U := Fc ++ Fl ++ A) hok hn h512 (fun h => by have := hl5.within _ h; omega) (fun i hi => by simp [hi]) zs.length 0 k (fun _ => ⟨none, 0, 0⟩) (fun _ => []) L6 (by omega) (by omega) hb6
      ⟨fun n _ => ⟨OS.nil _ _, by simp, none_apart _⟩, fun _ _ _ _ _ => none_apart _⟩ wU hl6
    rw [hn] at g1
    have keepU : ∀ i ∈ Fc ++ Fl ++ A, L7[i]? = L6[i]? := fun i hi => g5 i (wU i hi) (fun e => by
      subst e
      simp only [List.mem_append] at hi
      rcases hi with (hi | hi) | hi
      · have := a25.within _ hi; omega
      · have := d25.within _ hi; omega
      · have := hl5.within _ hi; omega) (fun _ _ => by simp)
    have hlen6 : L.length ≤ L6.length := by
      have := a3.len; have := b4.len; have := st3.len; have := d3.len; have := e2.len; have := st6.len; omega
    refine ⟨L5.length, L5.length :: (Fc ++ Fl ++ (List.range 16).flatMap G), L7, ?_, ⟨sl, sc, sy, Fl, Fc, G, g2, ?_, ?_, ?_, by simp, fun i hi => by simp [hi], fun i hi => by simp [hi], ?_, ?_⟩, ?_⟩
    · rw [hn]; exact g1
    · exact (d26.mono fun i hi => keepU i (by simp [hi])).rd
    · exact (a26.mono fun i hi => keepU i (by simp [hi])).rd
    · exact fun n hn16 => (g3.1 n hn16).1.ws.rd
    · intro n hn16 i hi
      simp only [List.mem_cons, List.mem_append, List.mem_flatMap, List.mem_range]
      exact .inr (.inr ⟨n, hn16, hi⟩)
    · intro i hi
      simp only [List.mem_cons, List.mem_append, List.mem_flatMap, List.mem_range] at hi
      rcases hi with rfl | (hi | hi) | ⟨n, hn16, hi⟩
      · exact get_lt g2
      · exact Nat.lt_of_lt_of_le (a26.within i hi) g4
      · exact Nat.lt_of_lt_of_le (d26.within i hi) g4
      · exact (g3.1 n hn16).1.within i hi
    · refine ⟨Nat.le_trans hlen6 g4, fun i hi _ => ?_, fun i hi => .inr ?_⟩
      · have q1 := a3.len; have q2 := b4.len; have q3 := st3.len; have q4 := d3.len; have q5 := e2.len
        rw [g5 i (by omega) (by omega) (fun _ _ => by simp), st6.keep i (by omega) (by simp), e2.keep i (by omega) (by simp), d3.keep i (by omega) (by simp), st3.keep i (by omega) (by simp), b4.keep i (by omega) (by simp), a3.keep i hi (by simp)]
      · have q1 := a3.len; have q2 := b4.len; have q3 := st3.len; have q4 := d3.len; have q5 := e2.len; have q6 := st6.len
        simp only [List.mem_cons, List.mem_append, List.mem_flatMap, List.mem_range] at hi
        rcases hi with rfl | (hi | hi) | ⟨n, hn16, hi⟩
        · omega
        · rcases a3.foot i hi with q | q
          · simp at q
          · omega
        · rcases d3.foot i hi with q | q
          · simp at q
          · omega
        · rcases g6 n hn16 i hi with q | q
          · simp at q
          · omega
end Go.Proofs.Ytflhogapjmdkaaa.X
end

section
set_option maxRecDepth 100000
set_option linter.unusedVariables false
namespace Go.Proofs.Ytflhogapjmdkaaa.X
open Go Go.Rlm
def symOk (zs : List Int) (s : Int) : Bool := decide (0 ≤ s) && decide (s < (zs.length : Int)) && decide (0 < zs.getD s.toNat 0)
def symRes (zs : List Int) (s : Int) : Int := if symOk zs s then 0 else 1
def symPut (zs : List Int) (s : Int) : List Bool := if symOk zs s then symBits zs s.toNat else []
theorem cput_ok {k b w : Nat} {s : Int} {zs : List Int} {bs : List Bool} {F G : List Nat} {L : LHeap} (hc : CO L b zs F) (hm : may zs = true) (hw : BW L w bs G) (hs : bs.length < 2 ^ 39) (hk : 50 ≤ k) :
    ∃ L' G', f54 k (some ⟨b, 0, none⟩) (some ⟨w, 0, none⟩) s L = some (.ret (.int .i64 (symRes zs s)) L') ∧ BW L' w (bs ++ symPut zs s) G' ∧ Step G L G' L' := by
  obtain ⟨k, rfl⟩ : ∃ k', k = k' + 1 := ⟨k - 1, by omega⟩
  obtain ⟨sl, sc, sy, A1, A2, A3, h1, h2, h3, h4, h5, h6, h7, h8, h9⟩ := hc
  have hln := h2.len
  simp only [List.length_map] at hln
  have c0 : cell L ⟨b, 0, none⟩ = some (.slice sl.a sl.n sl.c) := by rw [cell_of h1, (coder_len _ _ _ _).1]; rfl
  have c1 : cell L ⟨b, 1, none⟩ = some (.slice sc.a sc.n sc.c) := by rw [cell_of h1, (coder_len _ _ _ _).2]; rfl
  rw [f54_eq]
  simp only [Option.isNone_some, lif_false]
  by_cases s0 : s < 0
  · have hno : symOk zs s = false := by simp [symOk, show ¬ 0 ≤ s by omega]
    refine ⟨L, G, ?_, by rw [symPut, hno]; simpa using hw, .refl _ _⟩
    rw [decide_eq_true s0, symRes, hno]; rfl
  rw [decide_eq_false s0]
  simp only [lif_false, obind_some, mk_add, Nat.zero_add, c0, Option.bind_some, asSl_slice]
  by_cases s1 : s ≥ (zs.length : Int)
  · have hno : symOk zs s = false := by simp [symOk, show ¬ s < (zs.length : Int) by omega]
    refine ⟨L, G, ?_, by rw [symPut, hno]; simpa using hw, .refl _ _⟩
    rw [decide_eq_true (by omega), symRes, hno]; rfl
  rw [decide_eq_false (by omega)]
  obtain ⟨i, rfl⟩ : ∃ i : Nat, s = i := ⟨s.toNat, by omega⟩
  have hi : i < zs.length := by omega
  have hg : zs.getD i 0 = zs[i] := by rw [List.getD_eq_getElem?_getD, List.getElem?_eq_getElem hi]; rfl
  obtain ⟨a, a1, a2⟩ := h2.here (i := i) (v := iV zs[i]) (by simp [hi])
  obtain ⟨a', b1, b2⟩ := h3.here (i := i) (v := uV (codeAt zs i)) (by rw [List.getElem?_map, codesOf_get hi]; rfl)
  simp only [lif_false, a1, a2, iV, obind_some, Option.bind_some, asI_int]
  have hr := okLen_mem (may_ok hm).1 (List.getElem_mem hi)
  by_cases hz : zs[i] = 0
  · have hno : symOk zs (i : Int) = false := by rw [symOk, Int.toNat_natCast, hg, hz]; simp
    refine ⟨L, G, ?_, by rw [symPut, hno]; simpa using hw, .refl _ _⟩
    rw [show (zs[i] == 0) = true by simpa using hz, symRes, hno]; rfl
  have hpos : 0 < zs[i] := by omega
  have hyes : symOk zs (i : Int) = true := by rw [symOk, Int.toNat_natCast, hg]; simp [hpos, hi]
  have hlt := codeAt_lt hm hi hpos
  have hpo : putOk (codeAt zs i) zs[i] = true := by simp only [putOk, Bool.and_eq_true, decide_eq_true_eq]; omega
  have hc16 := codeAt_le hm i
  obtain ⟨L', G', d1, d2, d3⟩ := put_ok (k := k) (v := codeAt zs i) (n := zs[i]) hw (by omega) hs (by omega)
  refine ⟨L', G', ?_, ?_, d3⟩
  · rw [show (zs[i] == 0) = false by simpa using hz]
    simp only [lif_false, c1, Option.bind_some, asSl_slice, obind_some, b1, b2, uV, asI_int, a1, a2, iV, d1, lbindR_ret]
    rw [putRes, if_pos hpo, symRes, if_pos hyes]
  · rw [symPut, if_pos hyes, Int.toNat_natCast, symBits, hg]
    rw [putBits, if_pos hpo] at d2
    exact d2
def decSym (o : Option Nat) : Int := match o with | some i => (i : Int) | none => 0
def decErr (o : Option Nat) : Int := match o with | some _ => 0 | none => 4
theorem ctake_loop {k b x : Nat} {zs : List Int} {F : List Nat} (hm : may zs = true) (hxF : x ∉ F) (hk : 40 ≤ k) : ∀ (m n c j : Nat) (r : List Bool) (L : LHeap), n + m = 16 → 0 < n → m < j → c < 2 ^ (n - 1) → CO L b zs F → BR L x r →
    ∃ L', f64_l5 k j (some ⟨b, 0, none⟩) (some ⟨x, 0, none⟩) (c : Int) (n : Int) L = some (.ret (.tuple #[.int .i64 (decSym (dec zs m n c r).1), .int .i64 (decErr (dec zs m n c r).1)]) L') ∧ BR L' x (dec zs m n c r).2 ∧ Step [x] L [x] L' := by
  obtain ⟨hok, h512, hfill⟩ := may_ok hm
  intro m
  induction m with
  | zero =>
    intro n c j r L hn h0 hj hc hC hX
    obtain ⟨j, rfl⟩ : ∃ j', j = j' + 1 := ⟨j - 1, by omega⟩
    refine ⟨L, ?_, hX, .refl _ _⟩
    rw [f64_l5_eq, decide_eq_false (by omega)]
    rfl
  | succ m ih =>
    intro n c j r L hn h0 hj hc hC hX
    obtain ⟨j, rfl⟩ : ∃ j', j = j' + 1 := ⟨j - 1, by omega⟩
    obtain ⟨L1, a1, a2, a3⟩ := take_ok (k := k) (n := 1) hX (by omega)
    have hC1 : CO L1 b zs F := hC.mono (a3.others hC.within (one_apart hxF)) a3.len
    rw [f64_l5_eq, decide_eq_true (by omega)]
    cases r with
    | nil =>
      simp only [taken, show takeVal [] 1 = 0 by decide, show takeErr [] 1 = 4 by decide] at a1
      refine ⟨L1, ?_, a2, a3⟩
      simp only [lif_true, a1, lbind_ret, tupL_tuple, uncons_cons, nilL_nil, asI_int, obind_some]
      rfl
    | cons y r =>
      have hcn : takeCnt (y :: r) 1 = 1 := by unfold takeCnt; rw [if_neg (by omega), if_neg (by simp; omega)]; rfl
      have he : takeErr (y :: r) 1 = 0 := by unfold takeErr; rw [if_neg (by omega), if_neg (by simp; omega)]
      have hv : takeVal (y :: r) 1 = y.toNat := by rw [takeVal, hcn, List.take_succ_cons, List.take_zero]; cases y <;> rfl
      simp only [taken, hv, he] at a1
      rw [hcn] at a2
      have a2 : BR L1 x r := a2
      have hy := Bool.toNat_le y
      have hp : 2 ^ (n - 1) ≤ 2 ^ 14 := Nat.pow_le_pow_right (by omega) (by omega)
      have hp2 : 2 ^ (n - 1) * 2 = 2 ^ n := by rw [← Nat.pow_succ]; congr 1; omega
      obtain ⟨sl, sc, sy, A1, A2, A3, h1, h2, h3, h4, h5, h6, h7, h8, h9⟩ := hC1
      have hfc := fc_le hfill n (by omega)
      have c1 : cell L1 ⟨b, 0 + 2 + n * 1, none⟩ = some (.int .u32 (fc zs n : Int)) := by
        rw [cell_of h1, Nat.mul_one, show 0 + 2 + n = 2 + n by omega, coder_first _ _ _ _ (by omega)]; rfl
      have c2 : cell L1 ⟨b, 0 + 18 + n * 1, none⟩ = some (.slice (sy n).a (sy n).n (sy n).c) := by
        rw [cell_of h1, Nat.mul_one, show 0 + 18 + n = 18 + n by omega, coder_syms _ _ _ _ (by omega)]; rfl
      have hsn := (h4 n (by omega)).len
      simp only [List.length_map] at hsn
      have e0 : IntKind.wrap .u32 ((c : Int) * 2) = ((c * 2 : Nat) : Int) := by rw [wU32] <;> omega
      have e1 : bitop BinOp.or .u32 (IntKind.wrap .u32 ((c : Int) * 2)) ((y.toNat : Nat) : Int) = ((c * 2 + y.toNat : Nat) : Int) := by
        rw [e0, bitop_or rfl (by simp only [IntKind.bits]; omega) (by simp only [IntKind.bits]; omega)]
        have := Nat.two_pow_add_eq_or_of_lt (i := 1) (b := y.toNat) (by omega) c
        rw [Nat.mul_comm c 2]
        exact congrArg _ this.symm
      simp only [lif_true, a1, lbind_ret, tupL_tuple, uncons_cons, nilL_nil, asI_int, obind_some, bne_self_eq_false, lif_false]
      rw [decide_eq_true (show (0 : Int) ≤ (n : Int) by omega)]
      have hn16 : decide ((n : Int) < 16) = true := decide_eq_true (by omega)
      simp only [when_true, Int.toNat_natCast, mk_add, c1, c2, Option.bind_some, asI_int, asSl_slice, obind_some, e1]
      rw [wI64 (n := ((c * 2 + y.toNat : Nat) : Int)) (by omega) (by omega), wI64 (n := (fc zs n : Int)) (by omega) (by omega), wI64 (n := ((c * 2 + y.toNat : Nat) : Int) - (fc zs n : Int)) (by omega) (by omega), wI64 (n := (n : Int) + 1) (by omega) (by omega)]
      simp only [dec]
      by_cases g1 : fc zs n ≤ c * 2 + y.toNat
      · rw [decide_eq_true (show ((c * 2 + y.toNat : Nat) : Int) - (fc zs n : Int) ≥ 0 by omega)]
        simp only [lif_true]
        by_cases g2 : c * 2 + y.toNat - fc zs n < (symsOf zs n).length
        · rw [decide_eq_true (show ((c * 2 + y.toNat : Nat) : Int) - (fc zs n : Int) < ((sy n).n : Int) by omega), if_pos ⟨g1, g2⟩]
          obtain ⟨a, p1, p2⟩ := (h4 n (by omega)).here (i := c * 2 + y.toNat - fc zs n) (v := kV (symsOf zs n)[c * 2 + y.toNat - fc zs n]) (by simp [g2])
          have p1 : idx (sy n) (((c * 2 + y.toNat : Nat) : Int) - (fc zs n : Int)) 1 = some a := by
            rw [show ((c * 2 + y.toNat : Nat) : Int) - (fc zs n : Int) = ((c * 2 + y.toNat - fc zs n : Nat) : Int) by omega]; exact p1
          refine ⟨L1, ?_, a2, a3⟩
          simp only [lif_true, p1, p2, kV, Option.bind_some, asI_int, obind_some]
          rw [List.getElem?_eq_getElem g2]
          rfl
        · rw [decide_eq_false (show ¬ (((c * 2 + y.toNat : Nat) : Int) - (fc zs n : Int) < ((sy n).n : Int)) by omega), if_neg (fun h => g2 h.2)]
          obtain ⟨L2, q1, q2, q3⟩ := ih (n + 1) (c * 2 + y.toNat) j r L1 (by omega) (by omega) (by omega) (by rw [Nat.add_sub_cancel]; omega) ⟨sl, sc, sy, A1, A2, A3, h1, h2, h3, h4, h5, h6, h7, h8, h9⟩ a2
          exact ⟨L2, q1, q2, a3.trans q3⟩
      · rw [decide_eq_false (show ¬ (((c * 2 + y.toNat : Nat) : Int) - (fc zs n : Int) ≥ 0) by omega), if_neg (fun h => g1 h.1)]
        obtain ⟨L2, q1, q2, q3⟩ := ih (n + 1) (c * 2 + y.toNat) j r L1 (by omega) (by omega) (by omega) (by rw [Nat.add_sub_cancel]; omega) ⟨sl, sc, sy, A1, A2, A3, h1, h2, h3, h4, h5, h6, h7, h8, h9⟩ a2
        exact ⟨L2, q1, q2, a3.trans q3⟩
theorem ctake_ok {k b x : Nat} {zs : List Int} {F : List Nat} {r : List Bool} {L : LHeap} (hC : CO L b zs F) (hm : may zs = true) (hX : BR L x r) (hxF : x ∉ F) (hk : 50 ≤ k) :
    ∃ L', f64 k (some ⟨b, 0, none⟩) (some ⟨x, 0, none⟩) L = some (.ret (.tuple #[.int .i64 (decSym (readSym zs r).1), .int .i64 (decErr (readSym zs r).1)]) L') ∧ BR L' x (readSym zs r).2 ∧ Step [x] L [x] L' := by
  obtain ⟨k, rfl⟩ : ∃ k', k = k' + 1 := ⟨k - 1, by omega⟩
  rw [f64_eq]
  exact ctake_loop hm hxF (by omega) 15 1 0 k r L rfl (by omega) (by omega) (by simp) hC hX
end Go.Proofs.Ytflhogapjmdkaaa.X
end

section
set_option maxRecDepth 100000
set_option linter.unusedVariables false
namespace Go.Proofs.Ytflhogapjmdkaaa.X
open Go Go.Rlm
/-- The text of bits. -/
def txt (bs : List Bool) : ByteArray := ⟨(bs.map fun x => if x then (49 : UInt8) else 48).toArray⟩
@[simp] theorem txt_size (bs : List Bool) : (txt bs).size = bs.length := by simp [txt, ByteArray.size]
theorem toList_data (s : ByteArray) : s.toList = s.data.toList := ByteArray.toList_eq s
end Go.Proofs.Ytflhogapjmdkaaa.X
end

section
set_option maxRecDepth 100000
set_option linter.unusedVariables false
namespace Go.Proofs.Ytflhogapjmdkaaa.X
open Go Go.Rlm
theorem tab_list : len8tab.data.toList = (List.range 256).map fun i => UInt8.ofNat (nlen i) := by kernel_rfl
theorem bytes_get {s : ByteArray} {i : Nat} {b : UInt8} (h : s.data.toList[i]? = some b) : s[i]? = some b := by
  have h3 : i < s.size := get_lt h
  rw [getElem?_pos s i h3]
  rw [List.getElem?_eq_getElem (get_lt h)] at h
  exact h
theorem byteAt_get {s : ByteArray} {i : Nat} {b : UInt8} (h : s.data.toList[i]? = some b) : byteAt s (i : Int) = some (b.toNat : Int) := by
  simp only [byteAt, Int.toNat_natCast, bytes_get h, decide_eq_true (Int.natCast_nonneg i), cond_true, Option.map_some]
theorem tab_at {i : Nat} (h : i < 256) : byteAt len8tab (i : Int) = some ((nlen i : Nat) : Int) := by
  have h1 : len8tab.data.toList[i]? = some (UInt8.ofNat (nlen i)) := by rw [tab_list, List.getElem?_map, List.getElem?_range h]; rfl
  have h5 : nlen i ≤ 8 := nlen_le (by omega)
  rw [byteAt_get h1]
  simp
  omega
theorem nlen_high {n : Nat} (h1 : 256 ≤ n) (h2 : n < 65536) : nlen n = 8 + nlen (n / 256) := by
  obtain ⟨h3, h4, h5⟩ := nlen_pos (n := n / 256) (by omega)
  obtain ⟨m, hm⟩ : ∃ m, nlen (n / 256) = m + 1 := ⟨nlen (n / 256) - 1, by omega⟩
  rw [hm] at h3 h4
  have h3 : 2 ^ m ≤ n / 256 := by simpa using h3
  have := nlen_eq (n := n) (m := m + 8) (by rw [Nat.pow_add]; omega) (by rw [show m + 8 + 1 = (m + 1) + 8 by omega, Nat.pow_add]; omega)
  omega
theorem len64_ok {k n : Nat} {L : LHeap} (hn : n < 65536) (hk : 1 ≤ k) : f78 k (n : Int) L = some (.ret (.int .i64 ((nlen n : Nat) : Int)) L) := by
  obtain ⟨k, rfl⟩ : ∃ k', k = k' + 1 := ⟨k - 1, by omega⟩
  rw [f78_eq, decide_eq_false (by omega), lif_false, decide_eq_false (by omega), lif_false]
  by_cases h : 256 ≤ n
  · rw [decide_eq_true (by omega), lif_true, show (256 : Int) = 2 ^ 8 by rfl, fdiv_pow, wU8 (by omega) (by omega), tab_at (by omega)]
    have h8 : nlen (n / 2 ^ 8) ≤ 8 := nlen_le (by omega)
    simp only [obind_some]
    rw [wI64 (n := ((nlen (n / 2 ^ 8) : Nat) : Int)) (by omega) (by omega), wI64 (by omega) (by omega), nlen_high h hn]
    simp
  · rw [decide_eq_false (by omega), lif_false, wU8 (by omega) (by omega), tab_at (by omega)]
    have h8 : nlen n ≤ 8 := nlen_le (by omega)
    simp only [obind_some]
    rw [wI64 (n := ((nlen n : Nat) : Int)) (by omega) (by omega), wI64 (by omega) (by omega)]
    simp
theorem len_ok {k n : Nat} {L : LHeap} (hn : n < 65536) (hk : 2 ≤ k) : f56 k (n : Int) L = some (.ret (.int .i64 ((nlen n : Nat) : Int)) L) := by
  obtain ⟨k, rfl⟩ : ∃ k', k = k' + 1 := ⟨k - 1, by omega⟩
  rw [f56_eq, len64_ok hn (by omega)]
  simp only [lbind_ret, asI_int, obind_some]
end Go.Proofs.Ytflhogapjmdkaaa.X
end

section
set_option maxRecDepth 100000
set_option linter.unusedVariables false
namespace Go.Proofs.Ytflhogapjmdkaaa.X
open Go Go.Rlm
def tokL (t : Tok) : List Value := [.int .u8 t.k, .int .u8 t.b, .int .i64 t.l, .int .i64 t.d, .int .i64 t.s]
theorem tok_cell {L : LHeap} {b : Nat} {t : Tok} {sp : Nat} {ro : Bool} (h : L[b]? = some (.cells (tokL t) 29 ro sp)) :
    cell L ((Addr.mk b 0 none).add 0) = some (.int .u8 t.k) ∧ cell L ((Addr.mk b 0 none).add 1) = some (.int .u8 t.b) ∧ cell L ((Addr.mk b 0 none).add 2) = some (.int .i64 t.l) ∧
    cell L ((Addr.mk b 0 none).add 3) = some (.int .i64 t.d) ∧ cell L ((Addr.mk b 0 none).add 4) = some (.int .i64 t.s) := by
  refine ⟨?_, ?_, ?_, ?_, ?_⟩ <;> · simp only [mk_add, cell_of h]; rfl
theorem lif_bool (b x y : Bool) (L : LHeap) : lif b (some (.ret (.bool x) L)) (some (.ret (.bool y) L)) = some (.ret (.bool (cond b x y)) L) := by cases b <;> rfl
theorem shape_ok {k : Nat} {t : Tok} {L : LHeap} (hk : 1 ≤ k) : f16 k t.k t.b t.l t.d t.s L = some (.ret (.bool (tokShape t)) (L ++ [.cells (tokL t) 29 false 0])) := by
  obtain ⟨k, rfl⟩ : ∃ k', k = k' + 1 := ⟨k - 1, by omega⟩
  rw [f16_eq]
  obtain ⟨c0, c1, c2, c3, c4⟩ := tok_cell (t := t) (ro := false) (sp := 0) (L := L ++ [.cells (tokL t) 29 false 0]) get_new
  unfold tokL at *
  simp only [c0, c1, c2, c3, c4, Option.bind_some, asI_int, obind_some, lif_bool]
  have beq_dec : ∀ a b : Int, (a == b) = decide (a = b) := fun _ _ => rfl
  congr 3
  simp only [beq_dec, decide_true, Bool.true_and, Bool.and_true]
  unfold tokShape isLong
  by_cases h1 : t.k = 1
  · rw [if_pos h1]
    simp only [decide_eq_true h1, decide_eq_false (show ¬ t.k = 2 by omega), decide_eq_false (show ¬ t.k = 3 by omega), Bool.true_and, Bool.false_and, cond_false]
    generalize decide (t.l = 0) = a1, decide (t.d = 0) = a2, decide (t.s = 0) = a3, decide (t.l ≥ 3) = a4
    revert a1 a2 a3 a4
    decide
  · rw [if_neg h1]
    by_cases h2 : t.k = 2
    · rw [if_pos h2]
      simp only [decide_eq_false h1, decide_eq_true h2, decide_eq_false (show ¬ t.k = 3 by omega), Bool.true_and, Bool.false_and, cond_false]
      generalize decide (t.b = 0) = a1, decide (t.s = 0) = a2, decide (t.l ≥ 3) = a3, decide (t.l ≤ 258) = a4, decide (t.d ≥ 1) = a5, decide (t.d ≤ 32768) = a6
      revert a1 a2 a3 a4 a5 a6
      decide
    · rw [if_neg h2]
      by_cases h3 : t.k = 3
      · rw [if_pos h3]
        simp only [decide_eq_false h1, decide_eq_false h2, decide_eq_true h3, Bool.true_and, Bool.false_and, cond_false]
        generalize decide (t.b = 0) = a1, decide (t.d = 0) = a2, decide (t.l ≥ 3) = a3, decide (t.l ≤ 258) = a4, decide (t.s ≥ 0) = a5, decide (t.s < 4) = a6
        revert a1 a2 a3 a4 a5 a6
        decide
      · rw [if_neg h3]
        simp only [decide_eq_false h1, decide_eq_false h2, decide_eq_false h3, Bool.false_and, cond_false]
        cases decide (t.l ≥ 3) <;> rfl
/-- A slice that is read: these tokens, in the blocks A. -/
def RT (L : LHeap) (s : Sl) (ts : List Tok) (A : List Nat) : Prop :=
  s.n = ts.length ∧ ((ts = [] ∧ A = []) ∨ ∃ (c o : Nat) (cs : List Value) (e : TypeId) (ro : Bool) (sp : Nat), s.a = some ⟨c, o, none⟩ ∧ L[c]? = some (.cells cs e ro sp) ∧
    (∀ (i : Nat) (t : Tok), ts[i]? = some t → ∀ (j : Nat) (v : Value), (tokL t)[j]? = some v → cs[o + i * 5 + j]? = some v) ∧ A = [c])
theorem RT.len {L : LHeap} {s : Sl} {ts : List Tok} {A : List Nat} (h : RT L s ts A) : s.n = ts.length := h.1
theorem RT.mono {L L' : LHeap} {s : Sl} {ts : List Tok} {A : List Nat} (h : RT L s ts A) (hk : ∀ i ∈ A, L'[i]? = L[i]?) : RT L' s ts A := by
  obtain ⟨h1, h | ⟨c, o, cs, e, ro, sp, h2, h3, h4, rfl⟩⟩ := h
  · exact ⟨h1, .inl h⟩
  · exact ⟨h1, .inr ⟨c, o, cs, e, ro, sp, h2, by rw [hk c (by simp), h3], h4, rfl⟩⟩
theorem RT.within {L : LHeap} {s : Sl} {ts : List Tok} {A : List Nat} (h : RT L s ts A) : Within A L := by
  obtain ⟨h1, ⟨_, rfl⟩ | ⟨c, o, cs, e, ro, sp, h2, h3, h4, rfl⟩⟩ := h
  · intro i hi; cases hi
  · intro i hi; rw [List.mem_singleton.1 hi]; exact get_lt h3
/-- The cells of a token at an address. -/
structure TokAt (L : LHeap) (a : Addr) (t : Tok) : Prop where
  c0 : cell L (a.add 0) = some (.int .u8 t.k)
  c1 : cell L (a.add 1) = some (.int .u8 t.b)
  c2 : cell L (a.add 2) = some (.int .i64 t.l)
  c3 : cell L (a.add 3) = some (.int .i64 t.d)
  c4 : cell L (a.add 4) = some (.int .i64 t.s)
theorem RT.here {L : LHeap} {s : Sl} {ts : List Tok} {A : List Nat} (h : RT L s ts A) {i : Nat} {t : Tok} (ht : ts[i]? = some t) :
    ∃ a, idx s (i : Int) 5 = some a ∧ ∀ L', (∀ x ∈ A, L'[x]? = L[x]?) → TokAt L' a t := by
  have hi := get_lt ht
  obtain ⟨h1, ⟨rfl, _⟩ | ⟨c, o, cs, e, ro, sp, h2, h3, h4, rfl⟩⟩ := h
  · cases ht
  · obtain ⟨sa, sn, sc⟩ := s
    simp only at h1 h2
    subst h1; subst h2
    refine ⟨⟨c, o + i * 5, none⟩, idx_of hi, fun L' hk => ?_⟩
    have hb : L'[c]? = some (.cells cs e ro sp) := by rw [hk c (by simp), h3]
    have key := h4 i t ht
    refine ⟨?_, ?_, ?_, ?_, ?_⟩
    · rw [mk_add, cell_of hb]; exact key 0 _ rfl
    · rw [mk_add, cell_of hb]; exact key 1 _ rfl
    · rw [mk_add, cell_of hb]; exact key 2 _ rfl
    · rw [mk_add, cell_of hb]; exact key 3 _ rfl
    · rw [mk_add, cell_of hb]; exact key 4 _ rfl
theorem tokL_get {ts : List Tok} {i : Nat} {t : Tok} (h : ts[i]? = some t) {j : Nat} {v : Value} (hv : (tokL t)[j]? = some v) : (ts.flatMap tokL)[i * 5 + j]? = some v := by
  have hj : j < 5 := get_lt hv
  induction ts generalizing i with
  | nil => cases h
  | cons u us ih =>
    rw [List.flatMap_cons]
    cases i with
    | zero =>
      simp at h
      subst h
      rw [List.getElem?_append_left (by simp [tokL]; omega)]
      simpa using hv
    | succ i =>
      rw [List.getElem?_append_right (by simp [tokL]; omega)]
      have := ih (i := i) (by simpa using h)
      rw [show (i + 1) * 5 + j - (tokL u).length = i * 5 + j by simp [tokL]; omega]
      exact this
theorem tokList_len : ∀ (ts : List Tok), (ts.flatMap tokL).length = ts.length * 5
  | [] => rfl
  | t :: ts => by
    rw [List.flatMap_cons, List.length_append, tokList_len ts]
    simp [tokL]; omega
theorem OZ.rt {L : LHeap} {s : Sl} {ts : List Tok} {F : List Nat} (h : OZ L s (ts.flatMap tokL) 29 5 F) : RT L s ts F := by
  have hlen := tokList_len ts
  obtain ⟨h1, h2, ⟨rfl, h3, rfl⟩ | ⟨c, h3, h4, rfl⟩⟩ := h
  · have : ts = [] := by
      cases ts with
      | nil => rfl
      | cons t ts => simp [tokL] at h3
    subst this
    exact ⟨rfl, .inl ⟨rfl, rfl⟩⟩
  · have hn : s.n = ts.length := by rw [hlen] at h1; omega
    refine ⟨hn, .inr ⟨c, 0, _, 29, false, 5, by rw [h3], h4, fun i t ht j v hv => ?_, rfl⟩⟩
    rw [Nat.zero_add]
    exact tokL_get ht hv
end Go.Proofs.Ytflhogapjmdkaaa.X
end

section
set_option maxRecDepth 100000
set_option linter.unusedVariables false
namespace Go.Proofs.Ytflhogapjmdkaaa.X
open Go Go.Rlm
/-- A variable that has bytes; it owns the blocks F. -/
def MB (L : LHeap) (r : Nat) (bs : List Nat) (F : List Nat) : Prop :=
  ∃ (s : Sl) (G : List Nat), L[r]? = some (.cells [.slice s.a s.n s.c] 36 false 0) ∧ OS L s (bs.map bV) 5 G ∧ r ∉ G ∧ F = r :: G
theorem MB.mono {L L' : LHeap} {r : Nat} {bs F : List Nat} (h : MB L r bs F) (hk : ∀ i ∈ F, L'[i]? = L[i]?) : MB L' r bs F := by
  obtain ⟨s, G, h1, h2, h3, rfl⟩ := h
  exact ⟨s, G, by rw [hk r (by simp), h1], h2.mono fun i hi => hk i (by simp [hi]), h3, rfl⟩
theorem MB.within {L : LHeap} {r : Nat} {bs F : List Nat} (h : MB L r bs F) : Within F L := by
  obtain ⟨s, G, h1, h2, h3, rfl⟩ := h
  intro i hi
  rcases List.mem_cons.1 hi with rfl | hi
  · exact get_lt h1
  · exact h2.within i hi
def rec76 (r : Nat) (st : LSt) : LBlk := .loop 76 7 [(4, .pointer (some ⟨r, 0, none⟩))] st
theorem bitop_or64 {a b : Nat} (ha : a < 2 ^ 62) (hb : b < 2 ^ 62) : bitop .or .i64 (a : Int) (b : Int) = ((a ||| b : Nat) : Int) := by
  have h1 : a < 2 ^ 64 := by omega
  have h2 : b < 2 ^ 64 := by omega
  have h3 : a ||| b < 2 ^ 62 := Nat.or_lt_two_pow ha hb
  have e : (BitVec.ofNat 64 a ||| BitVec.ofNat 64 b).toNat = a ||| b := by rw [BitVec.toNat_or, BitVec.toNat_ofNat, BitVec.toNat_ofNat, Nat.mod_eq_of_lt h1, Nat.mod_eq_of_lt h2]
  have e2 : bitop .or .i64 (a : Int) (b : Int) = IntKind.wrap .i64 (((BitVec.ofNat 64 a ||| BitVec.ofNat 64 b).toNat : Nat) : Int) := by
    simp only [bitop, BitVec.ofInt_natCast]
    rfl
  rw [e2, e, wI64] <;> omega
theorem run_byte {n m : Nat} (hn : n ≤ 15) (hm : 1 ≤ m ∧ m ≤ 16) :
    IntKind.wrap IntKind.u8 (bitop BinOp.or IntKind.i64 (IntKind.wrap IntKind.i64 ((n : Int) * 16)) (IntKind.wrap IntKind.i64 ((m : Int) - 1))) = ((runByte ((n : Int), m) : Nat) : Int) := by
  rw [wI64 (by omega) (by omega), wI64 (by omega) (by omega), show (n : Int) * 16 = ((16 * n : Nat) : Int) by omega, show (m : Int) - 1 = ((m - 1 : Nat) : Int) by omega, bitop_or64 (by omega) (by omega)]
  have : 16 * n ||| (m - 1) = 16 * n + (m - 1) := by
    have := Nat.two_pow_add_eq_or_of_lt (i := 4) (b := m - 1) (by omega) n
    simpa using this.symm
  rw [this, wU8 (by omega) (by omega)]
  unfold runByte
  simp only [Int.toNat_natCast]
  omega
theorem round76 {k r j n m : Nat} {L : LHeap} {bs F : List Nat} (hj : L[j]? = some (rec76 r .ready)) (h : MB L r bs F) (hjF : j ∉ F) (hn : n ≤ 15) (hm : 1 ≤ m ∧ m ≤ 16) (hs : bs.length < 2 ^ 39) :
    ∃ L' F', r76_7 k r j (n : Int) (m : Int) L = some (.ret (.bool true) L') ∧ MB L' r (bs ++ [runByte ((n : Int), m)]) F' ∧ Step (j :: F) L F' L' ∧ L'[j]? = some (rec76 r .ready) ∧ j ∉ F' := by
  have hjL := get_lt hj
  have hb : lbusy j L = fun K => K (L.set j (rec76 r .busy)) := by
    funext K
    unfold lbusy
    rw [hj]
    rfl
  rw [r76_7_eq, hb]
  have h0 : MB (L.set j (rec76 r .busy)) r bs F := h.mono fun i hi => get_set_ne fun e => hjF (e ▸ hi)
  have hj0 : (L.set j (rec76 r .busy))[j]? = some (rec76 r .busy) := get_set_self hj
  have st0 : Step (j :: F) L (j :: F) (L.set j (rec76 r .busy)) := .set _ (by simp)
  generalize L.set j (rec76 r .busy) = L0 at *
  obtain ⟨s, G, h1, h2, h3, rfl⟩ := h0
  have c0 : cell L0 ⟨r, 0, none⟩ = some (.slice s.a s.n s.c) := by rw [cell_of h1]; rfl
  simp only [c0, Option.bind_some, asSl_slice, obind_some, size5, bytes5, src_new, run_byte hn hm]
  obtain ⟨s', L1, G', a1, a2, a3⟩ := (h2.mono (L' := L0 ++ [.cells [bV (runByte ((n : Int), m))] 5 false 0]) fun i hi => get_push (h2.within i hi)).app [bV (runByte ((n : Int), m))] 1 (by simp; omega) (by simp; omega)
  have a1 : Rlm.app (L0 ++ [LBlk.cells [Value.int IntKind.u8 ((runByte ((n : Int), m) : Nat) : Int)] 5 false 0]) 5 1 1 s 1 [Value.int IntKind.u8 ((runByte ((n : Int), m) : Nat) : Int)] = some (s', L1) := a1
  have hr1 : L1[r]? = some (.cells [.slice s.a s.n s.c] 36 false 0) := by rw [a3.keep r (by have := get_lt h1; simp; omega) h3, get_push (get_lt h1), h1]
  have hjG : j ∉ G := fun h => hjF (by simp [h])
  have hjr : j ≠ r := fun h => hjF (by simp [h])
  have hj1 : L1[j]? = some (rec76 r .busy) := by rw [a3.keep j (by have := get_lt hj0; simp; omega) hjG, get_push (get_lt hj0), hj0]
  have hrG : r ∉ G' := fun hg => by rcases a3.foot r hg with q | q; exact h3 q; have := get_lt h1; simp at q; omega
  have hjG' : j ∉ G' := fun hg => by rcases a3.foot j hg with q | q; exact hjG q; have := get_lt hj0; simp at q; omega
  simp only [a1, obind_some]
  rw [stores_all hr1 (news := [.slice s'.a s'.n s'.c]) rfl]
  simp only [obind_some]
  have hj2 : (L1.set r (.cells [.slice s'.a s'.n s'.c] 36 false 0))[j]? = some (rec76 r .busy) := by rw [get_set_ne hjr.symm, hj1]
  have hr2 : (L1.set r (.cells [.slice s'.a s'.n s'.c] 36 false 0))[r]? = some (.cells [.slice s'.a s'.n s'.c] 36 false 0) := get_set_self hr1
  have hs2 : OS (L1.set r (.cells [.slice s'.a s'.n s'.c] 36 false 0)) s' ((bs ++ [runByte ((n : Int), m)]).map bV) 5 G' := by
    rw [List.map_append]
    exact a2.mono fun i hi => get_set_ne fun e => hrG (e ▸ hi)
  have st2 : Step (r :: G) L0 (r :: G') (L1.set r (.cells [.slice s'.a s'.n s'.c] 36 false 0)) :=
    ((Step.push (r :: G) L0 _).trans (((a3.mono (G := r :: G) fun i hi => by simp [hi]).less (G := r :: G') fun i hi => by rcases List.mem_cons.1 hi with rfl | hi; exact .inr (by simp); exact .inl hi))).trans (Step.set _ (by simp))
  generalize L1.set r (.cells [.slice s'.a s'.n s'.c] 36 false 0) = L2 at *
  have hl : lleave j LExit.normal L2 = some (.ret (.bool true) (L2.set j (rec76 r .ready))) := by
    unfold lleave
    rw [hj2]
    rfl
  rw [hl]
  refine ⟨_, r :: G', rfl, ⟨s', G', by rw [get_set_ne hjr, hr2], hs2.mono fun i hi => get_set_ne fun e => hjG' (e ▸ hi), hrG, rfl⟩, ?_, get_set_self hj2, by simp [hjr, hjG']⟩
  have st3 : Step (j :: r :: G) L0 (r :: G') L2 := st2.mono fun i hi => List.mem_cons_of_mem _ hi
  have st4 : Step (j :: r :: G) L0 (j :: r :: G') L2 := ⟨st3.len, st3.keep, fun i hi => by rcases List.mem_cons.1 hi with rfl | hi; exact .inl (by simp); exact st3.foot i hi⟩
  exact (st0.trans (st4.trans (Step.set _ (by simp)))).less fun i hi => .inl (by simp at hi ⊢; exact .inr hi)
theorem yield76 {k r j n m : Nat} {L L' : LHeap} (hj : L[j]? = some (rec76 r .ready)) (h : r76_7 k r j (n : Int) (m : Int) L = some (.ret (.bool true) L')) :
    lcall Proofs.Try.prog T (k + 1) (YB + j) [.int .i64 (n : Int), .int .i64 (m : Int)] L = some (.ret (.bool true) L') := by
  rw [lcall_yield]
  unfold lyield
  rw [hj]
  show lbindR (r76_7 k r j (n : Int) (m : Int) L) _ = _
  rw [h]
  rfl
/-- What comes when a run is over. -/
noncomputable def cont104 (k j0 y r2 : Nat) (n : Int) (L : LHeap) : R :=
  obind (Option.bind (cell L (Addr.mk r2 0 none)) asSl) fun l11 =>
    obind (idx l11 0 1) fun a12 =>
      obind (Option.bind (cell L a12) (asI IntKind.i64)) fun n13 =>
        lbind (lcall Proofs.Try.prog T k (YB + y) [Value.int IntKind.i64 n13, Value.int IntKind.i64 n] L) fun v14 L15 =>
          obind (asB v14) fun b16 =>
            lif (!b16) (some (LR.ret (Value.tuple #[]) L15))
              (obind (Option.bind (cell L15 (Addr.mk r2 0 none)) asSl) fun l17 =>
                obind (cut L15 l17 (some n) none none 1) fun l18 =>
                  obind (stores L15 (Addr.mk r2 0 none) [Value.slice l18.a l18.n l18.c]) fun L19 => f104_l0 k j0 y r2 L19)
theorem count_run {k j0 y r2 : Nat} {s : Sl} {z : Int} {zs : List Int} {A : List Nat} {L : LHeap} (hb : L[r2]? = some (.cells [.slice s.a s.n s.c] 49 false 0)) (hs : Rd L s ((z :: zs).map iV) A) :
    ∀ (m n j : Nat), n + m = runOf z zs → 1 ≤ n → m < j → f104_l2 k j0 j y r2 (n : Int) L = cont104 k j0 y r2 (runOf z zs : Int) L := by
  have hlen := hs.len
  simp only [List.length_map, List.length_cons] at hlen
  have hro := runOf_pos z zs
  have c0 : cell L ⟨r2, 0, none⟩ = some (.slice s.a s.n s.c) := by rw [cell_of hb]; rfl
  obtain ⟨b, b1, b2⟩ := hs.here (i := 0) (v := iV z) rfl
  have b1 : idx s 0 1 = some b := b1
  intro m
  induction m with
  | zero =>
    intro n j hn h1 hj
    obtain ⟨j, rfl⟩ : ∃ j', j = j' + 1 := ⟨j - 1, by omega⟩
    rw [f104_l2_eq]
    have hn : n = runOf z zs := by omega
    subst hn
    by_cases h16 : runOf z zs < 16
    · rw [decide_eq_true (by omega), lif_true]
      simp only [c0, Option.bind_some, asSl_slice, obind_some]
      by_cases hl : runOf z zs < zs.length + 1
      · rw [decide_eq_true (by omega), lif_true]
        obtain ⟨a, a1, a2⟩ := hs.here (i := runOf z zs) (v := iV (z :: zs)[runOf z zs]) (by rw [List.getElem?_map, List.getElem?_eq_getElem (by simpa using hl)]; rfl)
        simp only [a1, a2, b1, b2, iV, Option.bind_some, asI_int, obind_some]
        have hne : (z :: zs)[runOf z zs]? ≠ some z := by
          have hm : runOf z zs = lead z zs + 1 := by unfold runOf at *; omega
          rw [hm, List.getElem?_cons_succ]
          exact lead_next z zs
        have hne : ((z :: zs)[runOf z zs] == z) = false := by
          rw [List.getElem?_eq_getElem (by simpa using hl)] at hne
          simpa using hne
        rw [hne, lif_false]
        simp only [cont104, c0, b1, b2, iV, Option.bind_some, asI_int, asSl_slice, obind_some]
      · rw [decide_eq_false (by omega), lif_false]
        simp only [cont104, c0, b1, b2, iV, Option.bind_some, asI_int, asSl_slice, obind_some]
    · rw [decide_eq_false (by omega), lif_false]
      simp only [cont104, c0, b1, b2, iV, Option.bind_some, asI_int, asSl_slice, obind_some]
  | succ m ih =>
    intro n j hn h1 hj
    obtain ⟨j, rfl⟩ : ∃ j', j = j' + 1 := ⟨j - 1, by omega⟩
    rw [f104_l2_eq, decide_eq_true (by omega), lif_true]
    simp only [c0, Option.bind_some, asSl_slice, obind_some]
    rw [decide_eq_true (by omega), lif_true]
    have hz : (z :: zs)[n]? = some z := by
      obtain ⟨q, rfl⟩ : ∃ q, n = q + 1 := ⟨n - 1, by omega⟩
      rw [List.getElem?_cons_succ]
      exact lead_get (by unfold runOf at *; omega)
    obtain ⟨a, a1, a2⟩ := hs.here (i := n) (v := iV z) (by rw [List.getElem?_map, hz]; rfl)
    simp only [a1, a2, b1, b2, iV, Option.bind_some, asI_int, obind_some, BEq.rfl, lif_true]
    rw [wI64 (by omega) (by omega)]
    exact ih (n + 1) j (by omega) (by omega) (by omega)
theorem runs_loop {k y rb r2 : Nat} (hk : 30 ≤ k) : ∀ (N : Nat) (zs : List Int) (j0 : Nat) (s : Sl) (bs A F : List Nat) (L : LHeap), zs.length ≤ N → N < j0 → (∀ z ∈ zs, 0 ≤ z ∧ z ≤ 15) → bs.length + N < 2 ^ 39 →
    L[y]? = some (rec76 rb .ready) → L[r2]? = some (.cells [.slice s.a s.n s.c] 49 false 0) → CS L s (zs.map iV) A → MB L rb bs F → y ∉ A → r2 ∉ A → Apart F A → y ∉ F → r2 ∉ F → y ≠ r2 →
    ∃ L' F', f104_l0 k j0 y r2 L = some (.ret (.tuple #[]) L') ∧ MB L' rb (bs ++ tabBytes zs) F' ∧ L'[y]? = some (rec76 rb .ready) ∧ Step (y :: r2 :: F) L F' L' := by
  intro N
  induction N with
  | zero =>
    intro zs j0 s bs A F L h1 h2 h3 h4 hy hb hs hm a1 a2 a3 a4 a5 a6
    obtain ⟨j0, rfl⟩ : ∃ j', j0 = j' + 1 := ⟨j0 - 1, by omega⟩
    have : zs = [] := List.eq_nil_of_length_eq_zero (by omega)
    subst this
    have c0 : cell L ⟨r2, 0, none⟩ = some (.slice s.a s.n s.c) := by rw [cell_of hb]; rfl
    have hlen := hs.rd.len
    refine ⟨L, F, ?_, by simpa [tabBytes, tabRuns, runs] using hm, hy, (Step.refl (y :: r2 :: F) L).less fun i hi => .inl (by simp [hi])⟩
    rw [f104_l0_eq]
    simp only [c0, Option.bind_some, asSl_slice, obind_some]
    rw [decide_eq_false (by simp at hlen; omega), lif_false]
  | succ N ih =>
    intro zs j0 s bs A F L h1 h2 h3 h4 hy hb hs hm a1 a2 a3 a4 a5 a6
    obtain ⟨j0, rfl⟩ : ∃ j', j0 = j' + 1 := ⟨j0 - 1, by omega⟩
    have c0 : cell L ⟨r2, 0, none⟩ = some (.slice s.a s.n s.c) := by rw [cell_of hb]; rfl
    have hlen := hs.rd.len
    simp only [List.length_map] at hlen
    rw [f104_l0_eq]
    simp only [c0, Option.bind_some, asSl_slice, obind_some]
    cases zs with
    | nil =>
      refine ⟨L, F, ?_, by simpa [tabBytes, tabRuns, runs] using hm, hy, (Step.refl (y :: r2 :: F) L).less fun i hi => .inl (by simp [hi])⟩
      rw [decide_eq_false (by simp at hlen; omega), lif_false]
    | cons z zs =>
      simp only [List.length_cons] at hlen h1
      have hro := runOf_pos z zs
      rw [decide_eq_true (by omega), lif_true, show (1 : Int) = ((1 : Nat) : Int) from rfl, count_run hb hs.rd (runOf z zs - 1) 1 k (by omega) (by omega) (by omega)]
      obtain ⟨b, b1, b2⟩ := hs.rd.here (i := 0) (v := iV z) rfl
      have b1 : idx s 0 1 = some b := b1
      obtain ⟨hz0, hz15⟩ := h3 z (by simp)
      obtain ⟨zn, rfl⟩ : ∃ zn : Nat, z = (zn : Int) := ⟨z.toNat, by omega⟩
      obtain ⟨k, rfl⟩ : ∃ k', k = k' + 1 := ⟨k - 1, by omega⟩
      obtain ⟨L1, F1, r1, r3, r4, r5, r6⟩ := round76 (k := k) (n := zn) (m := runOf (zn : Int) zs) hy hm a4 (by omega) (by omega) (by omega)
      have hcall := yield76 hy r1
      have keepA : ∀ i ∈ A, L1[i]? = L[i]? := fun i hi => r4.keep i (hs.rd.within i hi) (by
        intro h
        rcases List.mem_cons.1 h with rfl | h
        · exact a1 hi
        · exact a3 i h hi)
      have hb1 : L1[r2]? = some (.cells [.slice s.a s.n s.c] 49 false 0) := by
        rw [r4.keep r2 (get_lt hb) (by intro h; rcases List.mem_cons.1 h with h | h; exact a6 h.symm; exact a5 h), hb]
      have c1 : cell L1 ⟨r2, 0, none⟩ = some (.slice s.a s.n s.c) := by rw [cell_of hb1]; rfl
      obtain ⟨s', A', d1, d2, d3⟩ := (hs.mono keepA).cut (n := runOf (zn : Int) zs) (by omega) (by simp; omega)
      have hst : stores L1 ⟨r2, 0, none⟩ [Value.slice s'.a s'.n s'.c] = some (L1.set r2 (.cells [.slice s'.a s'.n s'.c] 49 false 0)) := stores_all hb1 rfl
      simp only [cont104, c0, b1, b2, iV, Option.bind_some, asI_int, asSl_slice, obind_some, hcall, lbind_ret, asB_bool, Bool.not_true, lif_false, c1, d1, hst]
      have r2F1 : r2 ∉ F1 := fun h => by
        rcases r4.foot r2 h with g | g
        · rcases List.mem_cons.1 g with g | g
          · exact a6 g.symm
          · exact a5 g
        · have := get_lt hb; omega
      have apF1 : Apart F1 A := r4.apart hs.rd.within (fun i hi => by
        rcases List.mem_cons.1 hi with rfl | hi
        · exact a1
        · exact a3 i hi)
      have hbn : (L1.set r2 (.cells [.slice s'.a s'.n s'.c] 49 false 0))[r2]? = some (.cells [.slice s'.a s'.n s'.c] 49 false 0) := get_set_self hb1
      have r2A : r2 ∉ A' := fun h => a2 (d3 _ h)
      obtain ⟨L2, F2, e1, e2, e3, e4⟩ := ih (((zn : Int) :: zs).drop (runOf (zn : Int) zs)) j0 s' (bs ++ [runByte ((zn : Int), runOf (zn : Int) zs)]) A' F1 (L1.set r2 (.cells [.slice s'.a s'.n s'.c] 49 false 0))
        (by simp; omega) (by omega) (fun z hz => h3 z (List.mem_of_mem_drop hz)) (by simp; omega) (by rw [get_set_ne a6.symm, r5]) hbn (by rw [← List.map_drop] at d2; exact d2.mono fun i hi => get_set_ne fun e => r2A (e ▸ hi))
        (r3.mono fun i hi => get_set_ne fun e => r2F1 (e ▸ hi)) (fun h => a1 (d3 _ h)) r2A (fun i hi h => apF1 i hi (d3 _ h)) r6 r2F1 a6
      refine ⟨L2, F2, e1, by rw [tabBytes, tabRuns_cons]; simpa [tabBytes] using e2, e3, ?_⟩
      have st1 : Step (y :: r2 :: F) L (y :: r2 :: F1) L1 :=
        ⟨r4.len, fun i hi hn => r4.keep i hi fun h => hn (by rcases List.mem_cons.1 h with rfl | h; simp; simp [h]), fun i hi => by
          rcases List.mem_cons.1 hi with rfl | hi
          · exact .inl (by simp)
          · rcases List.mem_cons.1 hi with rfl | hi
            · exact .inl (by simp)
            · rcases r4.foot i hi with g | g
              · exact .inl (by rcases List.mem_cons.1 g with rfl | g; simp; simp [g])
              · exact .inr g⟩
      exact (st1.trans (Step.set _ (by simp))).trans e4
theorem index_any {k : Nat} {l : Sl} {fs : List Int} {A : List Nat} {L : LHeap} {fv : Value} {p : Int → Bool} (hp : ∀ f, lapp (lcall Proofs.Try.prog T k) fv [.int .i64 f] L = some (.ret (.bool (p f)) L))
    (hl : Rd L l (fs.map iV) A) (hs : fs.length < 2 ^ 60) :
    ∀ (m i j : Nat), i + m = fs.length → m < j → ∃ n : Int, f100_l2 k j l fv (l.n : Int) (i : Int) L = some (.ret (.int .i64 n) L) ∧ decide (n ≥ 0) = (fs.drop i).any p := by
  have hn := hl.len
  simp only [List.length_map] at hn
  intro m
  induction m with
  | zero =>
    intro i j hi hj
    obtain ⟨j, rfl⟩ : ∃ j', j = j' + 1 := ⟨j - 1, by omega⟩
    refine ⟨-1, ?_, by rw [List.drop_eq_nil_of_le (by omega)]; rfl⟩
    rw [f100_l2_eq, decide_eq_false (by omega)]
    rfl
  | succ m ih =>
    intro i j hi hj
    obtain ⟨j, rfl⟩ : ∃ j', j = j' + 1 := ⟨j - 1, by omega⟩
    obtain ⟨a, a1, a2⟩ := hl.here (i := i) (v := iV fs[i]) (by simp [show i < fs.length by omega])
    rw [f100_l2_eq, decide_eq_true (by omega), List.drop_eq_getElem_cons (show i < fs.length by omega), List.any_cons]
    simp only [lif_true, a1, a2, iV, obind_some, Option.bind_some, asI_int, hp, lbind_ret, asB_bool]
    rw [wI64 (n := (i : Int) + 1) (by omega) (by omega)]
    cases hb : p fs[i]
    · simpa using ih (i + 1) j (by omega) (by omega)
    · exact ⟨(i : Int), rfl, by simp⟩
theorem contains_any {k : Nat} {l : Sl} {fs : List Int} {A : List Nat} {L : LHeap} {fv : Value} {p : Int → Bool} (hp : ∀ k f, 1 ≤ k → lapp (lcall Proofs.Try.prog T k) fv [.int .i64 f] L = some (.ret (.bool (p f)) L))
    (hl : Rd L l (fs.map iV) A) (hs : fs.length < 2 ^ 60) (hk : fs.length + 10 ≤ k) : f91 k l fv L = some (.ret (.bool (fs.any p)) L) := by
  obtain ⟨k, rfl⟩ : ∃ k', k = k' + 2 := ⟨k - 2, by omega⟩
  obtain ⟨n, h1, h2⟩ := index_any (k := k) (fun f => hp k f (by omega)) hl hs fs.length 0 k (by omega) (by omega)
  have h1 : f100_l2 k k l fv (l.n : Int) 0 L = some (.ret (.int .i64 n) L) := h1
  rw [f91_eq, f100_eq, h1]
  simp only [lbind_ret, asI_int, obind_some, h2, List.drop_zero]
def outLen (n : Int) : Bool := decide (n < 0) || decide (n > 15)
theorem out_app (k : Nat) (f : Int) (L : LHeap) (hk : 1 ≤ k) : lapp (lcall Proofs.Try.prog T k) (.func (.func 95) #[] #[]) [.int .i64 f] L = some (.ret (.bool (outLen f)) L) := by
  obtain ⟨k, rfl⟩ : ∃ k', k = k' + 1 := ⟨k - 1, by omega⟩
  rw [lapp_plain (g := 95) rfl]
  show f95 (k + 1) f L = _
  rw [f95_eq, lif_bool]
  unfold outLen
  cases decide (f < 0) <;> rfl
/-- **Make.** -/
theorem make_ok {k : Nat} {l : Sl} {zs : List Int} {A : List Nat} {L : LHeap} (hl : CS L l (zs.map iV) A) (hok : okLen zs = true) (hs : zs.length < 2 ^ 38) (hk : zs.length + 50 ≤ k) :
    ∃ L', f76 k l L = some (.ret (.tuple #[.string (strOf (tabBytes zs)), .int .i64 0]) L') ∧ Step [] L [] L' := by
  obtain ⟨k, rfl⟩ : ∃ k', k = k' + 2 := ⟨k - 2, by omega⟩
  have hz : ∀ z ∈ zs, 0 ≤ z ∧ z ≤ 15 := fun z hz => okLen_mem hok hz
  have hany : zs.any outLen = false := by
    rw [List.any_eq_false]
    intro z hzm
    have := hz z hzm
    simp [outLen]; omega
  rw [f76_eq, contains_any (p := outLen) (fun k f hk => out_app k f L hk) hl.rd (by omega) (by omega), hany]
  simp only [lbind_ret, asB_bool, obind_some, lif_false]
  rw [f96_eq]
  simp only [lbind_ret]
  -- the boxes, the record
  have n1 : (L ++ [LBlk.cells [Value.slice none 0 0] 36 false 0])[L.length]? = some (.cells [Value.slice none 0 0] 36 false 0) := get_new
  have s1 := Step.new [] L (LBlk.cells [Value.slice none 0 0] 36 false 0)
  generalize L ++ [LBlk.cells [Value.slice none 0 0] 36 false 0] = L1 at *
  have n2 : (L1 ++ [LBlk.cells [Value.slice l.a l.n l.c] 49 false 0])[L1.length]? = some (.cells [Value.slice l.a l.n l.c] 49 false 0) := get_new
  have s2 := Step.new [] L1 (LBlk.cells [Value.slice l.a l.n l.c] 49 false 0)
  generalize L1 ++ [LBlk.cells [Value.slice l.a l.n l.c] 49 false 0] = L2 at *
  have n3 : (L2 ++ [rec76 L.length .ready])[L2.length]? = some (rec76 L.length .ready) := get_new
  have s3 := Step.new [] L2 (rec76 L.length .ready)
  show ∃ L', lbindR (lappF (lcall Proofs.Try.prog T (k + 1)) (Value.func (Fn.func 104) #[] #[Value.pointer (some (Addr.mk L1.length 0 none))]) [Value.func (Fn.yield L2.length) #[] #[]] (L2 ++ [rec76 L.length .ready])) _ = _ ∧ _
  generalize L2 ++ [rec76 L.length .ready] = L3 at *
  have hlt0 : L.length < L1.length := get_lt n1
  have hlt1 : L1.length < L2.length := get_lt n2
  have hlt2 : L2.length < L3.length := get_lt n3
  have hA := hl.rd.within
  have k1 : ∀ i, i < L.length → L3[i]? = L[i]? := fun i hi => by rw [s3.keep i (by omega) (by simp), s2.keep i (by omega) (by simp), s1.keep i hi (by simp)]
  have m1 : L3[L.length]? = some (.cells [Value.slice none 0 0] 36 false 0) := by rw [s3.keep _ (by omega) (by simp), s2.keep _ (by omega) (by simp), n1]
  have m2 : L3[L1.length]? = some (.cells [Value.slice l.a l.n l.c] 49 false 0) := by rw [s3.keep _ (by omega) (by simp), n2]
  have hap : lappF (lcall Proofs.Try.prog T (k + 1)) (Value.func (Fn.func 104) #[] #[Value.pointer (some (Addr.mk L1.length 0 none))]) [Value.func (Fn.yield L2.length) #[] #[]] L3 = f104 (k + 1) L2.length L1.length L3 := by
    unfold lappF
    simp only [show Nat.blt 104 YB = true from rfl, hif_true]
    rfl
  rw [hap, f104_eq]
  obtain ⟨L4, F4, e1, e2, e3, e4⟩ := runs_loop (k := k) (y := L2.length) (rb := L.length) (r2 := L1.length) (by omega) zs.length zs k l [] A [L.length] L3 (Nat.le_refl _) (by omega) hz (by simp; omega) n3 m2
    (hl.mono fun i hi => k1 i (hA i hi)) ⟨⟨none, 0, 0⟩, [], m1, OS.nil _ _, by simp, rfl⟩ (fun h => by have := hA _ h; omega) (fun h => by have := hA _ h; omega) (fun i hi h => by rw [List.mem_singleton.1 hi] at h; have := hA _ h; omega)
    (by simp; omega) (by simp; omega) (by omega)
  rw [e1]
  simp only [lbindR_ret]
  have hend : ∀ (X : LHeap → R) (Y : LExit → LHeap → R), lend L2.length L4 X Y = X (L4.set L2.length .dead) := fun X Y => by
    unfold lend
    rw [e3]
    rfl
  rw [hend]
  have st : Step [] L [] L4 := by
    have := ((s1.trans (s2.mono (G := [L.length]) (by simp))).trans (s3.mono (G := [L1.length]) (by simp)))
    refine ⟨by have := s1.len; have := s2.len; have := s3.len; have := e4.len; omega, fun i hi _ => ?_, fun i hi => by cases hi⟩
    rw [e4.keep i (by omega) (by simp; omega), k1 i hi]
  have hF4 : L2.length ∉ F4 := fun h => by
    have := e2.within _ h
    obtain ⟨s, G, g1, g2, g3, rfl⟩ := e2
    rcases List.mem_cons.1 h with h | h
    · omega
    · rcases e4.foot L2.length (by simp [h]) with g | g
      · obtain ⟨c, gg⟩ : ∃ c, G = [c] := by
          rcases g2 with ⟨_, _, rfl⟩ | ⟨c, _, _, rfl⟩
          · cases h
          · exact ⟨c, rfl⟩
        subst gg
        rw [List.mem_singleton.1 h] at e3
        rcases g2 with ⟨_, _, q⟩ | ⟨c', q1, q2, q3⟩
        · cases q
        · injection q3 with q3
          rw [q3, q2] at e3
          cases e3
      · omega
  have e2' : MB (L4.set L2.length .dead) L.length (tabBytes zs) F4 := (by simpa using e2 : MB L4 L.length (tabBytes zs) F4).mono fun i hi => get_set_ne fun e => hF4 (e ▸ hi)
  obtain ⟨s, G, g1, g2, g3, rfl⟩ := e2'
  have c0 : cell (L4.set L2.length .dead) ⟨L.length, 0, none⟩ = some (.slice s.a s.n s.c) := by rw [cell_of g1]; rfl
  have hby : ∀ b ∈ tabBytes zs, b < 256 := fun b hb => by
    obtain ⟨p, hp, rfl⟩ := List.mem_map.1 hb
    have hr := runsOk_mem (runsOk_tab _ zs (Nat.le_refl _)) p hp
    have hm := mem_expand hp hr.1
    rw [expand_tabRuns _ _ (Nat.le_refl _)] at hm
    have := hz _ hm
    unfold runByte; omega
  have hbo : bytesOf (L4.set L2.length .dead) s = some (strOf (tabBytes zs)) := g2.bytes hby
  refine ⟨L4.set L2.length .dead, ?_, ⟨by simp; exact st.len, fun i hi hn => by rw [get_set_ne (by omega), st.keep i hi hn], fun i hi => by cases hi⟩⟩
  simp only [c0, Option.bind_some, asSl_slice, obind_some, hbo]
end Go.Proofs.Ytflhogapjmdkaaa.X
end

section
set_option maxRecDepth 100000
set_option linter.unusedVariables false
namespace Go.Proofs.Ytflhogapjmdkaaa.X
open Go Go.Rlm
theorem tabBytes_small {zs : List Int} (hz : ∀ z ∈ zs, 0 ≤ z ∧ z ≤ 15) : ∀ b ∈ tabBytes zs, b < 256 := fun b hb => by
  obtain ⟨p, hp, rfl⟩ := List.mem_map.1 hb
  have hr := runsOk_mem (runsOk_tab _ zs (Nat.le_refl _)) p hp
  have hm := mem_expand hp hr.1
  rw [expand_tabRuns _ _ (Nat.le_refl _)] at hm
  have := hz _ hm
  unfold runByte; omega
end Go.Proofs.Ytflhogapjmdkaaa.X
end

section
set_option maxRecDepth 100000
set_option linter.unusedVariables false
namespace Go.Proofs.Ytflhogapjmdkaaa.X
open Go Go.Rlm
theorem mul_ok {k m : Nat} {L : LHeap} (h1 : 1 ≤ m) (h2 : m ≤ 16) (hk : 2 ≤ k) : f97 k 1 (m : Int) L = some (.ret (.tuple #[.int .u64 0, .int .u64 (m : Int)]) L) := by
  obtain ⟨k, rfl⟩ : ∃ k', k = k' + 2 := ⟨k - 2, by omega⟩
  rw [f97_eq, f106_eq]
  have hm : m = 1 ∨ m = 2 ∨ m = 3 ∨ m = 4 ∨ m = 5 ∨ m = 6 ∨ m = 7 ∨ m = 8 ∨ m = 9 ∨ m = 10 ∨ m = 11 ∨ m = 12 ∨ m = 13 ∨ m = 14 ∨ m = 15 ∨ m = 16 := by omega
  rcases hm with rfl | rfl | rfl | rfl | rfl | rfl | rfl | rfl | rfl | rfl | rfl | rfl | rfl | rfl | rfl | rfl <;> rfl
def repCells (m n : Nat) (z : Int) : List Value := List.replicate n (iV z) ++ List.replicate (m - n) (iV 0)
@[simp] theorem repCells_length {m n : Nat} (z : Int) (h : n ≤ m) : (repCells m n z).length = m := by simp [repCells]; omega
theorem repeat_loop {k c m : Nat} {z : Int} : ∀ (q n j : Nat) (L : LHeap), m - n ≤ q → q < j → 1 ≤ n → n ≤ m → m ≤ 16 → L[c]? = some (.cells (repCells m n z) 3 false 0) →
    ∃ L', f79_l8 k j ⟨some ⟨c, 0, none⟩, m, m⟩ (n : Int) L = some (.ret (.slice (some ⟨c, 0, none⟩) m m) L') ∧ L'[c]? = some (.cells (List.replicate m (iV z)) 3 false 0) ∧ Step [c] L [c] L' := by
  intro q
  induction q with
  | zero =>
    intro n j L hq hj h1 h2 h3 hc
    obtain ⟨j, rfl⟩ : ∃ j', j = j' + 1 := ⟨j - 1, by omega⟩
    have : n = m := by omega
    subst this
    refine ⟨L, ?_, by simpa [repCells] using hc, .refl _ _⟩
    rw [f79_l8_eq, decide_eq_false (by simp), lif_false]
  | succ q ih =>
    intro n j L hq hj h1 h2 h3 hc
    obtain ⟨j, rfl⟩ : ∃ j', j = j' + 1 := ⟨j - 1, by omega⟩
    by_cases hnm : n < m
    · rw [f79_l8_eq, decide_eq_true (by simpa using hnm), lif_true]
      have hO : Nat.blt m OPEN = true := by rw [show OPEN = 18446744073709551616 from rfl]; simp; omega
      have u1 : cut L ⟨some ⟨c, 0, none⟩, m, m⟩ (some (n : Int)) none none 1 = some ⟨some ⟨c, n, none⟩, m - n, m - n⟩ := by
        simp only [cut, hO, cond_true, Option.isSome_none, cond_false, bound_out (Nat.le_refl m), bound_at 0 h2, Option.bind_eq_bind, Option.bind_some]
        rw [if_neg (by omega)]
        simp [mk_add]
      have u2 : cut L ⟨some ⟨c, 0, none⟩, m, m⟩ none (some (n : Int)) none 1 = some ⟨some ⟨c, 0, none⟩, n, m⟩ := by
        simp only [cut, hO, cond_true, Option.isSome_none, cond_false, bound_out (Nat.le_refl m), bound_at m h2, bound_out (Nat.zero_le n), Option.bind_eq_bind, Option.bind_some]
        rw [if_neg (by omega)]
        simp [mk_add]
      have u3 : srcOf L 1 (min n (m - n)) (.slice (some ⟨c, 0, none⟩) n m) = some (List.replicate (min n (m - n)) (iV z)) := by
        have hb : Nat.beq (min n (m - n)) 0 = false := by
          cases h : Nat.beq (min n (m - n)) 0 with
          | false => rfl
          | true => have := Nat.eq_of_beq_eq_true h; omega
        simp only [srcOf, srcCells, hb, cond_false, cellsAt, hc, Nat.mul_one, Nat.zero_add, repCells_length z h2, Nat.ble_eq_true_of_le (show min n (m - n) ≤ m by omega), cond_true, List.drop_zero]
        rw [repCells, List.take_append_of_le_length (by simp; omega), List.take_replicate]
        congr 2; omega
      have u4 : lcopy L ⟨some ⟨c, n, none⟩, m - n, m - n⟩ (min n (m - n)) 1 (List.replicate (min n (m - n)) (iV z)) = some (L.set c (.cells (repCells m (n + min n (m - n)) z) 3 false 0)) := by
        have hb : (Nat.beq (min n (m - n)) 0 || Nat.beq 1 0) = false := by
          cases h : Nat.beq (min n (m - n)) 0 with
          | false => rfl
          | true => have := Nat.eq_of_beq_eq_true h; omega
        simp only [lcopy, hb, cond_false]
        rw [stores_of hc (by simp [repCells_length z h2]; omega)]
        congr 3
        have := setAll_append (List.replicate n (iV z)) (List.replicate (m - n - min n (m - n)) (iV 0)) (List.replicate (min n (m - n)) (iV z)) (List.replicate (min n (m - n)) (iV 0)) (by simp)
        rw [repCells, show List.replicate (m - n) (iV 0) = List.replicate (min n (m - n)) (iV 0) ++ List.replicate (m - n - min n (m - n)) (iV 0) by rw [List.replicate_append_replicate]; congr 1; omega, ← List.append_assoc]
        simp only [List.length_replicate] at this
        rw [this, repCells, List.replicate_append_replicate]
        congr 2; omega
      simp only [u1, u2, obind_some, size3, u3, u4]
      rw [wI64 (by omega) (by omega)]
      obtain ⟨L', e1, e2, e3⟩ := ih (n + min n (m - n)) j (L.set c (.cells (repCells m (n + min n (m - n)) z) 3 false 0)) (by omega) (by omega) (by omega) (by omega) h3 (get_set_self hc)
      refine ⟨L', ?_, e2, (Step.set _ (by simp)).trans e3⟩
      rw [← e1]
      congr 1
    · have : n = m := by omega
      subst this
      refine ⟨L, ?_, by simpa [repCells] using hc, .refl _ _⟩
      rw [f79_l8_eq, decide_eq_false (by simp), lif_false]
theorem repeat_ok {k b m : Nat} {z : Int} {ro : Bool} {sp : Nat} {L : LHeap} (hb : L[b]? = some (.cells [iV z] 3 ro sp)) (h1 : 1 ≤ m) (h2 : m ≤ 16) (hk : 30 ≤ k) :
    ∃ s L' F, f79 k ⟨some ⟨b, 0, none⟩, 1, 1⟩ (m : Int) L = some (.ret (.slice s.a s.n s.c) L') ∧ WS L' s (List.replicate m (iV z)) 3 F ∧ s.n = m ∧ Step [] L F L' := by
  obtain ⟨k, rfl⟩ : ∃ k', k = k' + 1 := ⟨k - 1, by omega⟩
  rw [f79_eq, decide_eq_false (by omega), lif_false, show ((Sl.mk (some ⟨b, 0, none⟩) 1 1).n : Int) = 1 from rfl, wU64 (by omega) (by omega), wU64 (by omega) (by omega), mul_ok h1 h2 (by omega)]
  simp only [lbind_ret, tupL_tuple, uncons_cons, asI_int, obind_some, nilL_nil]
  rw [decide_eq_false (by omega), lif_false, decide_eq_false (by omega), lif_false, wI64 (by omega) (by omega)]
  simp only [bytes3, size3, room_ok (n := m) (b := 8) (by omega) (by omega), when_true, Int.toNat_natCast]
  have hmin : min 1 m = 1 := by omega
  have e0 : List.flatten (List.replicate m [Value.int IntKind.i64 0]) = List.replicate m (iV 0) := flat_rep _ _
  rw [e0, hmin]
  have hbl := get_lt hb
  have g1 : (L ++ [LBlk.cells (List.replicate m (iV 0)) 3 false 0])[b]? = some (.cells [iV z] 3 ro sp) := by rw [get_push hbl, hb]
  have g2 : (L ++ [LBlk.cells (List.replicate m (iV 0)) 3 false 0])[L.length]? = some (.cells (List.replicate m (iV 0)) 3 false 0) := get_new
  have s0 := Step.new [] L (LBlk.cells (List.replicate m (iV 0)) 3 false 0)
  generalize L ++ [LBlk.cells (List.replicate m (iV 0)) 3 false 0] = L1 at *
  have u3 : srcOf L1 1 1 (.slice (some ⟨b, 0, none⟩) 1 1) = some [iV z] := by
    simp only [srcOf, srcCells, show Nat.beq 1 0 = false from rfl, cond_false, cellsAt, g1, Nat.mul_one, Nat.zero_add, List.length_singleton, Nat.ble_eq_true_of_le (Nat.le_refl 1), cond_true]
    rfl
  have u4 : lcopy L1 ⟨some ⟨L.length, 0, none⟩, m, m⟩ 1 1 [iV z] = some (L1.set L.length (.cells (repCells m 1 z) 3 false 0)) := by
    simp only [lcopy, show (Nat.beq 1 0 || Nat.beq 1 0) = false from rfl, cond_false]
    rw [stores_of g2 (by simp; omega)]
    congr 3
    obtain ⟨q, rfl⟩ : ∃ q, m = q + 1 := ⟨m - 1, by omega⟩
    simp [setAll, repCells, List.replicate_succ]
  simp only [u3, obind_some, u4]
  obtain ⟨L', e1, e2, e3⟩ := repeat_loop (k := k) (c := L.length) (m := m) (z := z) (m - 1) 1 k (L1.set L.length (.cells (repCells m 1 z) 3 false 0)) (by omega) (by omega) (by omega) h1 h2 (get_set_self g2)
  refine ⟨⟨some ⟨L.length, 0, none⟩, m, m⟩, L', [L.length], ?_, .inr ⟨L.length, m, 0, by simp, e2, .inl (by simp), rfl⟩, rfl, ?_⟩
  · exact e1
  · exact (s0.trans (Step.set _ (by simp))).trans e3
def bytesL (s : ByteArray) : List Nat := s.data.toList.map UInt8.toNat
@[simp] theorem bytesL_length (s : ByteArray) : (bytesL s).length = s.size := by rw [bytesL, List.length_map]; rfl
theorem bytesL_at {s : ByteArray} {i : Nat} (h : i < s.size) : ∃ b, (bytesL s)[i]? = some b ∧ byteAt s (i : Int) = some (b : Int) ∧ b < 256 := by
  have hl : i < s.data.toList.length := h
  refine ⟨(s.data.toList[i]).toNat, by rw [bytesL, List.getElem?_map, List.getElem?_eq_getElem hl]; rfl, byteAt_get (List.getElem?_eq_getElem hl), UInt8.toNat_lt _⟩
theorem hi_bits {b : Nat} (h : b < 256) : IntKind.wrap IntKind.i64 (Int.fdiv (b : Int) 16) = (byteRun b).1 := by
  rw [show (16 : Int) = 2 ^ 4 from rfl, fdiv_pow, wI64 (by omega) (by omega)]
  unfold byteRun
  simp
theorem lo_bits {b : Nat} (h : b < 256) : IntKind.wrap IntKind.i64 (IntKind.wrap IntKind.i64 (bitop BinOp.and IntKind.u8 (b : Int) 15) + 1) = (((byteRun b).2 : Nat) : Int) := by
  have e : bitop BinOp.and IntKind.u8 (b : Int) 15 = ((b % 16 : Nat) : Int) := by
    have := bitop_and (k := .u8) rfl (a := b) (b := 15) (by simpa [IntKind.bits] using h) (by decide)
    rw [show (15 : Int) = ((15 : Nat) : Int) from rfl, this]
    congr 1
    exact Nat.and_two_pow_sub_one_eq_mod b 4
  rw [e, wI64 (n := ((b % 16 : Nat) : Int)) (by omega) (by omega), wI64 (by omega) (by omega)]
  unfold byteRun
  simp
def readErr : Value := .tuple #[.slice none 0 0, .int .i64 0, .int .i64 4]
theorem read_loop {k n : Nat} {s : ByteArray} (hn : n ≤ 512) (hs : s.size < 2 ^ 40) (hk : 40 ≤ k) : ∀ (m used j : Nat) (l : Sl) (acc : List Int) (last : Int) (full : Bool) (F : List Nat) (L : LHeap), used + m = s.size → m + 1 < j → acc.length ≤ n → OS L l (acc.map iV) 3 F →
    match readTab n ((bytesL s).drop used) acc used last full with
    | none => ∃ L', f62_l4 k j s (n : Int) l (used : Int) last full L = some (.ret readErr L') ∧ Step F L [] L'
    | some (zs, u) => ∃ l' L' F', f62_l4 k j s (n : Int) l (used : Int) last full L = some (.ret (.tuple #[.slice l'.a l'.n l'.c, .int .i64 (u : Int), .int .i64 0]) L') ∧ OS L' l' (zs.map iV) 3 F' ∧ Step F L F' L' := by
  intro m
  induction m with
  | zero =>
    intro used j l acc last full F L hu hj ha hl
    obtain ⟨j, rfl⟩ : ∃ j', j = j' + 1 := ⟨j - 1, by omega⟩
    have hlen := hl.len
    simp only [List.length_map] at hlen
    rw [List.drop_of_length_le (by simp; omega)]
    unfold readTab
    by_cases h : acc.length < n
    · rw [if_pos h]
      refine ⟨L, ?_, (Step.refl F L).less fun i hi => by cases hi⟩
      rw [f62_l4_eq, decide_eq_true (by omega), lif_true, show ((used : Int) == (s.size : Int)) = true by simp; omega, lif_true]
      rfl
    · rw [if_neg h]
      refine ⟨l, L, F, ?_, hl, .refl _ _⟩
      rw [f62_l4_eq, decide_eq_false (by omega), lif_false]
  | succ m ih =>
    intro used j l acc last full F L hu hj ha hl
    obtain ⟨j, rfl⟩ : ∃ j', j = j' + 1 := ⟨j - 1, by omega⟩
    have hlen := hl.len
    simp only [List.length_map] at hlen
    obtain ⟨b, b1, b2, b3⟩ := bytesL_at (s := s) (i := used) (by omega)
    have hd : (bytesL s).drop used = b :: (bytesL s).drop (used + 1) := by
      rw [List.drop_eq_getElem_cons (by simp; omega)]
      rw [List.getElem?_eq_getElem (by simp; omega)] at b1
      injection b1 with b1
      rw [b1]
    rw [hd, readTab]
    by_cases h : acc.length < n
    · rw [if_pos h, f62_l4_eq, decide_eq_true (by omega), lif_true, show ((used : Int) == (s.size : Int)) = false by simp; omega]
      simp only [lif_false, b2, obind_some, hi_bits b3, lo_bits b3]
      rw [wI64 (n := (n : Int) - (l.n : Int)) (by omega) (by omega)]
      have hbr := byteRun_ok b
      -- the lengths are laid behind the others
      have go : ∀ (X : R), (lbind (f79 k (Sl.mk (some (Addr.mk (List.length L) 0 none)) 1 1) (((byteRun b).2 : Nat) : Int) (L ++ [LBlk.cells [Value.int IntKind.i64 (byteRun b).1] 3 false 0])) fun v8 L9 =>
          obind (asSl v8) fun l10 => obind (srcOf L9 Proofs.Try.prog.types[3].size l10.n (Value.slice l10.a l10.n l10.c)) fun x11 => obind (Rlm.app L9 3 Proofs.Try.prog.types[3].size Proofs.Try.prog.types[3].bytes l l10.n x11) fun x12 =>
            f62_l4 k j s (n : Int) x12.fst (IntKind.wrap IntKind.i64 ((used : Int) + 1)) (byteRun b).1 ((((byteRun b).2 : Nat) : Int) == 16) x12.snd) = X →
          acc.length + (byteRun b).2 ≤ n →
          match readTab n ((bytesL s).drop (used + 1)) (acc ++ List.replicate (byteRun b).2 (byteRun b).1) (used + 1) (byteRun b).1 ((byteRun b).2 == 16) with
          | none => ∃ L', X = some (.ret readErr L') ∧ Step F L [] L'
          | some (zs, u) => ∃ l' L' F', X = some (.ret (.tuple #[.slice l'.a l'.n l'.c, .int .i64 (u : Int), .int .i64 0]) L') ∧ OS L' l' (zs.map iV) 3 F' ∧ Step F L F' L' := by
        intro X hX hle
        have g0 : (L ++ [LBlk.cells [Value.int IntKind.i64 (byteRun b).1] 3 false 0])[L.length]? = some (.cells [iV (byteRun b).1] 3 false 0) := get_new
        have st0 := Step.push F L [LBlk.cells [Value.int IntKind.i64 (byteRun b).1] 3 false 0]
        have hl0 : OS (L ++ [LBlk.cells [Value.int IntKind.i64 (byteRun b).1] 3 false 0]) l (acc.map iV) 3 F := hl.mono fun i hi => get_push (hl.within i hi)
        generalize L ++ [LBlk.cells [Value.int IntKind.i64 (byteRun b).1] 3 false 0] = L1 at *
        obtain ⟨s1, L2, F2, r1, r2, r3, r4⟩ := repeat_ok (k := k) g0 hbr.1 hbr.2 (by omega)
        have hl2 := hl0.mono (r4.others hl0.within (none_apart _))
        have hsrc := r2.rd.src
        obtain ⟨s3, L3, F3, a1, a2, a3⟩ := hl2.app (List.replicate (byteRun b).2 (iV (byteRun b).1)) 8 (by simp; omega) (by simp; omega)
        simp only [r1, lbind_ret, asSl_slice, obind_some, size3, bytes3, hsrc] at hX
        rw [r3] at hX
        simp only [List.length_replicate] at a1
        rw [a1] at hX
        simp only [obind_some] at hX
        rw [wI64 (by omega) (by omega)] at hX
        have := ih (used + 1) j s3 (acc ++ List.replicate (byteRun b).2 (byteRun b).1) (byteRun b).1 ((byteRun b).2 == 16) F3 L3 (by omega) (by omega) (by simpa using hle) (by rw [List.map_append, List.map_replicate]; exact a2)
        have e16 : ((((byteRun b).2 : Nat) : Int) == 16) = ((byteRun b).2 == 16) := by
          rw [Bool.eq_iff_iff]
          simp only [beq_iff_eq]
          omega
        rw [e16] at hX
        have st : Step F L F3 L3 := st0.trans (((r4.mono (G := F) (by simp)).less (G := F) fun i hi => .inr hi).trans a3)
        split at this
        · obtain ⟨L4, e1, e2⟩ := this
          exact ⟨L4, by rw [← hX]; exact e1, st.trans e2⟩
        · obtain ⟨l4, L4, F4, e1, e2, e3⟩ := this
          exact ⟨l4, L4, F4, by rw [← hX]; exact e1, e2, st.trans e3⟩
      have err : Step F L [] L := (Step.refl F L).less fun i hi => by cases hi
      by_cases hz : (byteRun b).1 = last
      · rw [show ((byteRun b).1 == last) = true by simpa using hz, lif_true]
        cases full with
        | false =>
          rw [if_pos (.inl ⟨hz, rfl⟩)]
          exact ⟨L, rfl, err⟩
        | true =>
          simp only [Bool.not_true, lif_false]
          by_cases hbig : acc.length + (byteRun b).2 > n
          · rw [if_pos (.inr hbig), decide_eq_true (by omega), lif_true]
            exact ⟨L, rfl, err⟩
          · rw [if_neg (by rintro (⟨_, g⟩ | g); cases g; exact hbig g), decide_eq_false (by omega), lif_false]
            exact go _ rfl (by omega)
      · rw [show ((byteRun b).1 == last) = false by simpa using hz, lif_false]
        by_cases hbig : acc.length + (byteRun b).2 > n
        · rw [if_pos (.inr hbig), decide_eq_true (by omega), lif_true]
          exact ⟨L, rfl, err⟩
        · rw [if_neg (by rintro (⟨g, _⟩ | g); exact hz g; exact hbig g), decide_eq_false (by omega), lif_false]
          exact go _ rfl (by omega)
    · rw [if_neg h]
      refine ⟨l, L, F, ?_, hl, .refl _ _⟩
      rw [f62_l4_eq, decide_eq_false (by omega), lif_false]
/-- **Read.** -/
theorem read_ok {k n : Nat} {s : ByteArray} {L : LHeap} (hn : n ≤ 512) (hs : s.size < 2 ^ 40) (hk : s.size + 50 ≤ k) :
    match readTab n (bytesL s) [] 0 (-1) true with
    | none => ∃ L', f62 k s (n : Int) L = some (.ret readErr L') ∧ Step [] L [] L'
    | some (zs, u) => ∃ l' L' F', f62 k s (n : Int) L = some (.ret (.tuple #[.slice l'.a l'.n l'.c, .int .i64 (u : Int), .int .i64 0]) L') ∧ OS L' l' (zs.map iV) 3 F' ∧ Step [] L F' L' := by
  obtain ⟨k, rfl⟩ : ∃ k', k = k' + 1 := ⟨k - 1, by omega⟩
  have := read_loop (k := k) (n := n) (s := s) hn hs (by omega) s.size 0 k ⟨none, 0, 0⟩ [] (-1) true [] L (by omega) (by omega) (by simp) (OS.nil _ _)
  rw [List.drop_zero] at this
  rw [f62_eq, decide_eq_false (by omega), lif_false]
  exact this
end Go.Proofs.Ytflhogapjmdkaaa.X
end

section
set_option maxRecDepth 100000
set_option linter.unusedVariables false
namespace Go.Proofs.Ytflhogapjmdkaaa.X
open Go Go.Rlm
/-- A slice that grows, or the empty one that it begins with. -/
def OB (L : LHeap) (s : Sl) (vs : List Value) (e : TypeId) (F : List Nat) : Prop :=
  OS L s vs e F ∨ (vs = [] ∧ ∃ c, s = ⟨some ⟨c, 0, none⟩, 0, 0⟩ ∧ L[c]? = some (.cells [] e false 0) ∧ F = [c])
theorem OB.mono {L L' : LHeap} {s : Sl} {vs : List Value} {e : TypeId} {F : List Nat} (h : OB L s vs e F) (hk : ∀ i ∈ F, L'[i]? = L[i]?) : OB L' s vs e F := by
  rcases h with h | ⟨h1, c, h2, h3, rfl⟩
  · exact .inl (h.mono hk)
  · exact .inr ⟨h1, c, h2, by rw [hk c (by simp), h3], rfl⟩
theorem OB.within {L : LHeap} {s : Sl} {vs : List Value} {e : TypeId} {F : List Nat} (h : OB L s vs e F) : Within F L := by
  rcases h with h | ⟨h1, c, h2, h3, rfl⟩
  · exact h.within
  · intro i hi; rw [List.mem_singleton.1 hi]; exact get_lt h3
theorem OB.rd {L : LHeap} {s : Sl} {vs : List Value} {e : TypeId} {F : List Nat} (h : OB L s vs e F) : ∃ A, Rd L s vs A ∧ ∀ i ∈ A, i ∈ F := by
  rcases h with h | ⟨rfl, c, rfl, h3, rfl⟩
  · exact ⟨F, h.ws.rd, fun i hi => hi⟩
  · exact ⟨[], ⟨rfl, .inl ⟨rfl, rfl⟩⟩, fun i hi => by cases hi⟩
theorem OB.len {L : LHeap} {s : Sl} {vs : List Value} {e : TypeId} {F : List Nat} (h : OB L s vs e F) : s.n = vs.length := by
  obtain ⟨A, h1, _⟩ := h.rd; exact h1.len
theorem OB.app {L : LHeap} {s : Sl} {vs : List Value} {e : TypeId} {F : List Nat} (h : OB L s vs e F) (v : Value) (bytes : Nat) (hb : (vs.length + 1) * bytes ≤ 2 ^ 47) (hl : vs.length + 1 ≤ 2 ^ 62) :
    ∃ s' L' F', Rlm.app L e 1 bytes s 1 [v] = some (s', L') ∧ OS L' s' (vs ++ [v]) e F' ∧ Step F L F' L' := by
  rcases h with h | ⟨rfl, c, rfl, h3, rfl⟩
  · exact h.app [v] bytes hb hl
  · have hx : bytes ≤ 2 ^ 47 := by simpa using hb
    refine ⟨⟨some ⟨L.length, 0, none⟩, 1, OPEN⟩, L ++ [.cells [v] e false 1], [L.length], ?_, .inr ⟨L.length, rfl, get_new, rfl⟩, ⟨by simp, fun i hi _ => get_push hi, fun i hi => by rw [List.mem_singleton.1 hi]; exact .inr (Nat.le_refl _)⟩⟩
    simp only [Rlm.app, Nat.zero_add, show Nat.blt 0 OPEN = true from rfl, cond_true, show Nat.ble 1 0 = false from rfl, cond_false, Nat.one_mul, Nat.ble_eq_true_of_le hx, show Nat.ble 1 (2 ^ 62) = true from rfl, Bool.and_self, srcCells, Nat.beq_refl, Option.bind_eq_bind, Option.bind_some, List.nil_append]
theorem ofNat_toNat {vs : List Nat} (h : ∀ v ∈ vs, v < 256) : (vs.map UInt8.ofNat).map UInt8.toNat = vs := by
  rw [List.map_map]
  conv => rhs; rw [← List.map_id vs]
  refine List.map_congr_left fun v hv => ?_
  have := h v hv
  simp
  omega
end Go.Proofs.Ytflhogapjmdkaaa.X
end

section
set_option maxRecDepth 100000
set_option linter.unusedVariables false
namespace Go.Proofs.Ytflhogapjmdkaaa.X
open Go Go.Rlm
section
variable {k : Nat} {t : Tok} {L L1 L2 L3 L4 : LHeap} {v5 v6 v7 w1 w2 w3 w4 : Value}
theorem said_lit (h1 : t.k = 1) (hb : 0 ≤ t.b ∧ t.b < 256)
    (c1 : lapp (lcall Proofs.Try.prog T k) v5 [.int .i64 t.b] (L ++ [.cells (tokL t) 29 false 0]) = some (.ret w1 L1)) :
    f47 (k + 1) t.k t.b t.l t.d t.s v5 v6 v7 L = some (.ret (.tuple #[]) L1) := by
  rw [f47_eq]
  obtain ⟨c0, d1, d2, d3, d4⟩ := tok_cell (t := t) (ro := false) (sp := 0) (L := L ++ [.cells (tokL t) 29 false 0]) get_new
  unfold tokL at *
  simp only [c0, d1, Option.bind_some, asI_int, obind_some, show (t.k == 1) = true by rw [h1]; rfl, lif_true]
  rw [wI64 (by omega) (by omega), c1]
  rfl
theorem said_match (h2 : t.k = 2) (hd : 1 ≤ t.d ∧ t.d ≤ 32768) (hl : 3 ≤ t.l ∧ t.l ≤ 258) (hk : 5 ≤ k)
    (c1 : lapp (lcall Proofs.Try.prog T k) v5 [.int .i64 ((260 + nlen t.d.toNat : Nat) : Int)] (L ++ [.cells (tokL t) 29 false 0]) = some (.ret w1 L1))
    (k1 : L1[L.length]? = some (.cells (tokL t) 29 false 0))
    (c2 : lapp (lcall Proofs.Try.prog T k) v7 [.int .i64 t.d] L1 = some (.ret w2 L2))
    (k2 : L2[L.length]? = some (.cells (tokL t) 29 false 0))
    (c3 : lapp (lcall Proofs.Try.prog T k) v6 [.int .i64 ((nlen (t.l - 3).toNat : Nat) : Int)] L2 = some (.ret w3 L3))
    (c4 : lapp (lcall Proofs.Try.prog T k) v7 [.int .i64 (t.l - 3)] L3 = some (.ret w4 L4)) :
    f47 (k + 1) t.k t.b t.l t.d t.s v5 v6 v7 L = some (.ret (.tuple #[]) L4) := by
  rw [f47_eq]
  obtain ⟨e0, e1, e2, e3, e4⟩ := tok_cell (t := t) (ro := false) (sp := 0) (L := L ++ [.cells (tokL t) 29 false 0]) get_new
  obtain ⟨_, _, _, p3, _⟩ := tok_cell k1
  obtain ⟨_, _, q2, _, _⟩ := tok_cell k2
  obtain ⟨dn, hdn⟩ : ∃ dn : Nat, t.d = (dn : Int) := ⟨t.d.toNat, by omega⟩
  obtain ⟨ln, hln⟩ : ∃ ln : Nat, t.l = (ln : Int) + 3 := ⟨(t.l - 3).toNat, by omega⟩
  have en : (t.l - 3).toNat = ln := by omega
  have en2 : t.l - 3 = (ln : Int) := by omega
  have ed : t.d.toNat = dn := by omega
  have hb1 : nlen dn ≤ 16 := nlen_le (by omega)
  unfold tokL at *
  simp only [e0, e3, Option.bind_some, asI_int, obind_some, show (t.k == 1) = false by rw [h2]; rfl, show (t.k == 2) = true by rw [h2]; rfl, lif_true, lif_false]
  rw [hdn, wU64 (by omega) (by omega), len_ok (k := k) (by omega) (by omega)]
  simp only [lbind_ret, asI_int, obind_some]
  rw [wI64 (n := (260 : Int) + (nlen dn : Nat)) (by omega) (by omega), show (260 : Int) + ((nlen dn : Nat) : Int) = ((260 + nlen dn : Nat) : Int) by omega]
  rw [ed, hdn] at c1
  rw [c1]
  simp only [lbind_ret]
  rw [p3]
  simp only [Option.bind_some, asI_int, obind_some]
  rw [c2]
  simp only [lbind_ret]
  rw [q2]
  simp only [Option.bind_some, asI_int, obind_some]
  rw [en2, wI64 (n := (ln : Int)) (by omega) (by omega), wU64 (by omega) (by omega), len_ok (k := k) (by omega) (by omega)]
  simp only [lbind_ret, asI_int, obind_some]
  rw [en] at c3
  rw [c3]
  simp only [lbind_ret]
  rw [en2] at c4
  rw [c4]
  rfl
theorem said_again (h3 : t.k = 3) (hs : 0 ≤ t.s ∧ t.s < 4) (hl : 3 ≤ t.l ∧ t.l ≤ 258) (hk : 5 ≤ k)
    (c1 : lapp (lcall Proofs.Try.prog T k) v5 [.int .i64 ((257 + t.s.toNat : Nat) : Int)] (L ++ [.cells (tokL t) 29 false 0]) = some (.ret w1 L1))
    (k1 : L1[L.length]? = some (.cells (tokL t) 29 false 0))
    (c3 : lapp (lcall Proofs.Try.prog T k) v6 [.int .i64 ((nlen (t.l - 3).toNat : Nat) : Int)] L1 = some (.ret w3 L3))
    (c4 : lapp (lcall Proofs.Try.prog T k) v7 [.int .i64 (t.l - 3)] L3 = some (.ret w4 L4)) :
    f47 (k + 1) t.k t.b t.l t.d t.s v5 v6 v7 L = some (.ret (.tuple #[]) L4) := by
  rw [f47_eq]
  obtain ⟨e0, e1, e2, e3, e4⟩ := tok_cell (t := t) (ro := false) (sp := 0) (L := L ++ [.cells (tokL t) 29 false 0]) get_new
  obtain ⟨_, _, q2, _, _⟩ := tok_cell k1
  obtain ⟨sn, hsn⟩ : ∃ sn : Nat, t.s = (sn : Int) := ⟨t.s.toNat, by omega⟩
  obtain ⟨ln, hln⟩ : ∃ ln : Nat, t.l = (ln : Int) + 3 := ⟨(t.l - 3).toNat, by omega⟩
  have en : (t.l - 3).toNat = ln := by omega
  have en2 : t.l - 3 = (ln : Int) := by omega
  have es : t.s.toNat = sn := by omega
  unfold tokL at *
  simp only [e0, e4, Option.bind_some, asI_int, obind_some, show (t.k == 1) = false by rw [h3]; rfl, show (t.k == 2) = false by rw [h3]; rfl, show (t.k == 3) = true by rw [h3]; rfl, lif_true, lif_false]
  rw [wI64 (n := (257 : Int) + t.s) (by omega) (by omega), show (257 : Int) + t.s = ((257 + t.s.toNat : Nat) : Int) by omega, c1]
  simp only [lbind_ret]
  rw [q2]
  simp only [Option.bind_some, asI_int, obind_some]
  rw [en2, wI64 (n := (ln : Int)) (by omega) (by omega), wU64 (by omega) (by omega), len_ok (k := k) (by omega) (by omega)]
  simp only [lbind_ret, asI_int, obind_some]
  rw [en] at c3
  rw [c3]
  simp only [lbind_ret]
  rw [en2] at c4
  rw [c4]
  rfl
end
def inc (c : List Int) (i : Nat) : List Int := c.set i (c.getD i 0 + 1)
@[simp] theorem inc_length (c : List Int) (i : Nat) : (inc c i).length = c.length := by simp [inc]
theorem inc_app {k r i f : Nat} {c : List Int} {L : LHeap} (hf : ∀ n L, f48 (k + 1) n r L = f48 (k + 1) n r L) (hb : L[r]? = some (.cells (c.map iV) 80 false 0)) (hc : c.length = 277) (hi : i < 277) (hs : ∀ x ∈ c, 0 ≤ x ∧ x < 2 ^ 40) :
    f48 (k + 1) (i : Int) r L = some (.ret (.tuple #[]) (L.set r (.cells ((inc c i).map iV) 80 false 0))) ∧ f49 (k + 1) (i : Int) r L = some (.ret (.tuple #[]) (L.set r (.cells ((inc c i).map iV) 80 false 0))) := by
  have hic : i < c.length := by omega
  have hx := hs _ (List.getElem_mem hic)
  have c0 : cell L ⟨r, i, none⟩ = some (.int .i64 c[i]) := by rw [cell_of hb, List.getElem?_map, List.getElem?_eq_getElem hic]; rfl
  have st : stores L ⟨r, i, none⟩ [Value.int IntKind.i64 (c[i] + 1)] = some (L.set r (.cells ((inc c i).map iV) 80 false 0)) := by
    rw [stores_of hb (by simp; omega)]
    congr 3
    simp only [setAll, inc, List.map_set, List.getD_eq_getElem?_getD, List.getElem?_eq_getElem hic, Option.getD_some]
    rfl
  constructor
  · rw [f48_eq, decide_eq_true (by omega), when_true, decide_eq_true (by omega), when_true]
    simp only [mk_add, Nat.zero_add, Int.toNat_natCast, Nat.mul_one, c0, Option.bind_some, asI_int, obind_some, when_true]
    rw [wI64 (by omega) (by omega), st]
    rfl
  · rw [f49_eq, decide_eq_true (by omega), when_true, decide_eq_true (by omega), when_true]
    simp only [mk_add, Nat.zero_add, Int.toNat_natCast, Nat.mul_one, c0, Option.bind_some, asI_int, obind_some, when_true]
    rw [wI64 (by omega) (by omega), st]
    rfl
theorem app48 {k r i : Nat} {c : List Int} {L : LHeap} (hb : L[r]? = some (.cells (c.map iV) 80 false 0)) (hc : c.length = 277) (hi : i < 277) (hs : ∀ x ∈ c, 0 ≤ x ∧ x < 2 ^ 40) :
    lapp (lcall Proofs.Try.prog T (k + 1)) (.func (.func 48) #[] #[.pointer (some ⟨r, 0, none⟩)]) [.int .i64 (i : Int)] L = some (.ret (.tuple #[]) (L.set r (.cells ((inc c i).map iV) 80 false 0))) := by
  rw [lapp_plain (g := 48) rfl]
  exact (inc_app (f := 0) (fun _ _ => rfl) hb hc hi hs).1
theorem app49 {k r i : Nat} {c : List Int} {L : LHeap} (hb : L[r]? = some (.cells (c.map iV) 80 false 0)) (hc : c.length = 277) (hi : i < 277) (hs : ∀ x ∈ c, 0 ≤ x ∧ x < 2 ^ 40) :
    lapp (lcall Proofs.Try.prog T (k + 1)) (.func (.func 49) #[] #[.pointer (some ⟨r, 0, none⟩)]) [.int .i64 (i : Int)] L = some (.ret (.tuple #[]) (L.set r (.cells ((inc c i).map iV) 80 false 0))) := by
  rw [lapp_plain (g := 49) rfl]
  exact (inc_app (f := 0) (fun _ _ => rfl) hb hc hi hs).2
theorem app50 {k : Nat} {n : Int} {L : LHeap} : lapp (lcall Proofs.Try.prog T (k + 1)) (.func (.func 50) #[] #[]) [.int .i64 n] L = some (.ret (.tuple #[]) L) := by
  rw [lapp_plain (g := 50) rfl]
  show f50 (k + 1) n L = _
  rw [f50_eq]
/-- What a token counts. -/
def tick1 (c : List Int) (t : Tok) : List Int := inc c (sym1 t)
def tick2 (c : List Int) (t : Tok) : List Int := if t.k = 1 then c else inc c (sym2 t)
theorem inc_bound {c : List Int} {i : Nat} {B : Int} (h : ∀ x ∈ c, 0 ≤ x ∧ x ≤ B) (hB : 0 ≤ B) : ∀ x ∈ inc c i, 0 ≤ x ∧ x ≤ B + 1 := by
  intro x hx
  unfold inc at hx
  rcases List.mem_or_eq_of_mem_set hx with h1 | h1
  · have := h x h1; omega
  · rw [h1, List.getD_eq_getElem?_getD]
    cases hg : c[i]? with
    | none => simp; omega
    | some y => have := h y (List.mem_of_getElem? hg); simp; omega
theorem count_said {k r1 r2 : Nat} {t : Tok} {c1 c2 : List Int} {L : LHeap} (hsh : tokShape t = true) (hw : t.wf) (h1 : L[r1]? = some (.cells (c1.map iV) 80 false 0)) (h2 : L[r2]? = some (.cells (c2.map iV) 80 false 0)) (hne : r1 ≠ r2)
    (l1 : c1.length = 277) (l2 : c2.length = 277) (b1 : ∀ x ∈ c1, 0 ≤ x ∧ x < 2 ^ 40) (b2 : ∀ x ∈ c2, 0 ≤ x ∧ x < 2 ^ 40) (hk : 10 ≤ k) :
    ∃ L', f47 k t.k t.b t.l t.d t.s (.func (.func 48) #[] #[.pointer (some ⟨r1, 0, none⟩)]) (.func (.func 49) #[] #[.pointer (some ⟨r2, 0, none⟩)]) (.func (.func 50) #[] #[]) L = some (.ret (.tuple #[]) L') ∧
      L'[r1]? = some (.cells ((tick1 c1 t).map iV) 80 false 0) ∧ L'[r2]? = some (.cells ((tick2 c2 t).map iV) 80 false 0) ∧ Step [r1, r2] L [r1, r2] L' := by
  obtain ⟨k, rfl⟩ : ∃ k', k = k' + 2 := ⟨k - 2, by omega⟩
  have hr1 := get_lt h1
  have hr2 := get_lt h2
  have st0 : Step [r1, r2] L [r1, r2] (L ++ [.cells (tokL t) 29 false 0]) := .push _ _ _
  have g0 : (L ++ [.cells (tokL t) 29 false 0])[L.length]? = some (.cells (tokL t) 29 false 0) := get_new
  have g1 : (L ++ [.cells (tokL t) 29 false 0])[r1]? = some (.cells (c1.map iV) 80 false 0) := by rw [get_push hr1, h1]
  have g2 : (L ++ [.cells (tokL t) 29 false 0])[r2]? = some (.cells (c2.map iV) 80 false 0) := by rw [get_push hr2, h2]
  generalize hL0 : L ++ [.cells (tokL t) 29 false 0] = L0 at *
  have s1 := (sym1_lt hsh hw).1
  have a1 := app48 (k := k) (i := sym1 t) g1 l1 s1 b1
  have st1 : Step [r1, r2] L0 [r1, r2] (L0.set r1 (.cells ((inc c1 (sym1 t)).map iV) 80 false 0)) := .set _ (by simp)
  have q0 : (L0.set r1 (.cells ((inc c1 (sym1 t)).map iV) 80 false 0))[L.length]? = some (.cells (tokL t) 29 false 0) := by rw [get_set_ne (by omega), g0]
  have q1 : (L0.set r1 (.cells ((inc c1 (sym1 t)).map iV) 80 false 0))[r1]? = some (.cells ((inc c1 (sym1 t)).map iV) 80 false 0) := get_set_self g1
  have q2 : (L0.set r1 (.cells ((inc c1 (sym1 t)).map iV) 80 false 0))[r2]? = some (.cells (c2.map iV) 80 false 0) := by rw [get_set_ne hne, g2]
  generalize L0.set r1 (.cells ((inc c1 (sym1 t)).map iV) 80 false 0) = L1 at *
  unfold sym1 at a1
  rcases tokShape_cases hsh with ⟨k1, e1, e2, e3⟩ | ⟨k1, e1, e2, e3, e4, e5, e6⟩ | ⟨k1, e1, e2, e3, e4, e5, e6⟩
  · rw [if_pos k1] at a1
    obtain ⟨hw1, hw2⟩ := hw
    refine ⟨L1, ?_, q1, by unfold tick2; rw [if_pos k1]; exact q2, st0.trans st1⟩
    refine said_lit k1 hw2 (w1 := .tuple #[]) ?_
    rw [hL0, ← a1]
    congr 3
    omega
  · rw [if_neg (by omega), if_pos k1] at a1
    have s2 := sym2_lt hsh (by omega)
    have a2 := app49 (k := k) (i := sym2 t) q2 l2 (by omega) b2
    refine ⟨_, said_match k1 ⟨e5, e6⟩ ⟨e3, e4⟩ (by omega) (by rw [hL0]; exact a1) q0 app50 q0 a2 app50, ?_, ?_, st0.trans (st1.trans (Step.set _ (by simp)))⟩
    · rw [get_set_ne hne.symm]; exact q1
    · unfold tick2; rw [if_neg (by omega)]; exact get_set_self q2
  · rw [if_neg (by omega), if_neg (by omega)] at a1
    have s2 := sym2_lt hsh (by omega)
    have a2 := app49 (k := k) (i := sym2 t) q2 l2 (by omega) b2
    refine ⟨_, said_again k1 ⟨e5, e6⟩ ⟨e3, e4⟩ (by omega) (by rw [hL0]; exact a1) q0 a2 app50, ?_, ?_, st0.trans (st1.trans (Step.set _ (by simp)))⟩
    · rw [get_set_ne hne.symm]; exact q1
    · unfold tick2; rw [if_neg (by omega)]; exact get_set_self q2
/-- The counts are the frequencies. -/
theorem tick1_get {ts : List Tok} : ∀ (c : List Int) (i : Nat), c.length = 277 → i < 277 → (∀ t ∈ ts, sym1 t < 277) → (ts.foldl tick1 c)[i]? = some (c.getD i 0 + ((ts.filter fun t => sym1 t == i).length : Nat)) := by
  induction ts with
  | nil => intro c i hc hi _; simp [List.getD_eq_getElem?_getD, List.getElem?_eq_getElem (show i < c.length by omega)]
  | cons t ts ih =>
    intro c i hc hi ht
    rw [List.foldl_cons, ih (tick1 c t) i (by simp [tick1, hc]) hi fun u hu => ht u (by simp [hu])]
    have h1 := ht t (by simp)
    congr 1
    simp only [tick1, inc, List.getD_eq_getElem?_getD]
    by_cases h : sym1 t = i
    · subst h
      rw [List.getElem?_set_self (by omega), List.filter_cons_of_pos (by simp)]
      simp
      omega
    · rw [List.getElem?_set_ne h, List.filter_cons_of_neg (by simpa using h)]
theorem tick2_get {ts : List Tok} : ∀ (c : List Int) (i : Nat), c.length = 277 → i < 277 → (∀ t ∈ ts, t.k ≠ 1 → sym2 t < 277) → (ts.foldl tick2 c)[i]? = some (c.getD i 0 + ((ts.filter fun t => t.k != 1 && sym2 t == i).length : Nat)) := by
  induction ts with
  | nil => intro c i hc hi _; simp [List.getD_eq_getElem?_getD, List.getElem?_eq_getElem (show i < c.length by omega)]
  | cons t ts ih =>
    intro c i hc hi ht
    have hl : (tick2 c t).length = 277 := by unfold tick2; split <;> simp [hc]
    rw [List.foldl_cons, ih (tick2 c t) i hl hi fun u hu => ht u (by simp [hu])]
    congr 1
    unfold tick2
    by_cases hk : t.k = 1
    · rw [if_pos hk, List.filter_cons_of_neg (by simp [hk])]
    · have h1 := ht t (by simp) hk
      rw [if_neg hk]
      simp only [inc, List.getD_eq_getElem?_getD]
      by_cases h : sym2 t = i
      · subst h
        rw [List.getElem?_set_self (by omega), List.filter_cons_of_pos (by simp [hk])]
        simp
        omega
      · rw [List.getElem?_set_ne h, List.filter_cons_of_neg (by simp [h])]
theorem tick1_len (ts : List Tok) : ∀ c : List Int, (ts.foldl tick1 c).length = c.length := by
  induction ts with
  | nil => intro c; rfl
  | cons t ts ih => intro c; rw [List.foldl_cons, ih]; simp [tick1]
theorem tick1_freq {ts : List Tok} (h : ∀ t ∈ ts, sym1 t < 277) : ts.foldl tick1 ((List.replicate 277 0).set 256 1) = freq1 ts := by
  refine List.ext_getElem? fun i => ?_
  by_cases hi : i < 277
  · rw [tick1_get _ i (by simp) hi h]
    have : (freq1 ts)[i]? = some (((ts.filter fun t => sym1 t == i).length + (if i = 256 then 1 else 0) : Nat) : Int) := by simp [freq1, hi]
    rw [this]
    congr 1
    rw [List.getD_eq_getElem?_getD]
    by_cases h : i = 256
    · subst h
      rw [List.getElem?_set_self (by simp), if_pos rfl]
      simp
      omega
    · rw [List.getElem?_set_ne (by omega), if_neg h, List.getElem?_replicate, if_pos hi, Option.getD_some]
      omega
  · rw [List.getElem?_eq_none (by rw [tick1_len]; simp; omega), List.getElem?_eq_none (by simp; omega)]
theorem tick2_freq {ts : List Tok} (h : ∀ t ∈ ts, t.k ≠ 1 → sym2 t < 277) : (ts.foldl tick2 (List.replicate 277 0)).take 9 = freq2 ts := by
  refine List.ext_getElem? fun i => ?_
  by_cases hi : i < 9
  · rw [List.getElem?_take, if_pos hi, tick2_get _ i (by simp) (by omega) h]
    have : (freq2 ts)[i]? = some (((ts.filter fun t => t.k != 1 && sym2 t == i).length : Nat) : Int) := by simp [freq2, hi]
    rw [this]
    congr 1
    rw [List.getD_eq_getElem?_getD, List.getElem?_replicate, if_pos (by omega), Option.getD_some]
    omega
  · rw [List.getElem?_eq_none (by simp; omega), List.getElem?_eq_none (by simp; omega)]
end Go.Proofs.Ytflhogapjmdkaaa.X
end

section
set_option maxRecDepth 100000
set_option linter.unusedVariables false
namespace Go.Proofs.Ytflhogapjmdkaaa.X
open Go Go.Rlm
theorem setAll_all {cs vs : List Value} (h : vs.length = cs.length) : setAll cs 0 vs = vs := by
  have := setAll_append [] [] vs cs h.symm
  simpa using this
theorem stores_new {L : LHeap} {cs vs : List Value} {e : TypeId} {sp : Nat} (h : vs.length = cs.length) :
    stores (L ++ [.cells cs e false sp]) ⟨L.length, 0, none⟩ vs = some (L ++ [.cells vs e false sp]) := by
  rw [stores_of get_new (by omega), setAll_all h]
  congr 1
  simp
theorem must_zero {k : Nat} {L : LHeap} (hk : 1 ≤ k) : f46 k 0 L = some (.ret (.tuple #[]) L) := by
  obtain ⟨k, rfl⟩ : ∃ k', k = k' + 1 := ⟨k - 1, by omega⟩
  rw [f46_eq]; rfl
theorem must_err {k : Nat} {n : Int} {L : LHeap} (hn : n ≠ 0) (hk : 1 ≤ k) : f46 k n L = some (.pan (.iface 24 (.int .i64 n)) L) := by
  obtain ⟨k, rfl⟩ : ∃ k', k = k' + 1 := ⟨k - 1, by omega⟩
  rw [f46_eq, show (n != 0) = true by simpa using hn]; rfl
theorem tick1_inv {c : List Int} {t : Tok} {B : Int} (h : ∀ x ∈ c, 0 ≤ x ∧ x ≤ B) (hB : 0 ≤ B) : ∀ x ∈ tick1 c t, 0 ≤ x ∧ x ≤ B + 1 := inc_bound h hB
theorem tick2_inv {c : List Int} {t : Tok} {B : Int} (h : ∀ x ∈ c, 0 ≤ x ∧ x ≤ B) (hB : 0 ≤ B) : ∀ x ∈ tick2 c t, 0 ≤ x ∧ x ≤ B + 1 := by
  unfold tick2
  split
  · intro x hx; have := h x hx; omega
  · exact inc_bound h hB
theorem tally_loop {k r1 r2 : Nat} {l : Sl} {ts : List Tok} {A : List Nat} (hne : r1 ≠ r2) (hA : Apart [r1, r2] A) (hw : ∀ t ∈ ts, t.wf) (hs : ts.length < 2 ^ 38) (hk : 20 ≤ k) :
    ∀ (q i j : Nat) (c1 c2 : List Int) (L : LHeap), i + q = ts.length → q < j → RT L l ts A → L[r1]? = some (.cells (c1.map iV) 80 false 0) → L[r2]? = some (.cells (c2.map iV) 80 false 0) →
      c1.length = 277 → c2.length = 277 → (∀ x ∈ c1, 0 ≤ x ∧ x ≤ (i : Int) + 1) → (∀ x ∈ c2, 0 ≤ x ∧ x ≤ (i : Int) + 1) →
    ∃ L', Step [r1, r2] L [r1, r2] L' ∧
      ((∀ t ∈ ts.drop i, tokShape t = true) → L'[r1]? = some (.cells (((ts.drop i).foldl tick1 c1).map iV) 80 false 0) ∧ L'[r2]? = some (.cells (((ts.drop i).foldl tick2 c2).map iV) 80 false 0) ∧
        f27_l4 k j l r1 r2 l (l.n : Int) (i : Int) L = f27_l4 k (j - q) l r1 r2 l (l.n : Int) (ts.length : Int) L') ∧
      (¬ (∀ t ∈ ts.drop i, tokShape t = true) → f27_l4 k j l r1 r2 l (l.n : Int) (i : Int) L = some (.pan (.iface 24 (.int .i64 4)) L')) := by
  intro q
  induction q with
  | zero =>
    intro i j c1 c2 L hi hj hl h1 h2 l1 l2 b1 b2
    have hd : ts.drop i = [] := List.drop_of_length_le (by omega)
    rw [hd]
    refine ⟨L, .refl _ _, fun _ => ⟨h1, h2, ?_⟩, fun h => absurd (fun t ht => by cases ht) h⟩
    rw [Nat.sub_zero, show i = ts.length by omega]
  | succ q ih =>
    intro i j c1 c2 L hi hj hl h1 h2 l1 l2 b1 b2
    obtain ⟨j, rfl⟩ : ∃ j', j = j' + 1 := ⟨j - 1, by omega⟩
    have hi2 : i < ts.length := by omega
    have hn := hl.len
    obtain ⟨a, a1, a2⟩ := hl.here (List.getElem?_eq_getElem hi2)
    obtain ⟨d0, d1, d2, d3, d4⟩ := a2 L fun _ _ => rfl
    have htm : ts[i] ∈ ts := List.getElem_mem hi2
    have hdr : ts.drop i = ts[i] :: ts.drop (i + 1) := List.drop_eq_getElem_cons hi2
    generalize ht : ts[i] = t at *
    have hr1 := get_lt h1
    have hr2 := get_lt h2
    rw [f27_l4_eq, decide_eq_true (by omega), lif_true, a1]
    simp only [obind_some, d0, d1, d2, d3, d4, Option.bind_some, asI_int]
    rw [stores_new (by rfl)]
    simp only [obind_some]
    have hg : (L ++ [LBlk.cells (tokL t) 29 false 0])[L.length]? = some (.cells (tokL t) 29 false 0) := get_new
    have sE : Step [r1, r2] L [r1, r2] (L ++ [LBlk.cells (tokL t) 29 false 0]) := .push _ _ _
    have hx : L ++ [LBlk.cells [Value.int .u8 t.k, Value.int .u8 t.b, Value.int .i64 t.l, Value.int .i64 t.d, Value.int .i64 t.s] 29 false 0] = L ++ [LBlk.cells (tokL t) 29 false 0] := rfl
    rw [hx]
    obtain ⟨e0, e1, e2, e3, e4⟩ := tok_cell hg
    have g1 : (L ++ [LBlk.cells (tokL t) 29 false 0])[r1]? = some (.cells (c1.map iV) 80 false 0) := by rw [get_push hr1, h1]
    have g2 : (L ++ [LBlk.cells (tokL t) 29 false 0])[r2]? = some (.cells (c2.map iV) 80 false 0) := by rw [get_push hr2, h2]
    generalize hL1 : L ++ [LBlk.cells (tokL t) 29 false 0] = L1 at *
    have hlen : L.length < L1.length := by rw [← hL1]; simp
    simp only [e0, e1, e2, e3, e4, Option.bind_some, asI_int, obind_some]
    rw [shape_ok (by omega)]
    simp only [lbind_ret, asB_bool, obind_some]
    have sF : Step [r1, r2] L1 [r1, r2] (L1 ++ [LBlk.cells (tokL t) 29 false 0]) := .push _ _ _
    have k0 : (L1 ++ [LBlk.cells (tokL t) 29 false 0])[L.length]? = some (.cells (tokL t) 29 false 0) := by rw [get_push hlen, hg]
    have k1 : (L1 ++ [LBlk.cells (tokL t) 29 false 0])[r1]? = some (.cells (c1.map iV) 80 false 0) := by rw [get_push (by omega), g1]
    have k2 : (L1 ++ [LBlk.cells (tokL t) 29 false 0])[r2]? = some (.cells (c2.map iV) 80 false 0) := by rw [get_push (by omega), g2]
    generalize L1 ++ [LBlk.cells (tokL t) 29 false 0] = L2 at *
    by_cases hsh : tokShape t = true
    · rw [hsh, Bool.not_true, lif_false]
      obtain ⟨u0, u1, u2, u3, u4⟩ := tok_cell k0
      simp only [u0, u1, u2, u3, u4, Option.bind_some, asI_int, obind_some]
      obtain ⟨L3, v1, v2, v3, v4⟩ := count_said (k := k) hsh (hw t htm) k1 k2 hne l1 l2 (fun x hx => by have := b1 x hx; omega) (fun x hx => by have := b2 x hx; omega) (by omega)
      rw [v1]
      simp only [lbind_ret]
      have sAll := (sE.trans sF).trans v4
      obtain ⟨L4, w1, w2, w3⟩ := ih (i + 1) j (tick1 c1 t) (tick2 c2 t) L3 (by omega) (by omega) (hl.mono (sAll.others hl.within hA)) v2 v3 (by simp [tick1, l1]) (by unfold tick2; split <;> simp [l2])
        (fun x hx => by have := tick1_inv b1 (by omega) x hx; omega) (fun x hx => by have := tick2_inv b2 (by omega) x hx; omega)
      rw [wI64 (by omega) (by omega), show (i : Int) + 1 = ((i + 1 : Nat) : Int) by omega]
      refine ⟨L4, sAll.trans w1, fun h => ?_, fun h => w3 fun hc => h ?_⟩
      · obtain ⟨x1, x2, x3⟩ := w2 fun u hu => h u (by rw [hdr]; exact List.mem_cons_of_mem _ hu)
        rw [hdr, List.foldl_cons, List.foldl_cons]
        exact ⟨x1, x2, by rw [x3]; congr 1; omega⟩
      · intro u hu
        rw [hdr] at hu
        rcases List.mem_cons.1 hu with rfl | hu
        · exact hsh
        · exact hc u hu
    · have hf : tokShape t = false := by simpa using hsh
      rw [hf, Bool.not_false, lif_true, must_err (by decide) (by omega)]
      exact ⟨L2, sE.trans sF, fun h => absurd (h t (by rw [hdr]; simp)) hsh, fun _ => rfl⟩
theorem okLen_of_may {zs : List Int} (h : may zs = true) : okLen zs = true := (may_ok h).1
/-- A coder out of counts, and the bytes of its lengths. -/
theorem coder_ok {k : Nat} {l : Sl} {fs : List Int} {A : List Nat} {L : LHeap} (hl : Rd L l (fs.map iV) A) (hf : ∀ f ∈ fs, 0 ≤ f ∧ f ≤ 1073741824) (hs : fs.length ≤ 512) (hk : 2 * fs.length + 100 ≤ k) :
    ∃ b F L', f51 k l L = some (.ret (.tuple #[.pointer (some ⟨b, 0, none⟩), .string (strOf (tabBytes (lengthsOf fs)))]) L') ∧ CO L' b (lengthsOf fs) F ∧ Step [] L F L' := by
  obtain ⟨k, rfl⟩ : ∃ k', k = k' + 1 := ⟨k - 1, by omega⟩
  have hm := may_lengthsOf hf hs
  have hlo : lenOk fs = true := by
    simp only [lenOk, Bool.and_eq_true, decide_eq_true_eq, Bool.not_eq_true', List.any_eq_false]
    refine ⟨hs, fun f hff => ?_⟩
    have := hf f hff
    simp [bad]; omega
  obtain ⟨s, L1, F1, a1, a2, a3⟩ := lengths_ok (k := k) hl (by omega) (by omega)
  rw [lenRes, hlo, if_pos rfl] at a2
  have e0 : lenErr fs = 0 := by simp [lenErr, hlo]
  have hlen := lengthsOf_length fs
  obtain ⟨L2, b1, b2⟩ := make_ok (k := k) (a2.cs (by rw [List.length_map, hlen]; exact Nat.lt_of_le_of_lt hs (by decide))) (okLen_of_may hm) (by omega) (by omega)
  have a2' := a2.mono fun i hi => b2.keep i (a2.within i hi) (by simp)
  obtain ⟨b, F, L3, c1, c2, c3⟩ := (new_ok (k := k) a2'.rd (by omega) (by omega)).2 hm
  rw [f51_eq]
  simp only [a1, e0, lbind_ret, tupL_tuple, obind_some, uncons_cons, nilL_nil, asSl_slice, asI_int, asS_string, asP_pointer, must_zero (show 1 ≤ k by omega), b1, c1]
  refine ⟨b, F, L3, rfl, c2, ?_⟩
  exact (((a3.less (G := []) fun i hi => by cases hi).trans b2).trans c3)
end Go.Proofs.Ytflhogapjmdkaaa.X
end

section
set_option maxRecDepth 100000
set_option linter.unusedVariables false
namespace Go.Proofs.Ytflhogapjmdkaaa.X
open Go Go.Rlm
/-- What putting needs: at r a pointer to the writer w; two coders. -/
structure PS (L : LHeap) (r w b1 b2 : Nat) (z1 z2 : List Int) (bs : List Bool) (G F1 F2 : List Nat) : Prop where
  at_r : L[r]? = some (.cells [.pointer (some ⟨w, 0, none⟩)] 86 false 0)
  bw : BW L w bs G
  c1 : CO L b1 z1 F1
  c2 : CO L b2 z2 F2
  rG : r ∉ G
  ap1 : Apart G F1
  ap2 : Apart G F2
theorem PS.step {L L' : LHeap} {r w b1 b2 : Nat} {z1 z2 : List Int} {bs bs' : List Bool} {G G' F1 F2 : List Nat} (h : PS L r w b1 b2 z1 z2 bs G F1 F2) (hs : Step G L G' L') (hb : BW L' w bs' G') :
    PS L' r w b1 b2 z1 z2 bs' G' F1 F2 := by
  have hr := get_lt h.at_r
  refine ⟨by rw [hs.keep r hr h.rG, h.at_r], hb, h.c1.mono (hs.others h.c1.within h.ap1) hs.len, h.c2.mono (hs.others h.c2.within h.ap2) hs.len, fun hi => ?_, hs.apart h.c1.within h.ap1, hs.apart h.c2.within h.ap2⟩
  rcases hs.foot r hi with h1 | h1
  · exact h.rG h1
  · omega
theorem PS.push {L X : LHeap} {r w b1 b2 : Nat} {z1 z2 : List Int} {bs : List Bool} {G F1 F2 : List Nat} (h : PS L r w b1 b2 z1 z2 bs G F1 F2) : PS (L ++ X) r w b1 b2 z1 z2 bs G F1 F2 :=
  h.step (.push _ _ _) (h.bw.mono fun i hi => get_push (h.bw.within i hi))
def fnSym (c r : Nat) : Value := .func (.func 53) #[] #[.pointer (some ⟨c, 0, none⟩), .pointer (some ⟨r, 0, none⟩)]
def fnRest (r : Nat) : Value := .func (.func 55) #[] #[.pointer (some ⟨r, 0, none⟩)]
theorem symOk_of {z : List Int} {i : Nat} (h : 0 < z.getD i 0) : symOk z (i : Int) = true := by
  have hl : i < z.length := by
    rcases Nat.lt_or_ge i z.length with h1 | h1
    · exact h1
    · rw [List.getD_eq_getElem?_getD, List.getElem?_eq_none h1] at h; simp at h
  simp only [symOk, Bool.and_eq_true, decide_eq_true_eq, Int.toNat_natCast]
  exact ⟨⟨by omega, by omega⟩, h⟩
theorem app53 {k c r w b s : Nat} {z : List Int} {F G : List Nat} {bs : List Bool} {L : LHeap} (hc : L[c]? = some (.cells [.pointer (some ⟨b, 0, none⟩)] 58 false 0))
    (hr : L[r]? = some (.cells [.pointer (some ⟨w, 0, none⟩)] 86 false 0)) (hC : CO L b z F) (hm : may z = true) (hw : BW L w bs G) (hs : bs.length < 2 ^ 39) (hok : 0 < z.getD s 0) (hk : 60 ≤ k) :
    ∃ L' G', lapp (lcall Proofs.Try.prog T k) (fnSym c r) [.int .i64 (s : Int)] L = some (.ret (.tuple #[]) L') ∧ BW L' w (bs ++ symBits z s) G' ∧ Step G L G' L' := by
  obtain ⟨k, rfl⟩ : ∃ k', k = k' + 1 := ⟨k - 1, by omega⟩
  have hso := symOk_of hok
  obtain ⟨L', G', a1, a2, a3⟩ := cput_ok (k := k) (s := (s : Int)) hC hm hw hs (by omega)
  refine ⟨L', G', ?_, ?_, a3⟩
  · unfold fnSym
    rw [lapp_plain (g := 53) rfl]
    show f53 (k + 1) (s : Int) c r L = _
    have c0 : cell L ⟨c, 0, none⟩ = some (.pointer (some ⟨b, 0, none⟩)) := by rw [cell_of hc]; rfl
    have c1 : cell L ⟨r, 0, none⟩ = some (.pointer (some ⟨w, 0, none⟩)) := by rw [cell_of hr]; rfl
    rw [f53_eq]
    simp only [c0, c1, Option.bind_some, asP_pointer, obind_some, a1, lbind_ret, asI_int]
    rw [symRes, hso, if_pos rfl, must_zero (by omega)]
    rfl
  · rw [symPut, hso, if_pos rfl, Int.toNat_natCast] at a2
    exact a2
theorem mask_pow {m : Nat} (h : m ≤ 15) : IntKind.wrap IntKind.u32 (IntKind.wrap IntKind.u32 (1 * 2 ^ min (Int.toNat ((m : Nat) : Int)) 32) - 1) = ((2 ^ m - 1 : Nat) : Int) := by
  have hm : m = 0 ∨ m = 1 ∨ m = 2 ∨ m = 3 ∨ m = 4 ∨ m = 5 ∨ m = 6 ∨ m = 7 ∨ m = 8 ∨ m = 9 ∨ m = 10 ∨ m = 11 ∨ m = 12 ∨ m = 13 ∨ m = 14 ∨ m = 15 := by omega
  rcases hm with rfl | rfl | rfl | rfl | rfl | rfl | rfl | rfl | rfl | rfl | rfl | rfl | rfl | rfl | rfl | rfl <;> rfl
theorem app55 {k r w n : Nat} {G : List Nat} {bs : List Bool} {L : LHeap} (hr : L[r]? = some (.cells [.pointer (some ⟨w, 0, none⟩)] 86 false 0)) (hw : BW L w bs G) (hs : bs.length < 2 ^ 39)
    (hn : n < 65536) (hk : 60 ≤ k) :
    ∃ L' G', lapp (lcall Proofs.Try.prog T k) (fnRest r) [.int .i64 (n : Int)] L = some (.ret (.tuple #[]) L') ∧ BW L' w (bs ++ numBits n) G' ∧ Step G L G' L' := by
  obtain ⟨k, rfl⟩ : ∃ k', k = k' + 1 := ⟨k - 1, by omega⟩
  have h16 : nlen n ≤ 16 := nlen_le (by omega)
  unfold fnRest
  rw [lapp_plain (g := 55) rfl]
  show ∃ L' G', f55 (k + 1) (n : Int) r L = _ ∧ _
  rw [f55_eq, wU64 (by omega) (by omega), len_ok (by omega) (by omega)]
  simp only [lbind_ret, asI_int, obind_some]
  by_cases h : 1 < nlen n
  · have c1 : cell L ⟨r, 0, none⟩ = some (.pointer (some ⟨w, 0, none⟩)) := by rw [cell_of hr]; rfl
    rw [decide_eq_true (by omega), lif_true]
    simp only [c1, Option.bind_some, asP_pointer, obind_some]
    rw [wI64 (by omega) (by omega), show ((nlen n : Nat) : Int) - 1 = ((nlen n - 1 : Nat) : Int) by omega, decide_eq_false (by omega), Bool.not_false, when_true, mask_pow (by omega), wU32 (by omega) (by omega)]
    have hp : 2 ^ (nlen n - 1) ≤ 2 ^ 15 := Nat.pow_le_pow_right (by omega) (by omega)
    have hp0 := Nat.two_pow_pos (nlen n - 1)
    rw [bitop_and (k := .u32) rfl (by simp [IntKind.bits]; omega) (by simp [IntKind.bits]; omega), Nat.and_two_pow_sub_one_eq_mod]
    have hlt : n % 2 ^ (nlen n - 1) < 2 ^ (nlen n - 1) := Nat.mod_lt _ hp0
    obtain ⟨L', G', a1, a2, a3⟩ := put_ok (k := k) (v := n % 2 ^ (nlen n - 1)) (n := ((nlen n - 1 : Nat) : Int)) hw (by omega) hs (by omega)
    have hok : putOk (n % 2 ^ (nlen n - 1)) ((nlen n - 1 : Nat) : Int) = true := by
      simp only [putOk, Bool.and_eq_true, decide_eq_true_eq, Int.toNat_natCast]
      exact ⟨⟨by omega, by omega⟩, hlt⟩
    rw [putBits, hok, if_pos rfl, Int.toNat_natCast, bitsOf_mod] at a2
    rw [a1]
    exact ⟨L', G', rfl, a2, a3⟩
  · rw [decide_eq_false (by omega), lif_false]
    refine ⟨L, G, rfl, ?_, .refl _ _⟩
    have : numBits n = [] := List.eq_nil_of_length_eq_zero (by rw [numBits_length]; omega)
    rw [this, List.append_nil]
    exact hw
theorem symBits_le {z : List Int} (hm : may z = true) (s : Nat) : (symBits z s).length ≤ 15 := by
  rw [symBits, bitsOf_length]
  rcases Nat.lt_or_ge s z.length with h | h
  · have hg : z.getD s 0 = z[s] := by rw [List.getD_eq_getElem?_getD, List.getElem?_eq_getElem h]; rfl
    have := okLen_mem (may_ok hm).1 (List.getElem_mem h)
    omega
  · rw [List.getD_eq_getElem?_getD, List.getElem?_eq_none h]; simp
theorem tokBits_le {z1 z2 : List Int} (h1 : may z1 = true) (h2 : may z2 = true) {t : Tok} (hsh : tokShape t = true) : (tokBits z1 z2 t).length ≤ 52 := by
  have a1 := symBits_le h1 (sym1 t)
  have a2 := symBits_le h2 (sym2 t)
  have a3 : t.k = 2 → (numBits t.d.toNat).length ≤ 15 := by
    intro hk
    rw [numBits_length]
    rcases tokShape_cases hsh with ⟨k1, _⟩ | ⟨k1, e1, e2, e3, e4, e5, e6⟩ | ⟨k1, _⟩
    · omega
    · have := nlen_le (n := t.d.toNat) (m := 16) (by omega); omega
    · omega
  have a4 : t.k ≠ 1 → (numBits (t.l - 3).toNat).length ≤ 7 := by
    intro hk
    rw [numBits_length]
    have : nlen (t.l - 3).toNat ≤ 8 := nlen_le (by rcases tokShape_cases hsh with ⟨k1, _⟩ | ⟨k1, e1, e2, e3, e4, e5, e6⟩ | ⟨k1, e1, e2, e3, e4, e5, e6⟩ <;> omega)
    omega
  unfold tokBits
  simp only [List.length_append]
  split <;> split <;> simp_all <;> omega
/-- A token is put. -/
theorem put_said {k r w b1 b2 q1 q2 : Nat} {t : Tok} {z1 z2 : List Int} {bs : List Bool} {G F1 F2 : List Nat} {L : LHeap} (h : PS L r w b1 b2 z1 z2 bs G F1 F2) (hsh : tokShape t = true) (hw : t.wf)
    (m1 : may z1 = true) (m2 : may z2 = true) (p1 : 0 < z1.getD (sym1 t) 0) (p2 : t.k ≠ 1 → 0 < z2.getD (sym2 t) 0)
    (g1 : L[q1]? = some (.cells [.pointer (some ⟨b1, 0, none⟩)] 58 false 0)) (g2 : L[q2]? = some (.cells [.pointer (some ⟨b2, 0, none⟩)] 58 false 0)) (n1 : q1 ∉ G) (n2 : q2 ∉ G)
    (hs : bs.length < 2 ^ 38) (hk : 70 ≤ k) :
    ∃ L' G', f47 k t.k t.b t.l t.d t.s (fnSym q1 r) (fnSym q2 r) (fnRest r) L = some (.ret (.tuple #[]) L') ∧ PS L' r w b1 b2 z1 z2 (bs ++ tokBits z1 z2 t) G' F1 F2 ∧ Step G L G' L' := by
  obtain ⟨k, rfl⟩ : ∃ k', k = k' + 1 := ⟨k - 1, by omega⟩
  have hq1 := get_lt g1
  have hq2 := get_lt g2
  have h0 : PS (L ++ [.cells (tokL t) 29 false 0]) r w b1 b2 z1 z2 bs G F1 F2 := h.push
  have st0 : Step G L G (L ++ [.cells (tokL t) 29 false 0]) := .push _ _ _
  have g0 : (L ++ [.cells (tokL t) 29 false 0])[L.length]? = some (.cells (tokL t) 29 false 0) := get_new
  have g1 : (L ++ [.cells (tokL t) 29 false 0])[q1]? = some (.cells [.pointer (some ⟨b1, 0, none⟩)] 58 false 0) := by rw [get_push hq1, g1]
  have g2 : (L ++ [.cells (tokL t) 29 false 0])[q2]? = some (.cells [.pointer (some ⟨b2, 0, none⟩)] 58 false 0) := by rw [get_push hq2, g2]
  have hlt : L.length < (L ++ [LBlk.cells (tokL t) 29 false 0]).length := by simp
  have nL : L.length ∉ G := fun hi => by have := h.bw.within _ hi; omega
  generalize hL0 : L ++ [LBlk.cells (tokL t) 29 false 0] = L0 at *
  -- the first symbol
  obtain ⟨L1, G1, a1, a2, a3⟩ := app53 (k := k) (s := sym1 t) g1 h0.at_r h0.c1 m1 h0.bw (by omega) p1 (by omega)
  have h1 := h0.step a3 a2
  have keep : ∀ {i : Nat}, i < L0.length → i ∉ G → L1[i]? = L0[i]? ∧ i < L1.length ∧ i ∉ G1 := fun {i} hi hn =>
    ⟨a3.keep i hi hn, Nat.lt_of_lt_of_le hi a3.len, fun hg => by rcases a3.foot i hg with x | x; exact hn x; omega⟩
  have hsb := symBits_le m1 (sym1 t)
  have hsb2 := symBits_le m2 (sym2 t)
  rcases tokShape_cases hsh with ⟨k1, e1, e2, e3⟩ | ⟨k1, e1, e2, e3, e4, e5, e6⟩ | ⟨k1, e1, e2, e3, e4, e5, e6⟩
  · refine ⟨L1, G1, ?_, ?_, st0.trans a3⟩
    · obtain ⟨hw1, hw2⟩ := hw
      refine said_lit k1 hw2 (w1 := .tuple #[]) ?_
      rw [hL0, ← a1]
      congr 3
      unfold sym1
      rw [if_pos k1]
      omega
    · have : tokBits z1 z2 t = symBits z1 (sym1 t) := by unfold tokBits; rw [if_neg (by omega), if_pos k1]; simp
      rw [this]
      exact h1
  · -- a match
    have hsd : nlen t.d.toNat ≤ 16 := nlen_le (by omega)
    have hsl : nlen (t.l - 3).toNat ≤ 8 := nlen_le (by omega)
    obtain ⟨L2, G2, b1', b2', b3⟩ := app55 (k := k) (n := t.d.toNat) h1.at_r h1.bw (by simp; omega) (by omega) (by omega)
    have h2 := h1.step b3 b2'
    obtain ⟨y1, y2, y3⟩ := keep (by omega) n2
    have y4 : L2[q2]? = some (.cells [.pointer (some ⟨b2, 0, none⟩)] 58 false 0) := by rw [b3.keep q2 y2 y3, y1, g2]
    obtain ⟨L3, G3, d1, d2, d3⟩ := app53 (k := k) (s := sym2 t) y4 h2.at_r h2.c2 m2 h2.bw (by simp [numBits_length]; omega) (p2 (by omega)) (by omega)
    have h3 := h2.step d3 d2
    obtain ⟨L4, G4, x1, x2, x3⟩ := app55 (k := k) (n := (t.l - 3).toNat) h3.at_r h3.bw (by simp [numBits_length]; omega) (by omega) (by omega)
    have h4 := h3.step x3 x2
    obtain ⟨u1, u2, u3⟩ := keep hlt nL
    have v0 : L2[L.length]? = some (.cells (tokL t) 29 false 0) := by rw [b3.keep _ u2 u3, u1, g0]
    refine ⟨L4, G4, said_match k1 ⟨e5, e6⟩ ⟨e3, e4⟩ (by omega) (w1 := .tuple #[]) (w2 := .tuple #[]) (w3 := .tuple #[]) (w4 := .tuple #[]) ?_ (by rw [u1, g0]) ?_ v0 d1 ?_, ?_, st0.trans (a3.trans (b3.trans (d3.trans x3)))⟩
    · rw [hL0, ← a1]
      unfold sym1
      rw [if_neg (by omega), if_pos k1]
    · rw [← b1']
      congr 3
      omega
    · rw [← x1]
      congr 3
      omega
    · have : bs ++ tokBits z1 z2 t = bs ++ symBits z1 (sym1 t) ++ numBits t.d.toNat ++ symBits z2 (sym2 t) ++ numBits (t.l - 3).toNat := by
        unfold tokBits; rw [if_pos k1, if_neg (by omega)]; simp
      rw [this]
      exact h4
  · -- again
    have hsl : nlen (t.l - 3).toNat ≤ 8 := nlen_le (by omega)
    obtain ⟨y1, y2, y3⟩ := keep (by omega) n2
    obtain ⟨L3, G3, d1, d2, d3⟩ := app53 (k := k) (s := sym2 t) (by rw [y1, g2]) h1.at_r h1.c2 m2 h1.bw (by simp; omega) (p2 (by omega)) (by omega)
    have h3 := h1.step d3 d2
    obtain ⟨L4, G4, x1, x2, x3⟩ := app55 (k := k) (n := (t.l - 3).toNat) h3.at_r h3.bw (by simp; omega) (by omega) (by omega)
    have h4 := h3.step x3 x2
    obtain ⟨u1, u2, u3⟩ := keep hlt nL
    refine ⟨L4, G4, said_again k1 ⟨e5, e6⟩ ⟨e3, e4⟩ (by omega) (w1 := .tuple #[]) (w3 := .tuple #[]) (w4 := .tuple #[]) ?_ (by rw [u1, g0]) d1 ?_, ?_, st0.trans (a3.trans (d3.trans x3))⟩
    · rw [hL0, ← a1]
      unfold sym1
      rw [if_neg (by omega), if_neg (by omega)]
    · rw [← x1]
      congr 3
      omega
    · have : bs ++ tokBits z1 z2 t = bs ++ symBits z1 (sym1 t) ++ symBits z2 (sym2 t) ++ numBits (t.l - 3).toNat := by
        unfold tokBits; rw [if_neg (by omega), if_neg (by omega)]; simp
      rw [this]
      exact h4
end Go.Proofs.Ytflhogapjmdkaaa.X
end

section
set_option maxRecDepth 100000
set_option linter.unusedVariables false
namespace Go.Proofs.Ytflhogapjmdkaaa.X
open Go Go.Rlm
theorem specOk : SpecOk Proofs.Try.prog T := by
  have key : ∀ f g, T.spec f = some g → f = 25 ∧ g = caughtSpec := by
    intro f g h
    have h : (bif Nat.beq 25 f then some caughtSpec else none) = some g := h
    cases hb : Nat.beq 25 f with
    | true => rw [hb] at h; injection h with h; exact ⟨(Nat.eq_of_beq_eq_true hb).symm, h.symm⟩
    | false => rw [hb] at h; cases h
  constructor
  · intro f g h _
    obtain ⟨rfl, rfl⟩ := key f g h
    exact ⟨_, _, func25, body25⟩
  · intro f g h call hc args L r hr m w args' h1 h2
    obtain ⟨rfl, rfl⟩ := key f g h
    exact caught_ok hc hr h1 h2
theorem f25_eq (k : Nat) (fv : Value) (L : LHeap) : f25 (k + 1) fv L = caughtSpec (lcall Proofs.Try.prog T k) [fv] L := by kernel_rfl
theorem caught_ret {k : Nat} {fv v : Value} {L L2 : LHeap} (h : lappF (lcall Proofs.Try.prog T k) fv [] (L ++ [.cells [.int .i64 0] 24 false 0]) = some (.ret v L2)) (hb : L2[L.length]? = some (.cells [.int .i64 0] 24 false 0)) :
    f25 (k + 1) fv L = some (.ret (.int .i64 0) (L2.set L.length (.cells [.int .i64 0] 24 false 0))) := by
  rw [f25_eq]
  unfold caughtSpec
  simp only [h]
  rw [stores_of hb (by simp)]
  rfl
theorem caught_pan {k : Nat} {fv : Value} {n : Int} {L L2 : LHeap} (h : lappF (lcall Proofs.Try.prog T k) fv [] (L ++ [.cells [.int .i64 0] 24 false 0]) = some (.pan (.iface 24 (.int .i64 n)) L2)) (hb : L2[L.length]? = some (.cells [.int .i64 0] 24 false 0)) :
    f25 (k + 1) fv L = some (.ret (.int .i64 n) (L2.set L.length (.cells [.int .i64 n] 24 false 0))) := by
  rw [f25_eq]
  unfold caughtSpec
  simp only [h]
  rw [stores_of hb (by simp)]
  rfl
theorem putAll_loop {k r w b1 b2 : Nat} {s1 s3 : ByteArray} {l : Sl} {ts : List Tok} {z1 z2 : List Int} {A F1 F2 : List Nat}
    (ht : ∀ t ∈ ts, tokShape t = true ∧ t.wf ∧ 0 < z1.getD (sym1 t) 0 ∧ (t.k ≠ 1 → 0 < z2.getD (sym2 t) 0)) (m1 : may z1 = true) (m2 : may z2 = true) (hs : ts.length ≤ 1048576) (hk : 90 ≤ k) :
    ∀ (q i j : Nat) (bs : List Bool) (G : List Nat) (L : LHeap), i + q = ts.length → q < j → RT L l ts A → Apart G A → PS L r w b1 b2 z1 z2 bs G F1 F2 → bs.length + 52 * q < 2 ^ 37 →
    ∃ L' G', Step G L G' L' ∧ PS L' r w b1 b2 z1 z2 (bs ++ (ts.drop i).flatMap (tokBits z1 z2)) G' F1 F2 ∧
      f27_l16 k j (some ⟨b1, 0, none⟩) s1 (some ⟨b2, 0, none⟩) s3 r r r l (l.n : Int) (i : Int) L = f27_l16 k (j - q) (some ⟨b1, 0, none⟩) s1 (some ⟨b2, 0, none⟩) s3 r r r l (l.n : Int) (ts.length : Int) L' := by
  intro q
  induction q with
  | zero =>
    intro i j bs G L hi hj hl hA h hb
    rw [List.drop_of_length_le (by omega)]
    exact ⟨L, G, .refl _ _, by simpa using h, by rw [Nat.sub_zero, show i = ts.length by omega]⟩
  | succ q ih =>
    intro i j bs G L hi hj hl hA h hb
    obtain ⟨j, rfl⟩ : ∃ j', j = j' + 1 := ⟨j - 1, by omega⟩
    obtain ⟨kk, rfl⟩ : ∃ k', k = k' + 1 := ⟨k - 1, by omega⟩
    have hi2 : i < ts.length := by omega
    have hn := hl.len
    obtain ⟨a, a1, a2⟩ := hl.here (List.getElem?_eq_getElem hi2)
    obtain ⟨d0, d1, d2, d3, d4⟩ := a2 L fun _ _ => rfl
    have htm : ts[i] ∈ ts := List.getElem_mem hi2
    have hdr : ts.drop i = ts[i] :: ts.drop (i + 1) := List.drop_eq_getElem_cons hi2
    generalize hti : ts[i] = t at *
    obtain ⟨hsh, hw, p1, p2⟩ := ht t htm
    rw [f27_l16_eq, decide_eq_true (by omega), lif_true, a1]
    simp only [obind_some, d0, d1, d2, d3, d4, Option.bind_some, asI_int]
    rw [stores_new (by rfl)]
    simp only [obind_some]
    have hx : L ++ [LBlk.cells [Value.int .u8 t.k, Value.int .u8 t.b, Value.int .i64 t.l, Value.int .i64 t.d, Value.int .i64 t.s] 29 false 0] = L ++ [LBlk.cells (tokL t) 29 false 0] := rfl
    rw [hx]
    have g0 : (L ++ [LBlk.cells (tokL t) 29 false 0])[L.length]? = some (.cells (tokL t) 29 false 0) := get_new
    obtain ⟨e0, e1, e2, e3, e4⟩ := tok_cell g0
    have hlen0 : L.length < (L ++ [LBlk.cells (tokL t) 29 false 0]).length := by simp
    have st0 : Step G L G (L ++ [LBlk.cells (tokL t) 29 false 0]) := .push _ _ _
    have h0 : PS (L ++ [LBlk.cells (tokL t) 29 false 0]) r w b1 b2 z1 z2 bs G F1 F2 := h.push
    generalize L ++ [LBlk.cells (tokL t) 29 false 0] = L0 at *
    simp only [e0, e1, e2, e3, e4, Option.bind_some, asI_int, obind_some]
    rw [f52_eq]
    simp only [lbindR_ret]
    have h1 : PS (L0 ++ [LBlk.cells [Value.pointer (some ⟨b1, 0, none⟩)] 58 false 0]) r w b1 b2 z1 z2 bs G F1 F2 := h0.push
    have k1 : (L0 ++ [LBlk.cells [Value.pointer (some ⟨b1, 0, none⟩)] 58 false 0])[L0.length]? = some (.cells [Value.pointer (some ⟨b1, 0, none⟩)] 58 false 0) := get_new
    have g1 : (L0 ++ [LBlk.cells [Value.pointer (some ⟨b1, 0, none⟩)] 58 false 0])[L.length]? = some (.cells (tokL t) 29 false 0) := by rw [get_push hlen0, g0]
    have st1 : Step G L0 G (L0 ++ [LBlk.cells [Value.pointer (some ⟨b1, 0, none⟩)] 58 false 0]) := .push _ _ _
    have hlen1 : L0.length < (L0 ++ [LBlk.cells [Value.pointer (some ⟨b1, 0, none⟩)] 58 false 0]).length := by simp
    obtain ⟨e0, e1, e2, e3, e4⟩ := tok_cell g1
    generalize L0 ++ [LBlk.cells [Value.pointer (some ⟨b1, 0, none⟩)] 58 false 0] = L1 at *
    simp only [e0, e1, e2, e3, e4, Option.bind_some, asI_int, obind_some, same_self, when_true]
    rw [f52_eq]
    simp only [lbindR_ret]
    have h2 : PS (L1 ++ [LBlk.cells [Value.pointer (some ⟨b2, 0, none⟩)] 58 false 0]) r w b1 b2 z1 z2 bs G F1 F2 := h1.push
    have k2 : (L1 ++ [LBlk.cells [Value.pointer (some ⟨b2, 0, none⟩)] 58 false 0])[L1.length]? = some (.cells [Value.pointer (some ⟨b2, 0, none⟩)] 58 false 0) := get_new
    have k1' : (L1 ++ [LBlk.cells [Value.pointer (some ⟨b2, 0, none⟩)] 58 false 0])[L0.length]? = some (.cells [Value.pointer (some ⟨b1, 0, none⟩)] 58 false 0) := by rw [get_push hlen1, k1]
    have g2 : (L1 ++ [LBlk.cells [Value.pointer (some ⟨b2, 0, none⟩)] 58 false 0])[L.length]? = some (.cells (tokL t) 29 false 0) := by rw [get_push (by omega), g1]
    have st2 : Step G L1 G (L1 ++ [LBlk.cells [Value.pointer (some ⟨b2, 0, none⟩)] 58 false 0]) := .push _ _ _
    obtain ⟨e0, e1, e2, e3, e4⟩ := tok_cell g2
    generalize L1 ++ [LBlk.cells [Value.pointer (some ⟨b2, 0, none⟩)] 58 false 0] = L2 at *
    simp only [e0, e1, e2, e3, e4, Option.bind_some, asI_int, obind_some, same_self, when_true]
    have nG : ∀ {x : Nat}, L.length ≤ x → x ∉ G := fun {x} hx hi => by have := h.bw.within _ hi; omega
    obtain ⟨L3, G3, v1, v2, v3⟩ := put_said (k := kk + 1) h2 hsh hw m1 m2 p1 p2 k1' k2 (nG (by omega)) (nG (by omega)) (by omega) (by omega)
    have v1 : f47 (kk + 1) t.k t.b t.l t.d t.s (.func (.func 53) #[] #[.pointer (some ⟨L0.length, 0, none⟩), .pointer (some ⟨r, 0, none⟩)]) (.func (.func 53) #[] #[.pointer (some ⟨L1.length, 0, none⟩), .pointer (some ⟨r, 0, none⟩)])
      (.func (.func 55) #[] #[.pointer (some ⟨r, 0, none⟩)]) L2 = some (.ret (.tuple #[]) L3) := v1
    rw [v1]
    simp only [lbindR_ret]
    have sAll : Step G L G3 L3 := st0.trans (st1.trans (st2.trans v3))
    have htl := tokBits_le m1 m2 hsh
    obtain ⟨L4, G4, w1, w2, w3⟩ := ih (i + 1) j _ G3 L3 (by omega) (by omega) (hl.mono (sAll.others hl.within hA)) (sAll.apart hl.within hA) v2 (by rw [List.length_append]; omega)
    rw [wI64 (by omega) (by omega), show (i : Int) + 1 = ((i + 1 : Nat) : Int) by omega]
    refine ⟨L4, G4, sAll.trans w1, ?_, ?_⟩
    · rw [hdr, List.flatMap_cons, ← List.append_assoc]
      exact w2
    · rw [w3]
      congr 1
      omega
theorem cut_all {L : LHeap} {b n : Nat} (hn : n < 1000) (h0 : n ≠ 0) : cut L ⟨some ⟨b, 0, none⟩, n, n⟩ none none none 1 = some ⟨some ⟨b, 0, none⟩, n, n⟩ := by
  have hO : Nat.blt n OPEN = true := by rw [show OPEN = 18446744073709551616 from rfl]; simp; omega
  simp only [cut, hO, cond_true, Option.isSome_none, cond_false, bound_out (Nat.le_refl n), bound_out (Nat.zero_le n), Option.bind_eq_bind, Option.bind_some]
  rw [if_neg (by omega)]
  simp [mk_add]
theorem cut_to {L : LHeap} {b n m : Nat} (hn : n < 1000) (hm : m ≤ n) (h0 : n ≠ 0) : cut L ⟨some ⟨b, 0, none⟩, n, n⟩ none (some (m : Int)) none 1 = some ⟨some ⟨b, 0, none⟩, m, n⟩ := by
  have hO : Nat.blt n OPEN = true := by rw [show OPEN = 18446744073709551616 from rfl]; simp; omega
  simp only [cut, hO, cond_true, Option.isSome_none, cond_false, bound_out (Nat.le_refl n), bound_at n hm, bound_out (Nat.zero_le m), Option.bind_eq_bind, Option.bind_some]
  rw [if_neg (by omega)]
  simp [mk_add]
theorem strOf_app (a b : List Nat) : strOf a ++ strOf b = strOf (a ++ b) := by
  apply ByteArray.ext
  rw [ByteArray.data_append]
  simp [strOf]
/-- Tokens packed, or the panic that tells that one's shape may not be. -/
theorem packed_ok {k : Nat} {l : Sl} {ts : List Tok} {A : List Nat} {L : LHeap} (hl : RT L l ts A) (hf : Fit ts) (hk : ts.length + 900 ≤ k) :
    ∃ L', Step [] L [] L' ∧ f27 k l L = if ts.all tokShape then some (.ret (.string (strOf (packB ts))) L') else some (.pan (.iface 24 (.int .i64 4)) L') := by
  obtain ⟨k, rfl⟩ : ∃ k', k = k' + 1 := ⟨k - 1, by omega⟩
  obtain ⟨hlen, hw⟩ := hf
  have hn := hl.len
  rw [f27_eq]
  have hrep : List.replicate 277 (Value.int IntKind.i64 0) = (List.replicate 277 (0 : Int)).map iV := by rw [List.map_replicate]; rfl
  rw [hrep]
  have st1 : Step [] L [L.length] (L ++ [LBlk.cells ((List.replicate 277 (0 : Int)).map iV) 80 false 0]) := .new _ _ _
  have g1 : (L ++ [LBlk.cells ((List.replicate 277 (0 : Int)).map iV) 80 false 0])[L.length]? = some (.cells ((List.replicate 277 (0 : Int)).map iV) 80 false 0) := get_new
  have hlt : L.length < (L ++ [LBlk.cells ((List.replicate 277 (0 : Int)).map iV) 80 false 0]).length := by simp
  generalize L ++ [LBlk.cells ((List.replicate 277 (0 : Int)).map iV) 80 false 0] = L1 at *
  have st2 : Step [L.length] L1 [L1.length, L.length] (L1 ++ [LBlk.cells ((List.replicate 277 (0 : Int)).map iV) 80 false 0]) := .new _ _ _
  have g2 : (L1 ++ [LBlk.cells ((List.replicate 277 (0 : Int)).map iV) 80 false 0])[L1.length]? = some (.cells ((List.replicate 277 (0 : Int)).map iV) 80 false 0) := get_new
  have g1' : (L1 ++ [LBlk.cells ((List.replicate 277 (0 : Int)).map iV) 80 false 0])[L.length]? = some (.cells ((List.replicate 277 (0 : Int)).map iV) 80 false 0) := by rw [get_push hlt, g1]
  generalize L1 ++ [LBlk.cells ((List.replicate 277 (0 : Int)).map iV) 80 false 0] = L2 at *
  rw [mk_add, stores_of g1' (by simp)]
  have hset : setAll ((List.replicate 277 (0 : Int)).map iV) (0 + 256) [Value.int IntKind.i64 1] = ((List.replicate 277 (0 : Int)).set 256 1).map iV := by
    rw [List.map_set]; rfl
  rw [hset]
  simp only [obind_some]
  have st3 : Step [L1.length, L.length] L2 [L1.length, L.length] (L2.set L.length (.cells (((List.replicate 277 (0 : Int)).set 256 1).map iV) 80 false 0)) := .set _ (by simp)
  have q1 : (L2.set L.length (.cells (((List.replicate 277 (0 : Int)).set 256 1).map iV) 80 false 0))[L.length]? = some (.cells (((List.replicate 277 (0 : Int)).set 256 1).map iV) 80 false 0) := get_set_self g1'
  have q2 : (L2.set L.length (.cells (((List.replicate 277 (0 : Int)).set 256 1).map iV) 80 false 0))[L1.length]? = some (.cells ((List.replicate 277 (0 : Int)).map iV) 80 false 0) := by rw [get_set_ne (by omega), g2]
  generalize L2.set L.length (.cells (((List.replicate 277 (0 : Int)).set 256 1).map iV) 80 false 0) = L3 at *
  have sA : Step [] L [L1.length, L.length] L3 := st1.trans (st2.trans st3)
  have hlw := hl.within
  have apL : Apart [L.length, L1.length] A := by
    intro x hx ha
    have := hlw x ha
    simp at hx
    omega
  have hl3 : RT L3 l ts A := hl.mono (sA.others hlw fun _ h => by cases h)
  have bnd : ∀ x ∈ (List.replicate 277 (0 : Int)).set 256 1, 0 ≤ x ∧ x ≤ ((0 : Nat) : Int) + 1 := by
    intro x hx
    rcases List.mem_or_eq_of_mem_set hx with h1 | h1
    · rw [List.eq_of_mem_replicate h1]; omega
    · omega
  have bnd2 : ∀ x ∈ List.replicate 277 (0 : Int), 0 ≤ x ∧ x ≤ ((0 : Nat) : Int) + 1 := by
    intro x hx
    rw [List.eq_of_mem_replicate hx]; omega
  obtain ⟨L4, t1, t2, t3⟩ := tally_loop (k := k) (r1 := L.length) (r2 := L1.length) (by omega) apL hw (by omega) (by omega) ts.length 0 k _ _ L3 (by omega) (by omega) hl3 q1 q2 (by simp) (by simp) bnd bnd2
  have sB : Step [] L [] L4 := (sA.trans (t1.mono fun i hi => by simp at hi ⊢; omega)).less fun i hi => by cases hi
  rw [List.drop_zero] at t2 t3
  by_cases hall : ∀ t ∈ ts, tokShape t = true
  case neg =>
    refine ⟨L4, sB, ?_⟩
    rw [if_neg (by simpa using hall)]
    exact t3 hall
  · have hA2 : ts.all tokShape = true := by simpa using hall
    simp only [hA2, if_true]
    obtain ⟨u1, u2, u3⟩ := t2 hall
    have hsy1 : ∀ t ∈ ts, sym1 t < 277 := fun t ht => (sym1_lt (hall t ht) (hw t ht)).1
    have hsy2 : ∀ t ∈ ts, t.k ≠ 1 → sym2 t < 9 := fun t ht h => sym2_lt (hall t ht) h
    rw [tick1_freq hsy1] at u1
    have htk := tick2_freq (ts := ts) fun t ht h => by have := hsy2 t ht h; omega
    have r1 : Rd L4 ⟨some ⟨L.length, 0, none⟩, 277, 277⟩ ((freq1 ts).map iV) [L.length] :=
      ⟨by simp, .inr ⟨L.length, 0, _, 80, false, 0, rfl, u1, fun i hi => by rw [Nat.zero_add], rfl⟩⟩
    have r2 : Rd L4 ⟨some ⟨L1.length, 0, none⟩, 9, 277⟩ ((freq2 ts).map iV) [L1.length] := by
      refine ⟨by simp, .inr ⟨L1.length, 0, _, 80, false, 0, rfl, u2, fun i hi => ?_, rfl⟩⟩
      have hi9 : i < 9 := by simpa using hi
      rw [Nat.zero_add, List.getElem?_map, List.getElem?_map, ← htk, List.getElem?_take, if_pos hi9]
    have hm1 := may1 hlen
    have hm2 := may2 hlen
    have u3' : f27_l4 k k l L.length L1.length l (l.n : Int) 0 L3 = f27_l4 k (k - ts.length) l L.length L1.length l (l.n : Int) (ts.length : Int) L4 := u3
    rw [u3']
    obtain ⟨j, hj⟩ : ∃ j, k - ts.length = j + 1 := ⟨k - ts.length - 1, by omega⟩
    rw [hj, f27_l4_eq, decide_eq_false (by omega), lif_false, cut_all (by omega) (by omega)]
    simp only [obind_some]
    obtain ⟨b1, F1, L5, c1, c2, c3⟩ := coder_ok (k := k) r1 (freq1_ok hlen) (by simp) (by simp; omega)
    rw [c1]
    simp only [lbind_ret, tupL_tuple, uncons_cons, nilL_nil, asP_pointer, asS_string, obind_some]
    rw [show (9 : Int) = ((9 : Nat) : Int) from rfl, cut_to (by omega) (by omega) (by omega)]
    simp only [obind_some]
    obtain ⟨b2, F2, L6, d1, d2, d3⟩ := coder_ok (k := k) (r2.mono (c3.others r2.within fun _ h => by cases h)) (freq2_ok hlen) (by simp) (by simp; omega)
    rw [d1]
    simp only [lbind_ret, tupL_tuple, uncons_cons, nilL_nil, asP_pointer, asS_string, obind_some]
    have cO1 : CO L6 b1 (lens1 ts) F1 := c2.mono (d3.others c2.within fun _ h => by cases h) d3.len
    have sC : Step [] L [] L6 := sB.trans ((c3.less fun i hi => by cases hi).trans (d3.less fun i hi => by cases hi))
    rw [stores_new (by rfl)]
    simp only [obind_some]
    have pw : BW (L6 ++ [LBlk.cells [Value.slice none 0 0, Value.int IntKind.i64 0] 88 false 0]) L6.length [] [L6.length] := BW.new _
    have w1 : Step [] L6 [L6.length] (L6 ++ [LBlk.cells [Value.slice none 0 0, Value.int IntKind.i64 0] 88 false 0]) := .new _ _ _
    have hlt6 : L6.length < (L6 ++ [LBlk.cells [Value.slice none 0 0, Value.int IntKind.i64 0] 88 false 0]).length := by simp
    generalize L6 ++ [LBlk.cells [Value.slice none 0 0, Value.int IntKind.i64 0] 88 false 0] = L7 at *
    have w2 : Step [L6.length] L7 [L6.length] (L7 ++ [LBlk.cells [Value.pointer (some ⟨L6.length, 0, none⟩)] 86 false 0]) := .push _ _ _
    have pr : (L7 ++ [LBlk.cells [Value.pointer (some ⟨L6.length, 0, none⟩)] 86 false 0])[L7.length]? = some (.cells [Value.pointer (some ⟨L6.length, 0, none⟩)] 86 false 0) := get_new
    have pw2 : BW (L7 ++ [LBlk.cells [Value.pointer (some ⟨L6.length, 0, none⟩)] 86 false 0]) L6.length [] [L6.length] := pw.mono fun i hi => get_push (pw.within i hi)
    generalize L7 ++ [LBlk.cells [Value.pointer (some ⟨L6.length, 0, none⟩)] 86 false 0] = L8 at *
    have sD : Step [] L6 [L6.length] L8 := w1.trans w2
    have ps : PS L8 L7.length L6.length b1 b2 (lens1 ts) (lens2 ts) [] [L6.length] F1 F2 := by
      refine ⟨pr, pw2, cO1.mono (sD.others cO1.within fun _ h => by cases h) sD.len, d2.mono (sD.others d2.within fun _ h => by cases h) sD.len, by simp; omega, ?_, ?_⟩
      · intro x hx hf
        have := cO1.within x hf
        simp at hx; omega
      · intro x hx hf
        have := d2.within x hf
        simp at hx; omega
    have hl8 : RT L8 l ts A := hl.mono fun i hi => by
      have h1 := sC.keep i (hlw i hi) (by simp)
      have h2 := sD.keep i (by have := hlw i hi; have := sC.len; omega) (by simp)
      rw [h2, h1]
    have ap8 : Apart [L6.length] A := by
      intro x hx ha
      have := hlw x ha
      have := sC.len
      simp at hx; omega
    obtain ⟨L9, G9, x1, x2, x3⟩ := putAll_loop (k := k) (r := L7.length) (w := L6.length) (b1 := b1) (b2 := b2) (s1 := strOf (tabBytes (lens1 ts))) (s3 := strOf (tabBytes (lens2 ts))) (l := l) (ts := ts) (A := A) (F1 := F1) (F2 := F2)
      (fun t ht => ⟨hall t ht, hw t ht, pos1 hlen ht (hsy1 t ht), fun hk => pos2 hlen ht hk (hsy2 t ht hk)⟩) hm1 hm2 hlen (by omega) ts.length 0 k [] [L6.length] L8 (by omega) (by omega) hl8 ap8 ps (by simp; omega)
    have x3' : f27_l16 k k (some ⟨b1, 0, none⟩) (strOf (tabBytes (lengthsOf (freq1 ts)))) (some ⟨b2, 0, none⟩) (strOf (tabBytes (lengthsOf (freq2 ts)))) L7.length L7.length L7.length l (l.n : Int) 0 L8 =
      f27_l16 k (k - ts.length) (some ⟨b1, 0, none⟩) (strOf (tabBytes (lengthsOf (freq1 ts)))) (some ⟨b2, 0, none⟩) (strOf (tabBytes (lengthsOf (freq2 ts)))) L7.length L7.length L7.length l (l.n : Int) (ts.length : Int) L9 := x3
    rw [x3', hj, f27_l16_eq, decide_eq_false (by omega), lif_false]
    obtain ⟨kk, rfl⟩ : ∃ k', k = k' + 1 := ⟨k - 1, by omega⟩
    rw [f52_eq]
    simp only [lbind_ret]
    have y1 : PS (L9 ++ [LBlk.cells [Value.pointer (some ⟨b1, 0, none⟩)] 58 false 0]) L7.length L6.length b1 b2 (lens1 ts) (lens2 ts) _ G9 F1 F2 := x2.push
    have y2 : (L9 ++ [LBlk.cells [Value.pointer (some ⟨b1, 0, none⟩)] 58 false 0])[L9.length]? = some (.cells [Value.pointer (some ⟨b1, 0, none⟩)] 58 false 0) := get_new
    have y3 : Step G9 L9 G9 (L9 ++ [LBlk.cells [Value.pointer (some ⟨b1, 0, none⟩)] 58 false 0]) := .push _ _ _
    generalize L9 ++ [LBlk.cells [Value.pointer (some ⟨b1, 0, none⟩)] 58 false 0] = L10 at *
    have hbl := packBits_le hm1 hm2 ts hall
    have hbl2 : (([] : List Bool) ++ (ts.drop 0).flatMap (tokBits (lens1 ts) (lens2 ts))).length ≤ 52 * ts.length + 15 := by
      rw [List.drop_zero, List.nil_append]
      unfold packBits at hbl
      rw [List.length_append] at hbl
      omega
    obtain ⟨L11, G11, z1, z2, z3⟩ := app53 (k := kk + 1) (s := 256) y2 y1.at_r y1.c1 hm1 y1.bw (by omega) (pos256 hlen) (by omega)
    have z1' : lapp (lcall Proofs.Try.prog T (kk + 1)) (.func (.func 53) #[] #[.pointer (some ⟨L9.length, 0, none⟩), .pointer (some ⟨L7.length, 0, none⟩)]) [.int .i64 256] L10 = some (.ret (.tuple #[]) L11) := z1
    rw [z1']
    simp only [lbind_ret]
    have y4 := y1.step z3 z2
    have ht1 := tabBytes_len_le (lens1 ts)
    have ht2 := tabBytes_len_le (lens2 ts)
    rw [lens1_length] at ht1
    rw [lens2_length] at ht2
    rw [fitsS_ok (by
      show (strOf (tabBytes (lens1 ts))).size + (strOf (tabBytes (lens2 ts))).size < _
      rw [strOf_size, strOf_size]; omega), when_true]
    have c0 : cell L11 ⟨L7.length, 0, none⟩ = some (.pointer (some ⟨L6.length, 0, none⟩)) := by rw [cell_of y4.at_r]; rfl
    obtain ⟨vs, v1, v2⟩ := bytes_ok (k := kk + 1) y4.bw (by omega)
    simp only [c0, Option.bind_some, asP_pointer, obind_some, v2, lbind_ret, asS_string]
    have hpk : vs = packOf (packBits (lens1 ts) (lens2 ts) ts) := by
      refine v1.unique ?_
      have := packOf_ok (packBits (lens1 ts) (lens2 ts) ts)
      rw [List.drop_zero, List.nil_append]
      exact this
    have hfin : strOf (tabBytes (lens1 ts)) ++ strOf (tabBytes (lens2 ts)) ++ strOf vs = strOf (packB ts) := by
      rw [hpk, strOf_app, strOf_app, packB, List.append_assoc]
    have hfin' : strOf (tabBytes (lengthsOf (freq1 ts))) ++ strOf (tabBytes (lengthsOf (freq2 ts))) ++ strOf vs = strOf (packB ts) := hfin
    rw [fitsS_ok (by
      rw [strOf_app, strOf_size, strOf_size, hpk, packOf_length, List.length_append]
      show (tabBytes (lens1 ts)).length + (tabBytes (lens2 ts)).length + ((packBits (lens1 ts) (lens2 ts) ts).length + 7) / 8 < _
      omega), when_true, hfin']
    refine ⟨L11, ?_, rfl⟩
    have sE : Step [] L6 [] L11 := (sD.trans (x1.trans (y3.trans z3))).less fun i hi => by cases hi
    exact sC.trans sE
end Go.Proofs.Ytflhogapjmdkaaa.X
end

section
set_option maxRecDepth 100000
set_option linter.unusedVariables false
namespace Go.Proofs.Ytflhogapjmdkaaa.X
open Go Go.Rlm
def packStr (ts : List Tok) : ByteArray := if ts.all tokShape then strOf (packB ts) else ⟨#[]⟩
def packErr (ts : List Tok) : Int := if ts.all tokShape then 0 else 4
theorem pack_ok {k : Nat} {l : Sl} {ts : List Tok} {A : List Nat} {L : LHeap} (hl : RT L l ts A) (hf : Fit ts) (hk : ts.length + 1000 ≤ k) :
    ∃ L', f14 k l L = some (.ret (.tuple #[.string (packStr ts), .int .i64 (packErr ts)]) L') ∧ Step [] L [] L' := by
  obtain ⟨k, rfl⟩ : ∃ k', k = k' + 3 := ⟨k - 3, by omega⟩
  rw [f14_eq]
  have st1 : Step [] L [L.length] (L ++ [LBlk.cells [Value.slice l.a l.n l.c] 22 false 0]) := .new _ _ _
  have g1 : (L ++ [LBlk.cells [Value.slice l.a l.n l.c] 22 false 0])[L.length]? = some (.cells [Value.slice l.a l.n l.c] 22 false 0) := get_new
  have hlt1 : L.length < (L ++ [LBlk.cells [Value.slice l.a l.n l.c] 22 false 0]).length := by simp
  generalize L ++ [LBlk.cells [Value.slice l.a l.n l.c] 22 false 0] = L1 at *
  have st2 : Step [L.length] L1 [L1.length, L.length] (L1 ++ [LBlk.cells [Value.string (ByteArray.mk #[])] 9 false 0]) := .new _ _ _
  have g2 : (L1 ++ [LBlk.cells [Value.string (ByteArray.mk #[])] 9 false 0])[L1.length]? = some (.cells [Value.string (ByteArray.mk #[])] 9 false 0) := get_new
  have g1' : (L1 ++ [LBlk.cells [Value.string (ByteArray.mk #[])] 9 false 0])[L.length]? = some (.cells [Value.slice l.a l.n l.c] 22 false 0) := by rw [get_push hlt1, g1]
  have hlt2 : L1.length < (L1 ++ [LBlk.cells [Value.string (ByteArray.mk #[])] 9 false 0]).length := by simp
  generalize L1 ++ [LBlk.cells [Value.string (ByteArray.mk #[])] 9 false 0] = L2 at *
  have st3 : Step [L1.length, L.length] L2 [L2.length, L1.length, L.length] (L2 ++ [LBlk.cells [Value.int IntKind.i64 0] 24 false 0]) := .new _ _ _
  have q1 : (L2 ++ [LBlk.cells [Value.int IntKind.i64 0] 24 false 0])[L.length]? = some (.cells [Value.slice l.a l.n l.c] 22 false 0) := by rw [get_push (by omega), g1']
  have q2 : (L2 ++ [LBlk.cells [Value.int IntKind.i64 0] 24 false 0])[L1.length]? = some (.cells [Value.string (ByteArray.mk #[])] 9 false 0) := by rw [get_push hlt2, g2]
  have q3 : (L2 ++ [LBlk.cells [Value.int IntKind.i64 0] 24 false 0])[L2.length]? = some (.cells [Value.int IntKind.i64 0] 24 false 0) := get_new
  have hlt3 : L2.length < (L2 ++ [LBlk.cells [Value.int IntKind.i64 0] 24 false 0]).length := by simp
  have sA := st1.trans (st2.trans st3)
  have hk2 : ∀ M : LHeap, f26 (k + 1) L.length L1.length (L2 ++ [LBlk.cells [Value.int IntKind.i64 0] 24 false 0]) = some (.ret (.tuple #[]) M) → M[L2.length]? = some (.cells [Value.int IntKind.i64 0] 24 false 0) →
      f25 (k + 2) (.func (.func 26) #[] #[.pointer (some ⟨L.length, 0, none⟩), .pointer (some ⟨L1.length, 0, none⟩)]) L2 = some (.ret (.int .i64 0) (M.set L2.length (.cells [.int .i64 0] 24 false 0))) := fun M h1 h2 => caught_ret (k := k + 1) (v := .tuple #[]) h1 h2
  have hp2 : ∀ M : LHeap, f26 (k + 1) L.length L1.length (L2 ++ [LBlk.cells [Value.int IntKind.i64 0] 24 false 0]) = some (.pan (.iface 24 (.int .i64 4)) M) → M[L2.length]? = some (.cells [Value.int IntKind.i64 0] 24 false 0) →
      f25 (k + 2) (.func (.func 26) #[] #[.pointer (some ⟨L.length, 0, none⟩), .pointer (some ⟨L1.length, 0, none⟩)]) L2 = some (.ret (.int .i64 4) (M.set L2.length (.cells [.int .i64 4] 24 false 0))) := fun M h1 h2 => caught_pan (k := k + 1) (n := 4) h1 h2
  generalize hL3 : L2 ++ [LBlk.cells [Value.int IntKind.i64 0] 24 false 0] = L3 at *
  have hlw := hl.within
  have hl3 : RT L3 l ts A := hl.mono fun i hi => sA.keep i (hlw i hi) (by simp)
  obtain ⟨L4, a1, a2⟩ := packed_ok (k := k) hl3 hf (by omega)
  have c0 : cell L3 ⟨L.length, 0, none⟩ = some (.slice l.a l.n l.c) := by rw [cell_of q1]; rfl
  have p2 : L4[L1.length]? = some (.cells [Value.string (ByteArray.mk #[])] 9 false 0) := by rw [a1.keep _ (by omega) (by simp), q2]
  have p3 : L4[L2.length]? = some (.cells [Value.int IntKind.i64 0] 24 false 0) := by rw [a1.keep _ (by omega) (by simp), q3]
  have sB : Step [] L [L2.length, L1.length, L.length] L4 := sA.trans ((a1.mono (G := [L2.length, L1.length, L.length]) (by simp)).less fun i hi => .inr hi)
  have hw : ∀ (b : Nat) (x : LBlk) (M : LHeap), Step [] L [L2.length, L1.length, L.length] M → b ∈ [L2.length, L1.length, L.length] → Step [] L [L2.length, L1.length, L.length] (M.set b x) := fun b x M h hb => h.trans (.set _ hb)
  have e26 : f26 (k + 1) L.length L1.length L3 = lbind (f27 k l L3) fun v3 L4 => obind (asS v3) fun s5 => obind (stores L4 (Addr.mk L1.length 0 none) [Value.string s5]) fun L6 => some (LR.ret (Value.tuple #[]) L6) := by
    rw [f26_eq]
    simp only [c0, Option.bind_some, asSl_slice, obind_some]
  cases hall : ts.all tokShape with
  | true =>
    rw [hall, if_pos rfl] at a2
    rw [a2] at e26
    simp only [lbind_ret, asS_string, obind_some] at e26
    rw [stores_of p2 (by simp)] at e26
    simp only [setAll, List.set_cons_zero, obind_some] at e26
    have p2' : (L4.set L1.length (.cells [Value.string (strOf (packB ts))] 9 false 0))[L1.length]? = some (.cells [Value.string (strOf (packB ts))] 9 false 0) := get_set_self p2
    have p3' : (L4.set L1.length (.cells [Value.string (strOf (packB ts))] 9 false 0))[L2.length]? = some (.cells [Value.int IntKind.i64 0] 24 false 0) := by rw [get_set_ne (by omega), p3]
    have sC := hw L1.length (.cells [Value.string (strOf (packB ts))] 9 false 0) _ sB (by simp)
    generalize L4.set L1.length (.cells [Value.string (strOf (packB ts))] 9 false 0) = L5 at *
    rw [hk2 _ e26 p3']
    simp only [lbind_ret, asI_int, obind_some]
    have p2'' : (L5.set L2.length (.cells [Value.int IntKind.i64 0] 24 false 0))[L1.length]? = some (.cells [Value.string (strOf (packB ts))] 9 false 0) := by rw [get_set_ne (by omega), p2']
    have sD := hw L2.length (.cells [Value.int IntKind.i64 0] 24 false 0) _ sC (by simp)
    generalize L5.set L2.length (.cells [Value.int IntKind.i64 0] 24 false 0) = L6 at *
    have c1 : cell L6 ⟨L1.length, 0, none⟩ = some (.string (strOf (packB ts))) := by rw [cell_of p2'']; rfl
    rw [c1]
    simp only [Option.bind_some, asS_string, obind_some]
    rw [stores_of p2'' (by simp)]
    simp only [setAll, List.set_cons_zero, obind_some]
    have c2 : cell (L6.set L1.length (.cells [Value.string (strOf (packB ts))] 9 false 0)) ⟨L1.length, 0, none⟩ = some (.string (strOf (packB ts))) := by rw [cell_of (get_set_self p2'')]; rfl
    rw [c2]
    refine ⟨_, by unfold packStr packErr; rw [hall]; rfl, (hw _ _ _ sD (by simp)).less fun i hi => by cases hi⟩
  | false =>
    rw [hall, if_neg (by decide)] at a2
    rw [a2] at e26
    simp only [lbind_pan] at e26
    rw [hp2 _ e26 p3]
    simp only [lbind_ret, asI_int, obind_some]
    have p2'' : (L4.set L2.length (.cells [Value.int IntKind.i64 4] 24 false 0))[L1.length]? = some (.cells [Value.string (ByteArray.mk #[])] 9 false 0) := by rw [get_set_ne (by omega), p2]
    have sD := hw L2.length (.cells [Value.int IntKind.i64 4] 24 false 0) _ sB (by simp)
    generalize L4.set L2.length (.cells [Value.int IntKind.i64 4] 24 false 0) = L6 at *
    have c1 : cell L6 ⟨L1.length, 0, none⟩ = some (.string (ByteArray.mk #[])) := by rw [cell_of p2'']; rfl
    rw [c1]
    simp only [Option.bind_some, asS_string, obind_some]
    rw [stores_of p2'' (by simp)]
    simp only [setAll, List.set_cons_zero, obind_some]
    have c2 : cell (L6.set L1.length (.cells [Value.string (ByteArray.mk #[])] 9 false 0)) ⟨L1.length, 0, none⟩ = some (.string (ByteArray.mk #[])) := by rw [cell_of (get_set_self p2'')]; rfl
    rw [c2]
    refine ⟨_, by unfold packStr packErr; rw [hall]; rfl, (hw _ _ _ sD (by simp)).less fun i hi => by cases hi⟩
structure DS (L : LHeap) (N d x b1 b2 : Nat) (z1 z2 : List Int) (r : List Bool) : Prop where
  at_d : L[d]? = some (.cells [.pointer (some ⟨x, 0, none⟩), .pointer (some ⟨b1, 0, none⟩), .pointer (some ⟨b2, 0, none⟩)] 65 false 0)
  br : BR L x r
  c1 : ∃ F, CO L b1 z1 F ∧ x ∉ F ∧ ∀ i ∈ F, i < N
  c2 : ∃ F, CO L b2 z2 F ∧ x ∉ F ∧ ∀ i ∈ F, i < N
  dN : d < N
  xN : x < N
  ne : d ≠ x
  NL : N ≤ L.length
theorem DS.step {L L' : LHeap} {N d x b1 b2 : Nat} {z1 z2 : List Int} {r r' : List Bool} (h : DS L N d x b1 b2 z1 z2 r) (hs : Step [x] L [x] L') (hb : BR L' x r') : DS L' N d x b1 b2 z1 z2 r' := by
  obtain ⟨h1, h2, ⟨F1, f1, f2, f3⟩, ⟨F2, g1, g2, g3⟩, h5, h6, h7, h8⟩ := h
  have k : ∀ i, i < L.length → i ≠ x → L'[i]? = L[i]? := fun i hi hx => hs.keep i hi (by simpa using hx)
  refine ⟨by rw [k d (by omega) h7, h1], hb, ⟨F1, f1.mono (fun i hi => k i (by have := f3 i hi; omega) fun e => f2 (e ▸ hi)) hs.len, f2, f3⟩, ⟨F2, g1.mono (fun i hi => k i (by have := g3 i hi; omega) fun e => g2 (e ▸ hi)) hs.len, g2, g3⟩, h5, h6, h7, Nat.le_trans h8 hs.len⟩
theorem DS.frame {L L' : LHeap} {N d x b1 b2 : Nat} {z1 z2 : List Int} {r : List Bool} (h : DS L N d x b1 b2 z1 z2 r) (hk : ∀ i, i < N → L'[i]? = L[i]?) (hl : L.length ≤ L'.length) : DS L' N d x b1 b2 z1 z2 r := by
  obtain ⟨h1, h2, ⟨F1, f1, f2, f3⟩, ⟨F2, g1, g2, g3⟩, h5, h6, h7, h8⟩ := h
  exact ⟨by rw [hk d h5, h1], h2.mono (hk x h6), ⟨F1, f1.mono (fun i hi => hk i (f3 i hi)) hl, f2, f3⟩, ⟨F2, g1.mono (fun i hi => hk i (g3 i hi)) hl, g2, g3⟩, h5, h6, h7, Nat.le_trans h8 hl⟩
theorem or_i64 {m v : Nat} (hm : m ≤ 40) (hv : v < 2 ^ m) : bitop .or .i64 (IntKind.wrap IntKind.i64 (1 * 2 ^ min (Int.toNat ((m : Nat) : Int)) 64)) (IntKind.wrap IntKind.i64 (v : Int)) = ((2 ^ m + v : Nat) : Int) := by
  have hp : 2 ^ m ≤ 2 ^ 40 := Nat.pow_le_pow_right (by omega) hm
  rw [show min (Int.toNat ((m : Nat) : Int)) 64 = m by simp; omega, Int.one_mul]
  have e : (2 : Int) ^ m = ((2 ^ m : Nat) : Int) := by push_cast; rfl
  rw [e, wI64 (by omega) (by omega), wI64 (by omega) (by omega)]
  simp only [bitop, BitVec.ofInt_natCast, BitVec.toNat_or, BitVec.toNat_ofNat]
  rw [Nat.mod_eq_of_lt (by simp only [IntKind.bits]; omega), Nat.mod_eq_of_lt (by simp only [IntKind.bits]; omega)]
  have := Nat.two_pow_add_eq_or_of_lt (i := m) hv 1
  rw [Nat.mul_one] at this
  rw [← this, wI64 (by omega) (by omega)]
theorem number_ok {k N d x b1 b2 size : Nat} {z1 z2 : List Int} {r : List Bool} {L : LHeap} (h : DS L N d x b1 b2 z1 z2 r) (hs : size ≤ 32) (hk : 60 ≤ k) :
    ∃ L' v e r', f65 k (some ⟨d, 0, none⟩) (size : Int) L = some (.ret (.tuple #[.int .i64 v, .int .i64 e]) L') ∧ Step [x] L [x] L' ∧ DS L' N d x b1 b2 z1 z2 r' ∧
      (match readNum size r with | none => e ≠ 0 | some (n, r'') => e = 0 ∧ v = (n : Int) ∧ r' = r'' ∧ n < 2 ^ 33) := by
  obtain ⟨k, rfl⟩ : ∃ k', k = k' + 1 := ⟨k - 1, by omega⟩
  rw [f65_eq]
  by_cases h2 : size < 2
  · rw [decide_eq_true (by omega), lif_true]
    refine ⟨L, _, _, r, rfl, .refl _ _, h, ?_⟩
    unfold readNum
    rw [if_pos h2]
    exact ⟨rfl, rfl, rfl, by omega⟩
  · have c0 : cell L ((Addr.mk d 0 none).add 0) = some (.pointer (some ⟨x, 0, none⟩)) := by rw [mk_add, cell_of h.at_d]; rfl
    rw [decide_eq_false (by omega), lif_false]
    simp only [obind_some]
    rw [c0]
    simp only [Option.bind_some, asP_pointer, obind_some]
    rw [wI64 (by omega) (by omega), show (size : Int) - 1 = ((size - 1 : Nat) : Int) by omega]
    obtain ⟨L', a1, a2, a3⟩ := take_ok (k := k) (n := ((size - 1 : Nat) : Int)) h.br (by omega)
    rw [a1]
    unfold taken
    simp only [lbind_ret, tupL_tuple, uncons_cons, nilL_nil, asI_int, obind_some]
    rw [decide_eq_false (by omega), Bool.not_false, when_true]
    refine ⟨L', _, _, _, rfl, a3, h.step a3 a2, ?_⟩
    unfold readNum
    rw [if_neg h2]
    by_cases h3 : r.length < size - 1
    · rw [if_pos h3]
      unfold takeErr
      rw [if_neg (by omega), if_pos (by omega)]
      show (4 : Int) ≠ 0
      decide
    · rw [if_neg h3]
      have hc : takeCnt r ((size - 1 : Nat) : Int) = size - 1 := by
        unfold takeCnt
        rw [if_neg (by omega), if_neg (by omega), Int.toNat_natCast]
      have hlen : (r.take (size - 1)).length = size - 1 := by simp; omega
      have hlt := bitNum_lt (r.take (size - 1))
      rw [hlen] at hlt
      have hp : 2 ^ (size - 1) ≤ 2 ^ 31 := Nat.pow_le_pow_right (by omega) (by omega)
      refine ⟨?_, ?_, by rw [hc], by omega⟩
      · unfold takeErr
        rw [if_neg (by omega), if_neg (by omega)]
      · unfold takeVal
        rw [hc]
        exact or_i64 (by omega) hlt
theorem long_ok {k N d x b1 b2 : Nat} {z1 z2 : List Int} {r : List Bool} {L : LHeap} (h : DS L N d x b1 b2 z1 z2 r) (m2 : may z2 = true) (h9 : z2.length = 9) (hk : 70 ≤ k) :
    ∃ L' v e r', f66 k (some ⟨d, 0, none⟩) L = some (.ret (.tuple #[.int .i64 v, .int .i64 e]) L') ∧ Step [x] L [x] L' ∧ DS L' N d x b1 b2 z1 z2 r' ∧
      (match readLen z2 r with | none => e ≠ 0 | some (l, r'') => e = 0 ∧ v = l ∧ r' = r'') := by
  obtain ⟨k, rfl⟩ : ∃ k', k = k' + 1 := ⟨k - 1, by omega⟩
  have c0 : cell L ((Addr.mk d 0 none).add 0) = some (.pointer (some ⟨x, 0, none⟩)) := by rw [mk_add, cell_of h.at_d]; rfl
  have c2 : cell L ((Addr.mk d 0 none).add 2) = some (.pointer (some ⟨b2, 0, none⟩)) := by rw [mk_add, cell_of h.at_d]; rfl
  obtain ⟨F, f1, f2, f3⟩ := h.c2
  obtain ⟨L1, a1, a2, a3⟩ := ctake_ok (k := k) f1 m2 h.br f2 (by omega)
  rw [f66_eq]
  simp only [obind_some]
  rw [c2, c0]
  simp only [Option.bind_some, asP_pointer, obind_some]
  rw [a1]
  simp only [lbindR_ret, tupL_tuple, uncons_cons, nilL_nil, asI_int, obind_some]
  have h1 := h.step a3 a2
  unfold readLen
  match hx : readSym z2 r with
  | (none, r1) =>
    rw [hx] at h1
    exact ⟨L1, _, _, _, rfl, a3, h1, by simp [decErr]⟩
  | (some i, r1) =>
    rw [hx] at h1
    obtain ⟨g1, g2, g3⟩ := readSym_some hx
    simp only [decErr, decSym]
    rw [show ((0 : Int) != 0) = false from rfl, lif_false]
    obtain ⟨L2, v, e, r2, d1, d2, d3, d4⟩ := number_ok (k := k) (size := i) h1 (by omega) (by omega)
    rw [d1]
    simp only [lbind_ret, tupL_tuple, uncons_cons, nilL_nil, asI_int, obind_some]
    refine ⟨L2, _, _, r2, rfl, a3.trans d2, d3, ?_⟩
    match hy : readNum i r1 with
    | none => rw [hy] at d4; exact d4
    | some (n, r3) =>
      rw [hy] at d4
      obtain ⟨e1, e2, e3, e4⟩ := d4
      refine ⟨e1, ?_, e3⟩
      rw [e2, wI64 (by omega) (by omega)]
end Go.Proofs.Ytflhogapjmdkaaa.X
end

section
set_option maxRecDepth 100000
set_option linter.unusedVariables false
namespace Go.Proofs.Ytflhogapjmdkaaa.X
open Go Go.Rlm
theorem stores_same {L : LHeap} {b : Nat} {t : Tok} (h : L[b]? = some (.cells (tokL t) 29 false 0)) :
    stores L ⟨b, 0, none⟩ [.int .u8 t.k, .int .u8 t.b, .int .i64 t.l, .int .i64 t.d, .int .i64 t.s] = some L := by
  rw [stores_of h (by simp [tokL]), setAll_all (by rfl)]
  congr 1
  apply List.ext_getElem?
  intro i
  by_cases hi : b = i
  · subst hi; rw [get_set_self h, h]; rfl
  · rw [get_set_ne hi]
/-- The token at b is read, and answered. -/
theorem tok_fin {L : LHeap} {b : Nat} {t : Tok} {x y : Value} (h : L[b]? = some (.cells (tokL t) 29 false 0)) :
    (obind (Option.bind (cell L (Addr.add (Addr.mk b 0 none) 0)) (asI IntKind.u8)) fun n20 =>
      obind (Option.bind (cell L (Addr.add (Addr.mk b 0 none) 1)) (asI IntKind.u8)) fun n21 =>
      obind (Option.bind (cell L (Addr.add (Addr.mk b 0 none) 2)) (asI IntKind.i64)) fun n22 =>
      obind (Option.bind (cell L (Addr.add (Addr.mk b 0 none) 3)) (asI IntKind.i64)) fun n23 =>
      obind (Option.bind (cell L (Addr.add (Addr.mk b 0 none) 4)) (asI IntKind.i64)) fun n24 =>
      some (LR.ret (Value.tuple #[Value.agg #[Value.int IntKind.u8 n20, Value.int IntKind.u8 n21, Value.int IntKind.i64 n22, Value.int IntKind.i64 n23, Value.int IntKind.i64 n24], x, y]) L)) =
    some (.ret (.tuple #[.agg #[.int .u8 t.k, .int .u8 t.b, .int .i64 t.l, .int .i64 t.d, .int .i64 t.s], x, y]) L) := by
  obtain ⟨e0, e1, e2, e3, e4⟩ := tok_cell h
  rw [e0]; simp only [Option.bind_some, asI_int, obind_some]
  rw [e1]; simp only [Option.bind_some, asI_int, obind_some]
  rw [e2]; simp only [Option.bind_some, asI_int, obind_some]
  rw [e3]; simp only [Option.bind_some, asI_int, obind_some]
  rw [e4]; simp only [Option.bind_some, asI_int, obind_some]
theorem tok_end {L : LHeap} {b : Nat} {t : Tok} {x y : Value} (h : L[b]? = some (.cells (tokL t) 29 false 0)) :
    (obind (Option.bind (cell L (Addr.add (Addr.mk b 0 none) 0)) (asI IntKind.u8)) fun n14 =>
      obind (Option.bind (cell L (Addr.add (Addr.mk b 0 none) 1)) (asI IntKind.u8)) fun n15 =>
      obind (Option.bind (cell L (Addr.add (Addr.mk b 0 none) 2)) (asI IntKind.i64)) fun n16 =>
      obind (Option.bind (cell L (Addr.add (Addr.mk b 0 none) 3)) (asI IntKind.i64)) fun n17 =>
      obind (Option.bind (cell L (Addr.add (Addr.mk b 0 none) 4)) (asI IntKind.i64)) fun n18 =>
      obind (stores L (Addr.mk b 0 none) [Value.int IntKind.u8 n14, Value.int IntKind.u8 n15, Value.int IntKind.i64 n16, Value.int IntKind.i64 n17, Value.int IntKind.i64 n18]) fun L19 =>
      obind (Option.bind (cell L19 (Addr.add (Addr.mk b 0 none) 0)) (asI IntKind.u8)) fun n20 =>
      obind (Option.bind (cell L19 (Addr.add (Addr.mk b 0 none) 1)) (asI IntKind.u8)) fun n21 =>
      obind (Option.bind (cell L19 (Addr.add (Addr.mk b 0 none) 2)) (asI IntKind.i64)) fun n22 =>
      obind (Option.bind (cell L19 (Addr.add (Addr.mk b 0 none) 3)) (asI IntKind.i64)) fun n23 =>
      obind (Option.bind (cell L19 (Addr.add (Addr.mk b 0 none) 4)) (asI IntKind.i64)) fun n24 =>
      some (LR.ret (Value.tuple #[Value.agg #[Value.int IntKind.u8 n20, Value.int IntKind.u8 n21, Value.int IntKind.i64 n22, Value.int IntKind.i64 n23, Value.int IntKind.i64 n24], x, y]) L19)) =
    some (.ret (.tuple #[.agg #[.int .u8 t.k, .int .u8 t.b, .int .i64 t.l, .int .i64 t.d, .int .i64 t.s], x, y]) L) := by
  obtain ⟨e0, e1, e2, e3, e4⟩ := tok_cell h
  rw [e0]; simp only [Option.bind_some, asI_int, obind_some]
  rw [e1]; simp only [Option.bind_some, asI_int, obind_some]
  rw [e2]; simp only [Option.bind_some, asI_int, obind_some]
  rw [e3]; simp only [Option.bind_some, asI_int, obind_some]
  rw [e4]; simp only [Option.bind_some, asI_int, obind_some]
  rw [stores_same h]
  simp only [obind_some]
  exact tok_fin h
theorem stores_tok {L : LHeap} {b : Nat} {t : Tok} (h : L[b]? = some (.cells (tokL t) 29 false 0)) :
    (∀ n, stores L (Addr.add (Addr.mk b 0 none) 0) [.int .u8 n] = some (L.set b (.cells (tokL { t with k := n }) 29 false 0))) ∧
    (∀ n, stores L (Addr.add (Addr.mk b 0 none) 2) [.int .i64 n] = some (L.set b (.cells (tokL { t with l := n }) 29 false 0))) ∧
    (∀ n, stores L (Addr.add (Addr.mk b 0 none) 3) [.int .i64 n] = some (L.set b (.cells (tokL { t with d := n }) 29 false 0))) ∧
    (∀ u : Tok, stores L (Addr.mk b 0 none) [.int .u8 u.k, .int .u8 u.b, .int .i64 u.l, .int .i64 u.d, .int .i64 u.s] = some (L.set b (.cells (tokL u) 29 false 0))) := by
  refine ⟨fun n => ?_, fun n => ?_, fun n => ?_, fun u => ?_⟩
  · rw [mk_add, stores_of h (by simp [tokL])]; rfl
  · rw [mk_add, stores_of h (by simp [tokL])]; rfl
  · rw [mk_add, stores_of h (by simp [tokL])]; rfl
  · rw [stores_of h (by simp [tokL])]; rfl
theorem Step.wide {F G : List Nat} {L L' : LHeap} (h : Step F L F L') (hG : ∀ i ∈ F, i ∈ G) : Step G L G L' := (h.mono hG).less fun _ hi => .inr hi
theorem next_ok {k N d x b1 b2 : Nat} {z1 z2 : List Int} {r : List Bool} {L : LHeap} (h : DS L N d x b1 b2 z1 z2 r) (m1 : may z1 = true) (m2 : may z2 = true) (h277 : z1.length = 277) (h9 : z2.length = 9) (hk : 90 ≤ k) :
    ∃ L' t b e r', f36 k (some ⟨d, 0, none⟩) L = some (.ret (.tuple #[.agg #[.int .u8 t.k, .int .u8 t.b, .int .i64 t.l, .int .i64 t.d, .int .i64 t.s], .bool b, .int .i64 e]) L') ∧ Step [x] L [x] L' ∧ DS L' N d x b1 b2 z1 z2 r' ∧
      (match readTok z1 z2 r with | none => e ≠ 0 | some (none, r'') => e = 0 ∧ b = false ∧ r' = r'' | some (some u, r'') => e = 0 ∧ b = true ∧ t = u ∧ r' = r'') := by
  obtain ⟨k, rfl⟩ : ∃ k', k = k' + 1 := ⟨k - 1, by omega⟩
  rw [f36_eq]
  have hz : [LBlk.cells [Value.int IntKind.u8 0, Value.int IntKind.u8 0, Value.int IntKind.i64 0, Value.int IntKind.i64 0, Value.int IntKind.i64 0] 29 false 0] = [LBlk.cells (tokL ⟨0, 0, 0, 0, 0⟩) 29 false 0] := rfl
  rw [hz]
  have hNL := h.NL
  have s0 : Step [x] L [L.length, x] (L ++ [LBlk.cells (tokL ⟨0, 0, 0, 0, 0⟩) 29 false 0]) := .new _ _ _
  have h0 : DS (L ++ [LBlk.cells (tokL ⟨0, 0, 0, 0, 0⟩) 29 false 0]) N d x b1 b2 z1 z2 r := h.frame (fun i hi => get_push (by omega)) (by simp)
  have g0 : (L ++ [LBlk.cells (tokL ⟨0, 0, 0, 0, 0⟩) 29 false 0])[L.length]? = some (.cells (tokL ⟨0, 0, 0, 0, 0⟩) 29 false 0) := get_new
  generalize hc : L.length = c at *
  have hcx : c ≠ x := by have := h.xN; omega
  generalize L ++ [LBlk.cells (tokL ⟨0, 0, 0, 0, 0⟩) 29 false 0] = L0 at *
  have c0 : cell L0 ((Addr.mk d 0 none).add 0) = some (.pointer (some ⟨x, 0, none⟩)) := by rw [mk_add, cell_of h0.at_d]; rfl
  have c1 : cell L0 ((Addr.mk d 0 none).add 1) = some (.pointer (some ⟨b1, 0, none⟩)) := by rw [mk_add, cell_of h0.at_d]; rfl
  obtain ⟨F, f1, f2, f3⟩ := h0.c1
  obtain ⟨L1, a1, a2, a3⟩ := ctake_ok (k := k) f1 m1 h0.br f2 (by omega)
  simp only [obind_some]
  rw [c1, c0]
  simp only [Option.bind_some, asP_pointer, obind_some]
  rw [a1]
  simp only [lbindR_ret, tupL_tuple, uncons_cons, nilL_nil, asI_int, obind_some]
  have hcL : c < L0.length := get_lt g0
  have keep : ∀ {M M' : LHeap} {v : LBlk}, Step [x] M [x] M' → M[c]? = some v → M'[c]? = some v := fun {M M' v} hs hv => by
    rw [hs.keep c (get_lt hv) (by simpa using hcx), hv]
  have setS : ∀ {M : LHeap} {v : LBlk}, Step [c, x] M [c, x] (M.set c v) := fun {M v} => .set _ (by simp)
  have setD : ∀ {M : LHeap} {v : LBlk} {q : List Bool}, DS M N d x b1 b2 z1 z2 q → DS (M.set c v) N d x b1 b2 z1 z2 q := fun {M v q} hd => hd.frame (fun i hi => get_set_ne (by omega)) (by simp)
  have wide : ∀ {M M' : LHeap}, Step [x] M [x] M' → Step [c, x] M [c, x] M' := fun {M M'} hs => Step.wide hs (by simp)
  have out : ∀ {M : LHeap}, Step [x] L [c, x] M → Step [x] L [x] M := fun {M} hs => hs.less fun i hi => .inr hi
  have h1 := h0.step a3 a2
  have g1 := keep a3 g0
  have s1 : Step [x] L [c, x] L1 := s0.trans (wide a3)
  unfold readTok
  generalize hA : decSym (readSym z1 r).1 = A
  generalize hE : decErr (readSym z1 r).1 = E
  match hx : readSym z1 r with
  | (none, r1) =>
    rw [hx] at h1 hE
    have hE : E = 4 := by rw [← hE]; rfl
    rw [hE, show ((4 : Int) != 0) = true from rfl, lif_true]
    exact ⟨L1, _, _, _, r1, tok_end g1, out s1, h1, show (4 : Int) ≠ 0 by decide⟩
  | (some q, r1) =>
    rw [hx] at h1
    obtain ⟨u1, u2, u3⟩ := readSym_some hx
    rw [hx] at hE hA
    have hE : E = 0 := by rw [← hE]; rfl
    have hA : A = (q : Int) := by rw [← hA]; rfl
    subst hA
    rw [hE, show ((0 : Int) != 0) = false from rfl, lif_false]
    simp only
    by_cases q256 : q = 256
    · rw [if_pos q256, show ((q : Int) == 256) = true by simp; omega, lif_true]
      exact ⟨L1, _, _, _, r1, tok_end g1, out s1, h1, rfl, rfl, rfl⟩
    rw [if_neg q256, show ((q : Int) == 256) = false by simp; omega, lif_false]
    by_cases qlt : q < 256
    · rw [if_pos qlt, decide_eq_true (by omega), lif_true, wU8 (by omega) (by omega)]
      have e := (stores_tok g1).2.2.2 ⟨1, (q : Int), 0, 0, 0⟩
      simp only at e
      rw [e]
      simp only [obind_some]
      exact ⟨_, _, _, _, r1, tok_fin (get_set_self g1), out (s1.trans setS), setD h1, rfl, rfl, rfl, rfl⟩
    rw [if_neg qlt, decide_eq_false (by omega), lif_false]
    by_cases q260 : q ≤ 260
    · rw [if_pos q260, decide_eq_true (by omega), lif_true, wI64 (by omega) (by omega)]
      have e := (stores_tok g1).2.2.2 ⟨3, 0, 0, 0, (q : Int) - 257⟩
      simp only at e
      rw [e]
      simp only [obind_some]
      have g2 := get_set_self (x := .cells (tokL ⟨3, 0, 0, 0, (q : Int) - 257⟩) 29 false 0) g1
      have h2 : DS (L1.set c (.cells (tokL ⟨3, 0, 0, 0, (q : Int) - 257⟩) 29 false 0)) N d x b1 b2 z1 z2 r1 := setD h1
      have s2 : Step [x] L [c, x] (L1.set c (.cells (tokL ⟨3, 0, 0, 0, (q : Int) - 257⟩) 29 false 0)) := s1.trans setS
      generalize L1.set c (.cells (tokL ⟨3, 0, 0, 0, (q : Int) - 257⟩) 29 false 0) = L2 at *
      obtain ⟨L3, v, e3, r2, d1, d2, d3, d4⟩ := long_ok (k := k) h2 m2 h9 (by omega)
      rw [d1]
      simp only [lbind_ret, tupL_tuple, uncons_cons, nilL_nil, asI_int, obind_some]
      have g3 := keep d2 g2
      rw [(stores_tok g3).2.1]
      simp only [obind_some]
      refine ⟨_, _, _, _, r2, tok_end (get_set_self g3), out ((s2.trans (wide d2)).trans setS), setD d3, ?_⟩
      match hy : readLen z2 r1 with
      | none => rw [hy] at d4; exact d4
      | some (l, r3) =>
        rw [hy] at d4
        obtain ⟨w1, w2, w3⟩ := d4
        exact ⟨w1, rfl, by rw [w2], w3⟩
    · rw [if_neg q260, decide_eq_false (by omega), lif_false]
      rw [(stores_tok g1).1]
      simp only [obind_some]
      have g2 := get_set_self (x := .cells (tokL { (⟨0, 0, 0, 0, 0⟩ : Tok) with k := 2 }) 29 false 0) g1
      have h2 : DS (L1.set c (.cells (tokL { (⟨0, 0, 0, 0, 0⟩ : Tok) with k := 2 }) 29 false 0)) N d x b1 b2 z1 z2 r1 := setD h1
      have s2 : Step [x] L [c, x] (L1.set c (.cells (tokL { (⟨0, 0, 0, 0, 0⟩ : Tok) with k := 2 }) 29 false 0)) := s1.trans setS
      generalize L1.set c (.cells (tokL { (⟨0, 0, 0, 0, 0⟩ : Tok) with k := 2 }) 29 false 0) = L2 at *
      rw [wI64 (by omega) (by omega), show (q : Int) - 260 = ((q - 260 : Nat) : Int) by omega]
      have hq16 : q - 260 ≤ 32 := by omega
      generalize q - 260 = qq at *
      obtain ⟨L3, v, e3, r2, d1, d2, d3, d4⟩ := number_ok (k := k) (size := qq) h2 hq16 (by omega)
      rw [d1]
      simp only [lbind_ret, tupL_tuple, uncons_cons, nilL_nil, asI_int, obind_some]
      have g3 := keep d2 g2
      rw [(stores_tok g3).2.2.1]
      simp only [obind_some]
      have g4 := get_set_self (x := .cells (tokL ({ ({ (⟨0, 0, 0, 0, 0⟩ : Tok) with k := 2 } : Tok) with d := v } : Tok)) 29 false 0) g3
      have h4 : DS (L3.set c (.cells (tokL ({ ({ (⟨0, 0, 0, 0, 0⟩ : Tok) with k := 2 } : Tok) with d := v } : Tok)) 29 false 0)) N d x b1 b2 z1 z2 r2 := setD d3
      have s4 : Step [x] L [c, x] (L3.set c (.cells (tokL ({ ({ (⟨0, 0, 0, 0, 0⟩ : Tok) with k := 2 } : Tok) with d := v } : Tok)) 29 false 0)) := (s2.trans (wide d2)).trans setS
      generalize L3.set c (.cells (tokL ({ ({ (⟨0, 0, 0, 0, 0⟩ : Tok) with k := 2 } : Tok) with d := v } : Tok)) 29 false 0) = L4 at *
      match hy : readNum qq r1 with
      | none =>
        rw [hy] at d4
        simp only at d4
        rw [show (e3 != 0) = true by simpa using d4, lif_true]
        exact ⟨_, _, _, _, r2, tok_end g4, out s4, h4, d4⟩
      | some (n, r3) =>
        rw [hy] at d4
        obtain ⟨w1, w2, w3, w4⟩ := d4
        rw [show (e3 != 0) = false by simpa using w1, lif_false]
        obtain ⟨L5, v5, e5, r5, p1, p2, p3, p4⟩ := long_ok (k := k) h4 m2 h9 (by omega)
        rw [p1]
        simp only [lbind_ret, tupL_tuple, uncons_cons, nilL_nil, asI_int, obind_some]
        have g5 := keep p2 g4
        rw [(stores_tok g5).2.1]
        simp only [obind_some]
        refine ⟨_, _, _, _, r5, tok_end (get_set_self g5), out ((s4.trans (wide p2)).trans setS), setD p3, ?_⟩
        rw [← w3]
        match hz : readLen z2 r2 with
        | none => rw [hz] at p4; exact p4
        | some (l, r6) =>
          rw [hz] at p4
          obtain ⟨y1, y2, y3⟩ := p4
          exact ⟨y1, rfl, by rw [y2, w2], y3⟩
theorem strOf_bytesL (s : ByteArray) : strOf (bytesL s) = s := by
  apply ByteArray.ext
  apply Array.ext'
  simp [strOf, bytesL, List.map_map]
  conv => rhs; rw [← List.map_id s.data.toList]
  exact List.map_congr_left fun b _ => UInt8.ofNat_toNat
theorem bytesL_strOf {vs : List Nat} (h : ∀ b ∈ vs, b < 256) : bytesL (strOf vs) = vs := by
  simp only [strOf, bytesL, List.map_map]
  conv => rhs; rw [← List.map_id vs]
  refine List.map_congr_left fun b hb => ?_
  have := h b hb
  simp only [Function.comp, id]
  rw [UInt8.toNat_ofNat', Nat.mod_eq_of_lt this]
theorem bytesL_from (s : ByteArray) (u : Nat) : bytesL (s.extract u s.size) = (bytesL s).drop u := by
  unfold bytesL
  rw [ByteArray.data_extract, ← List.map_drop]
  congr 1
  show (s.data.extract u s.data.size).toList = _
  rw [Array.toList_extract, List.extract_eq_take_drop]
  exact List.take_of_length_le (by simp)
theorem strBits_bytesL (s : ByteArray) : strBits (bytesL s) = Rlm.unpack s := by rw [strBits, strOf_bytesL]
/-- Lengths are read, and a coder is made of them. -/
theorem lens_ok {k n : Nat} {s : ByteArray} {L : LHeap} (hn : n ≤ 512) (hs : s.size < 2 ^ 30) (hk : s.size + 700 ≤ k) :
    ∃ L', Step [] L [] L' ∧ match readTab n (bytesL s) [] 0 (-1) true with
      | none => ∃ p q e, f34 k s (n : Int) L = some (.ret (.tuple #[.pointer p, .string q, .int .i64 e]) L') ∧ e ≠ 0
      | some (zs, u) => if may zs = true then ∃ b F, f34 k s (n : Int) L = some (.ret (.tuple #[.pointer (some ⟨b, 0, none⟩), .string (s.extract u s.size), .int .i64 0]) L') ∧ CO L' b zs F
          else ∃ p q e, f34 k s (n : Int) L = some (.ret (.tuple #[.pointer p, .string q, .int .i64 e]) L') ∧ e ≠ 0 := by
  obtain ⟨k, rfl⟩ : ∃ k', k = k' + 1 := ⟨k - 1, by omega⟩
  rw [f34_eq]
  have hr := read_ok (k := k) (n := n) (s := s) (L := L) hn (by omega) (by omega)
  match hx : readTab n (bytesL s) [] 0 (-1) true with
  | none =>
    rw [hx] at hr
    obtain ⟨L1, a1, a2⟩ := hr
    rw [a1]
    exact ⟨L1, a2, _, _, 4, rfl, by decide⟩
  | some (zs, u) =>
    rw [hx] at hr
    obtain ⟨l, L1, F1, a1, a2, a3⟩ := hr
    obtain ⟨_, hu, hz, _⟩ := readTab_used n (bytesL s) [] 0 (-1) true (by simp) hx
    rw [bytesL_length] at hu
    rw [a1]
    simp only [lbind_ret, tupL_tuple, uncons_cons, nilL_nil, asSl_slice, asI_int, obind_some]
    rw [show ((0 : Int) != 0) = false from rfl, lif_false]
    obtain ⟨n1, n2⟩ := new_ok (k := k) a2.ws.rd (by omega) (by omega)
    have hsub : subS s (some (u : Int)) none = some (s.extract u s.size) := by
      simp only [subS, bound_out (Nat.le_refl s.size), bound_at 0 (show u ≤ s.size by omega), Option.bind_eq_bind, Option.bind_some]
    cases hm : may zs with
    | true =>
      obtain ⟨b, F, L2, b1, b2, b3⟩ := n2 hm
      rw [b1]
      simp only [lbind_ret, tupL_tuple, uncons_cons, nilL_nil, asP_pointer, asI_int, obind_some, hsub]
      exact ⟨L2, (a3.less fun i hi => by cases hi).trans (b3.less fun i hi => by cases hi), by rw [if_pos trivial]; exact ⟨b, F, rfl, b2⟩⟩
    | false =>
      obtain ⟨L2, b1, b3⟩ := n1 hm
      rw [b1]
      simp only [lbind_ret, tupL_tuple, uncons_cons, nilL_nil, asP_pointer, asI_int, obind_some, hsub]
      exact ⟨L2, (a3.less fun i hi => by cases hi).trans b3, by rw [if_neg (by decide)]; exact ⟨_, _, 4, rfl, by decide⟩⟩
theorem size29 : Proofs.Try.prog.types[29].size = 5 := by kernel_rfl
theorem bytes29 : Proofs.Try.prog.types[29].bytes = 32 := by kernel_rfl
theorem src_tok {L : LHeap} {a b c d e : Value} {ty : TypeId} {ro : Bool} {sp q : Nat} : srcOf (L ++ [.cells [a, b, c, d, e] ty ro sp]) 5 1 (.slice (some ⟨L.length, 0, none⟩) 1 q) = some [a, b, c, d, e] := by
  simp [srcOf, srcCells, cellsAt]
  rfl
theorem readTok_less {z1 z2 : List Int} {r r' : List Bool} {t : Option Tok} (h : readTok z1 z2 r = some (t, r')) : r'.length < r.length := by
  have key : ∀ {z : List Int} {r r' : List Bool} {i : Nat}, readSym z r = (some i, r') → r'.length < r.length := by
    intro z r r' i h
    obtain ⟨h1, h2, rfl⟩ := readSym_some h
    have := symBits_pos h2
    simp; omega
  have knum : ∀ {n j : Nat} {r r' : List Bool}, readNum n r = some (j, r') → r'.length ≤ r.length := by
    intro n j r r' h
    obtain ⟨rfl, _⟩ := readNum_some h
    simp
  have klen : ∀ {l : Int} {r r' : List Bool}, readLen z2 r = some (l, r') → r'.length ≤ r.length := by
    intro l r r' h
    unfold readLen at h
    match hx : readSym z2 r with
    | (none, _) => rw [hx] at h; cases h
    | (some j, r1) =>
      rw [hx] at h
      simp only at h
      match hy : readNum j r1 with
      | none => rw [hy] at h; cases h
      | some (x, r2) =>
        rw [hy] at h
        injection h with h; injection h with h1 h2; subst h2
        have := key hx; have := knum hy; omega
  unfold readTok at h
  match hx : readSym z1 r with
  | (none, _) => rw [hx] at h; cases h
  | (some k, r1) =>
    rw [hx] at h
    have h1 := key hx
    simp only at h
    split at h
    · injection h with h; injection h with h2 h3; subst h3; exact h1
    · split at h
      · injection h with h; injection h with h2 h3; subst h3; exact h1
      · split at h
        · match hy : readLen z2 r1 with
          | none => rw [hy] at h; cases h
          | some (l, r2) =>
            rw [hy] at h
            injection h with h; injection h with h2 h3; subst h3
            have := klen hy; omega
        · generalize k - 260 = q at h
          match hy : readNum q r1 with
          | none => rw [hy] at h; cases h
          | some (d, r2) =>
            rw [hy] at h
            simp only at h
            match hz : readLen z2 r2 with
            | none => rw [hz] at h; cases h
            | some (l, r3) =>
              rw [hz] at h
              injection h with h; injection h with h2 h3; subst h3
              have := klen hz; have := knum hy; omega
theorem unpack_loop {k N d x b1 b2 : Nat} {z1 z2 : List Int} (m1 : may z1 = true) (m2 : may z2 = true) (h277 : z1.length = 277) (h9 : z2.length = 9) (hk : 100 ≤ k) :
    ∀ (f j : Nat) (l : Sl) (acc : List Tok) (r : List Bool) (Fo : List Nat) (L : LHeap), r.length < f → f ≤ j → DS L N d x b1 b2 z1 z2 r → OZ L l (acc.flatMap tokL) 29 5 Fo → (∀ i ∈ Fo, N ≤ i) → acc.length + f < 2 ^ 30 →
    match readToks z1 z2 f r acc with
    | none => ∃ L', f19_l9 k j d l L = some (.ret (.tuple #[.slice none 0 0, .int .i64 4]) L') ∧ Step (x :: Fo) L [] L'
    | some ts => ∃ l' L' F', f19_l9 k j d l L = some (.ret (.tuple #[.slice l'.a l'.n l'.c, .int .i64 0]) L') ∧ OZ L' l' (ts.flatMap tokL) 29 5 F' ∧ Step (x :: Fo) L F' L' ∧ ∀ i ∈ F', N ≤ i := by
  intro f
  induction f with
  | zero => intro j l acc r Fo L hr; omega
  | succ f ih =>
    intro j l acc r Fo L hr hj h hO hF hlen
    obtain ⟨j, rfl⟩ : ∃ j', j = j' + 1 := ⟨j - 1, by omega⟩
    obtain ⟨L1, t, b, e, r1, a1, a2, a3, a4⟩ := next_ok (k := k) h m1 m2 h277 h9 (by omega)
    rw [f19_l9_eq, a1]
    simp only [lbind_ret, tupL_tuple, uncons_cons, nilL_nil, asI_int, asB_bool, obind_some]
    rw [show aggL (List.length ([Leaf.i IntKind.u8] ++ ([Leaf.i IntKind.u8] ++ ([Leaf.i IntKind.i64] ++ ([Leaf.i IntKind.i64] ++ ([Leaf.i IntKind.i64] ++ [])))))) (.agg #[.int .u8 t.k, .int .u8 t.b, .int .i64 t.l, .int .i64 t.d, .int .i64 t.s]) = some [.int .u8 t.k, .int .u8 t.b, .int .i64 t.l, .int .i64 t.d, .int .i64 t.s] from rfl]
    simp only [uncons_cons, nilL_nil, asI_int, obind_some]
    rw [stores_new (by rfl)]
    simp only [obind_some]
    have hx : L1 ++ [LBlk.cells [Value.int .u8 t.k, Value.int .u8 t.b, Value.int .i64 t.l, Value.int .i64 t.d, Value.int .i64 t.s] 29 false 0] = L1 ++ [LBlk.cells (tokL t) 29 false 0] := rfl
    rw [hx]
    have g0 : (L1 ++ [LBlk.cells (tokL t) 29 false 0])[L1.length]? = some (.cells (tokL t) 29 false 0) := get_new
    have hO1 := hO.mono (a2.others hO.within fun i hi hf => by simp at hi; subst hi; have := hF _ hf; have := h.xN; omega)
    have hO2 : OZ (L1 ++ [LBlk.cells (tokL t) 29 false 0]) l (acc.flatMap tokL) 29 5 Fo := hO1.mono fun i hi => get_push (hO1.within i hi)
    have h2 : DS (L1 ++ [LBlk.cells (tokL t) 29 false 0]) N d x b1 b2 z1 z2 r1 := a3.frame (fun i hi => get_push (by have := a3.NL; omega)) (by simp)
    have st2 : Step (x :: Fo) L (x :: Fo) (L1 ++ [LBlk.cells (tokL t) 29 false 0]) := (Step.wide a2 (by simp)).trans (.push _ _ _)
    have hlt : L1.length < (L1 ++ [LBlk.cells (tokL t) 29 false 0]).length := by simp
    generalize L1 ++ [LBlk.cells (tokL t) 29 false 0] = L2 at *
    have stN : Step (x :: Fo) L [] L2 := st2.less fun i hi => by cases hi
    unfold readToks
    match hy : readTok z1 z2 r with
    | none =>
      rw [hy] at a4
      simp only at a4 ⊢
      rw [show (e != 0) = true by simpa using a4, lif_true]
      exact ⟨L2, rfl, stN⟩
    | some (none, r2) =>
      rw [hy] at a4
      obtain ⟨rfl, rfl, rfl⟩ := a4
      simp only
      rw [show ((0 : Int) != 0) = false from rfl, lif_false, Bool.not_false, lif_true]
      have c0 : cell L2 ((Addr.mk d 0 none).add 0) = some (.pointer (some ⟨x, 0, none⟩)) := by rw [mk_add, cell_of h2.at_d]; rfl
      rw [c0]
      simp only [Option.bind_some, asP_pointer, obind_some]
      rw [end_ok h2.br (by omega)]
      simp only [lbind_ret, asB_bool, obind_some]
      have he : endOf r1 = endOk r1 := rfl
      rw [he]
      cases hend : endOk r1 with
      | true =>
        simp only [if_true]
        rw [Bool.not_true, lif_false, lif_true]
        exact ⟨l, L2, Fo, rfl, hO2, st2.less (fun i hi => .inl (by simp [hi])), hF⟩
      | false =>
        simp only [Bool.false_eq_true, if_false]
        rw [Bool.not_false, lif_true]
        exact ⟨L2, rfl, stN⟩
    | some (some u, r2) =>
      rw [hy] at a4
      obtain ⟨rfl, rfl, rfl, rfl⟩ := a4
      have hless := readTok_less hy
      simp only
      rw [show ((0 : Int) != 0) = false from rfl, lif_false, Bool.not_true, lif_false, lif_false]
      obtain ⟨e0, e1, e2, e3, e4⟩ := tok_cell g0
      rw [e0]; simp only [Option.bind_some, asI_int, obind_some]
      rw [e1]; simp only [Option.bind_some, asI_int, obind_some]
      rw [e2]; simp only [Option.bind_some, asI_int, obind_some]
      rw [e3]; simp only [Option.bind_some, asI_int, obind_some]
      rw [e4]; simp only [Option.bind_some, asI_int, obind_some]
      rw [shape_ok (by omega)]
      simp only [lbind_ret, asB_bool, obind_some]
      have g3 : (L2 ++ [LBlk.cells (tokL t) 29 false 0])[L1.length]? = some (.cells (tokL t) 29 false 0) := by rw [get_push hlt, g0]
      have hO3 : OZ (L2 ++ [LBlk.cells (tokL t) 29 false 0]) l (acc.flatMap tokL) 29 5 Fo := hO2.mono fun i hi => get_push (hO2.within i hi)
      have h3 : DS (L2 ++ [LBlk.cells (tokL t) 29 false 0]) N d x b1 b2 z1 z2 r1 := h2.frame (fun i hi => get_push (by have := h2.NL; omega)) (by simp)
      have st3 : Step (x :: Fo) L (x :: Fo) (L2 ++ [LBlk.cells (tokL t) 29 false 0]) := st2.trans (.push _ _ _)
      generalize L2 ++ [LBlk.cells (tokL t) 29 false 0] = L3 at *
      cases hsh : tokShape t with
      | false =>
        simp only [Bool.false_eq_true, if_false]
        rw [Bool.not_false, lif_true]
        exact ⟨L3, rfl, st3.less fun i hi => by cases hi⟩
      | true =>
        simp only [if_true]
        rw [Bool.not_true, lif_false]
        obtain ⟨e0, e1, e2, e3, e4⟩ := tok_cell g3
        rw [e0]; simp only [Option.bind_some, asI_int, obind_some]
        rw [e1]; simp only [Option.bind_some, asI_int, obind_some]
        rw [e2]; simp only [Option.bind_some, asI_int, obind_some]
        rw [e3]; simp only [Option.bind_some, asI_int, obind_some]
        rw [e4]; simp only [Option.bind_some, asI_int, obind_some]
        rw [size29, bytes29, src_tok]
        simp only [obind_some]
        have hO4 : OZ (L3 ++ [LBlk.cells [Value.int .u8 t.k, Value.int .u8 t.b, Value.int .i64 t.l, Value.int .i64 t.d, Value.int .i64 t.s] 29 false 0]) l (acc.flatMap tokL) 29 5 Fo := hO3.mono fun i hi => get_push (hO3.within i hi)
        have h4 : DS (L3 ++ [LBlk.cells [Value.int .u8 t.k, Value.int .u8 t.b, Value.int .i64 t.l, Value.int .i64 t.d, Value.int .i64 t.s] 29 false 0]) N d x b1 b2 z1 z2 r1 := h3.frame (fun i hi => get_push (by have := h3.NL; omega)) (by simp)
        have st4 : Step (x :: Fo) L (x :: Fo) (L3 ++ [LBlk.cells [Value.int .u8 t.k, Value.int .u8 t.b, Value.int .i64 t.l, Value.int .i64 t.d, Value.int .i64 t.s] 29 false 0]) := st3.trans (.push _ _ _)
        generalize L3 ++ [LBlk.cells [Value.int .u8 t.k, Value.int .u8 t.b, Value.int .i64 t.l, Value.int .i64 t.d, Value.int .i64 t.s] 29 false 0] = L4 at *
        have hn := (OZ.rt hO4).len
        obtain ⟨s', L5, F5, p1, p2, p3, p4⟩ := hO4.app [.int .u8 t.k, .int .u8 t.b, .int .i64 t.l, .int .i64 t.d, .int .i64 t.s] 1 32 (by omega) (by rfl) (by omega) (by omega)
        rw [p1]
        simp only [obind_some]
        have hFl : ∀ i ∈ F5, N ≤ i := fun i hi => by
          rcases p4.foot i hi with q | q
          · exact hF i q
          · have := h4.NL; omega
        have h5 : DS L5 N d x b1 b2 z1 z2 r1 := h4.frame (fun i hi => p4.keep i (by have := h4.NL; omega) fun hf => by have := hF i hf; omega) p4.len
        have hcat : acc.flatMap tokL ++ [.int .u8 t.k, .int .u8 t.b, .int .i64 t.l, .int .i64 t.d, .int .i64 t.s] = (acc ++ [t]).flatMap tokL := by simp [tokL]
        rw [hcat] at p2
        have st5 : Step (x :: Fo) L (x :: F5) L5 := st4.trans ⟨p4.len, fun i hi hn => p4.keep i hi fun hf => hn (by simp [hf]), fun i hi => by
          rcases List.mem_cons.1 hi with rfl | hi
          · exact .inl (by simp)
          · rcases p4.foot i hi with q | q
            · exact .inl (by simp [q])
            · exact .inr q⟩
        have := ih j s' (acc ++ [t]) r1 F5 L5 (by omega) (by omega) h5 p2 hFl (by simp; omega)
        match hz : readToks z1 z2 f r1 (acc ++ [t]) with
        | none =>
          rw [hz] at this
          obtain ⟨L6, q1, q2⟩ := this
          exact ⟨L6, q1, st5.trans q2⟩
        | some ts =>
          rw [hz] at this
          obtain ⟨l6, L6, F6, q1, q2, q3, q4⟩ := this
          exact ⟨l6, L6, F6, q1, q2, st5.trans q3, q4⟩
/-- **Unpack.** -/
theorem unpack_ok {k : Nat} {s : ByteArray} {L : LHeap} (hs : s.size < 2 ^ 25) (hk : 8 * s.size + 900 ≤ k) :
    match unpackB (bytesL s) with
    | none => ∃ L', f19 k s L = some (.ret (.tuple #[.slice none 0 0, .int .i64 4]) L') ∧ Step [] L [] L'
    | some ts => ∃ l' L' F', f19 k s L = some (.ret (.tuple #[.slice l'.a l'.n l'.c, .int .i64 0]) L') ∧ OZ L' l' (ts.flatMap tokL) 29 5 F' ∧ Step [] L F' L' := by
  obtain ⟨k, rfl⟩ : ∃ k', k = k' + 1 := ⟨k - 1, by omega⟩
  rw [f19_eq]
  obtain ⟨L1, s1, a1⟩ := lens_ok (k := k) (n := 277) (s := s) (L := L) (by omega) (by omega) (by omega)
  have e277 : (277 : Int) = ((277 : Nat) : Int) := rfl
  have e9 : (9 : Int) = ((9 : Nat) : Int) := rfl
  unfold unpackB unpackS
  match hx : readTab 277 (bytesL s) [] 0 (-1) true with
  | none =>
    rw [hx] at a1
    obtain ⟨p, q, e, a2, a3⟩ := a1
    rw [e277, a2]
    simp only [lbind_ret, tupL_tuple, uncons_cons, nilL_nil, asP_pointer, asS_string, asI_int, obind_some]
    rw [show (e != 0) = true by simpa using a3, lif_true]
    exact ⟨L1, rfl, s1⟩
  | some (z1, u) =>
    rw [hx] at a1
    simp only at a1 ⊢
    obtain ⟨_, hu, hz1, _⟩ := readTab_used 277 (bytesL s) [] 0 (-1) true (by simp) hx
    rw [bytesL_length] at hu
    cases m1 : may z1 with
    | false =>
      rw [m1, if_neg (by decide)] at a1
      obtain ⟨p, q, e, a2, a3⟩ := a1
      rw [e277, a2]
      simp only [lbind_ret, tupL_tuple, uncons_cons, nilL_nil, asP_pointer, asS_string, asI_int, obind_some, Bool.false_eq_true, if_false]
      rw [show (e != 0) = true by simpa using a3, lif_true]
      exact ⟨L1, rfl, s1⟩
    | true =>
      rw [m1, if_pos rfl] at a1
      obtain ⟨b1, F1, a2, a3⟩ := a1
      rw [e277, a2]
      simp only [lbind_ret, tupL_tuple, uncons_cons, nilL_nil, asP_pointer, asS_string, asI_int, obind_some, if_true]
      rw [show ((0 : Int) != 0) = false from rfl, lif_false]
      have hsz : (s.extract u s.size).size = s.size - u := by rw [ByteArray.size_extract]; omega
      obtain ⟨L2, s2, b⟩ := lens_ok (k := k) (n := 9) (s := s.extract u s.size) (L := L1) (by omega) (by omega) (by omega)
      rw [bytesL_from] at b
      rw [e9]
      match hy : readTab 9 ((bytesL s).drop u) [] 0 (-1) true with
      | none =>
        rw [hy] at b
        obtain ⟨p, q, e, c2, c3⟩ := b
        rw [c2]
        simp only [lbind_ret, tupL_tuple, uncons_cons, nilL_nil, asP_pointer, asS_string, asI_int, obind_some]
        rw [show (e != 0) = true by simpa using c3, lif_true]
        exact ⟨L2, rfl, s1.trans s2⟩
      | some (z2, v) =>
        rw [hy] at b
        simp only at b ⊢
        obtain ⟨_, hv, hz2, _⟩ := readTab_used 9 ((bytesL s).drop u) [] 0 (-1) true (by simp) hy
        cases m2 : may z2 with
        | false =>
          rw [m2, if_neg (by decide)] at b
          obtain ⟨p, q, e, c2, c3⟩ := b
          rw [c2]
          simp only [lbind_ret, tupL_tuple, uncons_cons, nilL_nil, asP_pointer, asS_string, asI_int, obind_some, Bool.false_eq_true, if_false]
          rw [show (e != 0) = true by simpa using c3, lif_true]
          exact ⟨L2, rfl, s1.trans s2⟩
        | true =>
          rw [m2, if_pos rfl] at b
          obtain ⟨b2, F2, c2, c3⟩ := b
          rw [c2]
          simp only [lbind_ret, tupL_tuple, uncons_cons, nilL_nil, asP_pointer, asS_string, asI_int, obind_some, if_true]
          rw [show ((0 : Int) != 0) = false from rfl, lif_false]
          have hbits : Rlm.unpack ((s.extract u s.size).extract v (s.extract u s.size).size) = strBits (((bytesL s).drop u).drop v) := by
            rw [← strBits_bytesL, bytesL_from, bytesL_from]
          generalize hs3 : (s.extract u s.size).extract v (s.extract u s.size).size = s3 at *
          have hsz3 : s3.size ≤ s.size := by rw [← hs3, ByteArray.size_extract, hsz]; omega
          obtain ⟨L3, o1, o2, o3⟩ := open_ok (k := k) (s := s3) (L := L2) (by omega) (by omega)
          rw [o1]
          simp only [lbind_ret, asP_pointer, obind_some]
          have cO1 : CO L2 b1 z1 F1 := a3.mono (s2.others a3.within fun _ h => by cases h) s2.len
          have c1' : CO L3 b1 z1 F1 := cO1.mono (o3.others cO1.within fun _ h => by cases h) o3.len
          have c2' : CO L3 b2 z2 F2 := c3.mono (o3.others c3.within fun _ h => by cases h) o3.len
          have hlt3 : L2.length < L3.length := o2.lt
          have st4 : Step [L2.length] L3 [L2.length] (L3 ++ [LBlk.cells [Value.pointer (some ⟨L2.length, 0, none⟩), Value.pointer (some ⟨b1, 0, none⟩), Value.pointer (some ⟨b2, 0, none⟩)] 65 false 0]) := .push _ _ _
          have hds : DS (L3 ++ [LBlk.cells [Value.pointer (some ⟨L2.length, 0, none⟩), Value.pointer (some ⟨b1, 0, none⟩), Value.pointer (some ⟨b2, 0, none⟩)] 65 false 0]) (L3.length + 1) L3.length L2.length b1 b2 z1 z2 (Rlm.unpack s3) := by
            refine ⟨get_new, o2.mono (get_push hlt3), ⟨F1, c1'.mono (fun i hi => get_push (c1'.within i hi)) (by simp), ?_, fun i hi => by have := c1'.within i hi; omega⟩, ⟨F2, c2'.mono (fun i hi => get_push (c2'.within i hi)) (by simp), ?_, fun i hi => by have := c2'.within i hi; omega⟩, by omega, by omega, by omega, by simp⟩
            · intro hf; have := cO1.within _ hf; omega
            · intro hf; have := c3.within _ hf; omega
          have hul : (Rlm.unpack s3).length = 8 * s3.size := unpack_length _
          have := unpack_loop (k := k) (N := L3.length + 1) (d := L3.length) (x := L2.length) (b1 := b1) (b2 := b2) m1 m2 hz1 hz2 (by omega) (8 * (bytesL s).length + 1) k ⟨none, 0, 0⟩ [] (Rlm.unpack s3) [] _ (by rw [hul, bytesL_length]; omega) (by rw [bytesL_length]; omega) hds (OZ.nil _ _ (by omega)) (fun i hi => by cases hi) (by rw [bytesL_length]; simp; omega)
          rw [hbits] at this
          match hz : readToks z1 z2 (8 * (bytesL s).length + 1) (strBits (((bytesL s).drop u).drop v)) [] with
          | none =>
            rw [hz] at this
            obtain ⟨L5, q1, q2⟩ := this
            refine ⟨L5, q1, (((s1.trans s2).trans o3).trans st4).trans q2⟩
          | some ts =>
            rw [hz] at this
            obtain ⟨l5, L5, F5, q1, q2, q3, q4⟩ := this
            exact ⟨l5, L5, F5, q1, q2, (((s1.trans s2).trans o3).trans st4).trans q3⟩
end Go.Proofs.Ytflhogapjmdkaaa.X
end

section
set_option maxRecDepth 100000
set_option linter.unusedVariables false
namespace Go.Proofs.Ytflhogapjmdkaaa.X
open Go Go.Rlm
theorem RT.lit {L : LHeap} {ts : List Tok} {n sp : Nat} {ro : Bool} (hn : n = ts.length) : RT (L ++ [.cells (ts.flatMap tokL) 29 ro sp]) ⟨some ⟨L.length, 0, none⟩, n, n⟩ ts [L.length] :=
  ⟨hn, .inr ⟨L.length, 0, _, 29, ro, sp, rfl, get_new, fun i t ht j v hv => by rw [Nat.zero_add]; exact tokL_get ht hv, rfl⟩⟩
/-- Tokens that can be packed: what comes of it. -/
theorem packStr_ok {ts : List Tok} (h : ∀ t ∈ ts, tokShape t = true) : packStr ts = strOf (packB ts) ∧ packErr ts = 0 := by
  have : ts.all tokShape = true := by simpa using h
  unfold packStr packErr
  rw [this]
  exact ⟨rfl, rfl⟩
end Go.Proofs.Ytflhogapjmdkaaa.X
end

section
set_option maxRecDepth 100000
set_option linter.unusedVariables false
namespace Go.Proofs.Ytflhogapjmdkaaa.X
open Go Go.Rlm
theorem str_beq (a b : ByteArray) : (a.toList == b.toList) = decide (a = b) := by
  rw [toList_data, toList_data, Bool.eq_iff_iff]
  simp only [beq_iff_eq, decide_eq_true_eq]
  constructor
  · intro h; exact ByteArray.ext (Array.toList_inj.1 h)
  · intro h; rw [h]
end Go.Proofs.Ytflhogapjmdkaaa.X
end

section
set_option maxRecDepth 100000
set_option linter.unusedVariables false
namespace Go.Proofs.Ytflhogapjmdkaaa.X
open Go Go.Rlm
/-- (*hamper/match.finder).learn -/
noncomputable def f85 (k : Nat) (p0 : Option Addr) (n1 : Int) (L : LHeap) : R :=
  lcall Proofs.Try.prog Proofs.Ytflhogapjmdkaaa.X.T k 85 [Value.pointer p0, Value.int IntKind.i64 n1] L
/-- (*hamper/match.finder).longest$1 -/
noncomputable def f86 (k : Nat) (n0 : Int) (r1 : Nat) (r2 : Nat) (r3 : Nat) (r4 : Nat) (L : LHeap) : R :=
  lcall Proofs.Try.prog Proofs.Ytflhogapjmdkaaa.X.T k 86
  [Value.int IntKind.i64 n0, Value.pointer (some (Addr.mk r1 0 none)), Value.pointer (some (Addr.mk r2 0 none)), Value.pointer (some (Addr.mk r3 0 none)), Value.pointer (some (Addr.mk r4 0 none))] L
/-- (*hamper/match.finder).alike -/
noncomputable def f87 (k : Nat) (p0 : Option Addr) (n1 : Int) (n2 : Int) (L : LHeap) : R :=
  lcall Proofs.Try.prog Proofs.Ytflhogapjmdkaaa.X.T k 87 [Value.pointer p0, Value.int IntKind.i64 n1, Value.int IntKind.i64 n2] L
/-- slices.Backward[[]int,int] -/
noncomputable def f88 (k : Nat) (l0 : Sl) (L : LHeap) : R :=
  lcall Proofs.Try.prog Proofs.Ytflhogapjmdkaaa.X.T k 88 [Value.slice l0.a l0.n l0.c] L
/-- (*hamper/match.finder).key -/
noncomputable def f89 (k : Nat) (p0 : Option Addr) (n1 : Int) (L : LHeap) : R :=
  lcall Proofs.Try.prog Proofs.Ytflhogapjmdkaaa.X.T k 89 [Value.pointer p0, Value.int IntKind.i64 n1] L
/-- slices.Backward[[]int,int]$1 -/
noncomputable def f99 (k : Nat) (v0 : Value) (r1 : Nat) (L : LHeap) : R :=
  lcall Proofs.Try.prog Proofs.Ytflhogapjmdkaaa.X.T k 99 [v0, Value.pointer (some (Addr.mk r1 0 none))] L
/-- (*hamper/match.finder).longest -/
noncomputable def f71 (k : Nat) (p0 : Option Addr) (n1 : Int) (L : LHeap) : R :=
  lcall Proofs.Try.prog Proofs.Ytflhogapjmdkaaa.X.T k 71 [Value.pointer p0, Value.int IntKind.i64 n1] L
/-- slots 0, 1 -/
noncomputable def f85_l0 (k : Nat) (j0 : Nat) (p37 : Option Addr) (n38 : Int) (L : LHeap) : R :=
  loopAt Proofs.Try.prog Proofs.Ytflhogapjmdkaaa.X.T 85 k [0] [] j0 [(0, Value.pointer p37), (1, Value.int IntKind.i64 n38)] L
theorem f85_eq (k : Nat) (p0 : Option Addr) (n1 : Int) (L : LHeap) : Proofs.Ytflhogapjmdkaaa.X.f85 (k + 1) p0 n1 L =
  Proofs.Ytflhogapjmdkaaa.X.f85_l0 k k p0 n1 L := by kernel_rfl
theorem f85_l0_eq (k : Nat) (j0 : Nat) (p0 : Option Addr) (n1 : Int) (L : LHeap) : Proofs.Ytflhogapjmdkaaa.X.f85_l0 k (j0 + 1) p0 n1 L =
  obind p0 fun a2 =>
  obind (Option.bind (cell L (Addr.add a2 2)) (asI IntKind.i64)) fun n3 =>
    lif (decide (n3 < n1))
      (obind p0 fun a4 =>
        obind (Option.bind (cell L (Addr.add a4 2)) (asI IntKind.i64)) fun n5 =>
          obind p0 fun a6 =>
            obind (Option.bind (cell L (Addr.add a6 0)) asS) fun s7 =>
              lif (decide (IntKind.wrap IntKind.i64 (n5 + 3) ≤ (↑(ByteArray.size s7) : Int)))
                (obind p0 fun a8 =>
                  obind (Option.bind (cell L (Addr.add a8 2)) (asI IntKind.i64)) fun n9 =>
                    lbind (Proofs.Ytflhogapjmdkaaa.X.f89 k p0 n9 L) fun v10 L11 =>
                      obind (asS v10) fun s12 =>
                        obind p0 fun a13 =>
                          obind (Option.bind (cell L11 (Addr.add a13 1)) asM) fun x14 =>
                            obind p0 fun a15 =>
                              obind (Option.bind (cell L11 (Addr.add a15 1)) asM) fun x16 =>
                                obind (mcells L11 x16) fun x17 =>
                                  obind
                                    (mlook (TypeInfo.mk TypeDesc.string "string" 1 16 true 8 8 (some (Value.string (ByteArray.mk #[]))) true #[]).desc (Value.string s12) (Value.slice none 0 0)
                                      x17.fst)
                                    fun x18 =>
                                    obind (asSl x18.fst) fun l19 =>
                                      obind p0 fun a20 =>
                                        obind (Option.bind (cell L11 (Addr.add a20 2)) (asI IntKind.i64)) fun n21 =>
                                          obind (mcells (L11 ++ [LBlk.cells [Value.int IntKind.i64 n21] 3 false 0]) x16) fun x22 =>
                                            obind
                                              (mlook (TypeInfo.mk TypeDesc.string "string" 1 16 true 8 8 (some (Value.string (ByteArray.mk #[]))) true #[]).desc (Value.string s12)
                                                (Value.slice none 0 0) x22.fst)
                                              fun x23 =>
                                              obind (asSl x23.fst) fun l24 =>
                                                when (same (Value.slice l19.a l19.n l19.c) (Value.slice l24.a l24.n l24.c))
                                                  (obind (Option.bind (cell (L11 ++ [LBlk.cells [Value.int IntKind.i64 n21] 3 false 0]) (Addr.add a15 1)) asM) fun x25 =>
                                                    when (same (Value.map x16) (Value.map x25))
                                                      (obind (Option.bind (cell (L11 ++ [LBlk.cells [Value.int IntKind.i64 n21] 3 false 0]) (Addr.add a13 1)) asM) fun x26 =>
                                                        when (same (Value.map x14) (Value.map x26))
                                                          (obind
                                                            (srcOf (L11 ++ [LBlk.cells [Value.int IntKind.i64 n21] 3 false 0]) Proofs.Try.prog.types[3].size 1
                                                              (Value.slice (some (Addr.mk (List.length L11) 0 none)) 1 1))
                                                            fun x27 =>
                                                            obind
                                                              (app (L11 ++ [LBlk.cells [Value.int IntKind.i64 n21] 3 false 0]) 3 Proofs.Try.prog.types[3].size Proofs.Try.prog.types[3].bytes l19 1 x27)
                                                              fun x28 =>
                                                              obind (Option.bind (cell x28.snd (Addr.add a13 1)) asM) fun x29 =>
                                                                when (same (Value.map x14) (Value.map x29))
                                                                  (obind x14 fun x30 =>
                                                                    obind (mcells x28.snd (some x30)) fun x31 =>
                                                                      obind
                                                                        (mput (TypeInfo.mk TypeDesc.string "string" 1 16 true 8 8 (some (Value.string (ByteArray.mk #[]))) true #[]).desc
                                                                          (Value.string s12) (Value.slice x28.fst.a x28.fst.n x28.fst.c) x31.fst x31.snd)
                                                                        fun x32 =>
                                                                        obind p0 fun a33 =>
                                                                          obind (Option.bind (cell (List.set x28.snd x30 (LBlk.map x32.fst x32.snd)) (Addr.add a33 2)) (asI IntKind.i64)) fun n34 =>
                                                                            obind p0 fun a35 =>
                                                                              obind
                                                                                (stores (List.set x28.snd x30 (LBlk.map x32.fst x32.snd)) (Addr.add a35 2)
                                                                                  [Value.int IntKind.i64 (IntKind.wrap IntKind.i64 (n34 + 1))])
                                                                                fun L36 => Proofs.Ytflhogapjmdkaaa.X.f85_l0 k j0 p0 n1 L36)))))
                (some (LR.ret (Value.tuple #[]) L)))
      (some (LR.ret (Value.tuple #[]) L)) := by kernel_rfl
theorem f86_eq (k : Nat) (n0 : Int) (r1 : Nat) (r2 : Nat) (r3 : Nat) (r4 : Nat) (L : LHeap) : Proofs.Ytflhogapjmdkaaa.X.f86 (k + 1) n0 r1 r2 r3 r4 L =
  obind (Option.bind (cell L (Addr.mk r1 0 none)) (asI IntKind.i64)) fun n5 =>
  lif (decide (n0 ≥ n5)) (obind (Option.bind (cell L (Addr.mk r1 0 none)) (asI IntKind.i64)) fun n6 => some (LR.ret (Value.bool (decide (n0 ≥ n6))) L))
    (obind (Option.bind (cell L (Addr.mk r1 0 none)) (asI IntKind.i64)) fun n7 =>
      lif (decide (IntKind.wrap IntKind.i64 (n7 - n0) > 32768)) (obind (Option.bind (cell L (Addr.mk r1 0 none)) (asI IntKind.i64)) fun n8 => some (LR.ret (Value.bool (decide (n0 ≥ n8))) L))
        (obind (Option.bind (cell L (Addr.mk r2 0 none)) asP) fun x9 =>
          obind (Option.bind (cell L (Addr.mk r1 0 none)) (asI IntKind.i64)) fun n10 =>
            lbind (Proofs.Ytflhogapjmdkaaa.X.f87 k x9 n10 n0 L) fun v11 L12 =>
              obind (asI IntKind.i64 v11) fun n13 =>
                obind (Option.bind (cell L12 (Addr.mk r3 0 none)) (asI IntKind.i64)) fun n14 =>
                  lif (decide (n13 > n14))
                    (obind (Option.bind (cell L12 (Addr.mk r1 0 none)) (asI IntKind.i64)) fun n15 =>
                      obind (stores L12 (Addr.mk r3 0 none) [Value.int IntKind.i64 n13]) fun L16 =>
                        obind (Option.bind (cell L16 (Addr.mk r1 0 none)) (asI IntKind.i64)) fun n17 =>
                          when (same (Value.int IntKind.i64 n15) (Value.int IntKind.i64 n17))
                            (obind (stores L16 (Addr.mk r4 0 none) [Value.int IntKind.i64 (IntKind.wrap IntKind.i64 (n15 - n0))]) fun L18 =>
                              obind (Option.bind (cell L18 (Addr.mk r3 0 none)) (asI IntKind.i64)) fun n19 => some (LR.ret (Value.bool (decide (n19 < 258))) L18)))
                    (obind (Option.bind (cell L12 (Addr.mk r3 0 none)) (asI IntKind.i64)) fun n20 => some (LR.ret (Value.bool (decide (n20 < 258))) L12)))) := by kernel_rfl
/-- slots 0, 1, 2, 7, 8 -/
noncomputable def f87_l3 (k : Nat) (j3 : Nat) (p11 : Option Addr) (n12 : Int) (n13 : Int) (n14 : Int) (n15 : Int) (L : LHeap) : R :=
  loopAt Proofs.Try.prog Proofs.Ytflhogapjmdkaaa.X.T 87 k [1, 1, 1, 0, 0] [] j3
  [(0, Value.pointer p11), (1, Value.int IntKind.i64 n12), (2, Value.int IntKind.i64 n13), (7, Value.int IntKind.i64 n14), (8, Value.int IntKind.i64 n15)] L
theorem f87_eq (k : Nat) (p0 : Option Addr) (n1 : Int) (n2 : Int) (L : LHeap) : Proofs.Ytflhogapjmdkaaa.X.f87 (k + 1) p0 n1 n2 L =
  obind p0 fun a3 =>
  obind (Option.bind (cell L (Addr.add a3 0)) asS) fun s4 =>
    Proofs.Ytflhogapjmdkaaa.X.f87_l3 k k p0 n1 n2
      (if false = true then if IntKind.wrap IntKind.i64 ((↑(ByteArray.size s4) : Int) - n1) > 258 then IntKind.wrap IntKind.i64 ((↑(ByteArray.size s4) : Int) - n1) else 258
      else if IntKind.wrap IntKind.i64 ((↑(ByteArray.size s4) : Int) - n1) < 258 then IntKind.wrap IntKind.i64 ((↑(ByteArray.size s4) : Int) - n1) else 258)
      0 L := by kernel_rfl
theorem f87_l3_eq (k : Nat) (j3 : Nat) (p0 : Option Addr) (n1 : Int) (n2 : Int) (n3 : Int) (n4 : Int) (L : LHeap) : Proofs.Ytflhogapjmdkaaa.X.f87_l3 k (j3 + 1) p0 n1 n2 n3 n4 L =
  lif (decide (n4 < n3))
  (obind p0 fun a5 =>
    obind (Option.bind (cell L (Addr.add a5 0)) asS) fun s6 =>
      obind (byteAt s6 (IntKind.wrap IntKind.i64 (n1 + n4))) fun n7 =>
        obind p0 fun a8 =>
          obind (Option.bind (cell L (Addr.add a8 0)) asS) fun s9 =>
            obind (byteAt s9 (IntKind.wrap IntKind.i64 (n2 + n4))) fun n10 =>
              lif (n7 == n10) (Proofs.Ytflhogapjmdkaaa.X.f87_l3 k j3 p0 n1 n2 n3 (IntKind.wrap IntKind.i64 (n4 + 1)) L) (some (LR.ret (Value.int IntKind.i64 n4) L)))
  (some (LR.ret (Value.int IntKind.i64 n4) L)) := by kernel_rfl
theorem f88_eq (k : Nat) (l0 : Sl) (L : LHeap) : Proofs.Ytflhogapjmdkaaa.X.f88 (k + 1) l0 L =
  some (LR.ret (Value.func (Fn.func 99) #[] #[Value.pointer (some (Addr.mk (List.length L) 0 none))]) (L ++ [LBlk.cells [Value.slice l0.a l0.n l0.c] 49 false 0])) := by kernel_rfl
theorem f89_eq (k : Nat) (p0 : Option Addr) (n1 : Int) (L : LHeap) : Proofs.Ytflhogapjmdkaaa.X.f89 (k + 1) p0 n1 L =
  obind p0 fun a2 => obind (Option.bind (cell L (Addr.add a2 0)) asS) fun s3 => obind (subS s3 (some n1) (some (IntKind.wrap IntKind.i64 (n1 + 3)))) fun s4 => some (LR.ret (Value.string s4) L) := by kernel_rfl
/-- slots 0, 1, 3 -/
noncomputable def f99_l1 (k : Nat) (j1 : Nat) (v9 : Value) (r10 : Nat) (n11 : Int) (L : LHeap) : R :=
  loopAt Proofs.Try.prog Proofs.Ytflhogapjmdkaaa.X.T 99 k [1, 0] [] j1 [(0, v9), (1, Value.pointer (some (Addr.mk r10 0 none))), (3, Value.int IntKind.i64 n11)] L
theorem f99_eq (k : Nat) (v0 : Value) (r1 : Nat) (L : LHeap) : Proofs.Ytflhogapjmdkaaa.X.f99 (k + 1) v0 r1 L =
  obind (Option.bind (cell L (Addr.mk r1 0 none)) asSl) fun l2 => Proofs.Ytflhogapjmdkaaa.X.f99_l1 k k v0 r1 (IntKind.wrap IntKind.i64 ((↑l2.n : Int) - 1)) L := by kernel_rfl
theorem f99_l1_eq (k : Nat) (j1 : Nat) (v0 : Value) (r1 : Nat) (n2 : Int) (L : LHeap) : Proofs.Ytflhogapjmdkaaa.X.f99_l1 k (j1 + 1) v0 r1 n2 L =
  lif (decide (n2 ≥ 0))
  (obind (Option.bind (cell L (Addr.mk r1 0 none)) asSl) fun l3 =>
    obind (idx l3 n2 1) fun a4 =>
      obind (Option.bind (cell L a4) (asI IntKind.i64)) fun n5 =>
        lbind (lapp (lcall Proofs.Try.prog Proofs.Ytflhogapjmdkaaa.X.T k) v0 [Value.int IntKind.i64 n2, Value.int IntKind.i64 n5] L) fun v6 L7 =>
          obind (asB v6) fun b8 => lif (!b8) (some (LR.ret (Value.tuple #[]) L7)) (Proofs.Ytflhogapjmdkaaa.X.f99_l1 k j1 v0 r1 (IntKind.wrap IntKind.i64 (n2 - 1)) L7))
  (some (LR.ret (Value.tuple #[]) L)) := by kernel_rfl
/-- slots 4, 5 -/
noncomputable def f71_c8 (k : Nat) (r9 : Nat) (r10 : Nat) (L : LHeap) : R :=
  cutAt Proofs.Try.prog Proofs.Ytflhogapjmdkaaa.X.T 71 k [1, 1, 1, 1, 1, 0] [] [(4, Value.pointer (some (Addr.mk r9 0 none))), (5, Value.pointer (some (Addr.mk r10 0 none)))] L
theorem f71_eq (k : Nat) (p0 : Option Addr) (n1 : Int) (L : LHeap) : Proofs.Ytflhogapjmdkaaa.X.f71 (k + 1) p0 n1 L =
  obind
  (Option.bind
    (cell
      (L ++ [LBlk.cells [Value.pointer p0] 111 false 0] ++ [LBlk.cells [Value.int IntKind.i64 n1] 3 false 0] ++ [LBlk.cells [Value.int IntKind.i64 0] 3 false 0] ++
        [LBlk.cells [Value.int IntKind.i64 0] 3 false 0])
      (Addr.mk (List.length (L ++ [LBlk.cells [Value.pointer p0] 111 false 0])) 0 none))
    (asI IntKind.i64))
  fun n2 =>
  obind
    (Option.bind
      (cell
        (L ++ [LBlk.cells [Value.pointer p0] 111 false 0] ++ [LBlk.cells [Value.int IntKind.i64 n1] 3 false 0] ++ [LBlk.cells [Value.int IntKind.i64 0] 3 false 0] ++
          [LBlk.cells [Value.int IntKind.i64 0] 3 false 0])
        (Addr.mk (List.length L) 0 none))
      asP)
    fun x3 =>
    obind x3 fun a4 =>
      obind
        (Option.bind
          (cell
            (L ++ [LBlk.cells [Value.pointer p0] 111 false 0] ++ [LBlk.cells [Value.int IntKind.i64 n1] 3 false 0] ++ [LBlk.cells [Value.int IntKind.i64 0] 3 false 0] ++
              [LBlk.cells [Value.int IntKind.i64 0] 3 false 0])
            (Addr.add a4 0))
          asS)
        fun s5 =>
        lif (decide (IntKind.wrap IntKind.i64 (n2 + 3) > (↑(ByteArray.size s5) : Int)))
          (obind
            (stores
              (L ++ [LBlk.cells [Value.pointer p0] 111 false 0] ++ [LBlk.cells [Value.int IntKind.i64 n1] 3 false 0] ++ [LBlk.cells [Value.int IntKind.i64 0] 3 false 0] ++
                [LBlk.cells [Value.int IntKind.i64 0] 3 false 0])
              (Addr.mk (List.length (L ++ [LBlk.cells [Value.pointer p0] 111 false 0] ++ [LBlk.cells [Value.int IntKind.i64 n1] 3 false 0])) 0 none) [Value.int IntKind.i64 0])
            fun L6 =>
            obind
              (stores L6
                (Addr.mk (List.length (L ++ [LBlk.cells [Value.pointer p0] 111 false 0] ++ [LBlk.cells [Value.int IntKind.i64 n1] 3 false 0] ++ [LBlk.cells [Value.int IntKind.i64 0] 3 false 0])) 0
                  none)
                [Value.int IntKind.i64 0])
              fun L7 =>
              obind (Option.bind (cell L7 (Addr.mk (List.length (L ++ [LBlk.cells [Value.pointer p0] 111 false 0] ++ [LBlk.cells [Value.int IntKind.i64 n1] 3 false 0])) 0 none)) (asI IntKind.i64))
                fun n8 =>
                obind
                  (Option.bind
                    (cell L7
                      (Addr.mk (List.length (L ++ [LBlk.cells [Value.pointer p0] 111 false 0] ++ [LBlk.cells [Value.int IntKind.i64 n1] 3 false 0] ++ [LBlk.cells [Value.int IntKind.i64 0] 3 false 0]))
                        0 none))
                    (asI IntKind.i64))
                  fun n9 => some (LR.ret (Value.tuple #[Value.int IntKind.i64 n8, Value.int IntKind.i64 n9]) L7))
          (obind
            (Option.bind
              (cell
                (L ++ [LBlk.cells [Value.pointer p0] 111 false 0] ++ [LBlk.cells [Value.int IntKind.i64 n1] 3 false 0] ++ [LBlk.cells [Value.int IntKind.i64 0] 3 false 0] ++
                  [LBlk.cells [Value.int IntKind.i64 0] 3 false 0])
                (Addr.mk (List.length L) 0 none))
              asP)
            fun x10 =>
            obind
              (Option.bind
                (cell
                  (L ++ [LBlk.cells [Value.pointer p0] 111 false 0] ++ [LBlk.cells [Value.int IntKind.i64 n1] 3 false 0] ++ [LBlk.cells [Value.int IntKind.i64 0] 3 false 0] ++
                    [LBlk.cells [Value.int IntKind.i64 0] 3 false 0])
                  (Addr.mk (List.length (L ++ [LBlk.cells [Value.pointer p0] 111 false 0])) 0 none))
                (asI IntKind.i64))
              fun n11 =>
              lbind
                (Proofs.Ytflhogapjmdkaaa.X.f85 k x10 n11
                  (L ++ [LBlk.cells [Value.pointer p0] 111 false 0] ++ [LBlk.cells [Value.int IntKind.i64 n1] 3 false 0] ++ [LBlk.cells [Value.int IntKind.i64 0] 3 false 0] ++
                    [LBlk.cells [Value.int IntKind.i64 0] 3 false 0]))
                fun v12 L13 =>
                obind
                  (stores (L13 ++ [LBlk.cells [Value.nilFunc] 144 false 0]) (Addr.mk (List.length L13) 0 none)
                    [Value.func (Fn.func 86) #[]
                        #[Value.pointer (some (Addr.mk (List.length (L ++ [LBlk.cells [Value.pointer p0] 111 false 0])) 0 none)), Value.pointer (some (Addr.mk (List.length L) 0 none)),
                          Value.pointer (some (Addr.mk (List.length (L ++ [LBlk.cells [Value.pointer p0] 111 false 0] ++ [LBlk.cells [Value.int IntKind.i64 n1] 3 false 0])) 0 none)),
                          Value.pointer
                            (some
                              (Addr.mk
                                (List.length
                                  (L ++ [LBlk.cells [Value.pointer p0] 111 false 0] ++ [LBlk.cells [Value.int IntKind.i64 n1] 3 false 0] ++ [LBlk.cells [Value.int IntKind.i64 0] 3 false 0]))
                                0 none))]])
                  fun L14 =>
                  obind (Option.bind (cell L14 (Addr.mk (List.length L) 0 none)) asP) fun x15 =>
                    obind x15 fun a16 =>
                      obind (Option.bind (cell L14 (Addr.add a16 1)) asM) fun x17 =>
                        obind (Option.bind (cell L14 (Addr.mk (List.length L) 0 none)) asP) fun x18 =>
                          obind (Option.bind (cell L14 (Addr.mk (List.length (L ++ [LBlk.cells [Value.pointer p0] 111 false 0])) 0 none)) (asI IntKind.i64)) fun n19 =>
                            lbindR (Proofs.Ytflhogapjmdkaaa.X.f89 k x18 n19 L14) fun v20 L21 =>
                              obind (asS v20) fun s22 =>
                                obind (Option.bind (cell L21 (Addr.add a16 1)) asM) fun x23 =>
                                  when (same (Value.map x17) (Value.map x23))
                                    (obind (Option.bind (cell L21 (Addr.mk (List.length L) 0 none)) asP) fun x24 =>
                                      when (same (Value.pointer x15) (Value.pointer x24))
                                        (obind (mcells L21 x17) fun x25 =>
                                          obind
                                            (mlook (TypeInfo.mk TypeDesc.string "string" 1 16 true 8 8 (some (Value.string (ByteArray.mk #[]))) true #[]).desc (Value.string s22) (Value.slice none 0 0)
                                              x25.fst)
                                            fun x26 =>
                                            obind (asSl x26.fst) fun l27 =>
                                              lbindR (Proofs.Ytflhogapjmdkaaa.X.f88 k l27 L21) fun v28 L29 =>
                                                lbindR
                                                  (lappF (lcall Proofs.Try.prog Proofs.Ytflhogapjmdkaaa.X.T k) v28 [Value.func (Fn.yield (List.length L29)) #[] #[]]
                                                    (L29 ++ [LBlk.loop 71 7 [(6, Value.pointer (some (Addr.mk (List.length L13) 0 none)))] LSt.ready]))
                                                  fun v30 L31 =>
                                                  lend (List.length L29) L31
                                                    (fun L32 =>
                                                      fuel k
                                                        (Proofs.Ytflhogapjmdkaaa.X.f71_c8 k
                                                          (List.length (L ++ [LBlk.cells [Value.pointer p0] 111 false 0] ++ [LBlk.cells [Value.int IntKind.i64 n1] 3 false 0]))
                                                          (List.length
                                                            (L ++ [LBlk.cells [Value.pointer p0] 111 false 0] ++ [LBlk.cells [Value.int IntKind.i64 n1] 3 false 0] ++
                                                              [LBlk.cells [Value.int IntKind.i64 0] 3 false 0]))
                                                          L32))
                                                    fun e33 L32 =>
                                                    lex e33 (LExit.exit 0)
                                                      (fuel k
                                                        (Proofs.Ytflhogapjmdkaaa.X.f71_c8 k
                                                          (List.length (L ++ [LBlk.cells [Value.pointer p0] 111 false 0] ++ [LBlk.cells [Value.int IntKind.i64 n1] 3 false 0]))
                                                          (List.length
                                                            (L ++ [LBlk.cells [Value.pointer p0] 111 false 0] ++ [LBlk.cells [Value.int IntKind.i64 n1] 3 false 0] ++
                                                              [LBlk.cells [Value.int IntKind.i64 0] 3 false 0]))
                                                          L32))
                                                      none))) := by kernel_rfl
theorem f71_c8_eq (k : Nat) (r0 : Nat) (r1 : Nat) (L : LHeap) : Proofs.Ytflhogapjmdkaaa.X.f71_c8 k r0 r1 L =
  obind (Option.bind (cell L (Addr.mk r0 0 none)) (asI IntKind.i64)) fun n2 =>
  obind (Option.bind (cell L (Addr.mk r1 0 none)) (asI IntKind.i64)) fun n3 =>
    obind (stores L (Addr.mk r0 0 none) [Value.int IntKind.i64 n2]) fun L4 =>
      obind (Option.bind (cell L4 (Addr.mk r1 0 none)) (asI IntKind.i64)) fun n5 =>
        when (same (Value.int IntKind.i64 n3) (Value.int IntKind.i64 n5))
          (obind (stores L4 (Addr.mk r1 0 none) [Value.int IntKind.i64 n3]) fun L6 =>
            obind (Option.bind (cell L6 (Addr.mk r0 0 none)) (asI IntKind.i64)) fun n7 =>
              obind (Option.bind (cell L6 (Addr.mk r1 0 none)) (asI IntKind.i64)) fun n8 => some (LR.ret (Value.tuple #[Value.int IntKind.i64 n7, Value.int IntKind.i64 n8]) L6)) := by kernel_rfl
/-- a round; slots 6 -/
noncomputable def r71_7 (k : Nat) (r9 : Nat) (j : Nat) (v10 : Value) (n11 : Int) (L : LHeap) : R :=
  lround Proofs.Try.prog Proofs.Ytflhogapjmdkaaa.X.T (lcall Proofs.Try.prog Proofs.Ytflhogapjmdkaaa.X.T k) k 71 7 [(6, Value.pointer (some (Addr.mk r9 0 none)))] j [v10, Value.int IntKind.i64 n11] L
theorem r71_7_eq (k : Nat) (r9 : Nat) (j : Nat) (v10 : Value) (n11 : Int) (L : LHeap) : Proofs.Ytflhogapjmdkaaa.X.r71_7 k r9 j v10 n11 L =
  lbusy j L fun L12 =>
  obind (cell L12 (Addr.mk r9 0 none)) fun v13 =>
    lbind (lapp (lcall Proofs.Try.prog Proofs.Ytflhogapjmdkaaa.X.T k) v13 [Value.int IntKind.i64 n11] L12) fun v14 L15 =>
      obind (asB v14) fun b16 => lif (!b16) (lleave j (LExit.exit 0) L15) (lleave j LExit.normal L15) := by kernel_rfl
end Go.Proofs.Ytflhogapjmdkaaa.X
end

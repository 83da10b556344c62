/- Trees on the heap: the forest, the least of it, two put together, the depths' walk. -/
import Derived.Test.YtlcchghlhfamjaaHuffE
set_option linter.unusedVariables false
namespace Go.Proofs.Ytlcchghlhfamjaa.X
open Go Go.Rlm

abbrev Tri := Int × Int × Int

def triCells : List Tri → List Value
  | [] => []
  | p :: ps => iV p.1 :: iV p.2.1 :: iV p.2.2 :: triCells ps
@[simp] theorem triCells_length (ps : List Tri) : (triCells ps).length = ps.length * 3 := by
  induction ps with
  | nil => rfl
  | cons p ps ih => simp [triCells, ih]; omega
theorem triCells_get {ps : List Tri} {i : Nat} {p : Tri} (h : ps[i]? = some p) : (triCells ps)[i * 3]? = some (iV p.1) ∧ (triCells ps)[i * 3 + 1]? = some (iV p.2.1) ∧ (triCells ps)[i * 3 + 2]? = some (iV p.2.2) := by
  induction ps generalizing i with
  | nil => simp at h
  | cons q ps ih =>
    cases i with
    | zero => simp at h; subst h; simp [triCells]
    | succ i =>
      have := ih (i := i) (by simpa using h)
      rw [show (i + 1) * 3 = i * 3 + 1 + 1 + 1 by omega]
      simpa [triCells] using this
theorem triCells_append (a b : List Tri) : triCells (a ++ b) = triCells a ++ triCells b := by
  induction a with
  | nil => rfl
  | cons p a ih => simp [triCells, ih]

def kV (k : Nat) : Value := .int .i64 (k : Int)

/-- At place k stands this tree. -/
def NR (ns : List Tri) : Nat → HT → Prop
  | k, .leaf w i => ns[k]? = some ((w : Int), -1, (i : Int))
  | k, .node l r => ∃ a b : Nat, ns[k]? = some (((l.wt + r.wt : Nat) : Int), (a : Int), (b : Int)) ∧ NR ns a l ∧ NR ns b r

theorem NR.mono {ns : List Tri} (x : List Tri) {t : HT} : ∀ {k : Nat}, NR ns k t → NR (ns ++ x) k t := by
  induction t with
  | leaf w i => intro k h; simp only [NR] at h ⊢; rw [List.getElem?_append_left (get_lt h), h]
  | node l r ihl ihr =>
    intro k h
    obtain ⟨a, b, h1, h2, h3⟩ := h
    exact ⟨a, b, by rw [List.getElem?_append_left (get_lt h1), h1], ihl h2, ihr h3⟩
theorem NR.wt {ns : List Tri} {t : HT} {k : Nat} (h : NR ns k t) : ∃ x, ns[k]? = some ((t.wt : Int), x) := by
  cases t with
  | leaf w i => exact ⟨_, h⟩
  | node l r => obtain ⟨a, b, h1, _⟩ := h; exact ⟨_, h1⟩

/-- The forest: the trees' row, and those that are not put together yet. -/
def Forest (L : LHeap) (r1 r2 : Nat) (ns : List Tri) (ks : List Nat) (ts : List HT) (G : List Nat) : Prop :=
  ∃ (sa so : Sl) (Ga Go : List Nat), L[r1]? = some (.cells [.slice sa.a sa.n sa.c] 93 false 0) ∧ L[r2]? = some (.cells [.slice so.a so.n so.c] 38 false 0) ∧
    OZ L sa (triCells ns) 95 3 Ga ∧ OP L so (ks.map kV) 3 Go ∧ r1 ≠ r2 ∧ r1 ∉ Ga ∧ r1 ∉ Go ∧ r2 ∉ Ga ∧ r2 ∉ Go ∧ Apart Ga Go ∧ G = r1 :: r2 :: (Ga ++ Go) ∧
    ks.length = ts.length ∧ ∀ (i k : Nat) (t : HT), ks[i]? = some k → ts[i]? = some t → NR ns k t

theorem Forest.mono {L L' : LHeap} {r1 r2 : Nat} {ns : List Tri} {ks : List Nat} {ts : List HT} {G : List Nat} (h : Forest L r1 r2 ns ks ts G) (hk : ∀ i ∈ G, L'[i]? = L[i]?) : Forest L' r1 r2 ns ks ts G := by
  obtain ⟨sa, so, Ga, Go, h1, h2, h3, h4, h5, h6, h7, h8, h9, h10, rfl, h11, h12⟩ := h
  exact ⟨sa, so, Ga, Go, by rw [hk r1 (by simp), h1], by rw [hk r2 (by simp), h2], h3.mono fun i hi => hk i (by simp [hi]), h4.mono fun i hi => hk i (by simp [hi]), h5, h6, h7, h8, h9, h10, rfl, h11, h12⟩
theorem Forest.within {L : LHeap} {r1 r2 : Nat} {ns : List Tri} {ks : List Nat} {ts : List HT} {G : List Nat} (h : Forest L r1 r2 ns ks ts G) : Within G L := by
  obtain ⟨sa, so, Ga, Go, h1, h2, h3, h4, h5, h6, h7, h8, h9, h10, rfl, h11, h12⟩ := h
  intro i hi
  simp only [List.mem_cons, List.mem_append] at hi
  rcases hi with rfl | rfl | hi | hi
  · exact get_lt h1
  · exact get_lt h2
  · exact h3.within i hi
  · exact h4.within i hi

theorem map_erase {α β : Type} (f : α → β) : ∀ (l : List α) (i : Nat), (l.eraseIdx i).map f = (l.map f).eraseIdx i
  | [], i => by simp
  | x :: l, 0 => by simp
  | x :: l, i + 1 => by simp [map_erase f l i]

theorem getD_eq {α : Type} {l : List α} {i : Nat} {x d : α} (h : l[i]? = some x) : l.getD i d = x := by rw [List.getD_eq_getElem?_getD, h]; rfl

/-- The least: its place is told, and taken away. -/
theorem least_loop {k r1 r2 : Nat} {sa so : Sl} {ns : List Tri} {ks : List Nat} {ts : List HT} {Ga Go : List Nat} {L : LHeap} (h1 : L[r1]? = some (.cells [.slice sa.a sa.n sa.c] 93 false 0)) (h2 : L[r2]? = some (.cells [.slice so.a so.n so.c] 38 false 0))
    (h3 : OZ L sa (triCells ns) 95 3 Ga) (h4 : OP L so (ks.map kV) 3 Go) (h11 : ks.length = ts.length) (h12 : ∀ (i k : Nat) (t : HT), ks[i]? = some k → ts[i]? = some t → NR ns k t) (hlen : ks.length < 2 ^ 40) :
    ∀ (m i a j : Nat), i + m = ts.length → m < j → a < ts.length →
      f58_l3 k j r2 r1 (a : Int) so (so.n : Int) (i : Int) L = f58_l3 k (j - m) r2 r1 ((minLoop (ts.map HT.wt) m i a : Nat) : Int) so (so.n : Int) (ts.length : Int) L := by
  have hn := h4.rd.len
  simp only [List.length_map] at hn
  have hns : sa.n = ns.length := by have := h3.1; simp at this; omega
  have c1 : cell L ⟨r1, 0, none⟩ = some (.slice sa.a sa.n sa.c) := by rw [cell_of h1]; rfl
  have c2 : cell L ⟨r2, 0, none⟩ = some (.slice so.a so.n so.c) := by rw [cell_of h2]; rfl
  have key : ∀ i, (hi : i < ts.length) → ∃ (a : Addr) (k c : Nat), idx so (i : Int) 1 = some a ∧ cell L a = some (.int .i64 (k : Int)) ∧ idx sa ((k : Nat) : Int) 3 = some ⟨c, k * 3, none⟩ ∧ cell L ⟨c, k * 3, none⟩ = some (.int .i64 ((ts.map HT.wt).getD i 0 : Nat)) := by
    intro i hi
    have hk : ks[i]? = some ks[i] := List.getElem?_eq_getElem (by omega)
    obtain ⟨a, a1, a2⟩ := h4.rd.here (i := i) (v := kV ks[i]) (by simp [h11, hi])
    have hnr := h12 i ks[i] ts[i] hk (List.getElem?_eq_getElem hi)
    obtain ⟨x, hx⟩ := hnr.wt
    obtain ⟨c, e1, e2⟩ := h3.get (i := ks[i]) (by rw [hns]; exact get_lt hx)
    refine ⟨a, ks[i], c, a1, a2, e1, ?_⟩
    rw [e2 L (fun _ _ => rfl), (triCells_get hx).1, wt_getD ts i hi, List.getD_eq_getElem?_getD, List.getElem?_eq_getElem hi]
    rfl
  intro m
  induction m with
  | zero =>
    intro i a j hi hj ha
    obtain rfl : i = ts.length := by omega
    rfl
  | succ m ih =>
    intro i a j hi hj ha
    obtain ⟨j, rfl⟩ : ∃ j', j = j' + 1 := ⟨j - 1, by omega⟩
    obtain ⟨a1, k1, x1, p1, p2, p3, p4⟩ := key i (by omega)
    obtain ⟨a2, k2, x2, q1, q2, q3, q4⟩ := key a ha
    rw [f58_l3_eq, decide_eq_true (by omega)]
    simp only [lif_true, p1, p2, p3, p4, q1, q2, q3, q4, c1, c2, obind_some, Option.bind_some, asI_int, asSl_slice, mk_add, Nat.add_zero]
    rw [wI64 (n := (i : Int) + 1) (by omega) (by omega), show j + 1 - (m + 1) = j - m by omega]
    simp only [minLoop]
    by_cases hw : (ts.map HT.wt).getD i 0 < (ts.map HT.wt).getD a 0
    · rw [decide_eq_true (by omega), if_pos hw]
      exact ih (i + 1) i j (by omega) (by omega) (by omega)
    · rw [decide_eq_false (by omega), if_neg hw]
      exact ih (i + 1) a j (by omega) (by omega) ha

theorem least_ok {k r1 r2 : Nat} {ns : List Tri} {ks : List Nat} {ts : List HT} {G : List Nat} {L : LHeap} (h : Forest L r1 r2 ns ks ts G) (hne : ts ≠ []) (hlen : ks.length < 2 ^ 40) (hk : ks.length + 10 ≤ k) :
    ∃ (q : Nat) (L' : LHeap), f58 k r2 r1 L = some (.ret (.int .i64 (q : Int)) L') ∧ NR ns q (pick ts) ∧ Forest L' r1 r2 ns (ks.eraseIdx (least ts)) (rest ts) G ∧ Step G L G L' := by
  obtain ⟨k, rfl⟩ : ∃ k', k = k' + 1 := ⟨k - 1, by omega⟩
  obtain ⟨sa, so, Ga, Go, h1, h2, h3, h4, h5, h6, h7, h8, h9, h10, rfl, h11, h12⟩ := h
  have hn := h4.rd.len
  simp only [List.length_map] at hn
  have hll := least_lt hne
  have c2 : cell L ⟨r2, 0, none⟩ = some (.slice so.a so.n so.c) := by rw [cell_of h2]; rfl
  have hks : ks[least ts]? = some ks[least ts] := List.getElem?_eq_getElem (by omega)
  have hpk : ts[least ts]? = some (pick ts) := by rw [pick, List.getD_eq_getElem?_getD, List.getElem?_eq_getElem hll]; rfl
  have hl := least_loop (k := k) h1 h2 h3 h4 h11 h12 hlen ts.length 0 0 k (by omega) (by omega) (by omega)
  have hmin : minLoop (ts.map HT.wt) ts.length 0 0 = least ts := by unfold least minAt; simp
  rw [hmin] at hl
  obtain ⟨a, a1, a2⟩ := h4.rd.here (i := least ts) (v := kV ks[least ts]) (by simp [h11, hll])
  obtain ⟨so', L1, d1, d2, d3⟩ := delete_ok (k := k) h4 (i := least ts) (by simp; omega) (by simpa using hlen) (by omega)
  have h21 : L1[r2]? = some (.cells [.slice so.a so.n so.c] 38 false 0) := by rw [d3.keep r2 (get_lt h2) h9, h2]
  have h11' : L1[r1]? = some (.cells [.slice sa.a sa.n sa.c] 93 false 0) := by rw [d3.keep r1 (get_lt h1) h7, h1]
  have h31 := h3.mono (d3.others h3.within h10.symm)
  refine ⟨ks[least ts], L1.set r2 (.cells [.slice so'.a so'.n so'.c] 38 false 0), ?_, h12 _ _ _ hks hpk, ⟨sa, so', Ga, Go, by rw [get_set_ne h5.symm, h11'], by rw [get_set_self h21], h31.mono fun i hi => get_set_ne (fun e => h8 (e ▸ hi)), ?_, h5, h6, h7, h8, h9, h10, rfl, ?_, ?_⟩, ?_⟩
  · rw [f58_eq]
    simp only [c2, Option.bind_some, asSl_slice, obind_some]
    rw [show ((0 : Nat) : Int) = 0 from rfl] at hl
    rw [hl]
    obtain ⟨j, hj⟩ : ∃ j, k - ts.length = j + 1 := ⟨k - ts.length - 1, by omega⟩
    rw [hj, f58_l3_eq, decide_eq_false (by omega)]
    simp only [lif_false, c2, Option.bind_some, asSl_slice, obind_some, a1, a2, kV, asI_int]
    rw [wI64 (by omega) (by omega)]
    have d1 : f59 k so (least ts : Int) ((least ts : Int) + 1) L = some (.ret (.slice so'.a so'.n so'.c) L1) := d1
    simp only [d1, lbind_ret, asSl_slice, obind_some]
    rw [stores_all h21 (news := [Value.slice so'.a so'.n so'.c]) rfl]
    rfl
  · rw [← map_erase] at d2
    exact d2.mono fun i hi => get_set_ne (fun e => h9 (e ▸ hi))
  · rw [List.length_eraseIdx_of_lt (by omega), rest_length hne]; omega
  · intro i q t hq ht
    rw [rest] at ht
    rw [List.getElem?_eraseIdx] at hq ht
    split at hq
    · rename_i hlt
      rw [if_pos hlt] at ht
      exact h12 _ _ _ hq ht
    · rename_i hlt
      rw [if_neg hlt] at ht
      exact h12 _ _ _ hq ht
  · exact ((d3.mono (G := r1 :: r2 :: (Ga ++ Go)) fun i hi => by simp [hi]).less fun i hi => .inr hi).trans (.set _ (by simp))

theorem src_tri {L : LHeap} {u v w : Value} {e : TypeId} {ro : Bool} {sp c : Nat} : srcOf (L ++ [LBlk.cells [u, v, w] e ro sp]) 3 1 (.slice (some ⟨L.length, 0, none⟩) 1 c) = some [u, v, w] := by
  simp [srcOf, srcCells, cellsAt]
  rfl

/-- A tree comes behind the others. -/
theorem push_ok {r1 r2 : Nat} {ns : List Tri} {ks : List Nat} {ts : List HT} {G : List Nat} {L : LHeap} (h : Forest L r1 r2 ns ks ts G) (p : Tri) (t : HT) (hp : NR (ns ++ [p]) ns.length t) (hlen : ns.length < 2 ^ 30) (hlk : ks.length < 2 ^ 30) :
    ∃ (sa so so' sa' : Sl) (La Lb Lc Ld : LHeap) (Ga G' : List Nat), L[r1]? = some (.cells [.slice sa.a sa.n sa.c] 93 false 0) ∧ L[r2]? = some (.cells [.slice so.a so.n so.c] 38 false 0) ∧ sa.n = ns.length ∧
      app (L ++ [LBlk.cells [kV ns.length] 3 false 0]) 3 1 8 so 1 [kV ns.length] = some (so', La) ∧ stores La ⟨r2, 0, none⟩ [.slice so'.a so'.n so'.c] = some Lb ∧ Lb[r1]? = some (.cells [.slice sa.a sa.n sa.c] 93 false 0) ∧ OZ Lb sa (triCells ns) 95 3 Ga ∧
      app (Lb ++ [LBlk.cells [iV p.1, iV p.2.1, iV p.2.2] 95 false 0]) 95 3 24 sa 1 [iV p.1, iV p.2.1, iV p.2.2] = some (sa', Lc) ∧ stores Lc ⟨r1, 0, none⟩ [.slice sa'.a sa'.n sa'.c] = some Ld ∧
      Forest Ld r1 r2 (ns ++ [p]) (ks ++ [ns.length]) (ts ++ [t]) G' ∧ Step G L G' Ld := by
  obtain ⟨sa, so, Ga, Go, h1, h2, h3, h4, h5, h6, h7, h8, h9, h10, rfl, h11, h12⟩ := h
  have hns : sa.n = ns.length := by have := h3.1; simp at this; omega
  obtain ⟨so', La, Go', a1, a2, a3⟩ := (h4.mono (L' := L ++ [LBlk.cells [kV ns.length] 3 false 0]) fun i hi => get_push (h4.within i hi)).app [kV ns.length] 8 (by simp) (by simp; omega) (by simp; omega)
  have st1 : Step Go L Go' La := (Step.push Go L _).trans a3
  have h2a : La[r2]? = some (.cells [.slice so.a so.n so.c] 38 false 0) := by rw [st1.keep r2 (get_lt h2) h9, h2]
  have h1a : La[r1]? = some (.cells [.slice sa.a sa.n sa.c] 93 false 0) := by rw [st1.keep r1 (get_lt h1) h7, h1]
  have h3a := h3.mono (st1.others h3.within h10.symm)
  have r2o : r2 ∉ Go' := fun hh => by rcases st1.foot r2 hh with q | q; exact h9 q; have := get_lt h2; omega
  have r1o : r1 ∉ Go' := fun hh => by rcases st1.foot r1 hh with q | q; exact h7 q; have := get_lt h1; omega
  have ap1 : Apart Ga Go' := (st1.apart h3.within h10.symm).symm
  have st2 : Step [r2] La [r2] (La.set r2 (.cells [.slice so'.a so'.n so'.c] 38 false 0)) := .set _ (by simp)
  have h2b := get_set_self (x := LBlk.cells [.slice so'.a so'.n so'.c] 38 false 0) h2a
  have sb : stores La ⟨r2, 0, none⟩ [.slice so'.a so'.n so'.c] = some (La.set r2 (.cells [.slice so'.a so'.n so'.c] 38 false 0)) := stores_all h2a rfl
  generalize La.set r2 (.cells [.slice so'.a so'.n so'.c] 38 false 0) = Lb at *
  have h1b : Lb[r1]? = some (.cells [.slice sa.a sa.n sa.c] 93 false 0) := by rw [st2.keep r1 (get_lt h1a) (by simpa using h5), h1a]
  have h3b := h3a.mono (st2.others h3a.within (one_apart h8))
  have a2b := a2.mono (st2.others a2.within (one_apart r2o))
  obtain ⟨sa', Lc, Ga', b1, b2, b3, b4⟩ := (h3b.mono (L' := Lb ++ [LBlk.cells [iV p.1, iV p.2.1, iV p.2.2] 95 false 0]) fun i hi => get_push (h3b.within i hi)).app [iV p.1, iV p.2.1, iV p.2.2] 1 24 (by omega) rfl (by omega) (by omega)
  have st3 : Step Ga Lb Ga' Lc := (Step.push Ga Lb _).trans b4
  have h1c : Lc[r1]? = some (.cells [.slice sa.a sa.n sa.c] 93 false 0) := by rw [st3.keep r1 (get_lt h1b) h6, h1b]
  have h2c : Lc[r2]? = some (.cells [.slice so'.a so'.n so'.c] 38 false 0) := by rw [st3.keep r2 (get_lt h2b) h8, h2b]
  have r1a : r1 ∉ Ga' := fun hh => by rcases st3.foot r1 hh with q | q; exact h6 q; have := get_lt h1b; omega
  have r2a : r2 ∉ Ga' := fun hh => by rcases st3.foot r2 hh with q | q; exact h8 q; have := get_lt h2b; omega
  have a2c := a2b.mono (st3.others a2b.within ap1)
  have ap2 := st3.apart a2b.within ap1
  have st4 : Step [r1] Lc [r1] (Lc.set r1 (.cells [.slice sa'.a sa'.n sa'.c] 93 false 0)) := .set _ (by simp)
  have h1d := get_set_self (x := LBlk.cells [.slice sa'.a sa'.n sa'.c] 93 false 0) h1c
  have sd : stores Lc ⟨r1, 0, none⟩ [.slice sa'.a sa'.n sa'.c] = some (Lc.set r1 (.cells [.slice sa'.a sa'.n sa'.c] 93 false 0)) := stores_all h1c rfl
  generalize Lc.set r1 (.cells [.slice sa'.a sa'.n sa'.c] 93 false 0) = Ld at *
  refine ⟨sa, so, so', sa', La, Lb, Lc, Ld, Ga, r1 :: r2 :: (Ga' ++ Go'), h1, h2, hns, a1, sb, h1b, h3b, b1, sd, ⟨sa', so', Ga', Go', h1d, by rw [st4.keep r2 (get_lt h2c) (by simpa using h5.symm), h2c], ?_, ?_, h5, r1a, r1o, r2a, r2o, ap2, rfl, ?_, ?_⟩, ?_⟩
  · rw [triCells_append]
    exact b2.mono (st4.others b2.within (one_apart r1a))
  · rw [List.map_append]
    exact a2c.mono (st4.others a2c.within (one_apart r1o))
  · simp [h11]
  · intro i k u hk hu
    by_cases hi : i < ks.length
    · rw [List.getElem?_append_left hi] at hk
      rw [List.getElem?_append_left (by omega)] at hu
      exact (h12 _ _ _ hk hu).mono _
    · rw [List.getElem?_append_right (by omega)] at hk
      rw [List.getElem?_append_right (by omega)] at hu
      have e : i - ks.length = 0 := by
        rcases Nat.eq_zero_or_pos (i - ks.length) with h0 | h0
        · exact h0
        · rw [List.getElem?_eq_none (by simp; omega)] at hk; cases hk
      rw [← h11, e] at hu
      rw [e] at hk
      simp at hk hu
      subst hk; subst hu
      exact hp
  · refine ⟨Nat.le_trans st1.len (Nat.le_trans st2.len (Nat.le_trans st3.len st4.len)), fun i hi hn => ?_, fun i hi => ?_⟩
    · simp only [List.mem_cons, List.mem_append, not_or] at hn
      have i1 := Nat.lt_of_lt_of_le hi st1.len
      have i2 := Nat.lt_of_lt_of_le i1 st2.len
      have i3 := Nat.lt_of_lt_of_le i2 st3.len
      rw [st4.keep i i3 (by simpa using hn.1), st3.keep i i2 hn.2.2.1, st2.keep i i1 (by simpa using hn.2.1), st1.keep i hi hn.2.2.2]
    · simp only [List.mem_cons, List.mem_append] at hi ⊢
      rcases hi with rfl | rfl | hi | hi
      · exact .inl (.inl rfl)
      · exact .inl (.inr (.inl rfl))
      · rcases st3.foot i hi with q | q
        · exact .inl (.inr (.inr (.inl q)))
        · exact .inr (Nat.le_trans st1.len (Nat.le_trans st2.len q))
      · rcases st1.foot i hi with q | q
        · exact .inl (.inr (.inr (.inr q)))
        · exact .inr q

/-! ### The depths' walk -/

def deepFn (r1 r0 r4 : Nat) : Value := .func (.func 60) #[] #[.pointer (some ⟨r1, 0, none⟩), .pointer (some ⟨r0, 0, none⟩), .pointer (some ⟨r4, 0, none⟩)]
theorem deep_app (k : Nat) (r1 r0 r4 : Nat) (a b : Int) (L : LHeap) : lapp (lcall Proofs.Try.prog T k) (deepFn r1 r0 r4) [.int .i64 a, .int .i64 b] L = f60 k a b r1 r0 r4 L := rfl

theorem deep_ok {r0 r1 r4 : Nat} {sa so : Sl} {ns : List Tri} {Ga Fo : List Nat} (h0 : r0 ∉ Fo) (h1 : r1 ∉ Fo) (h4 : r4 ∉ Fo) (ha : Apart Fo Ga) : ∀ (t : HT) (q n k : Nat) (out : List Int) (L : LHeap), NR ns q t → t.height + 2 ≤ k → (∀ i ∈ t.syms, i < out.length) → n + t.height < 2 ^ 40 →
    L[r0]? = some (.cells [.slice so.a so.n so.c] 38 false 0) → L[r1]? = some (.cells [.slice sa.a sa.n sa.c] 93 false 0) → L[r4]? = some (.cells [deepFn r1 r0 r4] 97 false 0) → OZ L sa (triCells ns) 95 3 Ga → WS L so (out.map iV) 3 Fo →
    ∃ L', f60 k (q : Int) (n : Int) r1 r0 r4 L = some (.ret (.tuple #[]) L') ∧ WS L' so ((t.lay n out).map iV) 3 Fo ∧ Step Fo L Fo L' := by
  intro t
  induction t with
  | leaf w i =>
    intro q n k out L hq hk hs hn b0 b1 b4 hz hw
    obtain ⟨k, rfl⟩ : ∃ k', k = k' + 1 := ⟨k - 1, by omega⟩
    have hns : sa.n = ns.length := by have := hz.1; simp at this; omega
    have hq : ns[q]? = some ((w : Int), -1, (i : Int)) := hq
    obtain ⟨g1, g2, g3⟩ := triCells_get hq
    obtain ⟨c, e1, e2⟩ := hz.get (i := q) (by rw [hns]; exact get_lt hq)
    have cc := e2 L fun _ _ => rfl
    have c1 : cell L ⟨r1, 0, none⟩ = some (.slice sa.a sa.n sa.c) := by rw [cell_of b1]; rfl
    have c0 : cell L ⟨r0, 0, none⟩ = some (.slice so.a so.n so.c) := by rw [cell_of b0]; rfl
    have hi := hs i (by simp [HT.syms])
    obtain ⟨a, L', p1, p2, p3, p4⟩ := hw.put (i := i) (by simpa using hi) (iV (n : Int))
    refine ⟨L', ?_, by rw [← List.map_set] at p3; exact p3, p4⟩
    rw [f60_eq]
    have p2 : stores L a [Value.int .i64 (n : Int)] = some L' := p2
    simp only [c1, c0, Option.bind_some, asSl_slice, obind_some, e1, mk_add, cc, g2, g3, iV, asI_int]
    rw [decide_eq_true (by omega)]
    simp only [lif_true, p1, p2, obind_some]
  | node l r ihl ihr =>
    intro q n k out L hq hk hs hn b0 b1 b4 hz hw
    obtain ⟨k, rfl⟩ : ∃ k', k = k' + 1 := ⟨k - 1, by omega⟩
    have hns : sa.n = ns.length := by have := hz.1; simp at this; omega
    obtain ⟨x, y, hq, hl, hr⟩ := hq
    obtain ⟨g1, g2, g3⟩ := triCells_get hq
    obtain ⟨c, e1, e2⟩ := hz.get (i := q) (by rw [hns]; exact get_lt hq)
    have cc := e2 L fun _ _ => rfl
    have c1 : cell L ⟨r1, 0, none⟩ = some (.slice sa.a sa.n sa.c) := by rw [cell_of b1]; rfl
    have c4 : cell L ⟨r4, 0, none⟩ = some (deepFn r1 r0 r4) := by rw [cell_of b4]; rfl
    simp only [HT.height, HT.syms] at hk hs hn
    obtain ⟨L1, p1, p2, p3⟩ := ihl x (n + 1) k out L hl (by omega) (fun i hi => hs i (List.mem_append.2 (.inl hi))) (by omega) b0 b1 b4 hz hw
    have b01 := (p3.keep r0 (get_lt b0) h0).trans b0
    have b11 := (p3.keep r1 (get_lt b1) h1).trans b1
    have b41 := (p3.keep r4 (get_lt b4) h4).trans b4
    have hz1 := hz.mono (p3.others hz.within ha)
    have cc1 := e2 L1 (p3.others hz.within ha)
    have c11 : cell L1 ⟨r1, 0, none⟩ = some (.slice sa.a sa.n sa.c) := by rw [cell_of b11]; rfl
    have c41 : cell L1 ⟨r4, 0, none⟩ = some (deepFn r1 r0 r4) := by rw [cell_of b41]; rfl
    obtain ⟨L2, q1, q2, q3⟩ := ihr y (n + 1) k (l.lay (n + 1) out) L1 hr (by omega) (fun i hi => by rw [HT.lay_length]; exact hs i (List.mem_append.2 (.inr hi))) (by omega) b01 b11 b41 hz1 p2
    refine ⟨L2, ?_, q2, p3.trans q3⟩
    rw [f60_eq]
    simp only [c1, Option.bind_some, asSl_slice, obind_some, e1, mk_add, cc, g2, iV, asI_int]
    rw [decide_eq_false (by omega), wI64 (n := (n : Int) + 1) (by omega) (by omega)]
    have p1 : f60 k (x : Int) ((n : Int) + 1) r1 r0 r4 L = some (.ret (.tuple #[]) L1) := p1
    have q1 : f60 k (y : Int) ((n : Int) + 1) r1 r0 r4 L1 = some (.ret (.tuple #[]) L2) := q1
    simp only [lif_false, c4, obind_some, deep_app, p1, lbindR_ret, c41, c11, Option.bind_some, asSl_slice, e1, mk_add, cc1, g3, iV, asI_int, q1]

end Go.Proofs.Ytlcchghlhfamjaa.X

/- New: the coder of lengths. -/
import Derived.Test.YtlcchghlhfamjaaRlmDecode
import Derived.Test.YtlcchghlhfamjaaHuffA
set_option linter.unusedVariables false
namespace Go.Proofs.Ytlcchghlhfamjaa.X
open Go Go.Rlm

theorem cells87 : Program.cellsOf Proofs.Try.prog 87 = 16 := by kernel_rfl

def slV (s : Sl) : Value := .slice s.a s.n s.c
def coderCells (sl sc : Sl) (zs : List Int) (sy : Nat → Sl) : List Value := [slV sl, slV sc] ++ fcAll zs ++ (List.range 16).map fun n => slV (sy n)
@[simp] theorem coderCells_length (sl sc : Sl) (zs : List Int) (sy : Nat → Sl) : (coderCells sl sc zs sy).length = 34 := by simp [coderCells]
theorem coder_len (sl sc : Sl) (zs : List Int) (sy : Nat → Sl) : (coderCells sl sc zs sy)[0]? = some (slV sl) ∧ (coderCells sl sc zs sy)[1]? = some (slV sc) := ⟨rfl, rfl⟩
theorem coder_first (sl sc : Sl) (zs : List Int) (sy : Nat → Sl) {n : Nat} (h : n < 16) : (coderCells sl sc zs sy)[2 + n]? = some (uV (fc zs n)) := by
  rw [coderCells, List.append_assoc, List.getElem?_append_right (by simp)]
  rw [List.getElem?_append_left (by simp; omega)]
  simp [fcAll, h]
theorem coder_syms (sl sc : Sl) (zs : List Int) (sy : Nat → Sl) {n : Nat} (h : n < 16) : (coderCells sl sc zs sy)[18 + n]? = some (slV (sy n)) := by
  rw [coderCells, List.getElem?_append_right (by simp)]
  simp [h]
theorem coder_set (sl sc : Sl) (zs : List Int) (sy : Nat → Sl) {n : Nat} (h : n < 16) (s : Sl) : (coderCells sl sc zs sy).set (18 + n) (slV s) = coderCells sl sc zs (fun q => if q = n then s else sy q) := by
  rw [coderCells, coderCells, List.set_append_right _ _ (by simp)]
  congr 1
  have hl : 18 + n - ([slV sl, slV sc] ++ fcAll zs).length = n := by simp
  rw [hl]
  apply List.ext_getElem?
  intro q
  by_cases hq : q < 16
  · by_cases hn : n = q
    · subst hn
      rw [List.getElem?_set_self (by simpa using hq)]
      simp [hq]
    · rw [List.getElem?_set_ne hn]
      simp [hq, Ne.symm hn]
  · rw [List.getElem?_eq_none (by simp; omega), List.getElem?_eq_none (by simp; omega)]

/-- The symbols' rows: each its own. -/
def Rows (L : LHeap) (b : Nat) (U : List Nat) (zs : List Int) (i : Nat) (sy : Nat → Sl) (G : Nat → List Nat) : Prop :=
  (∀ n, n < 16 → OS L (sy n) ((symsTo zs i n).map kV) 3 (G n) ∧ b ∉ G n ∧ Apart (G n) U) ∧ ∀ n m, n < 16 → m < 16 → n ≠ m → Apart (G n) (G m)

theorem new_loop {k b : Nat} {l sl sc : Sl} {zs : List Int} {A U : List Nat} (hok : okLen zs = true) (hn : l.n = zs.length) (h512 : zs.length ≤ 512) (hbA : b ∉ A) (hAU : ∀ i ∈ A, i ∈ U) :
    ∀ (m i j : Nat) (sy : Nat → Sl) (G : Nat → List Nat) (L : LHeap), i + m = zs.length → m < j → L[b]? = some (.cells (coderCells sl sc zs sy) 91 false 0) → Rows L b U zs i sy G → Within U L → Rd L l (zs.map iV) A →
      ∃ sy' G' L', f42_l7 k j b l (l.n : Int) (i : Int) L = some (.ret (.tuple #[.pointer (some ⟨b, 0, none⟩), .int .i64 0]) L') ∧ L'[b]? = some (.cells (coderCells sl sc zs sy') 91 false 0) ∧ Rows L' b U zs zs.length sy' G' ∧
        L.length ≤ L'.length ∧ (∀ q, q < L.length → q ≠ b → (∀ n, n < 16 → q ∉ G n) → L'[q]? = L[q]?) ∧ ∀ n, n < 16 → ∀ q ∈ G' n, q ∈ G n ∨ L.length ≤ q := by
  intro m
  induction m with
  | zero =>
    intro i j sy G L hi hj hb hR hU hl
    obtain ⟨j, rfl⟩ : ∃ j', j = j' + 1 := ⟨j - 1, by omega⟩
    obtain rfl : i = zs.length := by omega
    refine ⟨sy, G, L, ?_, hb, hR, Nat.le_refl _, fun _ _ _ _ => rfl, fun n _ q hq => .inl hq⟩
    rw [f42_l7_eq, decide_eq_false (by omega)]
    rfl
  | succ m ih =>
    intro i j sy G L hi hj hb hR hU hl
    obtain ⟨j, rfl⟩ : ∃ j', j = j' + 1 := ⟨j - 1, by omega⟩
    have hiz : i < zs.length := by omega
    obtain ⟨a, a1, a2⟩ := hl.here (i := i) (v := iV zs[i]) (by simp [hiz])
    obtain ⟨z0, z1⟩ := okLen_mem hok (List.getElem_mem hiz)
    obtain ⟨z, hz⟩ : ∃ z : Nat, zs[i] = (z : Int) := ⟨zs[i].toNat, by omega⟩
    have hz16 : z < 16 := by omega
    obtain ⟨R1, R2⟩ := hR
    obtain ⟨ho, hbG, hGU⟩ := R1 z hz16
    have c1 : cell L ⟨b, 0 + 18 + z * 1, none⟩ = some (.slice (sy z).a (sy z).n (sy z).c) := by
      rw [cell_of hb, Nat.mul_one, show 0 + 18 + z = 18 + z by omega, coder_syms _ _ _ _ hz16]; rfl
    have c2 : ∀ X : LBlk, cell (L ++ [X]) ⟨b, 0 + 18 + z * 1, none⟩ = some (.slice (sy z).a (sy z).n (sy z).c) := fun X => by
      rw [cell_of (by rw [get_push (get_lt hb)]; exact hb), Nat.mul_one, show 0 + 18 + z = 18 + z by omega, coder_syms _ _ _ _ hz16]; rfl
    have hsl := symsTo_length_le zs i z
    obtain ⟨s', L1, G1, d1, d2, d3⟩ := (ho.mono (L' := L ++ [LBlk.cells [kV i] 3 false 0]) fun q hq => get_push (ho.within q hq)).app [kV i] 8 (by simp; omega) (by simp; omega)
    have st1 : Step (G z) L G1 L1 := (Step.push (G z) L _).trans d3
    have hb1 : L1[b]? = some (.cells (coderCells sl sc zs sy) 91 false 0) := by rw [st1.keep b (get_lt hb) hbG, hb]
    have hbG1 : b ∉ G1 := fun h => by rcases st1.foot b h with q | q; exact hbG q; have := get_lt hb; omega
    have hst : stores L1 ⟨b, 0 + 18 + z * 1, none⟩ [Value.slice s'.a s'.n s'.c] = some (L1.set b (.cells (coderCells sl sc zs (fun q => if q = z then s' else sy q)) 91 false 0)) := by
      rw [stores_of hb1 (by simp; omega), Nat.mul_one, show 0 + 18 + z = 18 + z by omega]
      have := coder_set sl sc zs sy hz16 s'
      simp only [setAll]
      rw [show Value.slice s'.a s'.n s'.c = slV s' from rfl, this]
    have hb2 := get_set_self (x := LBlk.cells (coderCells sl sc zs (fun q => if q = z then s' else sy q)) 91 false 0) hb1
    have st2 : Step [b] L1 [b] (L1.set b (.cells (coderCells sl sc zs (fun q => if q = z then s' else sy q)) 91 false 0)) := .set _ (by simp)
    generalize L1.set b (.cells (coderCells sl sc zs (fun q => if q = z then s' else sy q)) 91 false 0) = L2 at *
    have hAG : Apart (G z) A := fun q hq ha => hGU q hq (hAU q ha)
    have hl1 := hl.mono (st1.others hl.within hAG)
    have hl2 := hl1.mono (st2.others hl1.within (one_apart hbA))
    have hU1 : Within U L2 := st2.within (st1.within hU)
    have hR2 : Rows L2 b U zs (i + 1) (fun q => if q = z then s' else sy q) (fun q => if q = z then G1 else G q) := by
      refine ⟨fun n hn16 => ?_, fun n m hn hm hnm => ?_⟩
      · rw [symsTo_succ hiz]
        by_cases hnz : n = z
        · subst hnz
          simp only [if_true]
          rw [if_pos hz, List.map_append]
          refine ⟨d2.mono (st2.others d2.within (one_apart hbG1)), hbG1, st1.apart hU hGU⟩
        · simp only [if_neg hnz]
          obtain ⟨o1, o2, o3⟩ := R1 n hn16
          rw [if_neg (by omega), List.append_nil]
          have o11 := o1.mono (st1.others o1.within (R2 z n hz16 hn16 (Ne.symm hnz)))
          exact ⟨o11.mono (st2.others o11.within (one_apart o2)), o2, o3⟩
      · by_cases hnz : n = z
        · subst hnz
          simp only [if_true, if_neg (Ne.symm hnm)]
          exact st1.apart (R1 m hm).1.within (R2 n m hn hm hnm)
        · simp only [if_neg hnz]
          by_cases hmz : m = z
          · subst hmz
            simp only [if_true]
            exact (st1.apart (R1 n hn).1.within (R2 m n hm hn hnm.symm)).symm
          · simp only [if_neg hmz]
            exact R2 n m hn hm hnm
    obtain ⟨sy', G', L', e1, e2, e3, e4, e5, e6⟩ := ih (i + 1) j _ _ L2 (by omega) (by omega) hb2 hR2 hU1 hl2
    have hlen : L.length ≤ L2.length := Nat.le_trans st1.len st2.len
    refine ⟨sy', G', L', ?_, e2, e3, Nat.le_trans hlen e4, fun q hq hqb hqG => ?_, fun n hn16 q hq => ?_⟩
    · rw [f42_l7_eq, decide_eq_true (by omega)]
      simp only [kV] at d1
      have d1 : app (L ++ [LBlk.cells [Value.int .i64 (i : Int)] 3 false 0]) 3 1 8 (sy z) 1 [Value.int .i64 (i : Int)] = some (s', L1) := d1
      simp only [lif_true, a1, a2, iV, obind_some, Option.bind_some, asI_int, hz]
      rw [decide_eq_true (show (0 : Int) ≤ (z : Int) by omega), decide_eq_true (show (z : Int) < 16 by omega), wI64 (n := (i : Int) + 1) (by omega) (by omega)]
      simp only [when_true, Int.toNat_natCast, mk_add, c1, c2, Option.bind_some, asSl_slice, obind_some, same_self, size3, bytes3, src_new, d1, hst]
      exact e1
    · rw [e5 q (Nat.lt_of_lt_of_le hq hlen) hqb (fun n hn => ?_), st2.keep q (Nat.lt_of_lt_of_le hq st1.len) (by simpa using hqb), st1.keep q hq (hqG z hz16)]
      by_cases hnz : n = z
      · subst hnz
        simp only [if_true]
        intro h
        rcases st1.foot q h with h | h
        · exact hqG n hn h
        · omega
      · simp only [if_neg hnz]
        exact hqG n hn
    · rcases e6 n hn16 q hq with h | h
      · by_cases hnz : n = z
        · subst hnz
          simp only [if_true] at h
          exact st1.foot q h
        · simp only [if_neg hnz] at h
          exact .inl h
      · exact .inr (Nat.le_trans hlen h)

/-- A coder: at b, of these lengths; it stands in the blocks F. -/
def CO (L : LHeap) (b : Nat) (zs : List Int) (F : List Nat) : Prop :=
  ∃ (sl sc : Sl) (sy : Nat → Sl) (A1 A2 : List Nat) (A3 : Nat → List Nat), L[b]? = some (.cells (coderCells sl sc zs sy) 91 false 0) ∧ Rd L sl (zs.map iV) A1 ∧ Rd L sc ((codesOf zs).map uV) A2 ∧ (∀ n, n < 16 → Rd L (sy n) ((symsOf zs n).map kV) (A3 n)) ∧
    b ∈ F ∧ (∀ i ∈ A1, i ∈ F) ∧ (∀ i ∈ A2, i ∈ F) ∧ (∀ n, n < 16 → ∀ i ∈ A3 n, i ∈ F) ∧ Within F L

theorem CO.mono {L L' : LHeap} {b : Nat} {zs : List Int} {F : List Nat} (h : CO L b zs F) (hk : ∀ i ∈ F, L'[i]? = L[i]?) (hle : L.length ≤ L'.length) : CO L' b zs F := by
  obtain ⟨sl, sc, sy, A1, A2, A3, h1, h2, h3, h4, h5, h6, h7, h8, h9⟩ := h
  exact ⟨sl, sc, sy, A1, A2, A3, by rw [hk b h5, h1], h2.mono fun i hi => hk i (h6 i hi), h3.mono fun i hi => hk i (h7 i hi), fun n hn => (h4 n hn).mono fun i hi => hk i (h8 n hn i hi), h5, h6, h7, h8, fun i hi => Nat.lt_of_lt_of_le (h9 i hi) hle⟩
theorem CO.within {L : LHeap} {b : Nat} {zs : List Int} {F : List Nat} (h : CO L b zs F) : Within F L := by
  obtain ⟨sl, sc, sy, A1, A2, A3, h1, h2, h3, h4, h5, h6, h7, h8, h9⟩ := h
  exact h9

theorem new_ok {k : Nat} {l : Sl} {zs : List Int} {A : List Nat} {L : LHeap} (hl : Rd L l (zs.map iV) A) (hs : zs.length < 2 ^ 40) (hk : zs.length + 50 ≤ k) :
    (may zs = false → ∃ L', f42 k l L = some (.ret (.tuple #[.pointer none, .int .i64 4]) L') ∧ Step [] L [] L') ∧
    (may zs = true → ∃ b F L', f42 k l L = some (.ret (.tuple #[.pointer (some ⟨b, 0, none⟩), .int .i64 0]) L') ∧ CO L' b zs F ∧ Step [] L F L') := by
  obtain ⟨k, rfl⟩ : ∃ k', k = k' + 1 := ⟨k - 1, by omega⟩
  have hn := hl.len
  simp only [List.length_map] at hn
  obtain ⟨sc, L1, Fc, a1, a2, a3⟩ := codes_ok (k := k) hl hs (by omega)
  rw [f42_eq]
  simp only [a1, lbind_ret, tupL_tuple, uncons_cons, nilL_nil, asSl_slice, asI_int, obind_some]
  constructor
  · intro hm
    rw [codesErr, hm]
    exact ⟨L1, rfl, a3.less fun i hi => by simp at hi⟩
  · intro hm
    obtain ⟨hok, h512, hfill⟩ := may_ok hm
    have hcr : codesRes zs = codesOf zs := by rw [codesRes, if_pos hm]
    have hce : codesErr zs = 0 := by rw [codesErr, if_pos hm]
    rw [hce]
    rw [hcr] at a2
    have hl1 := hl.mono (a3.others hl.within (none_apart _))
    obtain ⟨L2, cs, b1, b2, b3, b4⟩ := count_ok (k := k) hl1 (by omega) (by omega)
    obtain rfl := b3 hok
    have hl2 := hl1.mono (b4.others hl1.within (none_apart _))
    have a22 := a2.mono (b4.others a2.within (none_apart _))
    simp only [bne_self_eq_false, lif_false, b1, lbind_ret, tupL_tuple, uncons_cons, nilL_nil, asAgg_agg, asB_bool, obind_some, b2, Nat.beq_refl, when_true]
    generalize hX : LBlk.cells _ 84 false 0 = X
    have hX' : X = .cells (cntCells []) 84 false 0 := by rw [← hX]; rfl
    have hnew : (L2 ++ [X])[L2.length]? = some (.cells (cntCells []) 84 false 0) := by rw [get_new, hX']
    rw [stores_all hnew (news := cntCells zs) (by simp)]
    have st3 : Step [] L2 [L2.length] ((L2 ++ [X]).set L2.length (.cells (cntCells zs) 84 false 0)) := (Step.new [] L2 X).trans (Step.set _ (by simp))
    have hb3 := get_set_self (x := LBlk.cells (cntCells zs) 84 false 0) hnew
    generalize (L2 ++ [X]).set L2.length (.cells (cntCells zs) 84 false 0) = L3 at *
    have hl3 := hl2.mono (st3.others hl2.within (none_apart _))
    have a23 := a22.mono (st3.others a22.within (none_apart _))
    obtain ⟨sl, L4, Fl, d1, d2, d3⟩ := clone_ok (k := k) hl3 (by omega) (by omega)
    have hl4 := hl3.mono (d3.others hl3.within (none_apart _))
    have a24 := a23.mono (d3.others a23.within (none_apart _))
    have hb4 : L4[L2.length]? = some (.cells (cntCells zs) 84 false 0) := by rw [d3.keep _ (get_lt hb3) (by simp), hb3]
    obtain ⟨L5, e1, e2⟩ := firsts_ok (k := k) (L := L4) hfill (by omega)
    have hl5 := hl4.mono (e2.others hl4.within (none_apart _))
    have a25 := a24.mono (e2.others a24.within (none_apart _))
    have d25 := d2.mono (e2.others d2.within (none_apart _))
    simp only [obind_some, d1, lbindR_ret, asSl_slice, cellsAt_all hb4 (cntCells_length zs), cellsAt_all hb3 (cntCells_length zs), same_self, when_true, e1, asAgg_agg, fcAll_length]
    generalize hW : setAll _ 2 (fcAll zs) = W
    have hWe : W = coderCells sl sc zs (fun _ => ⟨none, 0, 0⟩) := by
      rw [← hW]
      have := setAll_append [slV sl, slV sc] (List.replicate 16 (Value.slice none 0 0)) (fcAll zs) (List.replicate 16 (Value.int .u32 0)) (by simp)
      simp only [List.length_cons, List.length_nil, Nat.zero_add] at this
      exact this
    have hb87 : Nat.beq 16 (Program.cellsOf Proofs.Try.prog #[Field.mk "lengths" 38 0 false "" "hamper/huff" 0, Field.mk "codes" 60 1 false "" "hamper/huff" 24, Field.mk "first" 87 2 false "" "hamper/huff" 48, Field.mk "symbols" 89 18 false "" "hamper/huff" 112][2].type) = true := by
      show Nat.beq 16 (Program.cellsOf Proofs.Try.prog 87) = true
      rw [cells87]; rfl
    rw [hb87]
    simp only [when_true, hWe]
    have hb6 : (L5 ++ [LBlk.cells (coderCells sl sc zs (fun _ => ⟨none, 0, 0⟩)) 91 false 0])[L5.length]? = some (.cells (coderCells sl sc zs (fun _ => ⟨none, 0, 0⟩)) 91 false 0) := get_new
    have st6 := Step.new [] L5 (LBlk.cells (coderCells sl sc zs (fun _ => ⟨none, 0, 0⟩)) 91 false 0)
    generalize L5 ++ [LBlk.cells (coderCells sl sc zs (fun _ => ⟨none, 0, 0⟩)) 91 false 0] = L6 at *
    have hl6 := hl5.mono (st6.others hl5.within (none_apart _))
    have a26 := a25.mono (st6.others a25.within (none_apart _))
    have d26 := d25.mono (st6.others d25.within (none_apart _))
    have wU : Within (Fc ++ Fl ++ A) L6 := fun i hi => by
      simp only [List.mem_append] at hi
      rcases hi with (hi | hi) | hi
      · exact a26.within i hi
      · exact d26.within i hi
      · exact hl6.within i hi
    obtain ⟨sy, G, L7, g1, g2, g3, g4, g5, g6⟩ := new_loop (k := k) (b := L5.length) (sl := sl) (sc := sc) (U := Fc ++ Fl ++ A) hok hn h512 (fun h => by have := hl5.within _ h; omega) (fun i hi => by simp [hi]) zs.length 0 k (fun _ => ⟨none, 0, 0⟩) (fun _ => []) L6 (by omega) (by omega) hb6
      ⟨fun n _ => ⟨OS.nil _ _, by simp, none_apart _⟩, fun _ _ _ _ _ => none_apart _⟩ wU hl6
    rw [hn] at g1
    have keepU : ∀ i ∈ Fc ++ Fl ++ A, L7[i]? = L6[i]? := fun i hi => g5 i (wU i hi) (fun e => by
      subst e
      simp only [List.mem_append] at hi
      rcases hi with (hi | hi) | hi
      · have := a25.within _ hi; omega
      · have := d25.within _ hi; omega
      · have := hl5.within _ hi; omega) (fun _ _ => by simp)
    have hlen6 : L.length ≤ L6.length := by
      have := a3.len; have := b4.len; have := st3.len; have := d3.len; have := e2.len; have := st6.len; omega
    refine ⟨L5.length, L5.length :: (Fc ++ Fl ++ (List.range 16).flatMap G), L7, ?_, ⟨sl, sc, sy, Fl, Fc, G, g2, ?_, ?_, ?_, by simp, fun i hi => by simp [hi], fun i hi => by simp [hi], ?_, ?_⟩, ?_⟩
    · rw [hn]; exact g1
    · exact (d26.mono fun i hi => keepU i (by simp [hi])).rd
    · exact (a26.mono fun i hi => keepU i (by simp [hi])).rd
    · exact fun n hn16 => (g3.1 n hn16).1.ws.rd
    · intro n hn16 i hi
      simp only [List.mem_cons, List.mem_append, List.mem_flatMap, List.mem_range]
      exact .inr (.inr ⟨n, hn16, hi⟩)
    · intro i hi
      simp only [List.mem_cons, List.mem_append, List.mem_flatMap, List.mem_range] at hi
      rcases hi with rfl | (hi | hi) | ⟨n, hn16, hi⟩
      · exact get_lt g2
      · exact Nat.lt_of_lt_of_le (a26.within i hi) g4
      · exact Nat.lt_of_lt_of_le (d26.within i hi) g4
      · exact (g3.1 n hn16).1.within i hi
    · refine ⟨Nat.le_trans hlen6 g4, fun i hi _ => ?_, fun i hi => .inr ?_⟩
      · have q1 := a3.len; have q2 := b4.len; have q3 := st3.len; have q4 := d3.len; have q5 := e2.len
        rw [g5 i (by omega) (by omega) (fun _ _ => by simp), st6.keep i (by omega) (by simp), e2.keep i (by omega) (by simp), d3.keep i (by omega) (by simp), st3.keep i (by omega) (by simp), b4.keep i (by omega) (by simp), a3.keep i hi (by simp)]
      · have q1 := a3.len; have q2 := b4.len; have q3 := st3.len; have q4 := d3.len; have q5 := e2.len; have q6 := st6.len
        simp only [List.mem_cons, List.mem_append, List.mem_flatMap, List.mem_range] at hi
        rcases hi with rfl | (hi | hi) | ⟨n, hn16, hi⟩
        · omega
        · rcases a3.foot i hi with q | q
          · simp at q
          · omega
        · rcases d3.foot i hi with q | q
          · simp at q
          · omega
        · rcases g6 n hn16 i hi with q | q
          · simp at q
          · omega

end Go.Proofs.Ytlcchghlhfamjaa.X

/- The reference's 'once'. -/
import Derived.Test.YtlcchghlhfamjaaRlmTwo
import Derived.Test.YtlcchghlhfamjaaHuffTake
set_option linter.unusedVariables false
namespace Go.Proofs.Ytlcchghlhfamjaa.X
open Go Go.Rlm

theorem size100 : Proofs.Try.prog.types[100].size = 3 := by kernel_rfl
theorem bytes100 : Proofs.Try.prog.types[100].bytes = 40 := by kernel_rfl

abbrev Ent := Int × Sl × Bool
def entCells : List Ent → List Value
  | [] => []
  | p :: ps => iV p.1 :: slV p.2.1 :: .bool p.2.2 :: entCells ps
@[simp] theorem entCells_length (ps : List Ent) : (entCells ps).length = ps.length * 3 := by
  induction ps with
  | nil => rfl
  | cons p ps ih => simp [entCells, ih]; omega
theorem entCells_get {ps : List Ent} {i : Nat} {p : Ent} (h : ps[i]? = some p) : (entCells ps)[i * 3]? = some (iV p.1) ∧ (entCells ps)[i * 3 + 1]? = some (slV p.2.1) ∧ (entCells ps)[i * 3 + 2]? = some (.bool p.2.2) := by
  induction ps generalizing i with
  | nil => simp at h
  | cons q ps ih =>
    cases i with
    | zero => simp at h; subst h; simp [entCells]
    | succ i =>
      have := ih (i := i) (by simpa using h)
      rw [show (i + 1) * 3 = i * 3 + 1 + 1 + 1 by omega]
      simpa [entCells] using this
theorem entCells_append (a b : List Ent) : entCells (a ++ b) = entCells a ++ entCells b := by
  induction a with
  | nil => rfl
  | cons p a ih => simp [entCells, ih]
theorem entCells_set {ps : List Ent} {i : Nat} {p : Ent} (h : ps[i]? = some p) (g : Bool) : (entCells ps).set (i * 3 + 2) (.bool g) = entCells (ps.set i (p.1, p.2.1, g)) := by
  induction ps generalizing i with
  | nil => simp at h
  | cons q ps ih =>
    cases i with
    | zero => simp at h; subst h; simp [entCells]
    | succ i =>
      have := ih (i := i) (by simpa using h)
      rw [show (i + 1) * 3 + 2 = i * 3 + 2 + 1 + 1 + 1 by omega]
      simp [entCells, this]

theorem OZ.blk {L : LHeap} {s : Sl} {vs : List Value} {e : TypeId} {z : Nat} {F : List Nat} (h : OZ L s vs e z F) (h0 : 0 < s.n) :
    ∃ c, F = [c] ∧ L[c]? = some (.cells vs e false z) ∧ (∀ i, i < s.n → idx s (i : Int) z = some ⟨c, i * z, none⟩) ∧ ∀ L' vs', L'[c]? = some (.cells vs' e false z) → vs'.length = vs.length → OZ L' s vs' e z F := by
  obtain ⟨h1, h2, ⟨rfl, _, _⟩ | ⟨c, h3, h4, rfl⟩⟩ := h
  · simp at h0
  · refine ⟨c, rfl, h4, fun i hi => ?_, fun L' vs' hb hl => ⟨by omega, h2, .inr ⟨c, h3, hb, rfl⟩⟩⟩
    rw [h3, idx_of hi]
    simp

theorem copy_os {L : LHeap} {vs : List Value} (e : TypeId) (bytes : Nat) (hne : vs ≠ []) (hb : vs.length * bytes ≤ 2 ^ 47) (hl : vs.length ≤ 2 ^ 62) :
    ∃ s' L' F', Rlm.app (L ++ [LBlk.cells [] e false 0]) e 1 bytes ⟨some ⟨L.length, 0, none⟩, 0, 0⟩ vs.length vs = some (s', L') ∧ OS L' s' vs e F' ∧ Step [] L F' L' := by
  simp only [Rlm.app, Nat.zero_add]
  rw [show Nat.blt 0 OPEN = true from rfl, cond_true]
  cases vs with
  | nil => exact absurd rfl hne
  | cons v vs =>
    have hf : Nat.ble (v :: vs).length 0 = false := rfl
    rw [hf, Nat.ble_eq_true_of_le hb, Nat.ble_eq_true_of_le hl]
    simp only [cond_false, Bool.and_self, cond_true, srcCells, Nat.beq_refl, Option.bind_eq_bind, Option.bind_some, List.nil_append]
    refine ⟨⟨some ⟨(L ++ [LBlk.cells [] e false 0]).length, 0, none⟩, (v :: vs).length, OPEN⟩, _, [(L ++ [LBlk.cells [] e false 0]).length], rfl, .inr ⟨_, rfl, get_new, rfl⟩, ?_⟩
    exact (Step.push [] L _).trans (.new [] _ _)

/-- The reference's forest. -/
def Ents (L : LHeap) (l2 : Sl) (es : List Ent) (ks : List Nat) (ts : List HT) (Ge S : List Nat) : Prop :=
  OZ L l2 (entCells es) 100 3 Ge ∧ ks.Pairwise (· < ·) ∧ (∀ k e, es[k]? = some e → (e.2.2 = false ↔ k ∈ ks)) ∧ (∀ k ∈ ks, k < es.length) ∧ ks.length = ts.length ∧
    (∀ (p k : Nat) (t : HT), ks[p]? = some k → ts[p]? = some t → ∃ (s : Sl) (A : List Nat), es[k]? = some ((t.wt : Int), s, false) ∧ Rd L s (t.syms.map kV) A ∧ ∀ i ∈ A, i ∈ S) ∧ Within S L ∧ Apart Ge S

theorem dec_t {P : Prop} {i : Decidable P} (h : P) : @decide P i = true := by simp [h]
theorem lif_t {P : Prop} {i : Decidable P} (h : P) {x y z : R} (e : x = z) : lif (@decide P i) x y = z := by rw [dec_t h]; exact e
theorem dec_f {P : Prop} {i : Decidable P} (h : ¬ P) : @decide P i = false := by simp [h]

def posOf (ks : List Nat) (o : Option Nat) : Int := match o with | some q => ((ks.getD q 0 : Nat) : Int) | none => -1

theorem scan {k j12 : Nat} {l1 l2 : Sl} {n3 : Int} {es : List Ent} {ks : List Nat} {ts : List HT} {Ge S : List Nat} {L : LHeap} (h : Ents L l2 es ks ts Ge S) (hes : es.length < 2 ^ 40) :
    ∀ (m i p j : Nat), i + m = es.length → m < j → p ≤ ks.length → (∀ q, q < p → ks.getD q 0 < i) → (∀ q, p ≤ q → q < ks.length → i ≤ ks.getD q 0) →
      f54_l15 k j12 j l1 l2 n3 (posOf ks (twoTo (ts.map HT.wt) p).1) (posOf ks (twoTo (ts.map HT.wt) p).2) (i : Int) L =
        f54_l15 k j12 (j - m) l1 l2 n3 (posOf ks (twoTo (ts.map HT.wt) ts.length).1) (posOf ks (twoTo (ts.map HT.wt) ts.length).2) (es.length : Int) L := by
  obtain ⟨h1, h2, h3, h4, h5, h6, h7, h8⟩ := h
  have hn : l2.n = es.length := by have := h1.1; simp at this; omega
  have hd : ∀ q, (hq : q < ks.length) → ks.getD q 0 = ks[q] := fun q hq => by rw [List.getD_eq_getElem?_getD, List.getElem?_eq_getElem hq]; rfl
  have wgt : ∀ q, (hq : q < ks.length) → ∃ c, idx l2 ((ks.getD q 0 : Nat) : Int) 3 = some ⟨c, ks.getD q 0 * 3, none⟩ ∧ cell L ⟨c, ks.getD q 0 * 3 + 0, none⟩ = some (.int .i64 ((ts.map HT.wt).getD q 0 : Nat)) := by
    intro q hq
    obtain ⟨s, A, e1, _, _⟩ := h6 q ks[q] ts[q] (List.getElem?_eq_getElem hq) (List.getElem?_eq_getElem (by omega))
    have hlt := h4 _ (List.getElem_mem hq)
    obtain ⟨c, c1, c2⟩ := h1.get (i := ks[q]) (by omega)
    refine ⟨c, by rw [hd q hq]; exact c1, ?_⟩
    rw [hd q hq, c2 L (fun _ _ => rfl), Nat.add_zero, (entCells_get e1).1, wt_getD ts q (by omega), List.getD_eq_getElem?_getD, List.getElem?_eq_getElem (by omega)]
    rfl
  intro m
  induction m with
  | zero =>
    intro i p j hi hj hp hlo hhi
    obtain rfl : i = es.length := by omega
    have : p = ts.length := by
      rcases Nat.lt_or_ge p ks.length with h | h
      · have := hhi p (Nat.le_refl _) h
        rw [hd p h] at this
        have := h4 _ (List.getElem_mem h)
        omega
      · omega
    rw [this]
    rfl
  | succ m ih =>
    intro i p j hi hj hp hlo hhi
    obtain ⟨j, rfl⟩ : ∃ j', j = j' + 1 := ⟨j - 1, by omega⟩
    have hiz : i < es.length := by omega
    obtain ⟨c, c1, c2⟩ := h1.get (i := i) (by omega)
    have hget : es[i]? = some es[i] := List.getElem?_eq_getElem hiz
    obtain ⟨_, _, g3⟩ := entCells_get hget
    have cc : cell L ⟨c, i * 3 + 2, none⟩ = some (.bool es[i].2.2) := by rw [c2 L (fun _ _ => rfl), g3]
    rw [f54_l15_eq, decide_eq_true (by omega), lif_true, c1, obind_some]
    simp only [mk_add, cc, Option.bind_some, asB_bool, obind_some]
    rw [wI64 (n := (i : Int) + 1) (by omega) (by omega), show j + 1 - (m + 1) = j - m by omega]
    by_cases hg : es[i].2.2 = false
    · have hik := (h3 i es[i] hget).1 hg
      -- the place is p
      have hpk : p < ks.length ∧ ks.getD p 0 = i := by
        obtain ⟨q, hq, hqe⟩ := List.getElem_of_mem hik
        have h9 : p ≤ q := by
          rcases Nat.lt_or_ge q p with hh | hh
          · have := hlo q hh; rw [hd q hq] at this; omega
          · exact hh
        have hpl : p < ks.length := by omega
        have h10 := hhi p (Nat.le_refl _) hpl
        rcases Nat.lt_or_ge p q with hh | hh
        · have := List.pairwise_iff_getElem.1 h2 p q hpl hq hh
          rw [hd p hpl] at h10
          omega
        · obtain rfl : p = q := by omega
          exact ⟨hpl, by rw [hd p hpl]; exact hqe⟩
      obtain ⟨hpl, hpi⟩ := hpk
      have next := ih (i + 1) (p + 1) j (by omega) (by omega) (by omega) (fun q hq => by
        rcases Nat.lt_or_ge q p with hh | hh
        · have := hlo q hh; omega
        · obtain rfl : q = p := by omega
          omega) (fun q hq hql => by
        have := List.pairwise_iff_getElem.1 h2 p q hpl hql (by omega)
        rw [hd q hql]
        rw [hd p hpl] at hpi
        omega)
      have hst : twoTo (ts.map HT.wt) (p + 1) = twoStep (ts.map HT.wt) p (twoTo (ts.map HT.wt) p) := rfl
      have hspec := twoTo_spec (ts.map HT.wt) p
      rw [hg, lif_false]
      obtain ⟨wp, wp1, wp2⟩ := wgt p hpl
      rw [hpi] at wp1 wp2
      obtain rfl : wp = c := by have := wp1.symm.trans c1; simpa using this
      rcases Nat.lt_or_ge p 1 with hp0 | hp1
      · obtain rfl : p = 0 := by omega
        have e0 : twoTo (ts.map HT.wt) 0 = (none, none) := rfl
        rw [hst, e0] at next
        rw [e0]
        simp only [twoStep] at next
        simp only [posOf] at next
        rw [hpi] at next
        exact lif_t (by simp [posOf]) next
      · have hab : ∃ a ob, twoTo (ts.map HT.wt) p = (some a, ob) ∧ a < p ∧ (∀ b, ob = some b → b < p) := by
          rcases Nat.lt_or_ge p 2 with h | h
          · exact ⟨0, none, hspec.2.1 (by omega), by omega, fun b hb => by cases hb⟩
          · obtain ⟨a, b, e, f, s⟩ := hspec.2.2 h
            exact ⟨a, some b, e, f.1, fun b' hb => by cases hb; exact s.1⟩
        obtain ⟨a, ob, e0, ha, hob⟩ := hab
        obtain ⟨wa, wa1, wa2⟩ := wgt a (by omega)
        rw [hst, e0] at next
        rw [e0]
        simp only [twoStep] at next
        have pa : posOf ks (some a) = ((ks.getD a 0 : Nat) : Int) := rfl
        rw [pa, decide_eq_false (show ¬ (((ks.getD a 0 : Nat) : Int) < 0) by omega), lif_false, wp2, wa1]
        simp only [mk_add, wa2, Option.bind_some, asI_int, obind_some]
        by_cases hw : (ts.map HT.wt).getD p 0 < (ts.map HT.wt).getD a 0
        · rw [decide_eq_true (show (((ts.map HT.wt).getD p 0 : Nat) : Int) < (((ts.map HT.wt).getD a 0 : Nat) : Int) by omega), lif_true]
          rw [if_pos hw] at next
          simp only [posOf] at next
          rw [hpi] at next
          exact next
        · rw [decide_eq_false (show ¬ ((((ts.map HT.wt).getD p 0 : Nat) : Int) < (((ts.map HT.wt).getD a 0 : Nat) : Int)) by omega), lif_false]
          rw [if_neg hw] at next
          cases ob with
          | none =>
            simp only [posOf] at next
            rw [hpi] at next
            exact lif_t (by simp [posOf]) next
          | some b =>
            obtain ⟨wb, wb1, wb2⟩ := wgt b (by have := hob b rfl; omega)
            have pb : posOf ks (some b) = ((ks.getD b 0 : Nat) : Int) := rfl
            rw [pb, decide_eq_false (show ¬ (((ks.getD b 0 : Nat) : Int) < 0) by omega), lif_false]
            simp only [wp2, wb1, obind_some, mk_add, wb2, Option.bind_some, asI_int]
            simp only at next
            by_cases hw2 : (ts.map HT.wt).getD p 0 < (ts.map HT.wt).getD b 0
            · rw [decide_eq_true (show (((ts.map HT.wt).getD p 0 : Nat) : Int) < (((ts.map HT.wt).getD b 0 : Nat) : Int) by omega), lif_true]
              rw [if_pos hw2] at next
              simp only [posOf] at next
              rw [hpi] at next
              exact next
            · rw [decide_eq_false (show ¬ ((((ts.map HT.wt).getD p 0 : Nat) : Int) < (((ts.map HT.wt).getD b 0 : Nat) : Int)) by omega), lif_false]
              rw [if_neg hw2] at next
              exact next
    · have hgt : es[i].2.2 = true := by simpa using hg
      have hnk : i ∉ ks := fun hh => hg ((h3 i es[i] hget).2 hh)
      rw [hgt, lif_true]
      refine ih (i + 1) p j (by omega) (by omega) hp (fun q hq => by have := hlo q hq; omega) (fun q hq hql => ?_)
      have h10 := hhi q hq hql
      rcases Nat.eq_or_lt_of_le h10 with hh | hh
      · exact absurd (List.getElem_mem hql) (by rw [← hd q hql, ← hh]; exact hnk)
      · omega

theorem inc_loop {k j12 : Nat} {l1 l2 l6 : Sl} {n3 n4 n5 : Int} {is : List Nat} {A Fo : List Nat} {out : List Int} {B : Int} (his : ∀ i ∈ is, i < out.length) (hd : is.Nodup) (hB : ∀ z ∈ out, 0 ≤ z ∧ z < B) (hB2 : B < 2 ^ 40) (hlen : is.length < 2 ^ 40) (hA : Apart Fo A) :
    ∀ (m q j : Nat) (L : LHeap), q + m = is.length → m < j → Rd L l6 (is.map kV) A → WS L l1 ((incAll (is.take q) out).map iV) 3 Fo →
      ∃ L', f54_l27 k j12 j l1 l2 n3 n4 n5 l6 (q : Int) L = f54_l27 k j12 (j - m) l1 l2 n3 n4 n5 l6 (is.length : Int) L' ∧ WS L' l1 ((incAll is out).map iV) 3 Fo ∧ Step Fo L Fo L' := by
  intro m
  induction m with
  | zero =>
    intro q j L hq hj hr hw
    obtain rfl : q = is.length := by omega
    rw [List.take_length] at hw
    exact ⟨L, rfl, hw, .refl _ _⟩
  | succ m ih =>
    intro q j L hq hj hr hw
    obtain ⟨j, rfl⟩ : ∃ j', j = j' + 1 := ⟨j - 1, by omega⟩
    have hql : q < is.length := by omega
    have hn := hr.len
    simp only [List.length_map] at hn
    obtain ⟨a, a1, a2⟩ := hr.here (i := q) (v := kV is[q]) (by simp [hql])
    have hio := his _ (List.getElem_mem hql)
    have htk : is.take (q + 1) = is.take q ++ [is[q]] := by rw [List.take_add_one, List.getElem?_eq_getElem hql]; rfl
    have hd2 : (is.take (q + 1)).Nodup := hd.sublist (List.take_sublist _ _)
    rw [htk] at hd2
    obtain ⟨d1, _, d3⟩ := List.nodup_append.1 hd2
    have hz : (incAll (is.take q) out)[is[q]]? = some out[is[q]] := by
      have := incAll_get d1 (List.getElem?_eq_getElem hio)
      rw [if_neg (fun h => d3 _ h _ (by simp) rfl)] at this
      exact this
    have hzb := hB _ (List.getElem_mem hio)
    obtain ⟨b, b1, b2⟩ := hw.rd.here (i := is[q]) (v := iV out[is[q]]) (by rw [List.getElem?_map, hz]; rfl)
    obtain ⟨b', L1, c1, c2, c3, c4⟩ := hw.put (i := is[q]) (by simpa using hio) (iV (out[is[q]] + 1))
    obtain rfl : b = b' := Option.some.inj (b1.symm.trans c1)
    have hinc : (incAll (is.take q) out).set is[q] (out[is[q]] + 1) = incAll (is.take (q + 1)) out := by
      rw [htk]
      simp only [incAll, List.foldl_append, List.foldl_cons, List.foldl_nil]
      rw [show List.foldl inc out (is.take q) = incAll (is.take q) out from rfl]
      unfold inc
      rw [List.getD_eq_getElem?_getD, hz]
      rfl
    rw [← List.map_set, hinc] at c3
    obtain ⟨L2, e1, e2, e3⟩ := ih (q + 1) j L1 (by omega) (by omega) (hr.mono (c4.others hr.within hA)) c3
    refine ⟨L2, ?_, e2, c4.trans e3⟩
    rw [show j + 1 - (m + 1) = j - m by omega, ← e1, f54_l27_eq, decide_eq_true (by omega)]
    have c2 : stores L b [Value.int .i64 (out[is[q]] + 1)] = some L1 := c2
    simp only [lif_true, a1, a2, kV, obind_some, Option.bind_some, asI_int, b1, b2, iV]
    rw [wI64 (n := out[is[q]] + 1) (by omega) (by omega), wI64 (n := (q : Int) + 1) (by omega) (by omega), c2]
    rfl

theorem mem_erase {ks : List Nat} (h : ks.Pairwise (· < ·)) {a : Nat} (ha : a < ks.length) (x : Nat) : x ∈ ks.eraseIdx a ↔ x ∈ ks ∧ x ≠ ks.getD a 0 := by
  have e : ks.getD a 0 = ks[a] := by rw [List.getD_eq_getElem?_getD, List.getElem?_eq_getElem ha]; rfl
  rw [List.mem_eraseIdx_iff_getElem, e]
  constructor
  · rintro ⟨i, hi, hne, rfl⟩
    refine ⟨List.getElem_mem hi, fun hh => ?_⟩
    rcases Nat.lt_or_gt_of_ne hne with hl | hl
    · have := List.pairwise_iff_getElem.1 h i a hi ha hl; omega
    · have := List.pairwise_iff_getElem.1 h a i ha hi hl; omega
  · rintro ⟨hm, hne⟩
    obtain ⟨i, hi, rfl⟩ := List.getElem_of_mem hm
    exact ⟨i, hi, fun hh => hne (by subst hh; rfl), rfl⟩

theorem src_ent {L : LHeap} {u v w : Value} {e : TypeId} {ro : Bool} {sp c : Nat} : srcOf (L ++ [LBlk.cells [u, v, w] e ro sp]) 3 1 (.slice (some ⟨L.length, 0, none⟩) 1 c) = some [u, v, w] := src_tri

theorem merge1 {k j N : Nat} {l1 l2 : Sl} {es : List Ent} {ks : List Nat} {ts : List HT} {Ge S Fo : List Nat} {L : LHeap} {out : List Int} {B : Int} (h : Ents L l2 es ks ts Ge S) (hw : WS L l1 (out.map iV) 3 Fo) (hFG : Apart Fo Ge) (hFS : Apart Fo S)
    (h2 : 2 ≤ ts.length) (hes : es.length < 2 ^ 30) (his : ∀ i ∈ allSyms ts, i < out.length) (hd : (allSyms ts).Nodup) (hsl : (allSyms ts).length < 2 ^ 30) (hts : ts.length < 2 ^ 30) (htot : total ts < 2 ^ 60) (hB : ∀ z ∈ out, 0 ≤ z ∧ z < B) (hB2 : B < 2 ^ 40)
    (hk : es.length + (allSyms ts).length + 10 ≤ k) :
    ∃ (l2' : Sl) (es' : List Ent) (ks' Ge' S' : List Nat) (L' : LHeap), f54_l12 k (j + 1) l1 l2 (ts.length : Int) L = f54_l12 k j l1 l2' ((ts.length - 1 : Nat) : Int) L' ∧ Ents L' l2' es' ks' (join ts) Ge' S' ∧
      WS L' l1 ((incAll ((pick ts).syms ++ (pick (rest ts)).syms) out).map iV) 3 Fo ∧ es'.length = es.length + 1 ∧ Apart Fo Ge' ∧ Apart Fo S' ∧ Step (Fo ++ Ge) L (Fo ++ Ge') L' := by
  have h' := h
  obtain ⟨h1, hk2, h3, h4, h5, h6, h7, h8⟩ := h
  have hn : l2.n = es.length := by have := h1.1; simp at this; omega
  have hne : ts ≠ [] := by intro h0; subst h0; simp at h2
  have hr1 := rest_length hne
  have hne2 : rest ts ≠ [] := by intro h0; rw [h0] at hr1; simp at hr1; omega
  have hla := least_lt hne
  have hlj := least_lt hne2
  -- the scan
  have hsc := scan (k := k) (j12 := j) (l1 := l1) (n3 := (ts.length : Int)) h' (by omega) es.length 0 0 k (by omega) (by omega) (by omega) (fun q hq => by omega) (fun q _ hq => by omega)
  rw [two_least h2] at hsc
  have hsc : f54_l15 k j k l1 l2 (ts.length : Int) (-1) (-1) 0 L = f54_l15 k j (k - es.length) l1 l2 (ts.length : Int) ((ks.getD (least ts) 0 : Nat) : Int) ((ks.getD (if least (rest ts) < least ts then least (rest ts) else least (rest ts) + 1) 0 : Nat) : Int) (es.length : Int) L := hsc
  -- the two places
  have ha0 : ks.getD (least ts) 0 = ks[least ts] := by rw [List.getD_eq_getElem?_getD, List.getElem?_eq_getElem (by omega)]; rfl
  have hka : ks[least ts]? = some (ks.getD (least ts) 0) := by rw [ha0]; exact List.getElem?_eq_getElem (by omega)
  generalize hb : (if least (rest ts) < least ts then least (rest ts) else least (rest ts) + 1) = b at *
  have hbl : b < ks.length := by rw [← hb]; split <;> omega
  have hba : b ≠ least ts := by rw [← hb]; split <;> omega
  have hkb : ks[b]? = some (ks.getD b 0) := by rw [List.getD_eq_getElem?_getD, List.getElem?_eq_getElem hbl]; rfl
  have hpa : ts[least ts]? = some (pick ts) := by rw [pick, List.getD_eq_getElem?_getD, List.getElem?_eq_getElem hla]; rfl
  have hpb : ts[b]? = some (pick (rest ts)) := by
    have e0 : (rest ts)[least (rest ts)]? = some (pick (rest ts)) := by rw [pick, List.getD_eq_getElem?_getD, List.getElem?_eq_getElem hlj]; rfl
    have e : (ts.eraseIdx (least ts))[least (rest ts)]? = some (pick (rest ts)) := e0
    rw [List.getElem?_eraseIdx] at e
    rw [← hb]
    split at e
    · rename_i hh; rw [if_pos hh]; exact e
    · rename_i hh; rw [if_neg hh]; exact e
  have hkb2 : (ks.eraseIdx (least ts)).getD (least (rest ts)) 0 = ks.getD b 0 := by rw [getD_erase, hb]
  obtain ⟨sa, A1, ea, ra, sA1⟩ := h6 _ _ _ hka hpa
  obtain ⟨sb, A2, eb, rb, sA2⟩ := h6 _ _ _ hkb hpb
  have hna : ks.getD b 0 ≠ ks.getD (least ts) 0 := by
    rw [ha0]
    have hb0 : ks.getD b 0 = ks[b] := by rw [List.getD_eq_getElem?_getD, List.getElem?_eq_getElem hbl]; rfl
    rw [hb0]
    rcases Nat.lt_or_gt_of_ne hba with hl | hl
    · have := List.pairwise_iff_getElem.1 hk2 b (least ts) hbl (by omega) hl; omega
    · have := List.pairwise_iff_getElem.1 hk2 (least ts) b (by omega) hbl hl; omega
  have hmem2 : ∀ x, x ∈ (ks.eraseIdx (least ts)).eraseIdx (least (rest ts)) ↔ x ∈ ks ∧ x ≠ ks.getD (least ts) 0 ∧ x ≠ ks.getD b 0 := by
    intro x
    rw [mem_erase (hk2.sublist (List.eraseIdx_sublist _ _)) (by rw [List.length_eraseIdx_of_lt (by omega)]; omega), mem_erase hk2 (by omega), hkb2]
    exact ⟨fun ⟨⟨p, q⟩, r⟩ => ⟨p, q, r⟩, fun ⟨p, q, r⟩ => ⟨⟨p, q⟩, r⟩⟩
  have hsort2 : ((ks.eraseIdx (least ts)).eraseIdx (least (rest ts))).Pairwise (· < ·) := (hk2.sublist (List.eraseIdx_sublist _ _)).sublist (List.eraseIdx_sublist _ _)
  have hlen2 : ((ks.eraseIdx (least ts)).eraseIdx (least (rest ts))).length = (rest (rest ts)).length := by
    rw [List.length_eraseIdx_of_lt (by rw [List.length_eraseIdx_of_lt (by omega)]; omega), List.length_eraseIdx_of_lt (by omega), rest_length hne2, hr1]; omega
  have hget2 : ∀ (p q : Nat) (t : HT), ((ks.eraseIdx (least ts)).eraseIdx (least (rest ts)))[p]? = some q → (rest (rest ts))[p]? = some t → ∃ p' : Nat, ks[p']? = some q ∧ ts[p']? = some t := by
    intro p q t e1 e2
    have step : ∀ {α β : Type} (xs : List α) (ys : List β) (i p : Nat) (x : α) (y : β), (xs.eraseIdx i)[p]? = some x → (ys.eraseIdx i)[p]? = some y → ∃ p' : Nat, xs[p']? = some x ∧ ys[p']? = some y := by
      intro α β xs ys i p x y g1 g2
      rw [List.getElem?_eraseIdx] at g1 g2
      split at g1
      · rename_i hh; rw [if_pos hh] at g2; exact ⟨p, g1, g2⟩
      · rename_i hh; rw [if_neg hh] at g2; exact ⟨p + 1, g1, g2⟩
    obtain ⟨p1, g1, g2⟩ := step _ _ _ _ _ _ e1 (show ((rest ts).eraseIdx (least (rest ts)))[p]? = some t from e2)
    exact step _ _ _ _ _ _ g1 (show (ts.eraseIdx (least ts))[p1]? = some t from g2)
  generalize (ks.eraseIdx (least ts)).eraseIdx (least (rest ts)) = ks2 at *
  generalize ks.getD (least ts) 0 = a' at *
  generalize ks.getD b 0 = b' at *
  have hal : a' < es.length := get_lt ea
  have hbl' : b' < es.length := get_lt eb
  -- the flags
  obtain ⟨c, rfl, hc, hidx, hback⟩ := OZ.blk h1 (by omega)
  have ia := hidx a' (by omega)
  have ib := hidx b' (by omega)
  have hcl : (entCells es).length = es.length * 3 := entCells_length _
  have f1 : stores L ⟨c, a' * 3 + 2, none⟩ [.bool true] = some (L.set c (.cells ((entCells es).set (a' * 3 + 2) (.bool true)) 100 false 3)) := stores_of hc (by simp; omega)
  rw [entCells_set ea] at f1
  have g1 : (L.set c (.cells (entCells (es.set a' (((pick ts).wt : Int), sa, true))) 100 false 3))[c]? = some (.cells (entCells (es.set a' (((pick ts).wt : Int), sa, true))) 100 false 3) := get_set_self hc
  have st1 : Step [c] L [c] (L.set c (.cells (entCells (es.set a' (((pick ts).wt : Int), sa, true))) 100 false 3)) := .set _ (by simp)
  generalize L.set c (.cells (entCells (es.set a' (((pick ts).wt : Int), sa, true))) 100 false 3) = L18 at *
  have eb2 : (es.set a' (((pick ts).wt : Int), sa, true))[b']? = some (((pick (rest ts)).wt : Int), sb, false) := by rw [List.getElem?_set_ne (Ne.symm hna), eb]
  have f2 : stores L18 ⟨c, b' * 3 + 2, none⟩ [.bool true] = some (L18.set c (.cells ((entCells (es.set a' (((pick ts).wt : Int), sa, true))).set (b' * 3 + 2) (.bool true)) 100 false 3)) := stores_of g1 (by simp; omega)
  rw [entCells_set eb2] at f2
  have ea2 : ((es.set a' (((pick ts).wt : Int), sa, true)).set b' (((pick (rest ts)).wt : Int), sb, true))[a']? = some (((pick ts).wt : Int), sa, true) := by rw [List.getElem?_set_ne hna, List.getElem?_set_self hal]
  have eb3 : ((es.set a' (((pick ts).wt : Int), sa, true)).set b' (((pick (rest ts)).wt : Int), sb, true))[b']? = some (((pick (rest ts)).wt : Int), sb, true) := by rw [List.getElem?_set_self (by simpa using hbl')]
  have eoth : ∀ q, q ≠ a' → q ≠ b' → ((es.set a' (((pick ts).wt : Int), sa, true)).set b' (((pick (rest ts)).wt : Int), sb, true))[q]? = es[q]? := fun q p1 p2 => by rw [List.getElem?_set_ne (Ne.symm p2), List.getElem?_set_ne (Ne.symm p1)]
  have el2 : ((es.set a' (((pick ts).wt : Int), sa, true)).set b' (((pick (rest ts)).wt : Int), sb, true)).length = es.length := by simp
  simp only at f1 f2
  generalize (es.set a' (((pick ts).wt : Int), sa, true)).set b' (((pick (rest ts)).wt : Int), sb, true) = es2 at *
  have g2 : (L18.set c (.cells (entCells es2) 100 false 3))[c]? = some (.cells (entCells es2) 100 false 3) := get_set_self g1
  have st2 : Step [c] L [c] (L18.set c (.cells (entCells es2) 100 false 3)) := st1.trans (.set _ (by simp))
  generalize L18.set c (.cells (entCells es2) 100 false 3) = L20 at *
  have hz20 : OZ L20 l2 (entCells es2) 100 3 [c] := hback L20 _ g2 (by simp [el2])
  obtain ⟨wa1, wa2, wa3⟩ := entCells_get ea2
  obtain ⟨wb1, wb2, wb3⟩ := entCells_get eb3
  have ra20 := ra.mono (st2.others ra.within fun i hi hj => h8 i hi (sA1 i hj))
  have rb20 := rb.mono (st2.others rb.within fun i hi hj => h8 i hi (sA2 i hj))
  have hw20 := hw.mono (st2.others hw.within hFG.symm)
  have hsub : (pick ts).syms.length + (pick (rest ts)).syms.length ≤ (allSyms ts).length := by
    have q1 := sum_rest (fun t => t.syms.length) hne
    have q2 := sum_rest (fun t => t.syms.length) hne2
    have q3 : ∀ us : List HT, (allSyms us).length = (us.map fun t => t.syms.length).sum := fun us => by unfold allSyms; rw [List.length_flatMap]
    rw [q3]
    omega
  have hsa := ra.len
  have hsb := rb.len
  simp only [List.length_map] at hsa hsb
  have hpos := height_syms (pick ts)
  -- the symbols
  obtain ⟨s1, L21, F1, c1, c2, c3⟩ := copy_os (L := L20) (vs := (pick ts).syms.map kV) 3 8 (by intro h0; have := congrArg List.length h0; simp at this; rw [this] at hpos; simp at hpos) (by simp; omega) (by simp; omega)
  have rb21 := rb20.mono (c3.others rb20.within (none_apart _))
  obtain ⟨s2, L22, F2, d1, d2, d3⟩ := c2.app ((pick (rest ts)).syms.map kV) 8 (by simp; omega) (by simp; omega)
  rw [← List.map_append] at d2
  have st3 : Step [] L20 F2 L22 := c3.trans d3
  have hw22 := hw20.mono (st3.others hw20.within (none_apart _))
  have hz21 := hz20.mono (c3.others hz20.within (none_apart _))
  have hz22 := hz20.mono (st3.others hz20.within (none_apart _))
  have apF2 : Apart Fo F2 := (st3.apart hw20.within (none_apart _)).symm
  have apG2 : Apart [c] F2 := (st3.apart hz20.within (none_apart _)).symm
  -- the counts
  have hp := join_perm h2
  have hdj : (allSyms (join ts)).Nodup := hp.nodup_iff.2 hd
  simp only [allSyms, join, List.flatMap_append, List.flatMap_cons, List.flatMap_nil, List.append_nil, HT.syms] at hdj
  obtain ⟨_, n2, _⟩ := List.nodup_append.1 hdj
  have hmemS : ∀ i ∈ (pick ts).syms ++ (pick (rest ts)).syms, i < out.length := fun i hi => by
    rcases List.mem_append.1 hi with hi | hi
    · exact his i (List.mem_flatMap.2 ⟨_, pick_mem hne, hi⟩)
    · exact his i (List.mem_flatMap.2 ⟨_, rest_sub (pick_mem hne2), hi⟩)
  obtain ⟨L23, e1, e2, e3⟩ := inc_loop (k := k) (j12 := j) (l2 := l2) (n3 := (ts.length : Int)) (n4 := (a' : Int)) (n5 := (b' : Int)) hmemS n2 hB hB2 (by simp; omega) apF2 ((pick ts).syms ++ (pick (rest ts)).syms).length 0 k L22 (by omega) (by simp; omega) d2.ws.rd (by simpa [incAll] using hw22)
  have hz23 := hz22.mono (e3.others hz22.within hFG)
  have d23 := d2.mono (e3.others d2.within apF2)
  -- the new one
  obtain ⟨l2', L24, Ge', p1, p2, p3, p4⟩ := (hz23.mono (L' := L23 ++ [LBlk.cells [iV (((pick ts).wt + (pick (rest ts)).wt : Nat) : Int), slV s2, .bool false] 100 false 0]) fun i hi => get_push (hz23.within i hi)).app [iV (((pick ts).wt + (pick (rest ts)).wt : Nat) : Int), slV s2, .bool false] 1 40 (by omega) rfl (by omega) (by omega)
  have st5 : Step [c] L23 Ge' L24 := (Step.push [c] L23 _).trans p4
  have hw24 := e2.mono (st5.others e2.within hFG.symm)
  have d24 := d23.mono (st5.others d23.within apG2)
  have hcell23 : entCells es2 ++ [iV (((pick ts).wt + (pick (rest ts)).wt : Nat) : Int), slV s2, .bool false] = entCells (es2 ++ [((((pick ts).wt + (pick (rest ts)).wt : Nat) : Int), s2, false)]) := by rw [entCells_append]; rfl
  rw [hcell23] at p2
  have wS2 : Within S L20 := st2.within h7
  have wS22 : Within S L22 := st3.within wS2
  have apS5 : Apart Ge' S := st5.apart (e3.within wS22) h8
  have stall : ∀ i ∈ S, L24[i]? = L[i]? := fun i hi => by
    rw [st5.others (e3.within wS22) h8 i hi, e3.others wS22 hFS i hi, st3.others wS2 (none_apart _) i hi, st2.others h7 h8 i hi]
  refine ⟨l2', es2 ++ [((((pick ts).wt + (pick (rest ts)).wt : Nat) : Int), s2, false)], ks2 ++ [es.length], Ge', S ++ F2, L24, ?_, ⟨p2, ?_, ?_, ?_, ?_, ?_, ?_, ?_⟩, hw24, by simp [el2], (st5.apart e2.within hFG.symm).symm, ?_, ?_⟩
  · -- the walk
    rw [f54_l12_eq, decide_eq_true (by omega)]
    obtain ⟨jj, hjj⟩ : ∃ jj, k - es.length = jj + 1 := ⟨k - es.length - 1, by omega⟩
    have hsl2 : ((pick ts).syms ++ (pick (rest ts)).syms).length < k := by simp; omega
    obtain ⟨jk, hjk⟩ : ∃ jk, k - ((pick ts).syms ++ (pick (rest ts)).syms).length = jk + 1 := ⟨k - ((pick ts).syms ++ (pick (rest ts)).syms).length - 1, by omega⟩
    have g20 : ∀ X : LBlk, (L20 ++ [X])[c]? = some (.cells (entCells es2) 100 false 3) := fun X => by rw [get_push (get_lt g2), g2]
    have g21 : L21[c]? = some (.cells (entCells es2) 100 false 3) := by rw [c3.others hz20.within (none_apart _) c (by simp), g2]
    have g22 : L22[c]? = some (.cells (entCells es2) 100 false 3) := by rw [st3.others hz20.within (none_apart _) c (by simp), g2]
    have g23 : L23[c]? = some (.cells (entCells es2) 100 false 3) := by rw [e3.others hz22.within hFG c (by simp), g22]
    have k1 : ∀ X : LBlk, cell (L20 ++ [X]) ⟨c, a' * 3 + 1, none⟩ = some (.slice sa.a sa.n sa.c) := fun X => by rw [cell_of (g20 X), wa2]; rfl
    have k2 : cell L20 ⟨c, a' * 3 + 1, none⟩ = some (.slice sa.a sa.n sa.c) := by rw [cell_of g2, wa2]; rfl
    have k3 : ∀ X : LBlk, cell (L20 ++ [X]) ⟨c, b' * 3 + 1, none⟩ = some (.slice sb.a sb.n sb.c) := fun X => by rw [cell_of (g20 X), wb2]; rfl
    have k4 : cell L20 ⟨c, b' * 3 + 1, none⟩ = some (.slice sb.a sb.n sb.c) := by rw [cell_of g2, wb2]; rfl
    have k5 : cell L21 ⟨c, b' * 3 + 1, none⟩ = some (.slice sb.a sb.n sb.c) := by rw [cell_of g21, wb2]; rfl
    have k6 : cell L23 ⟨c, a' * 3 + 0, none⟩ = some (.int .i64 ((pick ts).wt : Int)) := by rw [cell_of g23, Nat.add_zero, wa1]; rfl
    have k7 : cell L23 ⟨c, b' * 3 + 0, none⟩ = some (.int .i64 ((pick (rest ts)).wt : Int)) := by rw [cell_of g23, Nat.add_zero, wb1]; rfl
    have sA := (ra20.mono (L' := L20 ++ [LBlk.cells [] 3 false 0]) fun i hi => get_push (ra20.within i hi)).src
    have sB := rb21.src
    rw [List.length_map, ← hsa] at c1
    rw [List.length_map, ← hsb] at d1
    have hwt : (pick ts).wt + (pick (rest ts)).wt ≤ total ts := by
      have q1 := sum_rest HT.wt hne
      have q2 := sum_rest HT.wt hne2
      simp only [total]
      omega
    have ew : IntKind.wrap .i64 (((pick ts).wt : Int) + ((pick (rest ts)).wt : Int)) = (((pick ts).wt + (pick (rest ts)).wt : Nat) : Int) := by rw [wI64] <;> omega
    have et : IntKind.wrap .i64 ((ts.length : Int) - 1) = ((ts.length - 1 : Nat) : Int) := by rw [wI64] <;> omega
    have s2n := d2.len
    simp only [List.length_map] at s2n
    rw [lif_true, hsc, hjj, f54_l15_eq, decide_eq_false (by omega), lif_false]
    simp only [ia, ib, obind_some, mk_add, f1, f2, k1, k2, k3, k4, k5, Option.bind_some, asSl_slice, same_self, when_true, size3, bytes3, sA, sB, c1, d1]
    have e1 : f54_l27 k j k l1 l2 (ts.length : Int) (a' : Int) (b' : Int) s2 0 L22 = f54_l27 k j (k - ((pick ts).syms ++ (pick (rest ts)).syms).length) l1 l2 (ts.length : Int) (a' : Int) (b' : Int) s2 (((pick ts).syms ++ (pick (rest ts)).syms).length : Int) L23 := e1
    rw [e1, hjk, f54_l27_eq, decide_eq_false (by omega), lif_false]
    have p1 : Rlm.app (L23 ++ [LBlk.cells [Value.int .i64 (((pick ts).wt + (pick (rest ts)).wt : Nat) : Int), Value.slice s2.a s2.n s2.c, .bool false] 100 false 0]) 100 3 40 l2 1 [Value.int .i64 (((pick ts).wt + (pick (rest ts)).wt : Nat) : Int), Value.slice s2.a s2.n s2.c, .bool false] = some (l2', L24) := p1
    simp only [ia, ib, obind_some, mk_add, k6, k7, Option.bind_some, asI_int, ew, size100, bytes100, src_tri, p1, et]
  · exact List.pairwise_append.2 ⟨hsort2, List.pairwise_singleton _ _, fun x hx y hy => by simp only [List.mem_singleton] at hy; rw [hy]; exact h4 _ ((hmem2 x).1 hx).1⟩
  · intro q e he
    rw [List.mem_append, hmem2, List.mem_singleton]
    by_cases hq : q < es.length
    · rw [List.getElem?_append_left (by omega)] at he
      by_cases hqa : q = a'
      · subst hqa
        rw [ea2] at he
        cases he
        simp; omega
      · by_cases hqb : q = b'
        · subst hqb
          rw [eb3] at he
          cases he
          simp; omega
        · rw [eoth q hqa hqb] at he
          rw [h3 q e he]
          constructor
          · exact fun hh => .inl ⟨hh, hqa, hqb⟩
          · rintro (⟨hh, _⟩ | hh)
            · exact hh
            · omega
    · rw [List.getElem?_append_right (by omega)] at he
      have : q - es2.length = 0 := by
        rcases Nat.eq_zero_or_pos (q - es2.length) with h0 | h0
        · exact h0
        · rw [List.getElem?_eq_none (by simp; omega)] at he; cases he
      rw [this] at he
      simp at he
      subst he
      simp; omega
  · intro q hq
    rw [List.length_append, el2]
    rcases List.mem_append.1 hq with hq | hq
    · have := h4 _ ((hmem2 q).1 hq).1
      simp; omega
    · simp at hq
      simp; omega
  · rw [List.length_append, hlen2, join, List.length_append]; rfl
  · intro p q t hq ht
    by_cases hp : p < ks2.length
    · rw [List.getElem?_append_left hp] at hq
      rw [join, List.getElem?_append_left (by omega)] at ht
      obtain ⟨p', z1, z2⟩ := hget2 p q t hq ht
      obtain ⟨s, A, y1, y2, y3⟩ := h6 p' q t z1 z2
      obtain ⟨hqk, hqa, hqb⟩ := (hmem2 q).1 (List.mem_of_getElem? hq)
      refine ⟨s, A, ?_, y2.mono fun i hi => stall i (y3 i hi), fun i hi => List.mem_append.2 (.inl (y3 i hi))⟩
      rw [List.getElem?_append_left (by rw [el2]; exact h4 _ hqk), eoth q hqa hqb, y1]
    · rw [List.getElem?_append_right (by omega)] at hq
      rw [join, List.getElem?_append_right (by omega)] at ht
      have : p - ks2.length = 0 := by
        rcases Nat.eq_zero_or_pos (p - ks2.length) with h0 | h0
        · exact h0
        · rw [List.getElem?_eq_none (by simp; omega)] at hq; cases hq
      rw [this] at hq
      rw [← hlen2, this] at ht
      simp at hq ht
      subst hq; subst ht
      refine ⟨s2, F2, ?_, d24.ws.rd, fun i hi => List.mem_append.2 (.inr hi)⟩
      rw [List.getElem?_append_right (by omega), el2, Nat.sub_self]
      rfl
  · intro i hi
    rcases List.mem_append.1 hi with hi | hi
    · exact st5.within (e3.within wS22) i hi
    · exact d24.within i hi
  · intro i hi hj
    rcases List.mem_append.1 hj with hj | hj
    · exact apS5 i hi hj
    · exact (st5.apart d23.within apG2) i hi hj
  · intro i hi hj
    rcases List.mem_append.1 hj with hj | hj
    · exact hFS i hi hj
    · exact apF2 i hi hj
  · refine ⟨by have := st2.len; have := st3.len; have := e3.len; have := st5.len; omega, fun i hi hno => ?_, fun i hi => ?_⟩
    · have i1 := Nat.lt_of_lt_of_le hi st2.len
      have i2 := Nat.lt_of_lt_of_le i1 st3.len
      have i3 := Nat.lt_of_lt_of_le i2 e3.len
      simp only [List.mem_append, not_or] at hno
      rw [st5.keep i i3 hno.2, e3.keep i i2 hno.1, st3.keep i i1 (by simp), st2.keep i hi hno.2]
    · rcases List.mem_append.1 hi with hi | hi
      · exact .inl (List.mem_append.2 (.inl hi))
      · rcases st5.foot i hi with q | q
        · exact .inl (List.mem_append.2 (.inr q))
        · have := st2.len; have := st3.len; have := e3.len
          exact .inr (by omega)

theorem incAll_bound {is : List Nat} {out : List Int} {B : Int} (hd : is.Nodup) (hB : ∀ z ∈ out, 0 ≤ z ∧ z < B) : ∀ z ∈ incAll is out, 0 ≤ z ∧ z < B + 1 := by
  intro z hz
  obtain ⟨i, hi, rfl⟩ := List.getElem_of_mem hz
  have hio : i < out.length := by simpa using hi
  have h1 := incAll_get hd (List.getElem?_eq_getElem hio)
  rw [List.getElem?_eq_getElem hi] at h1
  have h2 := hB _ (List.getElem_mem hio)
  split at h1 <;> (have := Option.some.inj h1; omega)

theorem merge_all {k N : Nat} {l1 : Sl} {Fo : List Nat} : ∀ (m j : Nat) (l2 : Sl) (es : List Ent) (ks : List Nat) (ts : List HT) (Ge S : List Nat) (L : LHeap) (out : List Int) (B : Int), ts.length = m + 1 → m < j → Ents L l2 es ks ts Ge S → WS L l1 (out.map iV) 3 Fo →
    Apart Fo Ge → Apart Fo S → Laid N ts out → es.length + m < 2 ^ 30 → (∀ i ∈ allSyms ts, i < N) → (allSyms ts).Nodup → (allSyms ts).length < 2 ^ 30 → ts.length < 2 ^ 30 → total ts < 2 ^ 60 → (∀ z ∈ out, 0 ≤ z ∧ z < B) → B + (m : Int) < 2 ^ 40 → es.length + m + (allSyms ts).length + 10 ≤ k →
    ∃ (L' : LHeap) (out' : List Int), f54_l12 k j l1 l2 (ts.length : Int) L = some (.ret (.slice l1.a l1.n l1.c) L') ∧ WS L' l1 (out'.map iV) 3 Fo ∧ Laid N (joinAll m ts) out' ∧ Step (Fo ++ Ge) L Fo L' := by
  intro m
  induction m with
  | zero =>
    intro j l2 es ks ts Ge S L out B hm hj hE hw hFG hFS hL hes his hd hsl hts htot hB hB2 hk
    obtain ⟨j, rfl⟩ : ∃ j', j = j' + 1 := ⟨j - 1, by omega⟩
    refine ⟨L, out, ?_, hw, hL, ((Step.refl _ _).less fun i hi => .inl (List.mem_append.2 (.inl hi)))⟩
    rw [f54_l12_eq, decide_eq_false (by omega)]
    rfl
  | succ m ih =>
    intro j l2 es ks ts Ge S L out B hm hj hE hw hFG hFS hL hes his hd hsl hts htot hB hB2 hk
    obtain ⟨j, rfl⟩ : ∃ j', j = j' + 1 := ⟨j - 1, by omega⟩
    have h2 : 2 ≤ ts.length := by omega
    have hp := join_perm h2
    have hol := hL.1
    obtain ⟨l2', es', ks', Ge', S', L1, a1, a2, a3, a4, a5, a6, a7⟩ := merge1 (N := N) (k := k) (j := j) hE hw hFG hFS h2 (by omega) (by rw [hol]; exact his) hd hsl hts htot hB (by omega) (by omega)
    have hdj : (allSyms (join ts)).Nodup := hp.nodup_iff.2 hd
    have hdj2 := hdj
    simp only [allSyms, join, List.flatMap_append, List.flatMap_cons, List.flatMap_nil, List.append_nil, HT.syms] at hdj2
    obtain ⟨_, n2, _⟩ := List.nodup_append.1 hdj2
    have hjl : (join ts).length = m + 1 := by rw [join_length h2]; omega
    obtain ⟨L2, out', b1, b2, b3, b4⟩ := ih j l2' es' ks' (join ts) Ge' S' L1 _ (B + 1) hjl (by omega) a2 a3 a5 a6 (laid_join h2 hd hL) (by omega) (fun i hi => his i (hp.mem_iff.1 hi)) hdj (by rw [hp.length_eq]; exact hsl) (by omega) (by rw [join_total h2]; exact htot) (incAll_bound n2 hB) (by omega) (by rw [hp.length_eq]; omega)
    refine ⟨L2, out', ?_, b2, b3, a7.trans b4⟩
    rw [a1, ← b1, hjl, hm]
    rfl

theorem collectR {k : Nat} {l l1 : Sl} {fs : List Int} {A Fo : List Nat} (hn : l.n = fs.length) (hf : fs.length < 2 ^ 29) :
    ∀ (m i j : Nat) (l2 : Sl) (es : List Ent) (Ge S : List Nat) (L : LHeap), i + m = fs.length → m < j → Ents L l2 es (List.range es.length) (leavesFrom 0 (fs.take i)) Ge S → es.length = (leavesFrom 0 (fs.take i)).length → Rd L l (fs.map iV) A → Apart Ge A →
      ∃ (l2' : Sl) (es' : List Ent) (Ge' S' : List Nat) (L' : LHeap), f54_l4 k j l l1 l2 (i : Int) L = f54_l4 k (j - m) l l1 l2' (fs.length : Int) L' ∧ Ents L' l2' es' (List.range es'.length) (leavesFrom 0 fs) Ge' S' ∧ es'.length = (leavesFrom 0 fs).length ∧ Step Ge L Ge' L' ∧ ∀ i ∈ S', i ∈ S ∨ L.length ≤ i := by
  intro m
  induction m with
  | zero =>
    intro i j l2 es Ge S L hi hj hE hl hr hGA
    obtain rfl : i = fs.length := by omega
    rw [List.take_length] at hE hl
    exact ⟨l2, es, Ge, S, L, rfl, hE, hl, .refl _ _, fun i hi => .inl hi⟩
  | succ m ih =>
    intro i j l2 es Ge S L hi hj hE hl hr hGA
    obtain ⟨j, rfl⟩ : ∃ j', j = j' + 1 := ⟨j - 1, by omega⟩
    have hiz : i < fs.length := by omega
    obtain ⟨a, a1, a2⟩ := hr.here (i := i) (v := iV fs[i]) (by simp [hiz])
    have hsn : leavesFrom 0 (fs.take (i + 1)) = leavesFrom 0 (fs.take i) ++ (if fs[i] > 0 then [.leaf fs[i].toNat i] else []) := by
      rw [take_succ_int hiz, leavesFrom_snoc]
      simp [show min i fs.length = i by omega]
    have hll := leavesFrom_length (fs.take i) 0
    simp only [List.length_take] at hll
    rw [f54_l4_eq, decide_eq_true (by omega), show j + 1 - (m + 1) = j - m by omega]
    simp only [lif_true, a1, a2, iV, obind_some, Option.bind_some, asI_int]
    rw [wI64 (n := (i : Int) + 1) (by omega) (by omega)]
    by_cases h0 : fs[i] > 0
    · rw [if_pos h0] at hsn
      obtain ⟨h1, _, h3, _, _, h6, h7, h8⟩ := hE
      have hl2 : l2.n = es.length := by have := h1.1; simp at this; omega
      have st1 : Step Ge L Ge (L ++ [LBlk.cells [iV (i : Int)] 3 false 0]) := .push _ _ _
      have sx : WS (L ++ [LBlk.cells [iV (i : Int)] 3 false 0]) ⟨some ⟨L.length, 0, none⟩, 1, 1⟩ [iV (i : Int)] 3 [L.length] := .lit rfl
      have hsS : ∀ x ∈ S, (L ++ [LBlk.cells [iV (i : Int)] 3 false 0])[x]? = L[x]? := fun x hx => get_push (h7 x hx)
      have hwS : Within S (L ++ [LBlk.cells [iV (i : Int)] 3 false 0]) := st1.within h7
      have hr1 := hr.mono (st1.others hr.within hGA)
      have hgl : Apart Ge [L.length] := fun x hx hy => by simp at hy; subst hy; have := h1.within _ hx; omega
      have hll2 : ∀ X : LHeap, Within [L.length] ((L ++ [LBlk.cells [iV (i : Int)] 3 false 0]) ++ X) := fun X x hx => by simp at hx; simp; omega
      obtain ⟨l2', L2, Ge', p1, p2, p3, p4⟩ := ((h1.mono (L' := L ++ [LBlk.cells [iV (i : Int)] 3 false 0]) fun x hx => get_push (h1.within x hx)).mono (L' := L ++ [LBlk.cells [iV (i : Int)] 3 false 0] ++ [LBlk.cells [iV fs[i], slV ⟨some ⟨L.length, 0, none⟩, 1, 1⟩, .bool false] 100 false 0]) fun x hx => get_push (st1.within h1.within x hx)).app [iV fs[i], slV ⟨some ⟨L.length, 0, none⟩, 1, 1⟩, .bool false] 1 40 (by omega) rfl (by omega) (by omega)
      have st2 : Step Ge (L ++ [LBlk.cells [iV (i : Int)] 3 false 0]) Ge' L2 := (Step.push Ge _ _).trans p4
      have hgl1 : Within [L.length] (L ++ [LBlk.cells [iV (i : Int)] 3 false 0]) := by have := hll2 []; simpa using this
      have st : Step Ge L Ge' L2 := st1.trans st2
      have hce : entCells es ++ [iV fs[i], slV ⟨some ⟨L.length, 0, none⟩, 1, 1⟩, .bool false] = entCells (es ++ [(fs[i], ⟨some ⟨L.length, 0, none⟩, 1, 1⟩, false)]) := by rw [entCells_append]; rfl
      rw [hce] at p2
      have hE2 : Ents L2 l2' (es ++ [(fs[i], ⟨some ⟨L.length, 0, none⟩, 1, 1⟩, false)]) (List.range (es ++ [(fs[i], (⟨some ⟨L.length, 0, none⟩, 1, 1⟩ : Sl), false)]).length) (leavesFrom 0 (fs.take (i + 1))) Ge' (S ++ [L.length]) := by
        refine ⟨p2, List.pairwise_lt_range, fun q e he => ?_, fun q hq => by simpa using hq, by rw [hsn]; simp [hl], fun p q t hq ht => ?_, fun x hx => ?_, fun x hx hy => ?_⟩
        · have hq := get_lt he
          simp only [List.mem_range, hq, iff_true]
          by_cases hqe : q < es.length
          · rw [List.getElem?_append_left hqe] at he
            exact (h3 q e he).2 (by simpa using hqe)
          · have : q = es.length := by simp at hq; omega
            subst this
            rw [List.getElem?_append_right (Nat.le_refl _)] at he
            simp at he
            rw [← he]
        · have hpq : q = p := by
            have hp := get_lt hq
            rw [List.getElem?_eq_getElem hp] at hq
            simp at hq
            exact hq.symm
          subst hpq
          rw [hsn] at ht
          by_cases hqe : q < es.length
          · rw [List.getElem?_append_left (by omega)] at ht
            obtain ⟨s, A', y1, y2, y3⟩ := h6 q q t (by rw [List.getElem?_eq_getElem (by simpa using hqe)]; simp) ht
            refine ⟨s, A', by rw [List.getElem?_append_left hqe, y1], y2.mono fun x hx => ?_, fun x hx => List.mem_append.2 (.inl (y3 x hx))⟩
            rw [st2.others hwS h8 x (y3 x hx), hsS x (y3 x hx)]
          · rw [List.getElem?_append_right (by omega)] at ht
            have hq0 : q - (leavesFrom 0 (fs.take i)).length = 0 := by
              rcases Nat.eq_zero_or_pos (q - (leavesFrom 0 (fs.take i)).length) with h0 | h0
              · exact h0
              · rw [List.getElem?_eq_none (by simp; omega)] at ht; cases ht
            rw [hq0] at ht
            simp at ht
            subst ht
            refine ⟨⟨some ⟨L.length, 0, none⟩, 1, 1⟩, [L.length], ?_, (sx.mono (st2.others hgl1 hgl)).rd, fun x hx => List.mem_append.2 (.inr hx)⟩
            rw [List.getElem?_append_right (by omega), show q - es.length = 0 by omega]
            simp [HT.wt]
            omega
        · rcases List.mem_append.1 hx with hx | hx
          · exact st.within h7 x hx
          · exact st2.within hgl1 x hx
        · rcases List.mem_append.1 hy with hy | hy
          · exact st2.apart hwS h8 x hx hy
          · exact st2.apart hgl1 hgl x hx hy
      obtain ⟨l3, es3, Ge3, S3, L3, e1, e2, e3, e4, e5⟩ := ih (i + 1) j l2' _ Ge' _ L2 (by omega) (by omega) hE2 (by rw [hsn]; simp [hl]) (hr.mono (st.others hr.within hGA)) (st.apart hr.within hGA)
      refine ⟨l3, es3, Ge3, S3, L3, ?_, e2, e3, st.trans e4, fun x hx => ?_⟩
      · rw [← e1, decide_eq_true h0]
        have p1 : Rlm.app (L ++ [LBlk.cells [Value.int .i64 (i : Int)] 3 false 0] ++ [LBlk.cells [Value.int .i64 fs[i], Value.slice (some ⟨L.length, 0, none⟩) 1 1, .bool false] 100 false 0]) 100 3 40 l2 1 [Value.int .i64 fs[i], Value.slice (some ⟨L.length, 0, none⟩) 1 1, .bool false] = some (l2', L2) := p1
        simp only [lif_true, size100, bytes100, src_tri, obind_some, p1]
        rfl
      · rcases e5 x hx with hx | hx
        · rcases List.mem_append.1 hx with hx | hx
          · exact .inl hx
          · simp at hx; exact .inr (by omega)
        · exact .inr (Nat.le_trans st.len hx)
    · rw [if_neg h0, List.append_nil] at hsn
      rw [decide_eq_false h0]
      rw [← hsn] at hE hl
      exact ih (i + 1) j l2 es Ge S L (by omega) (by omega) hE hl hr hGA

theorem refOnce_ok {k : Nat} {l : Sl} {fs : List Int} {A : List Nat} {L : LHeap} (hl : Rd L l (fs.map iV) A) (hf : ∀ f ∈ fs, f ≤ 1073741824) (hs : fs.length ≤ 1024) (hk : 4 * fs.length + 60 ≤ k) :
    ∃ s L' F, f54 k l L = some (.ret (.slice s.a s.n s.c) L') ∧ WS L' s ((lensOf fs).map iV) 3 F ∧ Step [] L F L' := by
  obtain ⟨k, rfl⟩ : ∃ k', k = k' + 1 := ⟨k - 1, by omega⟩
  have hn := hl.len
  simp only [List.length_map] at hn
  rw [f54_eq]
  simp only [bytes3, hn, room_ok (n := fs.length) (b := 8) (by omega) (by omega), when_true, Int.toNat_natCast]
  have hw := WS.made (L := L) (n := fs.length) (v := Value.int .i64 0) (e := 3)
  have s0 := Step.new [] L (LBlk.cells (List.flatten (List.replicate fs.length [Value.int .i64 0])) 3 false 0)
  generalize L ++ [LBlk.cells (List.flatten (List.replicate fs.length [Value.int .i64 0])) 3 false 0] = M0 at *
  have hl0 := hl.mono (s0.others hl.within (none_apart _))
  have hrep : List.replicate fs.length (Value.int .i64 0) = (List.replicate fs.length (0 : Int)).map iV := by simp [iV]
  rw [hrep] at hw
  obtain ⟨l2, es, Ge, S, L1, a1, a2, a3, a4, a5⟩ := collectR (k := k) (l1 := ⟨some ⟨L.length, 0, none⟩, fs.length, fs.length⟩) (Fo := [L.length]) hn (by omega) fs.length 0 k ⟨none, 0, 0⟩ [] [] [] M0 (by omega) (by omega)
    ⟨OZ.nil _ _ (by omega), by simp, fun k e he => by simp at he, fun k hk => by simp at hk, rfl, fun p q t hq => by simp at hq, fun i hi => by simp at hi, none_apart _⟩ rfl hl0 (none_apart _)
  have hw1 := hw.mono (a4.others hw.within (none_apart _))
  have apG : Apart [L.length] Ge := (a4.apart hw.within (none_apart _)).symm
  have apS : Apart [L.length] S := fun i hi hj => by
    rcases a5 i hj with h | h
    · simp at h
    · have := hw.within i hi; omega
  have st : ∀ {L' : LHeap}, Step ([L.length] ++ Ge) L1 [L.length] L' → Step [] L [L.length] L' := fun {L'} h => by
    have q : Step [L.length] M0 ([L.length] ++ Ge) L1 := by
      refine ⟨a4.len, fun i hi _ => a4.keep i hi (by simp), fun i hi => ?_⟩
      rcases List.mem_append.1 hi with hi | hi
      · exact .inl hi
      · exact (a4.foot i hi).imp (fun h => by simp at h) id
    exact s0.trans (q.trans h)
  have hll := leavesFrom_length fs 0
  have hl2 : l2.n = (leavesFrom 0 fs).length := by have := a2.1.1; simp at this; omega
  have a1' : f54_l4 k k l ⟨some ⟨L.length, 0, none⟩, fs.length, fs.length⟩ ⟨none, 0, 0⟩ 0 M0 = f54_l4 k (k - fs.length) l ⟨some ⟨L.length, 0, none⟩, fs.length, fs.length⟩ l2 (fs.length : Int) L1 := a1
  obtain ⟨j, hj⟩ : ∃ j, k - fs.length = j + 1 := ⟨k - fs.length - 1, by omega⟩
  rw [a1', hj, f54_l4_eq, decide_eq_false (by omega), lif_false]
  have hsym : ∀ i ∈ allSyms (leavesFrom 0 fs), i < fs.length := fun i hi => by have := (leaves_syms_ge i hi).2; omega
  have hlaid : Laid fs.length (leavesFrom 0 fs) (List.replicate fs.length 0) := by
    refine ⟨by simp, fun t ht i hi => ?_, fun i hi _ => by simp [hi]⟩
    obtain ⟨q, hq, rfl, _⟩ := leavesFrom_leaf ht
    simp [HT.syms] at hi
    subst hi
    simp [HT.dpt, hq]
  by_cases hone : (leavesFrom 0 fs).length = 1
  · obtain ⟨t, ht⟩ := List.length_eq_one_iff.1 hone
    obtain ⟨q, hq, htq, _⟩ := leavesFrom_leaf (show t ∈ leavesFrom 0 fs by rw [ht]; simp)
    obtain ⟨h1, _, _, _, _, h6, _, _⟩ := a2
    obtain ⟨s, A', y1, y2, _⟩ := h6 0 0 t (by rw [List.getElem?_eq_getElem (by simp; omega)]; simp) (by rw [ht]; rfl)
    obtain ⟨_, w2, _⟩ := entCells_get y1
    obtain ⟨c, i1, i2⟩ := h1.get (i := 0) (by omega)
    have w2' := (i2 L1 (fun _ _ => rfl) (0 * 3 + 1)).trans w2
    rw [htq] at y2
    obtain ⟨b, b1, b2⟩ := y2.here (i := 0) (v := kV (0 + q)) rfl
    obtain ⟨a, L2, e1, e2, e3, e4⟩ := hw1.put (i := 0 + q) (by simp; omega) (iV 1)
    refine ⟨⟨some ⟨L.length, 0, none⟩, fs.length, fs.length⟩, L2, [L.length], ?_, ?_, st (e4.mono fun i hi => List.mem_append.2 (.inl hi))⟩
    · rw [hl2, hone, show (((1 : Nat) : Int) == 1) = true from rfl]
      have i1 : idx l2 0 3 = some ⟨c, 0 * 3, none⟩ := i1
      have b1 : idx s 0 1 = some b := b1
      have b1 : idx ⟨s.a, s.n, s.c⟩ 0 1 = some b := b1
      have b2 : cell L1 b = some (.int .i64 ((0 + q : Nat) : Int)) := b2
      have e2 : stores L1 a [Value.int .i64 1] = some L2 := e2
      have w2' : cell L1 ⟨c, 0 * 3 + 1, none⟩ = some (.slice s.a s.n s.c) := w2'
      simp only [lif_true, i1, mk_add, w2', Option.bind_some, asSl_slice, obind_some, b1, b2, asI_int, e1, e2]
    · rw [lensOf_one ht, htq]
      simp only [HT.lay]
      rw [List.map_set]
      exact e3
  · rw [hl2, show (((leavesFrom 0 fs).length : Int) == 1) = false by simp; omega, lif_false]
    by_cases hnil : leavesFrom 0 fs = []
    · refine ⟨⟨some ⟨L.length, 0, none⟩, fs.length, fs.length⟩, L1, [L.length], ?_, by rw [lensOf_nil hnil]; exact hw1, st ((Step.refl _ _).less fun i hi => .inl (List.mem_append.2 (.inl hi)))⟩
      obtain ⟨k, rfl⟩ : ∃ k', k = k' + 1 := ⟨k - 1, by omega⟩
      rw [f54_l12_eq, decide_eq_false (by rw [hnil]; simp)]
      rfl
    · obtain ⟨m, hm⟩ : ∃ m, (leavesFrom 0 fs).length = m + 2 := by
        have : (leavesFrom 0 fs).length ≠ 0 := fun h => hnil (List.eq_nil_of_length_eq_zero h)
        exact ⟨(leavesFrom 0 fs).length - 2, by omega⟩
      have htot : total (leavesFrom 0 fs) < 2 ^ 60 := by have := leaves_total hf 0; omega
      have hasl : (allSyms (leavesFrom 0 fs)).length = (leavesFrom 0 fs).length := by rw [← leaves_syms fs 0]; unfold allSyms; rw [List.length_flatMap]
      obtain ⟨L2, out', b1, b2, b3, b4⟩ := merge_all (k := k) (m + 1) k l2 es _ (leavesFrom 0 fs) Ge S L1 _ 1 (by omega) (by omega) a2 hw1 apG apS hlaid (by omega) hsym (leaves_nodup fs 0) (by omega) (by omega) htot (fun z hz => by have := List.eq_of_mem_replicate hz; omega) (by omega) (by omega)
      have hj1 := joinAll_length (m + 1) (leavesFrom 0 fs) (by omega)
      obtain ⟨t, ht⟩ := List.length_eq_one_iff.1 hj1
      obtain ⟨j1, j2, _⟩ := joined (m := m + 1) (by omega) ht
      rw [ht] at b3
      have := laid_one j1 j2 b3
      rw [this] at b2
      refine ⟨⟨some ⟨L.length, 0, none⟩, fs.length, fs.length⟩, L2, [L.length], b1, ?_, st b4⟩
      rw [lensOf_more hm ht]
      exact b2

theorem fits_loop {k j11 : Nat} {l1 l4 : Sl} {b2 : Bool} {n3 : Int} {zs : List Int} {A : List Nat} {L : LHeap} (hl : Rd L l4 (zs.map iV) A) (hs : zs.length < 2 ^ 60) :
    ∀ (m i j : Nat) (b : Bool), i + m = zs.length → m < j → f35_l16 k j11 j l1 b2 n3 l4 b (i : Int) L = f35_l16 k j11 (j - m) l1 b2 n3 l4 (b && fits (zs.drop i)) (zs.length : Int) L := by
  have hn := hl.len
  simp only [List.length_map] at hn
  intro m
  induction m with
  | zero =>
    intro i j b hi hj
    obtain rfl : i = zs.length := by omega
    rw [List.drop_length]
    simp [fits]
  | succ m ih =>
    intro i j b hi hj
    obtain ⟨j, rfl⟩ : ∃ j', j = j' + 1 := ⟨j - 1, by omega⟩
    have hiz : i < zs.length := by omega
    obtain ⟨a, a1, a2⟩ := hl.here (i := i) (v := iV zs[i]) (by simp [hiz])
    rw [f35_l16_eq, decide_eq_true (by omega), show j + 1 - (m + 1) = j - m by omega, List.drop_eq_getElem_cons hiz]
    simp only [lif_true, a1, a2, iV, obind_some, Option.bind_some, asI_int]
    rw [wI64 (n := (i : Int) + 1) (by omega) (by omega)]
    cases b with
    | true =>
      have := ih (i + 1) j (decide (zs[i] ≤ 15)) (by omega) (by omega)
      rw [lif_true]
      refine Eq.trans this ?_
      rw [Bool.true_and]
      rfl
    | false =>
      have := ih (i + 1) j false (by omega) (by omega)
      rw [lif_false]
      refine Eq.trans this ?_
      rw [Bool.false_and, Bool.false_and]

theorem halveR_loop {k j11 : Nat} {l : Sl} {b2 : Bool} {n3 : Int} {fs : List Int} (hf : ∀ f ∈ fs, 0 ≤ f ∧ f ≤ 1073741824) (hs : fs.length < 2 ^ 60) (hn3 : 0 ≤ n3 ∧ n3 < 100) (hln : l.n = fs.length) :
    ∀ (m i j : Nat) (F : List Nat) (L : LHeap), i + m = fs.length → m < j → WS L l ((halve (fs.take i) ++ fs.drop i).map iV) 3 F →
      ∃ L', f35_l23 k j11 j l b2 n3 (i : Int) L = f35_l11 k j11 l b2 (n3 + 1) L' ∧ WS L' l ((halve fs).map iV) 3 F ∧ Step F L F L' := by
  intro m
  induction m with
  | zero =>
    intro i j F L hi hj hw
    obtain ⟨j, rfl⟩ : ∃ j', j = j' + 1 := ⟨j - 1, by omega⟩
    rw [List.take_of_length_le (by omega), List.drop_eq_nil_of_le (by omega), List.append_nil] at hw
    refine ⟨L, ?_, hw, .refl _ _⟩
    rw [f35_l23_eq, decide_eq_false (by omega), lif_false, wI64 (by omega) (by omega)]
  | succ m ih =>
    intro i j F L hi hj hw
    obtain ⟨j, rfl⟩ : ∃ j', j = j' + 1 := ⟨j - 1, by omega⟩
    have hiz : i < fs.length := by omega
    obtain ⟨f1, f2⟩ := hf _ (List.getElem_mem hiz)
    have hlen : (halve (fs.take i)).length = i := by rw [halve_length, List.length_take]; omega
    have hget : ((halve (fs.take i) ++ fs.drop i).map iV)[i]? = some (iV fs[i]) := by
      rw [List.getElem?_map, List.getElem?_append_right (by omega), hlen, Nat.sub_self, List.getElem?_drop, Nat.add_zero, List.getElem?_eq_getElem hiz]; rfl
    obtain ⟨a, a1, a2⟩ := hw.rd.here hget
    obtain ⟨a', L1, b1, b2', b3, b4⟩ := hw.put (i := i) (get_lt hget) (iV ((fs[i] + 1).tdiv 2))
    rw [← List.map_set] at b3
    have hset : (halve (fs.take i) ++ fs.drop i).set i ((fs[i] + 1).tdiv 2) = halve (fs.take (i + 1)) ++ fs.drop (i + 1) := by
      rw [List.set_append_right _ _ (by omega), hlen, Nat.sub_self, List.drop_eq_getElem_cons hiz, List.set_cons_zero, take_succ_int hiz]
      simp only [halve, List.map_append, List.map_cons, List.map_nil, List.append_assoc, List.singleton_append]
    rw [hset] at b3
    obtain ⟨L2, c1, c2, c3⟩ := ih (i + 1) j F L1 (by omega) (by omega) b3
    refine ⟨L2, ?_, c2, b4.trans c3⟩
    rw [← c1, f35_l23_eq, decide_eq_true (by omega)]
    simp only [lif_true, a1, a2, iV, obind_some, Option.bind_some, asI_int]
    have e1 : IntKind.wrap .i64 (Int.tdiv (IntKind.wrap .i64 (fs[i] + 1)) 2) = (fs[i] + 1).tdiv 2 := by
      rw [wI64 (n := fs[i] + 1) (by omega) (by omega), Int.tdiv_eq_ediv_of_nonneg (by omega), wI64] <;> omega
    rw [e1, wI64 (n := (i : Int) + 1) (by omega) (by omega)]
    have b2' : stores L a' [Value.int .i64 ((fs[i] + 1).tdiv 2)] = some L1 := b2'
    obtain rfl : a = a' := Option.some.inj (a1.symm.trans b1)
    simp only [b2', obind_some]
    rfl

theorem lengthsR_loop {k : Nat} {l : Sl} : ∀ (n j : Nat) (b : Bool) (fs : List Int) (F : List Nat) (L : LHeap), n < j → n ≤ 30 → (∀ f ∈ fs, 0 ≤ f ∧ f ≤ 2 ^ n) → fs.length ≤ 512 → 4 * fs.length + 100 ≤ k → WS L l (fs.map iV) 3 F →
    ∃ s L' F', f35_l11 k j l b (30 - (n : Int)) L = some (.ret (.tuple #[.slice s.a s.n s.c, .bool (b || !fits (lensOf fs)), .int .i64 0]) L') ∧ WS L' s ((lensLoop n fs).map iV) 3 F' ∧ Step F L F' L' := by
  intro n
  have main : ∀ (n j : Nat) (b : Bool) (fs : List Int) (F : List Nat) (L : LHeap), n ≤ 30 → (∀ f ∈ fs, 0 ≤ f ∧ f ≤ 2 ^ n) → fs.length ≤ 512 → 4 * fs.length + 100 ≤ k → WS L l (fs.map iV) 3 F →
      (fits (lensOf fs) = true → ∃ s L' F', f35_l11 k (j + 1) l b (30 - (n : Int)) L = some (.ret (.tuple #[.slice s.a s.n s.c, .bool b, .int .i64 0]) L') ∧ WS L' s ((lensOf fs).map iV) 3 F' ∧ Step F L F' L') ∧
      (fits (lensOf fs) = false → ∃ L', f35_l11 k (j + 1) l b (30 - (n : Int)) L = f35_l11 k j l true (30 - (n : Int) + 1) L' ∧ WS L' l ((halve fs).map iV) 3 F ∧ Step F L F L') := by
    intro n j b fs F L hn30 hf hl hk hw
    have hln := hw.rd.len
    simp only [List.length_map] at hln
    have hb : (2 : Int) ^ n ≤ 2 ^ 30 := by
      have : (2 : Nat) ^ n ≤ 2 ^ 30 := Nat.pow_le_pow_right (by omega) hn30
      exact_mod_cast this
    have hf' : ∀ f ∈ fs, 0 ≤ f ∧ f ≤ 1073741824 := fun f hff => by have := hf f hff; omega
    obtain ⟨s, L1, F1, a1, a2, a3⟩ := refOnce_ok (k := k) hw.rd (fun f hff => (hf' f hff).2) (by omega) (by omega)
    have hsn := a2.rd.len
    simp only [List.length_map, lensOf_length] at hsn
    have hw1 : WS L1 l (fs.map iV) 3 F := hw.mono (a3.others hw.within (none_apart _))
    have st : Step F L F1 L1 := a3.mono fun i hi => by simp at hi
    have hloop := fits_loop (k := k) (j11 := j) (l1 := l) (b2 := b) (n3 := 30 - (n : Int)) a2.rd (by rw [lensOf_length]; omega) (lensOf fs).length 0 k true (by omega) (by rw [lensOf_length]; omega)
    rw [Bool.true_and, List.drop_zero, lensOf_length] at hloop
    have hloop : f35_l16 k j k l b (30 - (n : Int)) s true 0 L1 = f35_l16 k j (k - fs.length) l b (30 - (n : Int)) s (fits (lensOf fs)) (fs.length : Int) L1 := hloop
    obtain ⟨jj, hjj⟩ : ∃ jj, k - fs.length = jj + 1 := ⟨k - fs.length - 1, by omega⟩
    rw [f35_l11_eq, decide_eq_true (by omega), lif_true, a1]
    simp only [lbind_ret, asSl_slice, obind_some]
    rw [show (⟨s.a, s.n, s.c⟩ : Sl) = s from rfl, hloop, hjj, f35_l16_eq, decide_eq_false (by omega), lif_false]
    refine ⟨fun h => ⟨s, L1, F1, by rw [h]; rfl, a2, st⟩, fun h => ?_⟩
    rw [h, lif_false]
    obtain ⟨L2, c1, c2, c3⟩ := halveR_loop (k := k) (j11 := j) (l := l) (b2 := true) (n3 := 30 - (n : Int)) hf' (by omega) (by omega) hln fs.length 0 k F L1 (by omega) (by omega) (by simpa [halve] using hw1)
    exact ⟨L2, c1, c2, (st.less (G := F) fun i hi => .inr hi).trans c3⟩
  induction n with
  | zero =>
    intro j b fs F L hj hn30 hf hl hk hw
    obtain ⟨j, rfl⟩ : ∃ j', j = j' + 1 := ⟨j - 1, by omega⟩
    have hfit := fits_ones (fun f hff => by have := (hf f hff).2; simpa using this) hl
    rw [hfit, Bool.not_true, Bool.or_false]
    exact (main 0 j b fs F L hn30 hf hl hk hw).1 hfit
  | succ n ih =>
    intro j b fs F L hj hn30 hf hl hk hw
    obtain ⟨j, rfl⟩ : ∃ j', j = j' + 1 := ⟨j - 1, by omega⟩
    obtain ⟨m1, m2⟩ := main (n + 1) j b fs F L hn30 hf hl hk hw
    simp only [lensLoop]
    cases hfit : fits (lensOf fs) with
    | true => simpa using m1 hfit
    | false =>
      obtain ⟨L1, c1, c2, c3⟩ := m2 hfit
      obtain ⟨s, L2, F2, d1, d2, d3⟩ := ih j true (halve fs) F L1 (by omega) (by omega) (halve_mem hf) (by rw [halve_length]; exact hl) (by rw [halve_length]; exact hk) c2
      refine ⟨s, L2, F2, ?_, by simpa using d2, c3.trans d3⟩
      rw [c1, show 30 - ((n + 1 : Nat) : Int) + 1 = 30 - (n : Int) by omega, d1]
      simp

theorem check_loop {k : Nat} {l : Sl} {fs : List Int} {A : List Nat} {L : LHeap} (hl : Rd L l (fs.map iV) A) (hs : fs.length < 2 ^ 60) :
    ∀ (m i j : Nat), i + m = fs.length → m < j → f35_l4 k j l (i : Int) L = lif ((fs.drop i).any bad) (some (.ret (.tuple #[.slice none 0 0, .bool false, .int .i64 1]) L)) (f35_l4 k (j - m) l (fs.length : Int) L) := by
  have hn := hl.len
  simp only [List.length_map] at hn
  intro m
  induction m with
  | zero =>
    intro i j hi hj
    obtain rfl : i = fs.length := by omega
    rw [List.drop_length]
    rfl
  | succ m ih =>
    intro i j hi hj
    obtain ⟨j, rfl⟩ : ∃ j', j = j' + 1 := ⟨j - 1, by omega⟩
    have hiz : i < fs.length := by omega
    obtain ⟨a, a1, a2⟩ := hl.here (i := i) (v := iV fs[i]) (by simp [hiz])
    rw [f35_l4_eq, decide_eq_true (by omega), show j + 1 - (m + 1) = j - m by omega, List.drop_eq_getElem_cons hiz, List.any_cons]
    simp only [lif_true, a1, a2, iV, obind_some, Option.bind_some, asI_int]
    rw [wI64 (n := (i : Int) + 1) (by omega) (by omega)]
    unfold bad
    by_cases h0 : fs[i] < 0
    · rw [dec_t h0]
      rfl
    · rw [dec_f h0, lif_false]
      by_cases h1 : fs[i] > 1073741824
      · rw [dec_t h1]
        rfl
      · rw [dec_f h1, lif_false]
        exact ih (i + 1) j (by omega) (by omega)

theorem lengthsR_ok {k : Nat} {l : Sl} {fs : List Int} {A : List Nat} {L : LHeap} (hl : Rd L l (fs.map iV) A) (hs : fs.length < 2 ^ 40) (hk : 4 * fs.length + 110 ≤ k) :
    ∃ s L' F, f35 k l L = some (.ret (.tuple #[.slice s.a s.n s.c, .bool (lenOk fs && !fits (lensOf fs)), .int .i64 (lenErr fs)]) L') ∧ WS L' s ((lenRes fs).map iV) 3 F ∧ Step [] L F L' := by
  obtain ⟨k, rfl⟩ : ∃ k', k = k' + 1 := ⟨k - 1, by omega⟩
  have hn := hl.len
  simp only [List.length_map] at hn
  rw [f35_eq]
  by_cases h512 : fs.length > 512
  · have hno : lenOk fs = false := by simp [lenOk, show ¬ fs.length ≤ 512 by omega]
    rw [decide_eq_true (by omega)]
    exact ⟨⟨none, 0, 0⟩, L, [], by rw [lenErr, hno]; rfl, .inl ⟨rfl, by rw [lenRes, hno]; rfl, rfl⟩, .refl _ _⟩
  rw [decide_eq_false (by omega), lif_false]
  have hc : f35_l4 k k l 0 L = _ := check_loop (k := k) hl (by omega) fs.length 0 k (by omega) (by omega)
  rw [hc, List.drop_zero]
  cases hb : fs.any bad with
  | true =>
    have hno : lenOk fs = false := by simp [lenOk, hb]
    exact ⟨⟨none, 0, 0⟩, L, [], by rw [lenErr, hno]; rfl, .inl ⟨rfl, by rw [lenRes, hno]; rfl, rfl⟩, .refl _ _⟩
  | false =>
    have hok : lenOk fs = true := by simp [lenOk, hb]; omega
    obtain ⟨_, hf⟩ := lenOk_mem hok
    obtain ⟨jj, hjj⟩ : ∃ jj, k - fs.length = jj + 1 := ⟨k - fs.length - 1, by omega⟩
    rw [lif_false, hjj, f35_l4_eq, decide_eq_false (by omega), lif_false]
    obtain ⟨s1, L1, F1, c1, c2, c3, _⟩ := copy_ok (L := L) (vs := fs.map iV) 3 8 (by simp; omega) (by simp; omega)
    have hsrc := (hl.mono (L' := L ++ [LBlk.cells [] 3 false 0]) fun i hi => get_push (hl.within i hi)).src
    rw [List.length_map, ← hn] at c1
    obtain ⟨s, L2, F2, d1, d2, d3⟩ := lengthsR_loop (k := k) 30 k false fs F1 L1 (by omega) (by omega) (fun f hff => by have := hf f hff; omega) (by omega) (by omega) c2
    refine ⟨s, L2, F2, ?_, by rw [lenRes, hok]; exact d2, c3.trans d3⟩
    rw [lenErr, hok]
    simp only [size3, bytes3, hsrc, obind_some, c1]
    exact d1

end Go.Proofs.Ytlcchghlhfamjaa.X

/- What is proved: 'Rows.HuffLeastSaid': whatever comes in, the law HuffLeast returns true and leaves it as it was. No conditions. The law's printed form is run over the contracts of what it calls; the model follows the logical machine (RlmS18). -/
import Derived.Test.YtlcchghlhfamjaaRows
import Derived.WalkKit
import Derived.ProofKit
import Derived.OpenShut
import Derived.ShutString
import Derived.ChangeOld
import Derived.Below
import Derived.Test.YtlcchghlhfamjaaRlmArgs
import Derived.Test.YtlcchghlhfamjaaRlmOpt
import Derived.Test.YtlcchghlhfamjaaHuffRef
namespace Go.Proofs.Ytlcchghlhfamjaa.HuffLeast
open Go.ChangeShapes Go.WideShapes Go.ChangeAt Go.RowKit Go.Rlm Go.Proofs.Ytlcchghlhfamjaa.X
set_option linter.unusedVariables false

theorem own : ownKnob Try.prog.godebug = none := by kernel_rfl
theorem laidOut : laidOutB Try.prog = true := by kernel_rfl
theorem mixed : Try.prog.follows .mixedOrders = true := by kernel_rfl
theorem named : Try.prog.funcs.all (fun fn => !(fn.name == "runtime.NumGoroutine")) = true := by kernel_rfl

theorem lensLoop_fit {n : Nat} {fs : List Int} (h : fits (lensOf fs) = true) : lensLoop n fs = lensOf fs := by
  cases n with
  | zero => rfl
  | succ n => simp only [lensLoop, h, if_true]
theorem pos_get {fs gs : List Int} (h : pos gs = pos fs) (hl : gs.length = fs.length) (q : Nat) (hq : q < fs.length) : 0 < gs.getD q 0 ↔ 0 < fs.getD q 0 := by
  have e := congrArg (fun l => l[q]?) h
  simp only [pos, List.getElem?_map] at e
  rw [List.getElem?_eq_getElem hq, List.getElem?_eq_getElem (by omega : q < gs.length)] at e
  simp only [Option.map_some, Option.some.injEq, decide_eq_decide] at e
  rw [List.getD_eq_getElem?_getD, List.getD_eq_getElem?_getD, List.getElem?_eq_getElem hq, List.getElem?_eq_getElem (by omega : q < gs.length)]
  exact e
theorem lengths_pos {fs : List Int} (hf : ∀ f ∈ fs, 0 ≤ f) (q : Nat) (hq : q < fs.length) : 0 < (lengthsOf fs).getD q 0 ↔ 0 < fs.getD q 0 := by
  obtain ⟨gs, h1, h2, h3, h4⟩ := lensLoop_of 30 fs hf
  unfold lengthsOf
  rw [h1, lens_pos q (by omega)]
  exact pos_get h3 h2 q hq

theorem dotZ_snoc {xs fs : List Int} (h : xs.length = fs.length) (x f : Int) : dotZ (xs ++ [x]) (fs ++ [f]) = dotZ xs fs + x * f := by
  induction fs generalizing xs with
  | nil => obtain rfl := List.eq_nil_of_length_eq_zero h; simp [dotZ]
  | cons g fs ih =>
    cases xs with
    | nil => simp at h
    | cons y xs =>
      simp only [List.cons_append, dotZ]
      rw [ih (by simpa using h)]
      omega
theorem dotZ_bound {xs fs : List Int} (h : xs.length = fs.length) (hx : ∀ x ∈ xs, 0 ≤ x ∧ x ≤ 15) (hf : ∀ f ∈ fs, 0 ≤ f ∧ f ≤ 1073741824) : 0 ≤ dotZ xs fs ∧ dotZ xs fs ≤ (fs.length : Int) * 16106127360 := by
  induction fs generalizing xs with
  | nil => cases xs <;> simp [dotZ]
  | cons g fs ih =>
    cases xs with
    | nil => simp at h
    | cons y xs =>
      have h1 := ih (xs := xs) (by simpa using h) (fun x hx' => hx x (by simp [hx'])) (fun f hf' => hf f (by simp [hf']))
      have h2 := hx y (by simp)
      have h3 := hf g (by simp)
      have h4 : 0 ≤ y * g := Int.mul_nonneg h2.1 h3.1
      have h5 : y * g ≤ 15 * 1073741824 := Int.mul_le_mul h2.2 h3.2 h3.1 (by omega)
      simp only [dotZ, List.length_cons]
      push_cast
      omega
theorem prod_bound {x f : Int} (h2 : 0 ≤ x ∧ x ≤ 15) (h3 : 0 ≤ f ∧ f ≤ 1073741824) : 0 ≤ x * f ∧ x * f ≤ 16106127360 :=
  ⟨Int.mul_nonneg h2.1 h3.1, Int.mul_le_mul h2.2 h3.2 h3.1 (by omega)⟩

theorem costs {k : Nat} {l0 l1 l2 : Sl} {fs zs ls : List Int} {A B C : List Nat} {L : LHeap} (h0 : Rd L l0 (fs.map iV) A) (h1 : Rd L l1 (zs.map iV) B) (h2 : Rd L l2 (ls.map iV) C) (hf : ∀ f ∈ fs, 0 ≤ f ∧ f ≤ 1073741824) (hls : ∀ x ∈ ls, 0 ≤ x ∧ x ≤ 15) (hs : fs.length ≤ 512)
    (hzl : zs.length = fs.length) (hll : ls.length = fs.length) (hk : 3000 ≤ k) (least : okLen zs = true → (∀ q, q < fs.length → (0 < zs.getD q 0 ↔ 0 < fs.getD q 0)) → fillE zs ≤ 32768 → dotZ ls fs ≤ dotZ zs fs) :
    ∀ (m i j : Nat), i + m = fs.length → m < j → (∀ q, q < i → (0 < zs.getD q 0 ↔ 0 < fs.getD q 0) ∧ 0 ≤ zs.getD q 0 ∧ zs.getD q 0 ≤ 15) →
      f10_l23 k j l0 l1 l2 (dotZ (ls.take i) (fs.take i)) (dotZ (zs.take i) (fs.take i)) (i : Int) L = some (.ret (.bool true) L) := by
  have hn0 := h0.len
  have hn1 := h1.len
  have hn2 := h2.len
  simp only [List.length_map] at hn0 hn1 hn2
  intro m
  induction m with
  | zero =>
    intro i j hi hj hall
    obtain ⟨j, rfl⟩ : ∃ j', j = j' + 1 := ⟨j - 1, by omega⟩
    obtain rfl : i = fs.length := by omega
    have hok : okLen zs = true := by
      simp only [okLen, List.all_eq_true, Bool.and_eq_true, decide_eq_true_eq]
      intro z hz
      obtain ⟨q, hq, rfl⟩ := mem_getD hz
      exact (hall q (by omega)).2
    have e := fill_ok (k := k) h1 (by omega) (by omega)
    rw [hok, if_pos rfl, if_pos rfl] at e
    rw [f10_l23_eq, decide_eq_false (by omega), lif_false, e, List.take_of_length_le (by omega), List.take_of_length_le (by omega), List.take_of_length_le (by omega)]
    simp only [lbind_ret, tupL_tuple, uncons_cons, nilL_nil, asI_int, obind_some]
    by_cases hg : fillE zs > 32768
    · rw [decide_eq_true (by omega)]; rfl
    · rw [decide_eq_false (by omega), lif_false, decide_eq_true (least hok (fun q hq => (hall q hq).1) (by omega))]
  | succ m ih =>
    intro i j hi hj hall
    obtain ⟨j, rfl⟩ : ∃ j', j = j' + 1 := ⟨j - 1, by omega⟩
    have hiz : i < fs.length := by omega
    have gz : zs.getD i 0 = zs[i] := by rw [List.getD_eq_getElem?_getD, List.getElem?_eq_getElem (by omega)]; rfl
    have gf : fs.getD i 0 = fs[i] := by rw [List.getD_eq_getElem?_getD, List.getElem?_eq_getElem (by omega)]; rfl
    obtain ⟨a0, b0, c0⟩ := h0.here (i := i) (v := iV fs[i]) (by simp [hiz])
    obtain ⟨a1, b1, c1⟩ := h1.here (i := i) (v := iV zs[i]) (by simp [show i < zs.length by omega])
    obtain ⟨a2, b2, c2⟩ := h2.here (i := i) (v := iV ls[i]) (by simp [show i < ls.length by omega])
    rw [f10_l23_eq, decide_eq_true (by omega)]
    simp only [lif_true, b0, b1, b2, c0, c1, c2, iV, obind_some, Option.bind_some, asI_int]
    by_cases hp : decide (zs[i] > 0) = decide (fs[i] > 0)
    · rw [show (!decide (zs[i] > 0) == decide (fs[i] > 0)) = false by rw [hp]; simp, lif_false]
      by_cases hz0 : zs[i] < 0
      · rw [dec_t hz0]; rfl
      rw [dec_f hz0, lif_false]
      by_cases hz1 : zs[i] > 15
      · rw [dec_t hz1]; rfl
      rw [dec_f hz1, lif_false]
      have hfi := hf _ (List.getElem_mem hiz)
      have hli := hls _ (List.getElem_mem (show i < ls.length by omega))
      have p1 := prod_bound hli hfi
      have p2 := prod_bound (x := zs[i]) ⟨by omega, by omega⟩ hfi
      have q1 := dotZ_bound (xs := ls.take i) (fs := fs.take i) (by simp; omega) (fun x hx => hls x (List.mem_of_mem_take hx)) (fun f hx => hf f (List.mem_of_mem_take hx))
      have q2 := dotZ_bound (xs := zs.take i) (fs := fs.take i) (by simp; omega) (fun x hx => by
        obtain ⟨q, hq, rfl⟩ := mem_getD hx
        simp only [List.length_take] at hq
        have := (hall q (by omega)).2
        rw [List.getD_eq_getElem?_getD, List.getElem?_take, if_pos (by omega), ← List.getD_eq_getElem?_getD]
        exact this) (fun f hx => hf f (List.mem_of_mem_take hx))
      simp only [List.length_take] at q1 q2
      rw [wI64 (n := ls[i] * fs[i]) (by omega) (by omega), wI64 (n := zs[i] * fs[i]) (by omega) (by omega), wI64 (n := dotZ (ls.take i) (fs.take i) + ls[i] * fs[i]) (by omega) (by omega), wI64 (n := dotZ (zs.take i) (fs.take i) + zs[i] * fs[i]) (by omega) (by omega), wI64 (n := (i : Int) + 1) (by omega) (by omega)]
      rw [← dotZ_snoc (by simp; omega), ← dotZ_snoc (by simp; omega), ← take_succ_int hiz, ← take_succ_int (show i < ls.length by omega), ← take_succ_int (show i < zs.length by omega)]
      refine ih (i + 1) j (by omega) (by omega) fun q hq => ?_
      by_cases hqi : q = i
      · subst hqi
        rw [gz, gf]
        exact ⟨by simpa using hp, by omega, by omega⟩
      · exact hall q (by omega)
    · rw [show (!decide (zs[i] > 0) == decide (fs[i] > 0)) = true by revert hp; cases decide (zs[i] > 0) <;> cases decide (fs[i] > 0) <;> simp]
      rfl

theorem inner {k j10 : Nat} {l0 l1 l2 : Sl} {fs ls : List Int} {A C : List Nat} {L : LHeap} {b : Bool} (h0 : Rd L l0 (fs.map iV) A) (h2 : Rd L l2 (ls.map iV) C) (hs : fs.length ≤ 512) (hll : ls.length = fs.length)
    (hpos : ∀ q, q < fs.length → (0 < ls.getD q 0 ↔ 0 < fs.getD q 0)) (mono : b = false → ∀ i k, i < fs.length → k < fs.length → 0 < fs.getD k 0 → fs.getD k 0 < fs.getD i 0 → ls.getD i 0 ≤ ls.getD k 0) {i : Nat} (hi : i < fs.length) :
    ∀ (m q j : Nat), q + m = i → m < j → f10_l15 k j10 j l0 l1 l2 b (i : Int) (q : Int) L = f10_l10 k j10 l0 l1 l2 b ((i + 1 : Nat) : Int) L := by
  intro m
  induction m with
  | zero =>
    intro q j hq hj
    obtain ⟨j, rfl⟩ : ∃ j', j = j' + 1 := ⟨j - 1, by omega⟩
    rw [f10_l15_eq, decide_eq_false (by omega), lif_false, wI64 (n := (i : Int) + 1) (by omega) (by omega)]
    rfl
  | succ m ih =>
    intro q j hq hj
    obtain ⟨j, rfl⟩ : ∃ j', j = j' + 1 := ⟨j - 1, by omega⟩
    have next := ih (q + 1) j (by omega) (by omega)
    rw [f10_l15_eq, decide_eq_true (by omega), lif_true, wI64 (n := (q : Int) + 1) (by omega) (by omega)]
    cases b with
    | true => exact next
    | false =>
      have hql : q < fs.length := by omega
      have g : ∀ (xs : List Int) (p : Nat) (hp : p < xs.length), xs.getD p 0 = xs[p] := fun xs p hp => by rw [List.getD_eq_getElem?_getD, List.getElem?_eq_getElem hp]; rfl
      obtain ⟨a0, b0, c0⟩ := h0.here (i := i) (v := iV (fs.getD i 0)) (by rw [g fs i hi]; simp [hi])
      obtain ⟨a1, b1, c1⟩ := h0.here (i := q) (v := iV (fs.getD q 0)) (by rw [g fs q hql]; simp [hql])
      obtain ⟨a2, b2, c2⟩ := h2.here (i := i) (v := iV (ls.getD i 0)) (by rw [g ls i (by omega)]; simp [show i < ls.length by omega])
      obtain ⟨a3, b3, c3⟩ := h2.here (i := q) (v := iV (ls.getD q 0)) (by rw [g ls q (by omega)]; simp [show q < ls.length by omega])
      have pi := hpos i hi
      have pq := hpos q hql
      have m1 := mono rfl i q hi hql
      have m2 := mono rfl q i hql hi
      generalize fs.getD i 0 = fi at *
      generalize fs.getD q 0 = fq at *
      generalize ls.getD i 0 = li at *
      generalize ls.getD q 0 = lq at *
      rw [Bool.not_false, lif_true]
      simp only [b0, b1, b2, b3, c0, c1, c2, c3, iV, obind_some, Option.bind_some, asI_int]
      by_cases e1 : li > 0
      · rw [dec_t e1, lif_true]
        by_cases e2 : lq > 0
        · rw [dec_t e2, lif_true]
          by_cases e3 : fi > fq
          · rw [dec_t e3, lif_true, dec_f (show ¬ li > lq by have := m1 (by omega) e3; omega), lif_false, dec_f (show ¬ fi < fq by omega), lif_false]
            exact next
          · rw [dec_f e3, lif_false]
            by_cases e4 : fi < fq
            · rw [dec_t e4, lif_true, dec_f (show ¬ li < lq by have := m2 (by omega) e4; omega), lif_false]
              exact next
            · rw [dec_f e4, lif_false]
              exact next
        · rw [dec_f e2, lif_false]; exact next
      · rw [dec_f e1, lif_false]; exact next

theorem outer {k : Nat} {l0 l1 l2 : Sl} {fs zs ls : List Int} {A B C : List Nat} {L : LHeap} {b : Bool} (h0 : Rd L l0 (fs.map iV) A) (h1 : Rd L l1 (zs.map iV) B) (h2 : Rd L l2 (ls.map iV) C) (hf : ∀ f ∈ fs, 0 ≤ f ∧ f ≤ 1073741824) (hls : ∀ x ∈ ls, 0 ≤ x ∧ x ≤ 15) (hs : fs.length ≤ 512)
    (hll : ls.length = fs.length) (hk : 3000 ≤ k) (hpos : ∀ q, q < fs.length → (0 < ls.getD q 0 ↔ 0 < fs.getD q 0)) (mono : b = false → ∀ i k, i < fs.length → k < fs.length → 0 < fs.getD k 0 → fs.getD k 0 < fs.getD i 0 → ls.getD i 0 ≤ ls.getD k 0)
    (least : b = false → zs.length = fs.length → okLen zs = true → (∀ q, q < fs.length → (0 < zs.getD q 0 ↔ 0 < fs.getD q 0)) → fillE zs ≤ 32768 → dotZ ls fs ≤ dotZ zs fs) :
    ∀ (m i j : Nat), i + m = fs.length → m < j → f10_l10 k j l0 l1 l2 b (i : Int) L = some (.ret (.bool true) L) := by
  have hn0 := h0.len
  have hn1 := h1.len
  have hn2 := h2.len
  simp only [List.length_map] at hn0 hn1 hn2
  intro m
  induction m with
  | zero =>
    intro i j hi hj
    obtain ⟨j, rfl⟩ : ∃ j', j = j' + 1 := ⟨j - 1, by omega⟩
    rw [f10_l10_eq, decide_eq_false (by omega), lif_false]
    cases b with
    | true => rfl
    | false =>
      rw [lif_false]
      by_cases he : zs.length = fs.length
      · rw [show ((l1.n : Int) != (l0.n : Int)) = false by simp; omega, lif_false]
        exact costs (k := k) h0 h1 h2 hf hls hs he hll hk (least rfl he) fs.length 0 k (by omega) (by omega) (fun q hq => by omega)
      · rw [show ((l1.n : Int) != (l0.n : Int)) = true by simp; omega]
        rfl
  | succ m ih =>
    intro i j hi hj
    obtain ⟨j, rfl⟩ : ∃ j', j = j' + 1 := ⟨j - 1, by omega⟩
    have hiz : i < fs.length := by omega
    have g : ∀ (xs : List Int) (p : Nat) (hp : p < xs.length), xs.getD p 0 = xs[p] := fun xs p hp => by rw [List.getD_eq_getElem?_getD, List.getElem?_eq_getElem hp]; rfl
    obtain ⟨a0, b0, c0⟩ := h0.here (i := i) (v := iV (fs.getD i 0)) (by rw [g fs i hiz]; simp [hiz])
    obtain ⟨a2, b2, c2⟩ := h2.here (i := i) (v := iV (ls.getD i 0)) (by rw [g ls i (by omega)]; simp [show i < ls.length by omega])
    rw [f10_l10_eq, decide_eq_true (by omega)]
    simp only [lif_true, b0, b2, c0, c2, iV, obind_some, Option.bind_some, asI_int]
    rw [show (!decide (ls.getD i 0 > 0) == decide (fs.getD i 0 > 0)) = false by rw [show decide (ls.getD i 0 > 0) = decide (fs.getD i 0 > 0) from decide_eq_decide.2 (hpos i hiz)]; simp, lif_false]
    have := inner (k := k) (j10 := j) (l1 := l1) h0 h2 hs hll hpos mono hiz i 0 k (by omega) (by omega)
    rw [show ((0 : Nat) : Int) = 0 from rfl] at this
    rw [this]
    exact ih (i + 1) j (by omega) (by omega)

theorem run {k : Nat} (hk : 3000 ≤ k) {l l1 : Sl} {fs zs : List Int} {A B : List Nat} {L : LHeap} (hl : Rd L l (fs.map iV) A) (hz : Rd L l1 (zs.map iV) B) : ∃ L', lcall Try.prog X.T (k + 1) 10 [.slice l.a l.n l.c, .slice l1.a l1.n l1.c] L = some (.ret (.bool true) L') := by
  show ∃ L', f10 (k + 1) l l1 L = _
  have hn := hl.len
  have hn1 := hz.len
  simp only [List.length_map] at hn hn1
  obtain ⟨L1, w1, w2⟩ := awake_ok (k := k) (L := L) (by omega)
  rw [f10_eq]
  by_cases h1 : fs.length > 600
  · rw [decide_eq_true (by omega)]
    exact ⟨L1, by simp only [lif_true, w1, lbind_ret, asB_bool, obind_some]⟩
  rw [decide_eq_false (by omega), lif_false]
  by_cases h2 : zs.length > 600
  · rw [decide_eq_true (by omega)]
    exact ⟨L1, by simp only [lif_true, w1, lbind_ret, asB_bool, obind_some]⟩
  rw [decide_eq_false (by omega), lif_false]
  have hl1 := hl.mono (w2.others hl.within (none_apart _))
  have hz1 := hz.mono (w2.others hz.within (none_apart _))
  obtain ⟨t, L2, F, a1, a2, a3⟩ := lengths_ok (k := k) hl1 (by omega) (by omega)
  have hl2 := hl1.mono (a3.others hl1.within (none_apart _))
  have hz2 := hz1.mono (a3.others hz1.within (none_apart _))
  simp only [w1, lbind_ret, asB_bool, obind_some, Bool.not_true, lif_false, a1, tupL_tuple, uncons_cons, nilL_nil, asSl_slice, asI_int]
  cases hok : lenOk fs with
  | false =>
    have htn := a2.rd.len
    rw [lenRes, hok] at htn
    have htn : t.n = 0 := htn
    refine ⟨L2, ?_⟩
    rw [lenErr, hok, htn]
    rfl
  | true =>
    obtain ⟨h512, hf⟩ := lenOk_mem hok
    obtain ⟨u, L3, F3, b1, b2, b3⟩ := lengthsR_ok (k := k) hl2 (by omega) (by omega)
    have hl3 := hl2.mono (b3.others hl2.within (none_apart _))
    have hz3 := hz2.mono (b3.others hz2.within (none_apart _))
    have a23 := a2.mono (b3.others a2.within (none_apart _))
    rw [lenRes, if_pos hok] at a23
    obtain ⟨L4, c1, c2⟩ := may_okay (k := k) a23.rd (by rw [lengthsOf_length]; omega) (by rw [lengthsOf_length]; omega)
    have hl4 := hl3.mono (c2.others hl3.within (none_apart _))
    have hz4 := hz3.mono (c2.others hz3.within (none_apart _))
    have a24 := a23.mono (c2.others a23.within (none_apart _))
    rw [may_lengthsOf hf h512] at c1
    have htn := a24.rd.len
    rw [List.length_map, lengthsOf_length] at htn
    have e := outer (k := k) (b := !fits (lensOf fs)) hl4 hz4 a24.rd hf (fun x hx => okLen_mem (may_ok (may_lengthsOf hf h512)).1 hx) h512 (lengthsOf_length fs) hk (lengths_pos fun f hf' => (hf f hf').1)
      (fun hb i q hi hq hp hlt => by
        have hb : fits (lensOf fs) = true := by simpa using hb
        rw [show lengthsOf fs = lensOf fs from lensLoop_fit hb]
        exact lensOf_mono (fun f hf' => (hf f hf').1) hb h512 hi hq hp hlt)
      (fun hb hzl hz0 hs hk => by
        have hb : fits (lensOf fs) = true := by simpa using hb
        rw [show lengthsOf fs = lensOf fs from lensLoop_fit hb]
        exact lensOf_least (fun f hf' => (hf f hf').1) hzl hz0 hs hk)
      fs.length 0 k (by omega) (by omega)
    refine ⟨L4, ?_⟩
    have hne : ((t.n : Int) != (l.n : Int)) = false := by simp; omega
    rw [hok] at b1
    simp only [lenErr, hok, if_true, bne_self_eq_false, lif_false, b1, lbind_ret, tupL_tuple, uncons_cons, nilL_nil, asSl_slice, asI_int, asB_bool, obind_some, hne, c1, Bool.not_true, Bool.true_and]
    exact e

theorem walk {w : World} {a b : Option Addr} {len cap len1 cap1 : Nat} {zs ys : List Int} (hl : zs.length = len) (hc : IsCells w a len cap 1 (zs.map (.int .i64 ·))) (hz : ∀ n ∈ zs, (Lit.int .i64 n).wf = true)
    (hl1 : ys.length = len1) (hc1 : IsCells w b len1 cap1 1 (ys.map (.int .i64 ·))) (hz1 : ∀ n ∈ ys, (Lit.int .i64 n).wf = true) :
    Calls Try.prog 10 #[.slice a len cap, .slice b len1 cap1] w fun e w' => e = .returned (.bool true) ∧ Below w.heap.size w w' := by
  obtain ⟨m, L, l, A, _, hr, hno, hv, hi, hn, _, _⟩ := (Rep.empty (P := Try.prog) (w := w)).arg (fun _ => own_nil) hc (ints_flat _ zs)
  obtain ⟨m', L', l', B, he, hr', hno', hv', hi', hn', hk, _⟩ := hr.arg hno hc1 (ints_flat _ ys)
  obtain ⟨L'', h⟩ := run (Nat.le_refl 3000) (hi.mono fun i hA => hk i (hi.within i hA)).rd hi'.rd
  exact law_walk mixed named h hr' (.cons (hv.mono he) (.cons hv' .nil)) hno'

set_option maxRecDepth 100000 in
theorem lifted (os : Os) (started : os.Started) (H : Type) (enc : TypeId × Value → H) :
    ReturnsInHanded {} Try.checked os 10 .any (Rows.huffLeastSpec.pre6 enc Try.prog Try.f10 Rows.huffLeastRow.domain false) (Rows.huffLeastSpec.post enc Try.prog Try.f10 false true false false) := by
  refine returnsInHanded_of_change (C := Try.checked) own started (by kernel_rfl) Try.func10
    (ChangeSpec.witness6 (enc := enc) (C := Try.checked) false ⟨#[], #[.slice none 0 0, .slice none 0 0], []⟩ 8 (by kernel_rfl) (by kernel_rfl) (by kernel_rfl) (by kernel_rfl)) ?_
  intro W base args ds gs before hval0 hW hcnd _
  have hval : ∀ (j : Nat) t v, Try.f10.params[j]? = some t → args[j]? = some v → Value.okWide Try.prog W .any base t v := hval0
  have hW' := hW
  obtain ⟨p, q, hA0, hV, rfl, hfz, hnd⟩ := hW
  have hA : DataW.TrodAll enc Try.prog W 0 (fun _ => true) true Try.f10.params.toList args.toList ds p := hA0
  rw [Try.params10] at hA hval
  obtain ⟨v0, vs0, d0, ds0, p0, q0, hargs, rfl, rfl, h0, r0⟩ := trodAll_cons hA
  obtain ⟨v1, vs1, d1, ds1, p1, q1, rfl, rfl, rfl, h1, r1⟩ := trodAll_cons r0
  obtain ⟨rfl, rfl, rfl⟩ := trodAll_nil r1
  obtain rfl : args = #[v0, v1] := by cases args; simp_all
  obtain ⟨rfl, rfl⟩ := trodVars_none hV
  obtain ⟨a0, len0, cap0, rfl⟩ := okWide_slice Try.underlying38 (hval 0 38 v0 rfl rfl)
  have k0 := h0
  have lt0 : ∀ x ∈ p0, x.block < W.heap.size := by obtain ⟨m, hm⟩ := k0; exact DataW.trod_lt m _ _ _ hm
  obtain ⟨z0, l0, w0, u0⟩ := open_cells Try.underlying38 Try.underlying3 (by kernel_rfl) h0
  obtain ⟨a1, len1, cap1, rfl⟩ := okWide_slice Try.underlying38 (hval 1 38 v1 rfl rfl)
  have k1 := h1
  have lt1 : ∀ x ∈ p1, x.block < W.heap.size := by obtain ⟨m, hm⟩ := k1; exact DataW.trod_lt m _ _ _ hm
  obtain ⟨z1, l1, w1, u1⟩ := open_cells Try.underlying38 Try.underlying3 (by kernel_rfl) h1
  clear hA0 hval0
  refine (walk l0 w0 u0 l1 w1 u1).mono fun e W' ⟨he, bel⟩ => ?_
  subst he
  exact ⟨_, rfl, _, _, _, [], _, [], hW', trodAll_mk1 (shut_bool Try.underlying4 _), (trodAll_cons_mk (Below.trod laidOut (by kernel_rfl) (of_decide_eq_true (by kernel_rfl)) k0 bel lt0) (trodAll_cons_mk (Below.trod laidOut (by kernel_rfl) (of_decide_eq_true (by kernel_rfl)) k1 bel lt1) trodAll_mk0)), rfl, bel.frame _, fun h => by cases h⟩

theorem over : Rows.huffLeastRow.holds Try.pinned (OpenSpec.ofChange Rows.huffLeastSpec) :=
  OpenClaim.holds_of_wide 10 Try.f10 rfl rfl rfl rfl rfl rfl rfl ⟨rfl, rfl, rfl, rfl, rfl⟩ rfl rfl rfl rfl rfl (by kernel_rfl) Try.func10 (by kernel_rfl)
    (of_decide_eq_true (by kernel_rfl)) (by unfold Func.isWrapper; first | (rw [if_pos (by decide +kernel)]; kernel_rfl) | (rw [if_neg (by decide +kernel)]; exact ⟨rfl, rfl⟩))
    (fun os started H enc _ => lifted os started H enc)

end Go.Proofs.Ytlcchghlhfamjaa.HuffLeast
namespace Go.Proofs.Ytlcchghlhfamjaa

/-- The statement. -/
theorem huffLeast_holds : Rows.HuffLeastSaid := HuffLeast.over

end Go.Proofs.Ytlcchghlhfamjaa
#print axioms Go.Proofs.Ytlcchghlhfamjaa.huffLeast_holds
